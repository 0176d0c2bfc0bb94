/-
  What is proved here: numbers that are known, made of numbers, in the document's own words.
  Conditions: none.
-/
import Derived.Test.YtjkichflkjcccaaKpB
set_option linter.unusedVariables false
set_option linter.unusedSimpArgs false
set_option maxRecDepth 100000
set_option maxHeartbeats 8000000
namespace Go.Proofs.Ytjkichflkjcccaa.Pl
open Go Go.Proofs Go.Proofs.Ev Go.Proofs.Dv Cd
attribute [local simp] x_pure x_skip x_reg x_drw x_seq x_cond x_block x_frz x_loop' Tm.keep_nil x_exit x_ret k_seq k_seq_ret k_seq_exit k_seq_none k_seq_ite k_cond k_block k_block_ret k_block_exit k_block_none k_block_ite k_iter k_iter_ret k_iter_exit k_iter_none k_iter_ite k_reg k_reg_none k_reg_ite x_is_nil x_is x_is_g k_ins k_ins_none k_ins_ite k_grd x_ord_nil x_ord x_ord_g k_ord k_ord_none k_ord_ite k_ogrd k_out_ret k_out k_out_none k_out_ite k_pure k_pure_none k_pure_ite startD dI dA deo Tm.at Tm.dst Tm.set Tm.put Tm.keep dW dRes oneOfD mkTup mkAgg mkFn allF frL fr vD vD1 vF vFL dBin dEq dNil isNilD dScal F.cv eBin sameKind eInt eStr cellsD oneD F.one dFill putAtD chunk dbnd dSrc St.own St.drop St.still St.fresh chkQ stillQ freshQ lOf rdOf rdOK undefD F.full F.fullL List.mapIdx_cons strip allOne_nil allOne_cons allOne_append allLen_nil allLen_cons allLen_append roomOK_small filterT y_mv y_pick y_new y_box y_build y_bslice y_ld1 y_ldn y_nilchk y_bin y_not y_conv y_bytes y_string y_ifc y_fn y_cut y_cuts y_fa y_fld y_ia y_idx y_idxs y_ext y_len y_lenstr y_app y_grow y_mks y_slow y_call y_callv y_inv y_extc x_it_st x_it_clr x_it_cpy k_addT k_addT_none k_addT_ite k_orU k_orU_none dU D.turn turnL Tm.turn turnS St.turn turnRows_length

def PostM0 (l : List Int) (u : Int) (b : Bool) (r : Option DSt) : Prop := ∃ T', T'.keep [1, 4, 5, 6] = [(1, .fz (.list (l.map encI))), (4, .ptr 0 0), (5, .ptr 1 0), (6, .fz (.bool b))] ∧ r = some (.exit 2, T', ⟨[(true, [.fz (.int .i64 0), .nils]), (true, [.fz (.int .i64 u), .nils])], [], 0⟩)
theorem loopM0 (l : List Int) (hl : l.length < 1000000) (hm : ∀ x ∈ l, x ≤ 2000000) : ∀ (r : List Int) (i : Nat) (iz u : Int) (b : Bool), iz = i → l.drop i = r → i ≤ l.length → 0 ≤ u → u ≤ 2000000 →
    PostM0 l (passU u b r).1 (passU u b r).2 (iterI (dCw Try.prog (callI Try.prog prims dx tbl) l27_0) [1, 4, 5, 6, 7] [(1, .fz (.list (l.map encI))), (4, .ptr 0 0), (5, .ptr 1 0), (6, .fz (.bool b)), (7, .fz (.int .i64 iz))] ⟨[(true, [.fz (.int .i64 0), .nils]), (true, [.fz (.int .i64 u), .nils])], [], 0⟩) := by
  intro r
  induction r with
  | nil =>
    intro i iz u b hz hd hi h0 h1
    have hi' := drop_nil hd hi
    subst hi' hz
    rw [x_iter]
    simp [u27_0]
    exact ⟨_, by simp [Tm.keep, passU], rfl⟩
  | cons a r ih =>
    intro i iz u b hz hd hi h0 h1
    subst hz
    obtain ⟨hlt, hli, hd'⟩ := drop_cons hd
    have ha := hm a (by rw [← hli]; exact List.getElem_mem hlt)
    have hi1 : ((i : Int) + 1) = ((i + 1 : Nat) : Int) := by omega
    have e1 : ∀ b, passU u b (a :: r) = if a = u + 1 then passU a true r else passU u b r := fun b => rfl
    have hw : wrapF .i64 ((i : Int) + 1) = (i : Int) + 1 := wrap_id _ (by omega) (by omega)
    have hwu : wrapF .i64 (u + 1) = u + 1 := wrap_id _ (by omega) (by omega)
    rw [e1, x_iter]
    by_cases h : a = u + 1
    · have goal := ih (i + 1) _ a true hi1 hd' hlt (by omega) ha
      rw [if_pos h]
      rw [h] at hli goal ⊢
      simp [u27_0, hlt, hli, encI, hw, hwu]
      exact goal
    · have goal := ih (i + 1) _ u b hi1 hd' hlt h0 h1
      rw [if_neg h]
      simp [u27_0, hlt, hli, encI, hw, hwu, h]
      exact goal
def PostM1 (l : List Int) (u0 : Int) (r : Option DSt) : Prop := ∃ u T', Top l u0 u ∧ u ≤ 2000000 ∧ T'.keep [1, 4, 5] = [(1, .fz (.list (l.map encI))), (4, .ptr 0 0), (5, .ptr 1 0)] ∧ r = some (.exit 0, T', ⟨[(true, [.fz (.int .i64 0), .nils]), (true, [.fz (.int .i64 u), .nils])], [], 0⟩)
theorem loopM1f (l : List Int) (u0 u : Int) (h : Top l u0 u) (hu : u ≤ 2000000) :
    PostM1 l u0 (iterI (dCw Try.prog (callI Try.prog prims dx tbl) l27_1) [1, 4, 5, 6] [(1, .fz (.list (l.map encI))), (4, .ptr 0 0), (5, .ptr 1 0), (6, .fz (.bool false))] ⟨[(true, [.fz (.int .i64 0), .nils]), (true, [.fz (.int .i64 u), .nils])], [], 0⟩) := by
  rw [x_iter]
  simp [u27_1]
  exact ⟨u, _, h, hu, by simp [Tm.keep], rfl⟩
theorem loopM1 (l : List Int) (hl : l.length < 1000000) (hm : ∀ x ∈ l, x ≤ 2000000) (u0 : Int) : ∀ (n : Nat) (u : Int), (2000000 - u).toNat ≤ n → 0 ≤ u → u ≤ 2000000 → u0 ≤ u → (∀ j, u0 < j → j ≤ u → j ∈ l) →
    PostM1 l u0 (iterI (dCw Try.prog (callI Try.prog prims dx tbl) l27_1) [1, 4, 5, 6] [(1, .fz (.list (l.map encI))), (4, .ptr 0 0), (5, .ptr 1 0), (6, .fz (.bool true))] ⟨[(true, [.fz (.int .i64 0), .nils]), (true, [.fz (.int .i64 u), .nils])], [], 0⟩) := by
  intro n
  induction n with
  | zero =>
    intro u hn h0 h1 h2 h3
    obtain ⟨T', k1, k2⟩ := loopM0 l hl hm l 0 0 u false rfl rfl (Nat.zero_le _) h0 h1
    have hle := pass_max 2000000 l u false hm h1
    have hge := pass_le l u false
    have hb : (passU u false l).2 = false := by
      cases hb : (passU u false l).2 with
      | false => rfl
      | true => have := pass_up l u hb; omega
    obtain ⟨e1, e2⟩ := pass_false l u hb
    rw [hb] at k1
    rw [e1] at k2
    have goal := loopM1f l u0 u ⟨h2, h3, e2⟩ h1
    rw [x_iter]
    simp [u27_1, k1, k2]
    exact goal
  | succ n ih =>
    intro u hn h0 h1 h2 h3
    obtain ⟨T', k1, k2⟩ := loopM0 l hl hm l 0 0 u false rfl rfl (Nat.zero_le _) h0 h1
    have hle := pass_max 2000000 l u false hm h1
    have hge := pass_le l u false
    cases hb : (passU u false l).2 with
    | false =>
      obtain ⟨e1, e2⟩ := pass_false l u hb
      rw [hb] at k1
      rw [e1] at k2
      have goal := loopM1f l u0 u ⟨h2, h3, e2⟩ h1
      rw [x_iter]
      simp [u27_1, k1, k2]
      exact goal
    | true =>
      have hlt := pass_up l u hb
      rw [hb] at k1
      have goal := ih (passU u false l).1 (by omega) (by omega) hle (by omega) (fun j j1 j2 => by
        by_cases hj : j ≤ u
        · exact h3 j j1 hj
        · exact pass_in l u false j (by omega) j2)
      generalize (passU u false l).1 = u' at k2 goal
      rw [x_iter]
      simp [u27_1, k1, k2]
      exact goal

/-! ### The least, again and again -/
def OwnI (acc : List Int) (L : List Nat) (d : D) : Prop := (acc = [] ∧ d = .nils) ∨ ∃ t, acc ≠ [] ∧ t ∈ L ∧ d = .ow t 0 1 (acc.map encI)
def PostM2 (l : List Int) (m : Int) (st : Dv.St) (r : Option DSt) : Prop := ∃ T', T'.keep [1, 4, 5, 8] = [(1, .fz (.list (l.map encI))), (4, .ptr 0 0), (5, .ptr 1 0), (8, .fz (.int .i64 m))] ∧ r = some (.exit 6, T', st)
theorem loopM2 (l : List Int) (hl : l.length < 1000000) (u : Int) (h0 : 0 ≤ u) (acc : List Int) (ha : acc.length < 1000000) (d : D) (L : List Nat) (c : Nat) (hd : OwnI acc L d) : ∀ (r : List Int) (i : Nat) (iz m : Int), iz = i → l.drop i = r → i ≤ l.length →
    PostM2 l (lstU u acc m r) ⟨[(true, [.fz (.int .i64 0), .nils]), (true, [.fz (.int .i64 u), d])], L, c⟩ (iterI (dCw Try.prog (callI Try.prog prims dx tbl) l27_2) [1, 4, 5, 8, 9] [(1, .fz (.list (l.map encI))), (4, .ptr 0 0), (5, .ptr 1 0), (8, .fz (.int .i64 m)), (9, .fz (.int .i64 iz))] ⟨[(true, [.fz (.int .i64 0), .nils]), (true, [.fz (.int .i64 u), d])], L, c⟩) := by
  intro r
  induction r with
  | nil =>
    intro i iz m hz hdr hi
    have hi' := drop_nil hdr hi
    subst hi' hz
    rw [x_iter]
    simp [u27_2]
    exact ⟨_, by simp [Tm.keep, lstU], rfl⟩
  | cons a r ih =>
    intro i iz m hz hdr hi
    subst hz
    obtain ⟨hlt, hli, hd'⟩ := drop_cons hdr
    have hi1 : ((i : Int) + 1) = ((i + 1 : Nat) : Int) := by omega
    have hh := pHasNum ⟨u, acc⟩ ha a
    simp only [encK] at hh
    have e1 : lstU u acc m (a :: r) = if hasK ⟨u, acc⟩ a = false ∧ u < a ∧ (m = 0 ∨ a < m) then lstU u acc a r else lstU u acc m r := rfl
    have hw : wrapF .i64 ((i : Int) + 1) = (i : Int) + 1 := wrap_id _ (by omega) (by omega)
    rw [e1, x_iter]
    have no := ih (i + 1) _ m hi1 hd' hlt
    have yes := ih (i + 1) _ a hi1 hd' hlt
    cases hk : hasK ⟨u, acc⟩ a with
    | true =>
      rw [hk] at hh
      rw [if_neg (by simp)]
      rcases hd with ⟨rfl, rfl⟩ | ⟨t, hne, ht, rfl⟩
      · simp at hh
        simp [u27_2, hlt, hli, encI, hw, rHasNum, callR, hh]
        exact no
      · simp [u27_2, hlt, hli, encI, hw, rHasNum, callR, hh, ht]
        exact no
    | false =>
      rw [hk] at hh
      by_cases h1 : u < a
      · by_cases h2 : m = 0
        · rw [if_pos ⟨rfl, h1, .inl h2⟩]
          rcases hd with ⟨rfl, rfl⟩ | ⟨t, hne, ht, rfl⟩
          · simp at hh
            simp [u27_2, hlt, hli, encI, hw, rHasNum, callR, hh, h1, h2]
            exact yes
          · simp [u27_2, hlt, hli, encI, hw, rHasNum, callR, hh, ht, h1, h2]
            exact yes
        · by_cases h3 : a < m
          · rw [if_pos ⟨rfl, h1, .inr h3⟩]
            rcases hd with ⟨rfl, rfl⟩ | ⟨t, hne, ht, rfl⟩
            · simp at hh
              simp [u27_2, hlt, hli, encI, hw, rHasNum, callR, hh, h1, h2, h3]
              exact yes
            · simp [u27_2, hlt, hli, encI, hw, rHasNum, callR, hh, ht, h1, h2, h3]
              exact yes
          · rw [if_neg (by simp [h2, h3])]
            rcases hd with ⟨rfl, rfl⟩ | ⟨t, hne, ht, rfl⟩
            · simp at hh
              simp [u27_2, hlt, hli, encI, hw, rHasNum, callR, hh, h1, h2, h3]
              exact no
            · simp [u27_2, hlt, hli, encI, hw, rHasNum, callR, hh, ht, h1, h2, h3]
              exact no
      · rw [if_neg (by simp [h1])]
        rcases hd with ⟨rfl, rfl⟩ | ⟨t, hne, ht, rfl⟩
        · simp at hh
          simp [u27_2, hlt, hli, encI, hw, rHasNum, callR, hh, h1]
          exact no
        · simp [u27_2, hlt, hli, encI, hw, rHasNum, callR, hh, ht, h1]
          exact no
def PostM3 (l : List Int) (u : Int) (r : Option DSt) : Prop := ∃ (acc : List Int) (d : D) (L : List Nat) (c : Nat) (T' : Tm), Rise idI acc ∧ (∀ x, x ∈ acc ↔ x ∈ l ∧ u < x) ∧ OwnI acc L d ∧ T'.at 4 = .ptr 0 0 ∧ r = some (.ret, T', ⟨[(true, [.fz (.int .i64 u), d]), (true, [.fz (.int .i64 u), d])], L, c⟩)
theorem loopM3 (l : List Int) (hl : l.length < 1000000) (hm : ∀ x ∈ l, x ≤ 900000) (u : Int) (h0 : 0 ≤ u) : ∀ (n : Nat) (w : Int) (acc : List Int) (d : D) (L : List Nat) (c : Nat), (900000 - w).toNat ≤ n → u ≤ w → Rise idI acc → (∀ y ∈ acc, y ∈ l ∧ u < y ∧ y ≤ w) → (∀ x ∈ l, u < x → x ∉ acc → w < x) → acc.length + n ≤ 900000 → OwnI acc L d →
    PostM3 l u (iterI (dCw Try.prog (callI Try.prog prims dx tbl) l27_3) [1, 4, 5] [(1, .fz (.list (l.map encI))), (4, .ptr 0 0), (5, .ptr 1 0)] ⟨[(true, [.fz (.int .i64 0), .nils]), (true, [.fz (.int .i64 u), d])], L, c⟩) := by
  intro n
  induction n with
  | zero =>
    intro w acc d L c hn hw hs h1 h2 hln hd
    obtain ⟨T', k1, k2⟩ := loopM2 l hl u h0 acc (by omega) d L c hd l 0 0 0 rfl rfl (Nat.zero_le _)
    rcases lst_spec u h0 acc l 0 (.inl rfl) with ⟨e1, _, e3⟩ | ⟨e1, e2, e3, e4, e5, e6⟩
    · rw [e1] at k1
      rw [x_iter]
      refine ⟨acc, d, L, c, _, hs, fun x => ⟨fun hx => ⟨(h1 x hx).1, (h1 x hx).2.1⟩, fun hx => e3 x hx.1 hx.2⟩, hd, ?_, (by
        rcases hd with ⟨rfl, rfl⟩ | ⟨t, hne, ht, rfl⟩
        · simp [u27_3, k1, k2]; try rfl
        · simp [u27_3, k1, k2, ht]; try rfl)⟩
      simp [Tm.at]
    · rcases e4 with e4 | e4
      · exact absurd e4 e1
      · have := hm _ e4
        have := h2 _ e4 e2 e3
        omega
  | succ n ih =>
    intro w acc d L c hn hw hs h1 h2 hln hd
    obtain ⟨T', k1, k2⟩ := loopM2 l hl u h0 acc (by omega) d L c hd l 0 0 0 rfl rfl (Nat.zero_le _)
    rcases lst_spec u h0 acc l 0 (.inl rfl) with ⟨e1, _, e3⟩ | ⟨e1, e2, e3, e4, e5, e6⟩
    · rw [e1] at k1
      rw [x_iter]
      refine ⟨acc, d, L, c, _, hs, fun x => ⟨fun hx => ⟨(h1 x hx).1, (h1 x hx).2.1⟩, fun hx => e3 x hx.1 hx.2⟩, hd, ?_, (by
        rcases hd with ⟨rfl, rfl⟩ | ⟨t, hne, ht, rfl⟩
        · simp [u27_3, k1, k2]; try rfl
        · simp [u27_3, k1, k2, ht]; try rfl)⟩
      simp [Tm.at]
    · have e4 := e4.resolve_left e1
      have hle := hm _ e4
      have hgt := h2 _ e4 e2 e3
      generalize hM : lstU u acc 0 l = M at *
      have hs' : Rise idI (acc ++ [M]) := rise_snoc hs fun y hy => by have := (h1 y hy).2.2; omega
      have goal := fun d L c hd => ih M (acc ++ [M]) d L c (by omega) (by omega) hs' (fun y hy => by
        rcases List.mem_append.1 hy with hy | hy
        · obtain ⟨y1, y2, y3⟩ := h1 y hy
          exact ⟨y1, y2, by omega⟩
        · simp at hy
          subst hy
          exact ⟨e4, e2, by omega⟩) (fun x hx hux hxa => by
        simp only [List.mem_append, List.mem_singleton, not_or] at hxa
        have := e6 x hx hux hxa.1
        omega) (by simp; omega) hd
      have o1 := (encI_ok acc).1
      have r1 : roomOK 8 (acc.length + 1) := roomOK_small (by omega) (by omega)
      rw [x_iter]
      rcases hd with ⟨rfl, rfl⟩ | ⟨t, hne, ht, rfl⟩
      · simp [u27_3, k1, k2, e1]
        refine goal _ _ _ (.inr ⟨_, by simp, ?_, rfl⟩)
        simp
      · simp [u27_3, k1, k2, e1, ht, o1, r1]
        have hmap : (acc.map encI ++ [[F.int .i64 M]]) = (acc ++ [M]).map encI := by simp [encI]
        rw [hmap]
        refine goal _ _ _ (.inr ⟨_, by simp, ?_, rfl⟩)
        simp
theorem pMade (u : Int) (l : List Int) (h0 : 0 ≤ u) (h1 : u ≤ 900000) (hl : l.length < 1000000) (hm : ∀ x ∈ l, x ≤ 900000) : ∃ k : Kn, Is l u k ∧ pureI Try.prog prims dx tbl 27 [.int .i64 u, .list (l.map encI)] = some (.agg (encK k)) := by
  obtain ⟨v, T1, ht, hv, k1, k2⟩ := loopM1 l hl (fun x hx => by have := hm x hx; omega) u 2000000 u (by omega) h0 (by omega) (Int.le_refl _) (fun j a b => by omega)
  have hv0 : 0 ≤ v := by have := ht.1; omega
  by_cases hv9 : v ≤ 900000
  · obtain ⟨acc, d, L, c, T2, a1, a2, a3, a4, a5⟩ := loopM3 l hl hm v hv0 900000 v [] .nils [] 0 (by omega) (Int.le_refl _) List.Pairwise.nil (fun y hy => by cases hy) (fun x _ hx _ => hx) (by simp) (.inl ⟨rfl, rfl⟩)
    refine ⟨⟨v, acc⟩, ⟨ht, a1, a2⟩, ?_⟩
    rw [pureI_of (rfl : tbl 27 = some c27)]
    rcases a3 with ⟨rfl, rfl⟩ | ⟨t, hne, h6, rfl⟩
    · simp [c27, k1, k2, a4, a5, encK]
    · simp [c27, k1, k2, a4, a5, encK, h6]
  · exfalso
    obtain ⟨t1, t2, t3⟩ := ht
    have := hm v (t2 v (by omega) (Int.le_refl _))
    omega
theorem rMadeK (ds : List D) (st : Dv.St) : callI Try.prog prims dx tbl 27 ds st = callR Try.prog prims dx tbl 27 ds st (frL (fr st 6) ds) := callRw rfl rfl (rfl : tbl 27 = some c27) rfl ds st
theorem pAddNum (k : Kn) (hk : KOk k) (hu : k.up ≤ 800000) (hl : k.more.length < 90000) (hm : ∀ x ∈ k.more, x ≤ 900000) (n : Int) (h1 : 1 ≤ n) (h2 : n ≤ 900000) : pureI Try.prog prims dx tbl 13 [.agg (encK k), .int .i64 n] = some (.agg (encK (addK k n))) := by
  obtain ⟨k', hk', hp⟩ := pMade k.up (k.more ++ [n]) hk.up (by omega) (by simp; omega) (fun x hx => by
    rcases List.mem_append.1 hx with hx | hx
    · exact hm x hx
    · simp at hx; omega)
  have e := hk'.one (add_is hk h1 (by omega))
  rw [e] at hp
  rw [pureI_of (rfl : tbl 13 = some c13)]
  have o1 := encI_ok k.more
  have r1 : roomOK 8 k.more.length := roomOK_small (by omega) (by omega)
  have r2 : roomOK 8 (k.more.length + 1) := roomOK_small (by omega) (by omega)
  have n1 : ¬ n < 1 := by omega
  have n2 : ¬ 1000000 < n := by omega
  simp [encI] at hp
  generalize addK k n = K at hp ⊢
  simp only [encK] at hp
  simp [c13, encK, n1, n2, o1, r1, r2, rMadeK, callR, hp]
theorem rAddNum (ds : List D) (st : Dv.St) : callI Try.prog prims dx tbl 13 ds st = callR Try.prog prims dx tbl 13 ds st (frL (fr st 6) ds) := callRw rfl rfl (rfl : tbl 13 = some c13) rfl ds st
end Go.Proofs.Ytjkichflkjcccaa.Pl
