/-
  What is proved here: heads, asked by the document's own words whether they may be; what either has of each thing.
  Conditions: none.
-/
import Derived.Test.YtmbboljcgpccfaaSqH
set_option linter.unusedVariables false
set_option linter.unusedSimpArgs false
set_option maxRecDepth 100000
set_option maxHeartbeats 8000000
namespace Go.Proofs.Ytmbboljcgpccfaa.Pl
open Go Go.Proofs Go.Proofs.Ev Go.Proofs.Dv Cd
attribute [local simp] x_pure x_skip x_reg x_drw x_seq x_cond x_block x_loop' Tm.keep_nil x_exit x_ret k_seq k_seq_ret k_seq_exit k_seq_none k_seq_ite k_cond k_block k_block_ret k_block_exit k_block_none k_block_ite k_iter k_iter_ret k_iter_exit k_iter_none k_iter_ite k_reg k_reg_none k_reg_ite x_is_nil x_is x_is_g k_ins k_ins_none k_ins_ite k_grd x_ord_nil x_ord x_ord_g k_ord k_ord_none k_ord_ite k_ogrd k_out_ret k_out k_out_none k_out_ite k_pure k_pure_none k_pure_ite startD dI dA deo Tm.at Tm.dst Tm.set Tm.put Tm.keep dW dRes oneOfD mkTup mkAgg mkFn allF frL fr vD vD1 vF vFL dBin dEq dNil isNilD dScal F.cv eBin sameKind eInt eStr cellsD oneD F.one dFill putAtD chunk dbnd dSrc St.own St.drop St.still St.fresh chkQ stillQ freshQ lOf rdOf rdOK undefD F.full F.fullL List.mapIdx_cons strip allOne_nil allOne_cons allOne_append allLen_nil allLen_cons allLen_append roomOK_small filterT y_mv y_pick y_new y_box y_build y_bslice y_ld1 y_ldn y_nilchk y_bin y_not y_conv y_bytes y_string y_ifc y_fn y_cut y_cuts y_fa y_fld y_ia y_idx y_idxs y_ext y_len y_lenstr y_app y_grow y_mks y_slow y_call y_callv y_inv y_extc x_it_st x_it_clr x_it_cpy k_addT k_addT_none k_addT_ite k_orU k_orU_none dU D.turn turnL Tm.turn turnS St.turn turnRows_length

def PostZ (b : Bool) (r : Option DSt) : Prop := ∃ T' st', r = some (if b = true then .exit 0 else .ret, T', st') ∧ (b = false → T'.at 2 = .fz (.bool false))
theorem loopZ (l : List Hd) (hl : l.length < 1000000) : ∀ (r : List Hd) (i : Nat) (iz last : Int) (L : List Nat) (c : Nat), iz = i → l.drop i = r → i ≤ l.length → 0 ≤ last → (i = 0 ∧ last = 0 ∨ ∃ (j : Nat) (h : j < l.length), i = j + 1 ∧ l[j].item = last ∧ 1 ≤ last) →
    PostZ (mayHs last r) (iterI (dCw Try.prog (callI Try.prog prims dx tbl) l34_0) [0, 3] [(0, .fz (.list (l.map encH))), (3, .fz (.int .i64 iz))] ⟨[], L, c⟩) := by
  intro r
  induction r with
  | nil =>
    intro i iz last L c hz hd hi h0 hp
    have hi' := drop_nil hd hi
    subst hi' hz
    rw [x_iter]
    simp [u34_0, mayHs]
    exact ⟨_, _, rfl, fun h => by cases h⟩
  | cons a r ih =>
    intro i iz last L c hz hd hi h0 hp
    subst hz
    obtain ⟨hlt, hli, hd'⟩ := drop_cons hd
    have hm := pRMay a.a a.b a.c
    have hi1 : ((i : Int) + 1) = ((i + 1 : Nat) : Int) := by omega
    have hw : wrapF .i64 ((i : Int) + 1) = (i : Int) + 1 := wrap_id _ (by omega) (by omega)
    rw [x_iter]
    by_cases h1 : a.item < 1
    · have h1' : a.item ≤ last := by omega
      simp [u34_0, hlt, hli, encH, h1, h1', mayHs]
      exact ⟨_, _, rfl, fun _ => rfl⟩
    · by_cases h2 : 6 < a.item
      · simp [u34_0, hlt, hli, encH, h1, h2, mayHs]
        exact ⟨_, _, rfl, fun _ => rfl⟩
      · cases h3 : mayB a.a a.b a.c with
        | false =>
          rw [h3] at hm
          simp [u34_0, hlt, hli, encH, h1, h2, h3, mayHs, rRMay, callR, hm]
          exact ⟨_, _, rfl, fun _ => rfl⟩
        | true =>
          rw [h3] at hm
          rcases hp with ⟨hi0, hl0⟩ | ⟨j, hj, hij, hjl, hl1⟩
          · have q1 : ¬ (0 : Int) < (i : Int) := by omega
            have q2 : ¬ 0 < i := by omega
            have q3 : ¬ a.item ≤ last := by omega
            have := ih (i + 1) _ a.item L c hi1 hd' hlt (by omega) (.inr ⟨i, hlt, rfl, by rw [hli], by omega⟩)
            simp [u34_0, hlt, hli, encH, h1, h2, h3, mayHs, rRMay, callR, hm, hw, q1, q2, q3]
            exact this
          · have q1 : (0 : Int) < (i : Int) := by omega
            have q2 : 0 < i := by omega
            have q4 : wrapF .i64 ((i : Int) - 1) = (j : Int) := by
              rw [show (i : Int) - 1 = (j : Int) by omega]
              exact wrap_id _ (by omega) (by omega)
            by_cases q3 : a.item ≤ last
            · simp [u34_0, hlt, hli, encH, h1, h2, h3, mayHs, rRMay, callR, hm, hw, q1, q2, q3, q4, hj, hjl]
              exact ⟨_, _, rfl, fun _ => rfl⟩
            · have := ih (i + 1) _ a.item L c hi1 hd' hlt (by omega) (.inr ⟨i, hlt, rfl, by rw [hli], by omega⟩)
              simp [u34_0, hlt, hli, encH, h1, h2, h3, mayHs, rRMay, callR, hm, hw, q1, q2, q3, q4, hj, hjl]
              exact this
theorem pRMayH (l : List Hd) (hl : l.length < 1000000) : pureI Try.prog prims dx tbl 34 [.list (l.map encH)] = some (.bool (mayHs 0 l)) := by
  rw [pureI_of (rfl : tbl 34 = some c34)]
  obtain ⟨T', st', h1, h2⟩ := loopZ l hl l 0 0 0 [] 0 rfl rfl (Nat.zero_le _) (by omega) (.inl ⟨rfl, rfl⟩)
  cases h : mayHs 0 l with
  | true =>
    simp [h] at h1
    simp [c34, h1]
  | false =>
    simp [h] at h1 h2
    simp [c34, h1, h2]
theorem rRMayH (ds : List D) (st : Dv.St) : callI Try.prog prims dx tbl 34 ds st = callR Try.prog prims dx tbl 34 ds st (frL (fr st 6) ds) := callRw rfl rfl (rfl : tbl 34 = some c34) rfl ds st

def PostR (l : List Hd) (r : Option DSt) : Prop := ∃ (d : D) (st' : Dv.St) (T' : Tm), SlD (l.map encH) st'.L d ∧ T'.keep [5] = [(5, d)] ∧ r = some (.exit 0, T', st')
theorem loopR (m : List Hd) (hm : m.length < 10000) : ∀ (r : List Hd) (i : Nat) (iz : Int) (l : List Hd) (d : D) (S : List (Bool × List D)) (L : List Nat) (c : Nat), iz = i → m.drop i = r → i ≤ m.length → Srt l → l.length ≤ 10000 + i → SlD (l.map encH) L d →
    PostR (mostH l r) (iterI (dCw Try.prog (callI Try.prog prims dx tbl) l36_0) [1, 5, 6] [(1, .fz (.list (m.map encH))), (5, d), (6, .fz (.int .i64 iz))] ⟨S, L, c⟩) := by
  intro r
  induction r with
  | nil =>
    intro i iz l d S L c hz hd hi hs hll ho
    have hi' := drop_nil hd hi
    subst hi' hz
    rw [x_iter]
    simp [u36_0]
    exact ⟨d, ⟨S, L, c⟩, _, ho, by simp [Tm.keep], rfl⟩
  | cons a r ih =>
    intro i iz l d S L c hz hd hi hs hll ho
    subst hz
    obtain ⟨hlt, hli, hd'⟩ := drop_cons hd
    have hp := pPut l (by omega) hs a
    rw [encH] at hp
    have hn := putH_len (l := l) (h := a)
    have hs' : Srt (putH l a) := putH_srt hs
    have hi1 : ((i : Int) + 1) = ((i + 1 : Nat) : Int) := by omega
    have hw : wrapF .i64 ((i : Int) + 1) = (i : Int) + 1 := wrap_id _ (by omega) (by omega)
    rw [x_iter, show mostH l (a :: r) = mostH (putH l a) r from rfl]
    rcases ho with rfl | ⟨t, ht, rfl⟩
    · simp [u36_0, hlt, hli, encH_len, encH_take, rPut, callR, hp, hw]
      exact ih (i + 1) _ (putH l a) _ _ _ _ hi1 hd' hlt hs' (by omega) (.inl rfl)
    · simp [u36_0, hlt, hli, encH_len, encH_take, rPut, callR, hp, hw, ht]
      exact ih (i + 1) _ (putH l a) _ _ _ _ hi1 hd' hlt hs' (by omega) (.inl rfl)
theorem pRMost (l m : List Hd) (hl : l.length < 10000) (hm : m.length < 10000) (hs : Srt l) : pureI Try.prog prims dx tbl 36 [.list (l.map encH), .list (m.map encH)] = some (.list ((mostH l m).map encH)) := by
  rw [pureI_of (rfl : tbl 36 = some c36)]
  have o1 := encH_ok l
  have r1 : roomOK 32 l.length := roomOK_small (by omega) (by omega)
  obtain ⟨d, st', T', ho, hk, hT⟩ := loopR m hm m 0 0 l (.ow 1 0 4 (l.map encH)) [] [1] 2 rfl rfl (Nat.zero_le _) hs (by omega) (.inr ⟨1, by simp, rfl⟩)
  rcases ho with rfl | ⟨t, ht, rfl⟩
  · simp [c36, o1, r1, hT, hk]
  · simp [c36, o1, r1, hT, hk, ht]
theorem rRMost (ds : List D) (st : Dv.St) : callI Try.prog prims dx tbl 36 ds st = callR Try.prog prims dx tbl 36 ds st (frL (fr st 6) ds) := callRw rfl rfl (rfl : tbl 36 = some c36) rfl ds st
end Go.Proofs.Ytmbboljcgpccfaa.Pl
