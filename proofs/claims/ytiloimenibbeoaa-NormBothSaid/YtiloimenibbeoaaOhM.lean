/-
  What is proved here: the law of what two boxes both let through.
  Conditions: none.
-/
import Derived.Test.YtiloimenibbeoaaOgM
set_option linter.unusedVariables false
set_option linter.unusedSimpArgs false
set_option maxRecDepth 100000
set_option maxHeartbeats 8000000
namespace Go.Proofs.Ytiloimenibbeoaa.Pl
open Go Go.Proofs Go.Proofs.Ev Go.Proofs.Dv Cd
attribute [local simp] x_pure x_skip x_reg x_drw x_seq x_cond x_block x_frz x_loop' Tm.keep_nil x_exit x_ret k_seq k_seq_ret k_seq_exit k_seq_none k_seq_ite k_cond k_block k_block_ret k_block_exit k_block_none k_block_ite k_iter k_iter_ret k_iter_exit k_iter_none k_iter_ite k_reg k_reg_none k_reg_ite x_is_nil x_is x_is_g k_ins k_ins_none k_ins_ite k_grd x_ord_nil x_ord x_ord_g k_ord k_ord_none k_ord_ite k_ogrd k_out_ret k_out k_out_none k_out_ite k_pure k_pure_none k_pure_ite startD dI dA deo Tm.at Tm.dst Tm.set Tm.put Tm.keep dW dRes oneOfD mkTup mkAgg mkFn allF frL fr vD vD1 vF vFL dBin dEq dNil isNilD dScal F.cv eBin sameKind eInt eStr cellsD oneD F.one dFill putAtD chunk dbnd dSrc St.own St.drop St.still St.fresh chkQ stillQ freshQ lOf rdOf rdOK undefD F.full F.fullL List.mapIdx_cons strip allOne_nil allOne_cons allOne_append allLen_nil allLen_cons allLen_append roomOK_small filterT y_mv y_pick y_new y_box y_build y_bslice y_ld1 y_ldn y_nilchk y_bin y_not y_conv y_bytes y_string y_ifc y_fn y_cut y_cuts y_fa y_fld y_ia y_idx y_idxs y_ext y_len y_lenstr y_app y_grow y_mks y_slow y_call y_callv y_inv y_extc x_it_st x_it_clr x_it_cpy k_addT k_addT_none k_addT_ite k_orU k_orU_none dU D.turn turnL Tm.turn turnS St.turn turnRows_length

theorem u8s_of {l : List Int} (h : l.length ≤ 1000) (hb : ∀ z ∈ l, 0 ≤ z ∧ z < 256) : U8s l := ⟨by omega, hb⟩
theorem qBegun7 (st : Dv.St) : callI Try.prog prims dx tbl 9 [] st = some (.fz (.bool true), st, []) := callI_prim (p := .yes) rfl rfl
def PostN0 (d5 d6 d7 d9 : D) (jv : Nat) (S : List (Bool × List D)) (L : List Nat) (c : Nat) (r : Option DSt) : Prop := ∃ (T' : Tm) (R : List (Bool × List D)), T'.keep [5, 6, 7, 8, 9] = [(5, d5), (6, d6), (7, d7), (8, .ptr jv 0), (9, d9)] ∧ r = some (.exit 4, T', ⟨S ++ R, L, c⟩)
theorem PostN0.more {d5 d6 d7 d9 : D} {jv : Nat} {S : List (Bool × List D)} {x : Bool × List D} {L : List Nat} {c : Nat} {r : Option DSt} (h : PostN0 d5 d6 d7 d9 jv (S ++ [x]) L c r) : PostN0 d5 d6 d7 d9 jv S L c r := by
  obtain ⟨T', R, h1, h2⟩ := h
  exact ⟨T', x :: R, h1, by rw [h2, List.append_assoc]; rfl⟩
theorem look_app {S : List (Bool × List D)} {j : Nat} {x : Bool × List D} (h : S[j]? = some x) (R : List (Bool × List D)) : (S ++ R)[j]? = some x := by
  have hj : j < S.length := by
    rcases Nat.lt_or_ge j S.length with k | k
    · exact k
    · rw [List.getElem?_eq_none k] at h; cases h
  rw [List.getElem?_append_left hj]; exact h
theorem loopN0 (d6 d7 : D) (jv : Nat) (v : Ver) (hvl : v.ats.length < 1000000) (l : List Box) (hl : l.length ≤ 3) (hb : ∀ b ∈ l, BOk b 8) (i : Nat) (hil : i < l.length) (a : Box) (hla : l[i] = a) (L : List Nat) (c : Nat) : ∀ (r : List Box) (k : Nat) (kz : Int) (S : List (Bool × List D)), kz = k → l.drop k = r → k ≤ l.length → S[jv]? = some (varV v) →
    PostN0 (.fz (.list (l.map encB))) d6 d7 (.fz (.int .i64 i)) jv S L c (iterI (dCw Try.prog (callI Try.prog prims dx tbl) l6_0) [5, 6, 7, 8, 9, 10] [(5, .fz (.list (l.map encB))), (6, d6), (7, d7), (8, .ptr jv 0), (9, .fz (.int .i64 i)), (10, .fz (.int .i64 kz))] ⟨S, L, c⟩) := by
  intro r
  induction r with
  | nil =>
    intro k kz S hz hd hk hS
    have hk' := drop_nil hd hk
    subst hk' hz
    rw [x_iter]
    simp [u6_0]
    refine ⟨_, [], ?_, (by rw [List.append_nil])⟩
    simp [Tm.keep]
  | cons b r ih =>
    intro k kz S hz hd hk hS
    subst hz
    obtain ⟨hlt, hli, hd'⟩ := drop_cons hd
    have ob := hb b (by rw [← hli]; exact List.getElem_mem hlt)
    have oa := hb a (by rw [← hla]; exact List.getElem_mem hil)
    have hp := pMeet a b (by have := oa.nots; omega) (by have := ob.nots; omega)
    have pa := pLetsB a (by have := oa.nots; omega) v hvl
    have pb := pLetsB b (by have := ob.nots; omega) v hvl
    obtain ⟨m1, m2⟩ := meet_sem oa ob v.ats v.tag
    have c1 : -100000 ≤ (k : Int) + 1 ∧ (k : Int) + 1 ≤ 100000 := by omega
    have goal := fun x => (ih (k + 1) ((k : Int) + 1) (S ++ [x]) (by omega) hd' hlt (look_app hS [x])).more
    have hS' := look_app hS
    generalize letsB a v.ats v.tag = la at *
    generalize letsB b v.ats v.tag = lb at *
    simp only [varV, encV, List.map_cons, List.map_nil] at hS'
    cases hx : meetB a b with
    | none =>
      have hf := m2 hx
      rw [hx] at hp
      simp only [encB, encV, Option.getD_none, Option.isSome_none] at hp pa pb
      rw [x_iter]
      cases la <;> cases lb <;> simp at hf <;> simp [u6_0, hlt, hli, hil, hla, encB, hS', g1a, g2a, g2b, s1a, s2b, mapI, mapI2, rMeet, rLetsB, callR, hp, pa, pb, wz _ c1] <;> exact goal _
    | some x =>
      obtain ⟨ox, hf⟩ := m1 x hx
      have px := pLetsB x (by have := ox.nots; omega) v hvl
      rw [hf] at px
      rw [hx] at hp
      simp only [encB, encV, Option.getD_some, Option.isSome_some] at hp pa pb px
      rw [x_iter]
      cases la <;> cases lb <;> simp at px <;> simp [u6_0, hlt, hli, hil, hla, encB, hS', g1a, g2a, g2b, s1a, s2b, mapI, mapI2, rMeet, rLetsB, callR, hp, pa, pb, px, wz _ c1] <;> exact goal _
def PostN1 (d5 d6 d7 : D) (S : List (Bool × List D)) (L : List Nat) (c : Nat) (r : Option DSt) : Prop := ∃ (T' : Tm) (R : List (Bool × List D)), T'.keep [5, 6, 7] = [(5, d5), (6, d6), (7, d7)] ∧ r = some (.exit 2, T', ⟨S ++ R, L, c⟩)
theorem loopN1 (d6 d7 : D) (jv : Nat) (v : Ver) (hvl : v.ats.length < 1000000) (l : List Box) (hl : l.length ≤ 3) (hb : ∀ b ∈ l, BOk b 8) (L : List Nat) (c : Nat) : ∀ (r : List Box) (i : Nat) (iz : Int) (S : List (Bool × List D)), iz = i → l.drop i = r → i ≤ l.length → S[jv]? = some (varV v) →
    PostN1 (.fz (.list (l.map encB))) d6 d7 S L c (iterI (dCw Try.prog (callI Try.prog prims dx tbl) l6_1) [5, 6, 7, 8, 9] [(5, .fz (.list (l.map encB))), (6, d6), (7, d7), (8, .ptr jv 0), (9, .fz (.int .i64 iz))] ⟨S, L, c⟩) := by
  intro r
  induction r with
  | nil =>
    intro i iz S hz hd hi hS
    have hi' := drop_nil hd hi
    subst hi' hz
    rw [x_iter]
    simp [u6_1]
    refine ⟨_, [], ?_, (by rw [List.append_nil])⟩
    simp [Tm.keep]
  | cons a r ih =>
    intro i iz S hz hd hi hS
    subst hz
    obtain ⟨hlt, hli, hd'⟩ := drop_cons hd
    have c1 : -100000 ≤ (i : Int) + 1 ∧ (i : Int) + 1 ≤ 100000 := by omega
    obtain ⟨T1, R1, k1, j1⟩ := loopN0 d6 d7 jv v hvl l hl hb i hlt a hli L c l 0 0 S rfl rfl (Nat.zero_le _) hS
    obtain ⟨T2, R2, k2, j2⟩ := ih (i + 1) ((i : Int) + 1) (S ++ R1) (by omega) hd' hlt (look_app hS R1)
    refine ⟨T2, R1 ++ R2, k2, ?_⟩
    rw [x_iter]
    simp [u6_1, hlt, j1, k1, wz _ c1]
    rw [j2]
    simp
def PostN2 (r : Option DSt) : Prop := ∃ (T' : Tm) (st' : Dv.St), r = some (.exit 0, T', st')
theorem loopN2 (l2 : List Int) (h2 : U8s l2) (l : List Box) (hl : l.length ≤ 3) (hb : ∀ b ∈ l, BOk b 8) (L : List Nat) : ∀ (m k : Nat) (kz : Int) (i : Nat) (c : Nat) (R : List (Bool × List D)), k + m = 3 → kz = k → i ≤ l2.length →
    PostN2 (iterI (dCw Try.prog (callI Try.prog prims dx tbl) l6_2) [5, 6, 7] [(5, .fz (.list (l.map encB))), (6, .ptr 0 0), (7, .fz (.int .i64 kz))] ⟨madeV l2 i :: R, L, c⟩) := by
  intro m
  induction m with
  | zero =>
    intro k kz i c R hm hz hi
    subst hz
    obtain rfl : k = 3 := by omega
    rw [x_iter]
    simp [u6_2]
    exact ⟨_, _, rfl⟩
  | succ m ih =>
    intro k kz i c R hm hz hi
    subst hz
    have hk : (k : Int) < 3 := by omega
    have c1 : -100000 ≤ (k : Int) + 1 ∧ (k : Int) + 1 ≤ 100000 := by omega
    obtain ⟨v, i1, b1, hv, e1⟩ := vVersion l2 h2 i hi
    have hvl : v.ats.length < 1000000 := by have := hv.ats; omega
    obtain ⟨T1, R1, k1, j1⟩ := loopN1 (.ptr 0 0) (.fz (.int .i64 k)) (R.length + 1) v hvl l hl hb L c l 0 0 (madeV l2 i1 :: (R ++ [varV v])) rfl rfl (Nat.zero_le _) (by simp)
    have goal := ih (k + 1) ((k : Int) + 1) i1 c (R ++ [varV v] ++ R1) (by omega) (by omega) b1
    simp only [madeV, varV, encV, List.map_cons, List.map_nil, List.cons_append, List.append_assoc] at goal j1 ⊢
    simp only [encV] at e1
    rw [x_iter]
    simp [u6_2, x_vars, varsOf, varsK, varsK_ite, finals, callVars, splitV, contents, updV, orC, hk, rVersion, e1, g1a, s1a, mapI, mapI2, j1, k1, wz _ c1]
    exact goal
theorem pNormBoth (l1 : List Int) (h1 : l1.length ≤ maxLen) (hb1 : ∀ z ∈ l1, 0 ≤ z ∧ z < 256) (l2 : List Int) (h2 : l2.length ≤ maxLen) (hb2 : ∀ z ∈ l2, 0 ≤ z ∧ z < 256) :
    pureI Try.prog prims dx tbl 6 [.list (l1.map fun z => [.int .u8 z]), .list (l2.map fun z => [.int .u8 z])] = some (.bool true) := by
  rw [pureI_of (rfl : tbl 6 = some c6)]
  by_cases g1 : 60 < l1.length
  · simp [c6, qBegun7, show (60 : Int) < l1.length by omega]
  by_cases g2 : 60 < l2.length
  · simp [c6, qBegun7, show ¬ (60 : Int) < l1.length by omega, show (60 : Int) < l2.length by omega]
  have e1' : ¬ (60 : Int) < l1.length := by omega
  have e2' : ¬ (60 : Int) < l2.length := by omega
  have m2 := vMade l2
  obtain ⟨rows, hr, hb, hB⟩ := pBoxes l1 (u8s_of (by omega) hb1)
  obtain ⟨T1, st1, j1⟩ := loopN2 l2 (u8s_of (by omega) hb2) rows hr hb [] 3 0 0 0 0 [] rfl rfl (Nat.zero_le _)
  simp only [madeV, Int.ofNat_zero, Int.natCast_zero] at j1
  simp [c6, x_vars, varsOf, varsK, varsK_ite, finals, callVars, splitV, contents, updV, orC, qBegun7, e1', e2', rMade, m2, rBoxes, callR, hB, j1]
end Go.Proofs.Ytiloimenibbeoaa.Pl
