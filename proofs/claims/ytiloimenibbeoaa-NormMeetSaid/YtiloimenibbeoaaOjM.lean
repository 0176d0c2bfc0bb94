/-
  What is proved here: the law of what two boxes both let through, and the document's.
  Conditions: none.
-/
import Derived.Test.YtiloimenibbeoaaOiM
import Derived.Test.YtiloimenibbeoaaOfM
set_option linter.unusedVariables false
set_option linter.unusedSimpArgs false
set_option maxRecDepth 100000
set_option maxHeartbeats 8000000
namespace Go.Proofs.Ytiloimenibbeoaa.Pl
open Go Go.Proofs Go.Proofs.Ev Go.Proofs.Dv Cd
attribute [local simp] x_pure x_skip x_reg x_drw x_seq x_cond x_block x_frz x_loop' Tm.keep_nil x_exit x_ret k_seq k_seq_ret k_seq_exit k_seq_none k_seq_ite k_cond k_block k_block_ret k_block_exit k_block_none k_block_ite k_iter k_iter_ret k_iter_exit k_iter_none k_iter_ite k_reg k_reg_none k_reg_ite x_is_nil x_is x_is_g k_ins k_ins_none k_ins_ite k_grd x_ord_nil x_ord x_ord_g k_ord k_ord_none k_ord_ite k_ogrd k_out_ret k_out k_out_none k_out_ite k_pure k_pure_none k_pure_ite startD dI dA deo Tm.at Tm.dst Tm.set Tm.put Tm.keep dW dRes oneOfD mkTup mkAgg mkFn allF frL fr vD vD1 vF vFL dBin dEq dNil isNilD dScal F.cv eBin sameKind eInt eStr cellsD oneD F.one dFill putAtD chunk dbnd dSrc St.own St.drop St.still St.fresh chkQ stillQ freshQ lOf rdOf rdOK undefD F.full F.fullL List.mapIdx_cons strip allOne_nil allOne_cons allOne_append allLen_nil allLen_cons allLen_append roomOK_small filterT y_mv y_pick y_new y_box y_build y_bslice y_ld1 y_ldn y_nilchk y_bin y_not y_conv y_bytes y_string y_ifc y_fn y_cut y_cuts y_fa y_fld y_ia y_idx y_idxs y_ext y_len y_lenstr y_app y_grow y_mks y_slow y_call y_callv y_inv y_extc x_it_st x_it_clr x_it_cpy k_addT k_addT_none k_addT_ite k_orU k_orU_none dU D.turn turnL Tm.turn turnS St.turn turnRows_length

theorem look_app {S : List (Bool × List D)} {j : Nat} {x : Bool × List D} (h : S[j]? = some x) (R : List (Bool × List D)) : (S ++ R)[j]? = some x := by
  have hj : j < S.length := by
    rcases Nat.lt_or_ge j S.length with k | k
    · exact k
    · rw [List.getElem?_eq_none k] at h; cases h
  rw [List.getElem?_append_left hj]; exact h
theorem h3a {α : Type} (S : List α) (a b : α) : (S ++ [a] ++ [b])[S.length]? = some a := by simp
def PostU0 (d5 d7 d8 d9 : D) (S : List (Bool × List D)) (L : List Nat) (c : Nat) (r : Option DSt) : Prop := ∃ (T' : Tm) (R : List (Bool × List D)), T'.keep [5, 7, 8, 9] = [(5, d5), (7, d7), (8, d8), (9, d9)] ∧ r = some (.exit 2, T', ⟨S ++ R, L, c⟩)
theorem PostU0.more {d5 d7 d8 d9 : D} {S : List (Bool × List D)} {x y : Bool × List D} {L : List Nat} {c : Nat} {r : Option DSt} (h : PostU0 d5 d7 d8 d9 (S ++ [x, y]) L c r) : PostU0 d5 d7 d8 d9 S L c r := by
  obtain ⟨T', R, h1, h2⟩ := h
  exact ⟨T', x :: y :: R, h1, by rw [h2, List.append_assoc]; rfl⟩
theorem loopU0 (d7 d8 : D) (l : List Box) (hl : l.length ≤ 3) (hb : ∀ b ∈ l, BOk b 8) (i : Nat) (hil : i < l.length) (a : Box) (hla : l[i] = a) (L : List Nat) (c : Nat) : ∀ (r : List Box) (k : Nat) (kz : Int) (S : List (Bool × List D)), kz = k → l.drop k = r → k ≤ l.length →
    PostU0 (.fz (.list (l.map encB))) d7 d8 (.fz (.int .i64 i)) S L c (iterI (dCw Try.prog (callI Try.prog prims dx tbl) l4_0) [5, 7, 8, 9, 10] [(5, .fz (.list (l.map encB))), (7, d7), (8, d8), (9, .fz (.int .i64 i)), (10, .fz (.int .i64 kz))] ⟨S, L, c⟩) := by
  intro r
  induction r with
  | nil =>
    intro k kz S hz hd hk
    have hk' := drop_nil hd hk
    subst hk' hz
    rw [x_iter]
    simp [u4_0]
    refine ⟨_, [], ?_, (by rw [List.append_nil])⟩
    simp [Tm.keep]
  | cons b r ih =>
    intro k kz S hz hd hk
    subst hz
    obtain ⟨hlt, hli, hd'⟩ := drop_cons hd
    have ob := hb b (by rw [← hli]; exact List.getElem_mem hlt)
    have oa := hb a (by rw [← hla]; exact List.getElem_mem hil)
    have hp := pMeet a b (by have := oa.nots; omega) (by have := ob.nots; omega)
    have hq := pRMeet a b oa ob (by omega) (by omega)
    have c1 : -100000 ≤ (k : Int) + 1 ∧ (k : Int) + 1 ≤ 100000 := by omega
    have goal := fun x y => (ih (k + 1) ((k : Int) + 1) (S ++ [x, y]) (by omega) hd' hlt).more
    obtain ⟨m1, _⟩ := meet_sem oa ob [] []
    have hxn : ((meetB a b).getD box0).nots.length ≤ 1000 := by
      cases hx : meetB a b with
      | none => simp [box0]
      | some x => have := (m1 x hx).1.nots; simp; omega
    have hs := pSameBox _ hxn
    generalize (meetB a b).getD box0 = x at *
    generalize (meetB a b).isSome = q at *
    simp only [encB] at hp hq hs
    rw [x_iter]
    simp [u4_0, hlt, hli, hil, hla, encB, g1a, g2a, g2b, s1a, s2b, mapI, mapI2, rMeet, rRMeet, rSameBox, callR, hp, hq, hs, wz _ c1]
    exact goal _ _
def PostU1 (r : Option DSt) : Prop := ∃ (T' : Tm) (st' : Dv.St), r = some (.exit 0, T', st')
theorem loopU1 (jv jw : Nat) (v w : Ver) (hvl : v.ats.length < 1000000) (hwl : w.ats.length < 1000000) (l : List Box) (hl : l.length ≤ 3) (hb : ∀ b ∈ l, BOk b 8) (L : List Nat) (c : Nat) : ∀ (r : List Box) (i : Nat) (iz : Int) (S : List (Bool × List D)), iz = i → l.drop i = r → i ≤ l.length → S[jv]? = some (varV v) → S[jw]? = some (varV w) →
    PostU1 (iterI (dCw Try.prog (callI Try.prog prims dx tbl) l4_1) [5, 7, 8, 9] [(5, .fz (.list (l.map encB))), (7, .ptr jv 0), (8, .ptr jw 0), (9, .fz (.int .i64 iz))] ⟨S, L, c⟩) := by
  intro r
  induction r with
  | nil =>
    intro i iz S hz hd hi hS hT
    have hi' := drop_nil hd hi
    subst hi' hz
    rw [x_iter]
    simp [u4_1]
    exact ⟨_, _, rfl⟩
  | cons a r ih =>
    intro i iz S hz hd hi hS hT
    subst hz
    obtain ⟨hlt, hli, hd'⟩ := drop_cons hd
    have oa := hb a (by rw [← hli]; exact List.getElem_mem hlt)
    have pa := pLetsB a (by have := oa.nots; omega) v hvl
    have pb := pLetsB a (by have := oa.nots; omega) w hwl
    have qa := pLBox a (by have := oa.nots; omega) v hvl
    have qb := pLBox a (by have := oa.nots; omega) w hwl
    have c1 : -100000 ≤ (i : Int) + 1 ∧ (i : Int) + 1 ≤ 100000 := by omega
    obtain ⟨T1, R1, k1, j1⟩ := loopU0 (.ptr jv 0) (.ptr jw 0) l hl hb i hlt a hli L c l 0 0 S rfl rfl (Nat.zero_le _)
    have goal := ih (i + 1) ((i : Int) + 1) (S ++ R1) (by omega) hd' hlt (look_app hS R1) (look_app hT R1)
    generalize letsB a v.ats v.tag = la at *
    generalize letsB a w.ats w.tag = lb at *
    simp only [varV, encV, List.map_cons, List.map_nil] at hS hT
    simp only [encB, encV] at pa pb qa qb
    rw [x_iter]
    simp [u4_1, hlt, hli, encB, hS, hT, rLetsB, rLBox, callR, pa, pb, qa, qb, j1, k1, wz _ c1]
    exact goal
theorem pNormMeet (l1 : List Int) (h1 : l1.length ≤ maxLen) (hb1 : ∀ z ∈ l1, 0 ≤ z ∧ z < 256) (l2 : List Int) (h2 : l2.length ≤ maxLen) (hb2 : ∀ z ∈ l2, 0 ≤ z ∧ z < 256) :
    pureI Try.prog prims dx tbl 4 [.list (l1.map fun z => [.int .u8 z]), .list (l2.map fun z => [.int .u8 z])] = some (.bool true) := by
  rw [pureI_of (rfl : tbl 4 = some c4)]
  by_cases g1 : 60 < l1.length
  · simp [c4, qBegun7, show (60 : Int) < l1.length by omega]
  by_cases g2 : 40 < l2.length
  · simp [c4, qBegun7, show ¬ (60 : Int) < l1.length by omega, show (40 : Int) < l2.length by omega]
  have e1' : ¬ (60 : Int) < l1.length := by omega
  have e2' : ¬ (40 : Int) < l2.length := by omega
  have m2 := vMade l2
  obtain ⟨rows, hr, hb, hB⟩ := pBoxes l1 (u8s_of (by omega) hb1)
  have hl2 := u8s_of (l := l2) (by omega) hb2
  obtain ⟨v, i1, b1, hv, e1⟩ := vVersion l2 hl2 0 (Nat.zero_le _)
  obtain ⟨w, i2, b2, hw, e2⟩ := vVersion l2 hl2 i1 b1
  obtain ⟨T1, st1, j1⟩ := loopU1 1 2 v w (by have := hv.ats; omega) (by have := hw.ats; omega) rows hr hb [] 0 rows 0 0 [madeV l2 i2, varV v, varV w] rfl rfl (Nat.zero_le _) rfl rfl
  simp only [madeV, varV, encV, List.map_cons, List.map_nil] at j1
  simp only [encV, Int.ofNat_zero, Int.natCast_zero] at e1 e2
  simp [c4, x_vars, varsOf, varsK, varsK_ite, finals, callVars, splitV, contents, updV, orC, qBegun7, e1', e2', rMade, m2, rBoxes, callR, hB, rVersion, e1, e2, freshQ, j1]
end Go.Proofs.Ytiloimenibbeoaa.Pl
