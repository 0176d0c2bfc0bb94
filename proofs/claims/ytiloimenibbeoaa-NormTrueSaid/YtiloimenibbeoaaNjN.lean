/-
  What is proved here: the law of a filter's boxes and the filter.
  Conditions: none.
-/
import Derived.Test.YtiloimenibbeoaaNhN
set_option linter.unusedVariables false
set_option linter.unusedSimpArgs false
set_option maxRecDepth 100000
set_option maxHeartbeats 8000000
namespace Go.Proofs.Ytiloimenibbeoaa.Pl
open Go Go.Proofs Go.Proofs.Ev Go.Proofs.Dv Cd
attribute [local simp] x_pure x_skip x_reg x_drw x_seq x_cond x_block x_frz x_loop' Tm.keep_nil x_exit x_ret k_seq k_seq_ret k_seq_exit k_seq_none k_seq_ite k_cond k_block k_block_ret k_block_exit k_block_none k_block_ite k_iter k_iter_ret k_iter_exit k_iter_none k_iter_ite k_reg k_reg_none k_reg_ite x_is_nil x_is x_is_g k_ins k_ins_none k_ins_ite k_grd x_ord_nil x_ord x_ord_g k_ord k_ord_none k_ord_ite k_ogrd k_out_ret k_out k_out_none k_out_ite k_pure k_pure_none k_pure_ite startD dI dA deo Tm.at Tm.dst Tm.set Tm.put Tm.keep dW dRes oneOfD mkTup mkAgg mkFn allF frL fr vD vD1 vF vFL dBin dEq dNil isNilD dScal F.cv eBin sameKind eInt eStr cellsD oneD F.one dFill putAtD chunk dbnd dSrc St.own St.drop St.still St.fresh chkQ stillQ freshQ lOf rdOf rdOK undefD F.full F.fullL List.mapIdx_cons strip allOne_nil allOne_cons allOne_append allLen_nil allLen_cons allLen_append roomOK_small filterT y_mv y_pick y_new y_box y_build y_bslice y_ld1 y_ldn y_nilchk y_bin y_not y_conv y_bytes y_string y_ifc y_fn y_cut y_cuts y_fa y_fld y_ia y_idx y_idxs y_ext y_len y_lenstr y_app y_grow y_mks y_slow y_call y_callv y_inv y_extc x_it_st x_it_clr x_it_cpy k_addT k_addT_none k_addT_ite k_orU k_orU_none dU D.turn turnL Tm.turn turnS St.turn turnRows_length

theorem u8s_of {l : List Int} (h : l.length ≤ 1000) (hb : ∀ z ∈ l, 0 ≤ z ∧ z < 256) : U8s l := ⟨by omega, hb⟩
theorem qBegun7 (st : Dv.St) : callI Try.prog prims dx tbl 9 [] st = some (.fz (.bool true), st, []) := callI_prim (p := .yes) rfl rfl
theorem any_or {α : Type} (f : α → Bool) (a : α) (r : List α) (x : Bool) : (x || (a :: r).any f) = ((x || f a) || r.any f) := by
  rw [List.any_cons, Bool.or_assoc]
def PostY0 (d5 d6 d8 d9 : D) (jv : Nat) (x : Bool) (st : Dv.St) (r : Option DSt) : Prop := ∃ T' : Tm, T'.keep [5, 6, 8, 9, 10, 11] = [(5, d5), (6, d6), (8, d8), (9, d9), (10, .ptr jv 0), (11, .fz (.bool x))] ∧ r = some (.exit 2, T', st)
theorem loopY0 (d5 d8 d9 : D) (jv : Nat) (v : Ver) (hv : v.ats.length < 1000000) (l : List Box) (hl : l.length ≤ 16) (hn : ∀ b ∈ l, b.nots.length ≤ 100) (S : List (Bool × List D)) (L : List Nat) (c : Nat) (hS : S[jv]? = some (varV v)) : ∀ (r : List Box) (i : Nat) (iz : Int) (x : Bool), iz = i → l.drop i = r → i ≤ l.length →
    PostY0 d5 (.fz (.list (l.map encB))) d8 d9 jv (x || r.any fun b => letsB b v.ats v.tag) ⟨S, L, c⟩ (iterI (dCw Try.prog (callI Try.prog prims dx tbl) l5_0) [5, 6, 8, 9, 10, 11, 12] [(5, d5), (6, .fz (.list (l.map encB))), (8, d8), (9, d9), (10, .ptr jv 0), (11, .fz (.bool x)), (12, .fz (.int .i64 iz))] ⟨S, L, c⟩) := by
  intro r
  induction r with
  | nil =>
    intro i iz x hz hd hi
    have hi' := drop_nil hd hi
    subst hi' hz
    rw [x_iter]
    simp [u5_0]
    exact ⟨_, by simp [Tm.keep], rfl⟩
  | cons b r ih =>
    intro i iz x hz hd hi
    subst hz
    obtain ⟨hlt, hli, hd'⟩ := drop_cons hd
    have hb := hn b (by rw [← hli]; exact List.getElem_mem hlt)
    have hp := pLetsB b (by omega) v hv
    have c1 : -100000 ≤ (i : Int) + 1 ∧ (i : Int) + 1 ≤ 100000 := by omega
    have goal := ih (i + 1) ((i : Int) + 1) (x || letsB b v.ats v.tag) (by omega) hd' hlt
    rw [any_or]
    generalize letsB b v.ats v.tag = q at *
    simp only [varV, encV, List.map_cons, List.map_nil] at hS
    simp only [encB, encV] at hp
    rw [x_iter]
    cases x with
    | true =>
      simp at goal
      simp [u5_0, hlt, hli, wz _ c1]
      exact goal
    | false =>
      simp at goal
      simp [u5_0, hlt, hli, encB, hS, rLetsB, callR, hp, wz _ c1]
      exact goal
def madeV (l : List Int) (i : Nat) : Bool × List D := (true, [.fz (.list (l.map fun z => [.int .u8 z])), .fz (.int .i64 i)])
def PostY1 (r : Option DSt) : Prop := ∃ (T' : Tm) (st' : Dv.St), r = some (.exit 0, T', st')
theorem loopY1 (l2 : List Int) (h2 : U8s l2) (f : Flt) (hf : f.ok) (l : List Box) (hl : l.length ≤ 16) (hn : ∀ b ∈ l, b.nots.length ≤ 100) (he : ofB f false = some l) (x0 : Bool × List D) (L : List Nat) : ∀ (m k : Nat) (kz : Int) (i : Nat) (c : Nat) (R : List (Bool × List D)), k + m = 3 → kz = k → i ≤ l2.length →
    PostY1 (iterI (dCw Try.prog (callI Try.prog prims dx tbl) l5_1) [5, 6, 8, 9] [(5, .ptr 1 0), (6, .fz (.list (l.map encB))), (8, .ptr 2 0), (9, .fz (.int .i64 kz))] ⟨x0 :: varF f :: madeV l2 i :: R, L, c⟩) := by
  intro m
  induction m with
  | zero =>
    intro k kz i c R hm hz hi
    subst hz
    obtain rfl : k = 3 := by omega
    rw [x_iter]
    simp [u5_1]
    exact ⟨_, _, rfl⟩
  | succ m ih =>
    intro k kz i c R hm hz hi
    subst hz
    have hk : (k : Int) < 3 := by omega
    have c1 : -100000 ≤ (k : Int) + 1 ∧ (k : Int) + 1 ≤ 100000 := by omega
    obtain ⟨v, i1, b1, hv, e1⟩ := vVersion l2 h2 i hi
    have hvl : v.ats.length < 1000000 := by have := hv.ats; omega
    have s1 := (of_sem v.ats hv.vals v.tag f hf false l he).2.2
    have hp := pLets v hvl f hf
    obtain ⟨T1, k1, j1⟩ := loopY0 (.ptr 1 0) (.ptr 2 0) (.fz (.int .i64 k)) (R.length + 1 + 1 + 1) v hvl l hl hn (x0 :: varF f :: madeV l2 i1 :: (R ++ [varV v])) L c (by simp) l 0 0 false rfl rfl (Nat.zero_le _)
    rw [Bool.false_or, s1] at k1
    have goal := ih (k + 1) ((k : Int) + 1) i1 c (R ++ [varV v]) (by omega) (by omega) b1
    generalize lets f v.ats v.tag = q at *
    obtain ⟨x1, x2, x3, x4, x5, x6, hx⟩ := encF_eq f
    simp only [varF, madeV, varV, encV, hx, List.map_cons, List.map_nil] at goal j1 hp e1 ⊢
    rw [x_iter]
    have q1 := g1a R (true, [D.fz (F.int IntKind.i64 v.item), D.fz (F.int IntKind.i64 v.a), D.fz (F.int IntKind.i64 v.b), D.fz (F.int IntKind.i64 v.c), D.fz (F.bool v.dead), D.fz (F.list (v.ats.map encA)), D.fz (F.str v.tag), D.fz (F.str v.body)])
    cases q
    · simp at k1
      simp [u5_1, x_vars, varsOf, varsK, varsK_ite, finals, callVars, splitV, contents, updV, orC, hk, rVersion, e1, g1a, s1a, mapI, mapI2, j1, k1, rLets, callR, hp, wz _ c1]
      exact goal
    · simp at k1
      simp [u5_1, x_vars, varsOf, varsK, varsK_ite, finals, callVars, splitV, contents, updV, orC, hk, rVersion, e1, g1a, s1a, mapI, mapI2, j1, k1, rLets, callR, hp, wz _ c1]
      exact goal
theorem few_getD {f : Flt} (hf : f.ok) (hn : leaves f ≤ 100) (t : Bool) : ((ofB f t).getD []).length ≤ 16 ∧ ∀ x ∈ (ofB f t).getD [], x.nots.length ≤ 100 := by
  cases h : ofB f t with
  | none => simp
  | some l =>
    obtain ⟨h1, h2⟩ := few_of hf h
    exact ⟨h1, fun x hx => by have := h2 x hx; omega⟩
theorem pNormTrue (l1 : List Int) (h1 : l1.length ≤ maxLen) (hb1 : ∀ z ∈ l1, 0 ≤ z ∧ z < 256) (l2 : List Int) (h2 : l2.length ≤ maxLen) (hb2 : ∀ z ∈ l2, 0 ≤ z ∧ z < 256) :
    pureI Try.prog prims dx tbl 5 [.list (l1.map fun z => [.int .u8 z]), .list (l2.map fun z => [.int .u8 z])] = some (.bool true) := by
  rw [pureI_of (rfl : tbl 5 = some c5)]
  by_cases g1 : 50 < l1.length
  · simp [c5, qBegun7, show (50 : Int) < l1.length by omega]
  by_cases g2 : 60 < l2.length
  · simp [c5, qBegun7, show ¬ (50 : Int) < l1.length by omega, show (60 : Int) < l2.length by omega]
  have e1' : ¬ (50 : Int) < l1.length := by omega
  have e2' : ¬ (60 : Int) < l2.length := by omega
  have m1 := vMade l1
  have m2 := vMade l2
  obtain ⟨f, i0, _, ⟨hf, hn⟩, e0⟩ := vFilter l1 (u8s_of (by omega) hb1) 4 4 0 rfl (by omega) (Nat.zero_le _)
  have hn' : leaves f ≤ 100 := by have : (2 : Nat) ^ 4 = 16 := rfl; omega
  have a1 := pOF f hf hn'
  cases h5 : ofB f false with
  | none =>
    simp only [h5, encO, Option.getD_none, Option.isSome_none] at a1
    obtain ⟨x1, x2, x3, x4, x5, x6, hx⟩ := encF_eq f
    simp only [hx] at e0 a1
    simp at e0
    simp [c5, x_vars, varsOf, varsK, varsK_ite, finals, callVars, splitV, contents, updV, orC, qBegun7, e1', e2', rMade, m1, m2, rFilter, e0, rOF, callR, a1, freshQ]
  | some l =>
    obtain ⟨q1, q2⟩ := few_of hf h5
    have q3 : ¬ (16 : Int) < l.length := by omega
    have q3' : ¬ 16 < l.length := by omega
    obtain ⟨T1, st1, j1⟩ := loopY1 l2 (u8s_of (by omega) hb2) f hf l q1 (fun b hb => by have := q2 b hb; omega) h5 (madeV l1 i0) [] 3 0 0 0 0 [] rfl rfl (Nat.zero_le _)
    simp only [h5, encO, Option.getD_some, Option.isSome_some] at a1
    obtain ⟨x1, x2, x3, x4, x5, x6, hx⟩ := encF_eq f
    simp only [madeV, varF, hx, List.map_cons, List.map_nil, Int.ofNat_zero, Int.natCast_zero] at e0 a1 j1
    simp [c5, x_vars, varsOf, varsK, varsK_ite, finals, callVars, splitV, contents, updV, orC, qBegun7, e1', e2', rMade, m1, m2, rFilter, e0, rOF, callR, a1, freshQ, q3, q3', j1]
end Go.Proofs.Ytiloimenibbeoaa.Pl
