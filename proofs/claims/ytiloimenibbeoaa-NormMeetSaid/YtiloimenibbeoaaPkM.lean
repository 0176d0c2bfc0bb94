/-
  What is proved here: numbers, read one by one.
  Conditions: none.
-/
import Derived.Test.YtiloimenibbeoaaCdM
set_option linter.unusedVariables false
set_option linter.unusedSimpArgs false
set_option maxRecDepth 100000
set_option maxHeartbeats 4000000
namespace Go.Proofs.Ytiloimenibbeoaa.Pl
open Go Go.Proofs Go.Proofs.Ev Go.Proofs.Dv Cd
attribute [local simp] x_pure x_skip x_reg x_drw x_seq x_cond x_block x_frz x_loop' Tm.keep_nil x_exit x_ret k_seq k_seq_ret k_seq_exit k_seq_none k_seq_ite k_cond k_block k_block_ret k_block_exit k_block_none k_block_ite k_iter k_iter_ret k_iter_exit k_iter_none k_iter_ite k_reg k_reg_none k_reg_ite x_is_nil x_is x_is_g k_ins k_ins_none k_ins_ite k_grd x_ord_nil x_ord x_ord_g k_ord k_ord_none k_ord_ite k_ogrd k_out_ret k_out k_out_none k_out_ite k_pure k_pure_none k_pure_ite startD dI dA deo Tm.at Tm.dst Tm.set Tm.put Tm.keep dW dRes oneOfD mkTup mkAgg mkFn allF frL fr vD vD1 vF vFL dBin dEq dNil isNilD dScal F.cv eBin sameKind eInt eStr cellsD oneD F.one dFill putAtD chunk dbnd dSrc St.own St.drop St.still St.fresh chkQ stillQ freshQ lOf rdOf rdOK undefD F.full F.fullL List.mapIdx_cons strip allOne_nil allOne_cons allOne_append allLen_nil allLen_cons allLen_append roomOK_small filterT y_mv y_pick y_new y_box y_build y_bslice y_ld1 y_ldn y_nilchk y_bin y_not y_conv y_bytes y_string y_ifc y_fn y_cut y_cuts y_fa y_fld y_ia y_idx y_idxs y_ext y_len y_lenstr y_app y_grow y_mks y_slow y_call y_callv y_inv y_extc x_it_st x_it_clr x_it_cpy k_addT k_addT_none k_addT_ite k_orU k_orU_none dU D.turn turnL Tm.turn turnS St.turn turnRows_length

/-- Numbers that came in. -/
def U8s (l : List Int) : Prop := l.length < 4611686018427387904 ∧ ∀ z ∈ l, 0 ≤ z ∧ z < 256

def numV (l : List Int) (i : Nat) (m : Int) : Int := if i < l.length ∧ 1 ≤ m then (l.getD i 0) % m else 0
def numI (l : List Int) (i : Nat) (m : Int) : Nat := if i < l.length ∧ 1 ≤ m then i + 1 else i
theorem vNum0 (l : List Int) (hl : U8s l) (i : Nat) (hi : i ≤ l.length) (m : Int) : varsI Try.prog prims dx tbl 24 [.ptr 0 0, .fz (.int .i64 m)] [[.list (l.map fun z => [.int .u8 z]), .int .i64 i]] = some (.val (.int .i64 (numV l i m)), [[.list (l.map fun z => [.int .u8 z]), .int .i64 (numI l i m)]]) := by
  obtain ⟨hl, hb⟩ := hl
  rw [varsI_of (rfl : tbl 24 = some c24)]
  by_cases h1 : i < l.length
  · by_cases h2 : 1 ≤ m
    · have hz := hb l[i] (List.getElem_mem h1)
      have w1 : wrapF .i64 ((i : Int) + 1) = (i : Int) + 1 := wrap_id _ (by omega) (by omega)
      have w2 : wrapF .i64 (i : Int) = (i : Int) := wrap_id _ (by omega) (by omega)
      have w3 : wrapF .i64 (l[i]'h1) = l[i]'h1 := wrap_id _ (by omega) (by omega)
      have hm : (l[i]'h1).tmod m = (l[i]'h1) % m := Int.tmod_eq_emod_of_nonneg hz.1
      simp [c24, x_vars, varsOf, varsK, varsK_ite, finals, callVars, splitV, contents, updV, orC, h1, h2, numV, numI, w1, w2, w3, hm, show ¬ m < 1 by omega, show ¬ (l.length : Int) ≤ i by omega, show ¬ m = 0 by omega]
    · simp [c24, x_vars, varsOf, varsK, varsK_ite, finals, callVars, splitV, contents, updV, orC, h1, h2, numV, numI, show m < 1 by omega, show ¬ (l.length : Int) ≤ i by omega]
  · simp [c24, x_vars, varsOf, varsK, varsK_ite, finals, callVars, splitV, contents, updV, orC, h1, numV, numI, show (l.length : Int) ≤ i by omega, show l.length ≤ i by omega]
theorem vNum (l : List Int) (hl : U8s l) (i : Nat) (hi : i ≤ l.length) (m : Int) : ∃ (n : Int) (i' : Nat), i' ≤ l.length ∧ (0 < m → 0 ≤ n ∧ n < m) ∧ (m ≤ 0 → n = 0) ∧
    varsI Try.prog prims dx tbl 24 [.ptr 0 0, .fz (.int .i64 m)] [[.list (l.map fun z => [.int .u8 z]), .int .i64 i]] = some (.val (.int .i64 n), [[.list (l.map fun z => [.int .u8 z]), .int .i64 i']]) := by
  refine ⟨numV l i m, numI l i m, ?_, ?_, ?_, vNum0 l hl i hi m⟩
  · unfold numI; split <;> omega
  · intro hm
    unfold numV
    split
    · exact ⟨Int.emod_nonneg _ (by omega), Int.emod_lt_of_pos _ hm⟩
    · omega
  · intro hm
    unfold numV
    rw [if_neg (by omega)]
theorem rNum (ds : List D) (st : Dv.St) : callI Try.prog prims dx tbl 24 ds st = orC (callVars (varsI Try.prog prims dx tbl 24) ds st) (callI0 Try.prog prims dx tbl 24 ds st) := callRwV rfl rfl (rfl : tbl 24 = some c24) rfl ds st

theorem vStamp (l : List Int) (hl : U8s l) (i : Nat) (hi : i ≤ l.length) : ∃ (a b c : Int) (i' : Nat), i' ≤ l.length ∧ (1 ≤ a ∧ a ≤ 9 ∧ 1 ≤ b ∧ b ≤ 3 ∧ 1 ≤ c ∧ c ≤ a) ∧
    varsI Try.prog prims dx tbl 27 [.ptr 0 0] [[.list (l.map fun z => [.int .u8 z]), .int .i64 i]] = some (.val (.agg [.int .i64 a, .int .i64 b, .int .i64 c]), [[.list (l.map fun z => [.int .u8 z]), .int .i64 i']]) := by
  obtain ⟨n1, i1, b1, m1, _, e1⟩ := vNum l hl i hi 9
  obtain ⟨n2, i2, b2, m2, _, e2⟩ := vNum l hl i1 b1 3
  obtain ⟨n3, i3, b3, m3, _, e3⟩ := vNum l hl i2 b2 (1 + n1)
  have m1 := m1 (by omega)
  have m2 := m2 (by omega)
  have m3 := m3 (by omega)
  have w1 : wrapF .i64 (1 + n1) = 1 + n1 := wrap_id _ (by omega) (by omega)
  have w2 : wrapF .i64 (1 + n2) = 1 + n2 := wrap_id _ (by omega) (by omega)
  have w3 : wrapF .i64 (1 + n3) = 1 + n3 := wrap_id _ (by omega) (by omega)
  refine ⟨1 + n1, 1 + n2, 1 + n3, i3, b3, by omega, ?_⟩
  rw [varsI_of (rfl : tbl 27 = some c27)]
  simp [c27, x_vars, varsOf, varsK, varsK_ite, finals, callVars, splitV, contents, updV, orC, rNum, e1, e2, e3, w1, w2, w3]
theorem rStamp (ds : List D) (st : Dv.St) : callI Try.prog prims dx tbl 27 ds st = orC (callVars (varsI Try.prog prims dx tbl 27) ds st) (callI0 Try.prog prims dx tbl 27 ds st) := callRwV rfl rfl (rfl : tbl 27 = some c27) rfl ds st

theorem vMade (l : List Int) : varsI Try.prog prims dx tbl 10 [.fz (.list (l.map fun z => [.int .u8 z]))] [] = some (.var [.list (l.map fun z => [.int .u8 z]), .int .i64 0], []) := by
  rw [varsI_of (rfl : tbl 10 = some c10)]
  simp [c10, x_vars, varsOf, varsK, varsK_ite, finals, callVars, splitV, contents, updV, orC]
theorem rMade (ds : List D) (st : Dv.St) : callI Try.prog prims dx tbl 10 ds st = orC (callVars (varsI Try.prog prims dx tbl 10) ds st) (callI0 Try.prog prims dx tbl 10 ds st) := callRwV rfl rfl (rfl : tbl 10 = some c10) rfl ds st

end Go.Proofs.Ytiloimenibbeoaa.Pl
