/-
  What is proved here: which stamps may be, and which is the next one.
  Conditions: none.
-/
import Derived.Test.YtpinhopgeaamdaaPl
import Derived.Test.YtpinhopgeaamdaaDv3
set_option linter.unusedVariables false
set_option linter.unusedSimpArgs false
set_option maxRecDepth 100000
set_option maxHeartbeats 2000000
namespace Go.Proofs.Ytpinhopgeaamdaa.Pl
open Go Go.Proofs Go.Proofs.Ev Go.Proofs.Dv Cd
def errF (s : List UInt8) : F := .ifc 139 (.agg [.str s, .ifc 79 (.agg [])])
theorem p70 (of : List UInt8) (n most : Int) : pureI Try.prog noPrims dx tbl 70 [.str of, .int .i64 n, .int .i64 most] = some (if 1 ≤ n ∧ n ≤ most then .nilifc else errF of) := by
  rw [pureI_of (rfl : tbl 70 = some c70)]
  by_cases h1 : n < 1
  · simp [c70, x_pure, x_skip, x_reg, x_drw, x_seq, x_cond, x_block, x_loop', Tm.keep_nil, x_exit, x_ret, k_seq, k_seq_ret, k_seq_exit, k_seq_none, k_seq_ite, k_cond, k_block, k_block_ret, k_block_exit, k_block_none, k_block_ite, k_iter, k_iter_ret, k_iter_exit, k_iter_none, k_iter_ite, k_reg, k_reg_none, k_reg_ite, x_is_nil, x_is, x_is_g, k_ins, k_ins_none, k_ins_ite, k_grd, x_ord_nil, x_ord, x_ord_g, k_ord, k_ord_none, k_ord_ite, k_ogrd, k_out_ret, k_out, k_out_none, k_out_ite, k_pure, k_pure_none, k_pure_ite, startD, dI, dA, deo, Tm.at, Tm.dst, Tm.set, Tm.put, Tm.keep, dW, dRes, oneOfD, mkTup, mkAgg, mkFn, allF, frL, fr, vD, vD1, vF, vFL, dBin, dEq, dNil, isNilD, dScal, F.cv, eBin, sameKind, eInt, eStr, cellsD, oneD, F.one, dFill, putAtD, chunk, dbnd, allLen, allOne, dSrc, roomOK, St.own, St.drop, St.still, St.fresh, chkQ, stillQ, freshQ, lOf, rdOf, rdOK, undefD, F.full, F.fullL, List.mapIdx_cons, strip, errF, h1, show ¬ (1 ≤ n ∧ n ≤ most) by omega]
  · by_cases h2 : most < n
    · simp [c70, x_pure, x_skip, x_reg, x_drw, x_seq, x_cond, x_block, x_loop', Tm.keep_nil, x_exit, x_ret, k_seq, k_seq_ret, k_seq_exit, k_seq_none, k_seq_ite, k_cond, k_block, k_block_ret, k_block_exit, k_block_none, k_block_ite, k_iter, k_iter_ret, k_iter_exit, k_iter_none, k_iter_ite, k_reg, k_reg_none, k_reg_ite, x_is_nil, x_is, x_is_g, k_ins, k_ins_none, k_ins_ite, k_grd, x_ord_nil, x_ord, x_ord_g, k_ord, k_ord_none, k_ord_ite, k_ogrd, k_out_ret, k_out, k_out_none, k_out_ite, k_pure, k_pure_none, k_pure_ite, startD, dI, dA, deo, Tm.at, Tm.dst, Tm.set, Tm.put, Tm.keep, dW, dRes, oneOfD, mkTup, mkAgg, mkFn, allF, frL, fr, vD, vD1, vF, vFL, dBin, dEq, dNil, isNilD, dScal, F.cv, eBin, sameKind, eInt, eStr, cellsD, oneD, F.one, dFill, putAtD, chunk, dbnd, allLen, allOne, dSrc, roomOK, St.own, St.drop, St.still, St.fresh, chkQ, stillQ, freshQ, lOf, rdOf, rdOK, undefD, F.full, F.fullL, List.mapIdx_cons, strip, errF, h1, h2, show ¬ (1 ≤ n ∧ n ≤ most) by omega]
    · simp [c70, x_pure, x_skip, x_reg, x_drw, x_seq, x_cond, x_block, x_loop', Tm.keep_nil, x_exit, x_ret, k_seq, k_seq_ret, k_seq_exit, k_seq_none, k_seq_ite, k_cond, k_block, k_block_ret, k_block_exit, k_block_none, k_block_ite, k_iter, k_iter_ret, k_iter_exit, k_iter_none, k_iter_ite, k_reg, k_reg_none, k_reg_ite, x_is_nil, x_is, x_is_g, k_ins, k_ins_none, k_ins_ite, k_grd, x_ord_nil, x_ord, x_ord_g, k_ord, k_ord_none, k_ord_ite, k_ogrd, k_out_ret, k_out, k_out_none, k_out_ite, k_pure, k_pure_none, k_pure_ite, startD, dI, dA, deo, Tm.at, Tm.dst, Tm.set, Tm.put, Tm.keep, dW, dRes, oneOfD, mkTup, mkAgg, mkFn, allF, frL, fr, vD, vD1, vF, vFL, dBin, dEq, dNil, isNilD, dScal, F.cv, eBin, sameKind, eInt, eStr, cellsD, oneD, F.one, dFill, putAtD, chunk, dbnd, allLen, allOne, dSrc, roomOK, St.own, St.drop, St.still, St.fresh, chkQ, stillQ, freshQ, lOf, rdOf, rdOK, undefD, F.full, F.fullL, List.mapIdx_cons, strip, errF, h1, h2, show (1 ≤ n ∧ n ≤ most) by omega]
def eL (p : Bool) : F := if p then .nilifc else errF [116, 105, 109, 101]
def eR (p : Bool) : F := if p then .nilifc else errF [114, 101, 112, 108, 105, 99, 97]
def eN (p : Bool) : F := if p then .nilifc else errF [110, 117, 109, 98, 101, 114]
noncomputable def joined (p q r : Bool) : F := (onSpot Try.prog noPrims dx tbl 60 69 [.list [[eL p], [eR q], [eN r]]]).getD .nilifc
theorem p69 (p q r : Bool) : pureI Try.prog noPrims dx tbl 69 [.list [[eL p], [eR q], [eN r]]] = some (joined p q r) := by
  refine pureI_spot 60 ?_
  cases p <;> cases q <;> cases r <;> kernel_rfl
theorem p40 (p q r : Bool) : pureI Try.prog noPrims dx tbl 40 [joined p q r, .ifc 79 (.agg [])] = some (.bool (!(p && q && r))) := by
  refine pureI_spot 60 ?_
  cases p <;> cases q <;> cases r <;> kernel_rfl
/-- The least of a register and a number that is told. -/
def minc (o : Oper) : Option (Nat × Int) := match o.op with
  | .call c => match c.callee, c.args.toList with
    | .builtin .min, [.tmp i, .const (.int .i64 z)] => some (i, z)
    | _, _ => none
  | _ => none
def mincD (d : D) (z : Int) (r : Option D) : Option D := match d with
  | .fz (.int .i64 a) => some (.fz (.int .i64 (if z < a then z else a)))
  | _ => r
theorem slow_minc {P : Program} {o : Oper} {i : Nat} {z : Int} (h : minc o = some (i, z)) (T : Tm) : dSlowX P T o = mincD (T.at i) z (mmRest P T o) := by
  unfold mincD
  split
  · rename_i a hi
    unfold minc at h
    split at h
    · rename_i c hc
      obtain ⟨cal, args, ats⟩ := c
      have two : ∀ {x y : Operand}, args.toList = [x, y] → args = #[x, y] := fun h => by
        cases args; simp at h; subst h; rfl
      split at h
      · rename_i i' z' h1 h2
        cases h
        simp only at h1 h2
        subst h1
        have ha := two h2
        subst ha
        have : dSlow P T o = some (.fz (.int .i64 (if z < a then z else a))) := by
          have hop : o.op.operands = #[.tmp i, .const (.int .i64 z)] := by rw [hc]; rfl
          have hrun : pureRun P (execOp (fun x => (concO (dEnv T) x).getD undef) o) = some (.value (.int .i64 (if z < a then z else a))) := by
            simp [execOp, hc, resolve, invoke, builtin, Builtin.min_, Builtin.min2, concO, dEnv, hi, D.full, F.full, conc, absN]
            rfl
          have hp : pureOp P (dEnv T) o = some (.int .i64 (if z < a then z else a)) := by
            simp only [pureOp, hop, hrun]
            simp [hc, isSelect, concO, dEnv, hi, D.full, F.full, conc, absN]
          have he : evA P (dEnv T) o [] = some (.int .i64 (if z < a then z else a), []) := by
            simp [evA, hc, evBuiltin, hp, keep]
          simp only [dSlow, hop, he]
          simp [dEnv, hi, D.full, F.full, toD, vF, absN]
        simp only [dSlowX, this]
      · cases h
    · cases h
  · rfl
theorem m12 : minc (operAt Try.prog 41 12) = some (12, 1000) := by kernel_rfl
theorem r70 (ds : List D) (st : Dv.St) : callI Try.prog noPrims dx tbl 70 ds st = callR Try.prog noPrims dx tbl 70 ds st (frL (fr st 6) ds) := callRw rfl rfl (rfl : tbl 70 = some c70) rfl ds st
theorem r69 (ds : List D) (st : Dv.St) : callI Try.prog noPrims dx tbl 69 ds st = callR Try.prog noPrims dx tbl 69 ds st (frL (fr st 6) ds) := callRw rfl rfl (rfl : tbl 69 = some c69) rfl ds st
theorem r40 (ds : List D) (st : Dv.St) : callI Try.prog noPrims dx tbl 40 ds st = callR Try.prog noPrims dx tbl 40 ds st (frL (fr st 6) ds) := callRw rfl rfl (rfl : tbl 40 = some c40) rfl ds st
theorem r41 (ds : List D) (st : Dv.St) : callI Try.prog noPrims dx tbl 41 ds st = callR Try.prog noPrims dx tbl 41 ds st (frL (fr st 6) ds) := callRw rfl rfl (rfl : tbl 41 = some c41) rfl ds st
theorem r19 (ds : List D) (st : Dv.St) : callI Try.prog noPrims dx tbl 19 ds st = callR Try.prog noPrims dx tbl 19 ds st (frL (fr st 6) ds) := callRw rfl rfl (rfl : tbl 19 = some c19) rfl ds st
theorem r17 (ds : List D) (st : Dv.St) : callI Try.prog noPrims dx tbl 17 ds st = callR Try.prog noPrims dx tbl 17 ds st (frL (fr st 6) ds) := callRw rfl rfl (rfl : tbl 17 = some c17) rfl ds st
theorem p70L (n : Int) : pureI Try.prog noPrims dx tbl 70 [.str [116, 105, 109, 101], .int .i64 n, .int .i64 5000] = some (eL (decide (1 ≤ n ∧ n ≤ 5000))) := by
  rw [p70]; simp only [eL, decide_eq_true_eq]
theorem p70R (n : Int) : pureI Try.prog noPrims dx tbl 70 [.str [114, 101, 112, 108, 105, 99, 97], .int .i64 n, .int .i64 5] = some (eR (decide (1 ≤ n ∧ n ≤ 5))) := by
  rw [p70]; simp only [eR, decide_eq_true_eq]
theorem p70N (n m : Int) : pureI Try.prog noPrims dx tbl 70 [.str [110, 117, 109, 98, 101, 114], .int .i64 n, .int .i64 m] = some (eN (decide (1 ≤ n ∧ n ≤ m))) := by
  rw [p70]; simp only [eN, decide_eq_true_eq]
theorem fullL (p : Bool) : (eL p).full.isSome = true := by cases p <;> rfl
theorem fullR (p : Bool) : (eR p).full.isSome = true := by cases p <;> rfl
theorem fullN (p : Bool) : (eN p).full.isSome = true := by cases p <;> rfl
def mayB (l r n : Int) : Bool := decide (1 ≤ l ∧ l ≤ 5000) && decide (1 ≤ r ∧ r ≤ 5) && decide (1 ≤ n ∧ n ≤ if 1000 < l then 1000 else l)
theorem p41 (l r n : Int) : pureI Try.prog noPrims dx tbl 41 [.agg [.int .i64 l, .int .i64 r, .int .i64 n]] = some (joined (decide (1 ≤ l ∧ l ≤ 5000)) (decide (1 ≤ r ∧ r ≤ 5)) (decide (1 ≤ n ∧ n ≤ if 1000 < l then 1000 else l))) := by
  rw [pureI_of (rfl : tbl 41 = some c41)]
  have hL := p70L l
  have hR := p70R r
  have hN := p70N n (if 1000 < l then 1000 else l)
  generalize decide (1 ≤ l ∧ l ≤ 5000) = P at hL ⊢
  generalize decide (1 ≤ r ∧ r ≤ 5) = Q at hR ⊢
  generalize decide (1 ≤ n ∧ n ≤ if 1000 < l then 1000 else l) = R at hN ⊢
  have hJ := p69 P Q R
  by_cases hj : (joined P Q R).full.isSome = true
  all_goals
    generalize joined P Q R = J at hj hJ ⊢
    cases P <;> cases Q <;> cases R <;> simp [eL, eR, eN, errF] at hL hR hN hJ <;>
      simp [c41, x_pure, x_skip, x_reg, x_drw, x_seq, x_cond, x_block, x_loop', Tm.keep_nil, x_exit, x_ret, k_seq, k_seq_ret, k_seq_exit, k_seq_none, k_seq_ite, k_cond, k_block, k_block_ret, k_block_exit, k_block_none, k_block_ite, k_iter, k_iter_ret, k_iter_exit, k_iter_none, k_iter_ite, k_reg, k_reg_none, k_reg_ite, x_is_nil, x_is, x_is_g, k_ins, k_ins_none, k_ins_ite, k_grd, x_ord_nil, x_ord, x_ord_g, k_ord, k_ord_none, k_ord_ite, k_ogrd, k_out_ret, k_out, k_out_none, k_out_ite, k_pure, k_pure_none, k_pure_ite, startD, dI, dA, deo, Tm.at, Tm.dst, Tm.set, Tm.put, Tm.keep, dW, dRes, oneOfD, mkTup, mkAgg, mkFn, allF, frL, fr, vD, vD1, vF, vFL, dBin, dEq, dNil, isNilD, dScal, F.cv, eBin, sameKind, eInt, eStr, cellsD, oneD, F.one, dFill, putAtD, chunk, dbnd, allLen, allOne, dSrc, roomOK, St.own, St.drop, St.still, St.fresh, chkQ, stillQ, freshQ, lOf, rdOf, rdOK, undefD, F.full, F.fullL, List.mapIdx_cons, strip, r70, r69, callR, hL, hR, hN, hJ, slow_minc m12, mincD, hj]
theorem p19 (l r n : Int) : pureI Try.prog noPrims dx tbl 19 [.agg [.int .i64 l, .int .i64 r, .int .i64 n]] = some (.bool (mayB l r n)) := by
  rw [pureI_of (rfl : tbl 19 = some c19)]
  have hC := p41 l r n
  have hI := p40 (decide (1 ≤ l ∧ l ≤ 5000)) (decide (1 ≤ r ∧ r ≤ 5)) (decide (1 ≤ n ∧ n ≤ if 1000 < l then 1000 else l))
  have hM : mayB l r n = (decide (1 ≤ l ∧ l ≤ 5000) && decide (1 ≤ r ∧ r ≤ 5) && decide (1 ≤ n ∧ n ≤ if 1000 < l then 1000 else l)) := rfl
  rw [hM]
  generalize decide (1 ≤ l ∧ l ≤ 5000) = P at hC hI ⊢
  generalize decide (1 ≤ r ∧ r ≤ 5) = Q at hC hI ⊢
  generalize decide (1 ≤ n ∧ n ≤ if 1000 < l then 1000 else l) = R at hC hI ⊢
  generalize joined P Q R = J at hC hI
  by_cases hj : J.full.isSome = true
  all_goals
    simp [c19, x_pure, x_skip, x_reg, x_drw, x_seq, x_cond, x_block, x_loop', Tm.keep_nil, x_exit, x_ret, k_seq, k_seq_ret, k_seq_exit, k_seq_none, k_seq_ite, k_cond, k_block, k_block_ret, k_block_exit, k_block_none, k_block_ite, k_iter, k_iter_ret, k_iter_exit, k_iter_none, k_iter_ite, k_reg, k_reg_none, k_reg_ite, x_is_nil, x_is, x_is_g, k_ins, k_ins_none, k_ins_ite, k_grd, x_ord_nil, x_ord, x_ord_g, k_ord, k_ord_none, k_ord_ite, k_ogrd, k_out_ret, k_out, k_out_none, k_out_ite, k_pure, k_pure_none, k_pure_ite, startD, dI, dA, deo, Tm.at, Tm.dst, Tm.set, Tm.put, Tm.keep, dW, dRes, oneOfD, mkTup, mkAgg, mkFn, allF, frL, fr, vD, vD1, vF, vFL, dBin, dEq, dNil, isNilD, dScal, F.cv, eBin, sameKind, eInt, eStr, cellsD, oneD, F.one, dFill, putAtD, chunk, dbnd, allLen, allOne, dSrc, roomOK, St.own, St.drop, St.still, St.fresh, chkQ, stillQ, freshQ, lOf, rdOf, rdOK, undefD, F.full, F.fullL, List.mapIdx_cons, strip, r41, r40, callR, hC, hI, hj]
theorem p17 (l r n : Int) : pureI Try.prog noPrims dx tbl 17 [.int .i64 l, .int .i64 r, .int .i64 n] = some (if l < 5000 ∧ n < 1000 ∧ mayB (wrapF .i64 (l + 1)) r (wrapF .i64 (n + 1)) = true then .tup [.agg [.int .i64 (wrapF .i64 (l + 1)), .int .i64 r, .int .i64 (wrapF .i64 (n + 1))], .bool true] else .tup [.agg [.int .i64 0, .int .i64 0, .int .i64 0], .bool false]) := by
  rw [pureI_of (rfl : tbl 17 = some c17)]
  by_cases h1 : l < 5000
  · by_cases h2 : n < 1000
    · cases hm : mayB (wrapF .i64 (l + 1)) r (wrapF .i64 (n + 1)) <;>
        simp [c17, x_pure, x_skip, x_reg, x_drw, x_seq, x_cond, x_block, x_loop', Tm.keep_nil, x_exit, x_ret, k_seq, k_seq_ret, k_seq_exit, k_seq_none, k_seq_ite, k_cond, k_block, k_block_ret, k_block_exit, k_block_none, k_block_ite, k_iter, k_iter_ret, k_iter_exit, k_iter_none, k_iter_ite, k_reg, k_reg_none, k_reg_ite, x_is_nil, x_is, x_is_g, k_ins, k_ins_none, k_ins_ite, k_grd, x_ord_nil, x_ord, x_ord_g, k_ord, k_ord_none, k_ord_ite, k_ogrd, k_out_ret, k_out, k_out_none, k_out_ite, k_pure, k_pure_none, k_pure_ite, startD, dI, dA, deo, Tm.at, Tm.dst, Tm.set, Tm.put, Tm.keep, dW, dRes, oneOfD, mkTup, mkAgg, mkFn, allF, frL, fr, vD, vD1, vF, vFL, dBin, dEq, dNil, isNilD, dScal, F.cv, eBin, sameKind, eInt, eStr, cellsD, oneD, F.one, dFill, putAtD, chunk, dbnd, allLen, allOne, dSrc, roomOK, St.own, St.drop, St.still, St.fresh, chkQ, stillQ, freshQ, lOf, rdOf, rdOK, undefD, F.full, F.fullL, List.mapIdx_cons, strip, r19, callR, p19, h1, h2, hm, show ¬ (5000 ≤ l) by omega, show ¬ (1000 ≤ n) by omega]
    · simp [c17, x_pure, x_skip, x_reg, x_drw, x_seq, x_cond, x_block, x_loop', Tm.keep_nil, x_exit, x_ret, k_seq, k_seq_ret, k_seq_exit, k_seq_none, k_seq_ite, k_cond, k_block, k_block_ret, k_block_exit, k_block_none, k_block_ite, k_iter, k_iter_ret, k_iter_exit, k_iter_none, k_iter_ite, k_reg, k_reg_none, k_reg_ite, x_is_nil, x_is, x_is_g, k_ins, k_ins_none, k_ins_ite, k_grd, x_ord_nil, x_ord, x_ord_g, k_ord, k_ord_none, k_ord_ite, k_ogrd, k_out_ret, k_out, k_out_none, k_out_ite, k_pure, k_pure_none, k_pure_ite, startD, dI, dA, deo, Tm.at, Tm.dst, Tm.set, Tm.put, Tm.keep, dW, dRes, oneOfD, mkTup, mkAgg, mkFn, allF, frL, fr, vD, vD1, vF, vFL, dBin, dEq, dNil, isNilD, dScal, F.cv, eBin, sameKind, eInt, eStr, cellsD, oneD, F.one, dFill, putAtD, chunk, dbnd, allLen, allOne, dSrc, roomOK, St.own, St.drop, St.still, St.fresh, chkQ, stillQ, freshQ, lOf, rdOf, rdOK, undefD, F.full, F.fullL, List.mapIdx_cons, strip, r19, callR, p19, h1, h2, show ¬ (5000 ≤ l) by omega, show (1000 ≤ n) by omega]
  · simp [c17, x_pure, x_skip, x_reg, x_drw, x_seq, x_cond, x_block, x_loop', Tm.keep_nil, x_exit, x_ret, k_seq, k_seq_ret, k_seq_exit, k_seq_none, k_seq_ite, k_cond, k_block, k_block_ret, k_block_exit, k_block_none, k_block_ite, k_iter, k_iter_ret, k_iter_exit, k_iter_none, k_iter_ite, k_reg, k_reg_none, k_reg_ite, x_is_nil, x_is, x_is_g, k_ins, k_ins_none, k_ins_ite, k_grd, x_ord_nil, x_ord, x_ord_g, k_ord, k_ord_none, k_ord_ite, k_ogrd, k_out_ret, k_out, k_out_none, k_out_ite, k_pure, k_pure_none, k_pure_ite, startD, dI, dA, deo, Tm.at, Tm.dst, Tm.set, Tm.put, Tm.keep, dW, dRes, oneOfD, mkTup, mkAgg, mkFn, allF, frL, fr, vD, vD1, vF, vFL, dBin, dEq, dNil, isNilD, dScal, F.cv, eBin, sameKind, eInt, eStr, cellsD, oneD, F.one, dFill, putAtD, chunk, dbnd, allLen, allOne, dSrc, roomOK, St.own, St.drop, St.still, St.fresh, chkQ, stillQ, freshQ, lOf, rdOf, rdOK, undefD, F.full, F.fullL, List.mapIdx_cons, strip, r19, callR, p19, h1, show (5000 ≤ l) by omega]
theorem e19 : eqS (operAt Try.prog 5 19) = some (22, 23) := by kernel_rfl
theorem wf_i64 {n : Int} (h : (Lit.int .i64 n).wf = true) : -9223372036854775808 ≤ n ∧ n ≤ 9223372036854775807 := by
  simp [Lit.wf, IntKind.min, IntKind.max, IntKind.bits, IntKind.signed] at h
  omega
theorem p5 (l : Int) (hl : (Lit.int .i64 l).wf = true) (r : Int) (hr : (Lit.int .i64 r).wf = true) (n : Int) (hn : (Lit.int .i64 n).wf = true) (a1 a2 a3 : Int) : pureI Try.prog noPrims dx tbl 5 [.int .i64 l, .int .i64 r, .int .i64 n, .agg [.int .i64 a1, .int .i64 a2, .int .i64 a3]] = some (.bool true) := by
  rw [pureI_of (rfl : tbl 5 = some c5)]
  have bl := wf_i64 hl
  have bn := wf_i64 hn
  have hC := p17 l r n
  by_cases hc : l < 5000 ∧ n < 1000 ∧ mayB (wrapF .i64 (l + 1)) r (wrapF .i64 (n + 1)) = true
  · rw [if_pos hc] at hC
    have w1 : wrapF .i64 (l + 1) = l + 1 := wrap_id _ (by omega) (by omega)
    have w2 : wrapF .i64 (n + 1) = n + 1 := wrap_id _ (by omega) (by omega)
    rw [w1, w2] at hC
    have hm := hc.2.2
    rw [w1, w2] at hm
    by_cases ha : l < a1
    · simp [c5, x_pure, x_skip, x_reg, x_drw, x_seq, x_cond, x_block, x_loop', Tm.keep_nil, x_exit, x_ret, k_seq, k_seq_ret, k_seq_exit, k_seq_none, k_seq_ite, k_cond, k_block, k_block_ret, k_block_exit, k_block_none, k_block_ite, k_iter, k_iter_ret, k_iter_exit, k_iter_none, k_iter_ite, k_reg, k_reg_none, k_reg_ite, x_is_nil, x_is, x_is_g, k_ins, k_ins_none, k_ins_ite, k_grd, x_ord_nil, x_ord, x_ord_g, k_ord, k_ord_none, k_ord_ite, k_ogrd, k_out_ret, k_out, k_out_none, k_out_ite, k_pure, k_pure_none, k_pure_ite, startD, dI, dA, deo, Tm.at, Tm.dst, Tm.set, Tm.put, Tm.keep, dW, dRes, oneOfD, mkTup, mkAgg, mkFn, allF, frL, fr, vD, vD1, vF, vFL, dBin, dEq, dNil, isNilD, dScal, F.cv, eBin, sameKind, eInt, eStr, cellsD, oneD, F.one, dFill, putAtD, chunk, dbnd, allLen, allOne, dSrc, roomOK, St.own, St.drop, St.still, St.fresh, chkQ, stillQ, freshQ, lOf, rdOf, rdOK, undefD, F.full, F.fullL, List.mapIdx_cons, strip, q14, r17, r19, r21, callR, hC, p19, p21, hm, w1, w2, ha]
    · have hcmp : cmpS (a1, a2, a3) (l + 1, r, n + 1) = -1 := (cmpS_lt _ _ _ _ _ _).2 (by omega)
      have w3 : wrapF .i64 (-1) = -1 := by decide +kernel
      simp [c5, x_pure, x_skip, x_reg, x_drw, x_seq, x_cond, x_block, x_loop', Tm.keep_nil, x_exit, x_ret, k_seq, k_seq_ret, k_seq_exit, k_seq_none, k_seq_ite, k_cond, k_block, k_block_ret, k_block_exit, k_block_none, k_block_ite, k_iter, k_iter_ret, k_iter_exit, k_iter_none, k_iter_ite, k_reg, k_reg_none, k_reg_ite, x_is_nil, x_is, x_is_g, k_ins, k_ins_none, k_ins_ite, k_grd, x_ord_nil, x_ord, x_ord_g, k_ord, k_ord_none, k_ord_ite, k_ogrd, k_out_ret, k_out, k_out_none, k_out_ite, k_pure, k_pure_none, k_pure_ite, startD, dI, dA, deo, Tm.at, Tm.dst, Tm.set, Tm.put, Tm.keep, dW, dRes, oneOfD, mkTup, mkAgg, mkFn, allF, frL, fr, vD, vD1, vF, vFL, dBin, dEq, dNil, isNilD, dScal, F.cv, eBin, sameKind, eInt, eStr, cellsD, oneD, F.one, dFill, putAtD, chunk, dbnd, allLen, allOne, dSrc, roomOK, St.own, St.drop, St.still, St.fresh, chkQ, stillQ, freshQ, lOf, rdOf, rdOK, undefD, F.full, F.fullL, List.mapIdx_cons, strip, q14, r17, r19, r21, callR, hC, p19, p21, hm, w1, w2, ha, hcmp, w3]
  · rw [if_neg hc] at hC
    simp [c5, x_pure, x_skip, x_reg, x_drw, x_seq, x_cond, x_block, x_loop', Tm.keep_nil, x_exit, x_ret, k_seq, k_seq_ret, k_seq_exit, k_seq_none, k_seq_ite, k_cond, k_block, k_block_ret, k_block_exit, k_block_none, k_block_ite, k_iter, k_iter_ret, k_iter_exit, k_iter_none, k_iter_ite, k_reg, k_reg_none, k_reg_ite, x_is_nil, x_is, x_is_g, k_ins, k_ins_none, k_ins_ite, k_grd, x_ord_nil, x_ord, x_ord_g, k_ord, k_ord_none, k_ord_ite, k_ogrd, k_out_ret, k_out, k_out_none, k_out_ite, k_pure, k_pure_none, k_pure_ite, startD, dI, dA, deo, Tm.at, Tm.dst, Tm.set, Tm.put, Tm.keep, dW, dRes, oneOfD, mkTup, mkAgg, mkFn, allF, frL, fr, vD, vD1, vF, vFL, dBin, dEq, dNil, isNilD, dScal, F.cv, eBin, sameKind, eInt, eStr, cellsD, oneD, F.one, dFill, putAtD, chunk, dbnd, allLen, allOne, dSrc, roomOK, St.own, St.drop, St.still, St.fresh, chkQ, stillQ, freshQ, lOf, rdOf, rdOK, undefD, F.full, F.fullL, List.mapIdx_cons, strip, q14, r17, r19, r21, callR, hC, slow_eqS e19, eqSD]
end Go.Proofs.Ytpinhopgeaamdaa.Pl
