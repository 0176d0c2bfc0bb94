/-
  What is proved here: stamps, compared and asked whether they may be.
  Conditions: none.
-/
import Derived.Test.YtmbboljcgpccfaaCdH
import Derived.Test.YtmbboljcgpccfaaCs
set_option linter.unusedVariables false
set_option linter.unusedSimpArgs false
set_option maxRecDepth 100000
set_option maxHeartbeats 4000000
namespace Go.Proofs.Ytmbboljcgpccfaa.Pl
open Go Go.Proofs Go.Proofs.Ev Go.Proofs.Dv Cd
attribute [local simp] x_pure x_skip x_reg x_drw x_seq x_cond x_block x_loop' Tm.keep_nil x_exit x_ret k_seq k_seq_ret k_seq_exit k_seq_none k_seq_ite k_cond k_block k_block_ret k_block_exit k_block_none k_block_ite k_iter k_iter_ret k_iter_exit k_iter_none k_iter_ite k_reg k_reg_none k_reg_ite x_is_nil x_is x_is_g k_ins k_ins_none k_ins_ite k_grd x_ord_nil x_ord x_ord_g k_ord k_ord_none k_ord_ite k_ogrd k_out_ret k_out k_out_none k_out_ite k_pure k_pure_none k_pure_ite startD dI dA deo Tm.at Tm.dst Tm.set Tm.put Tm.keep dW dRes oneOfD mkTup mkAgg mkFn allF frL fr vD vD1 vF vFL dBin dEq dNil isNilD dScal F.cv eBin sameKind eInt eStr cellsD oneD F.one dFill putAtD chunk dbnd dSrc St.own St.drop St.still St.fresh chkQ stillQ freshQ lOf rdOf rdOK undefD F.full F.fullL List.mapIdx_cons strip allOne_nil allOne_cons allOne_append allLen_nil allLen_cons allLen_append roomOK_small filterT y_mv y_pick y_new y_box y_build y_bslice y_ld1 y_ldn y_nilchk y_bin y_not y_conv y_bytes y_string y_ifc y_fn y_cut y_cuts y_fa y_fld y_ia y_idx y_idxs y_ext y_len y_lenstr y_app y_grow y_mks y_slow y_call y_callv y_inv y_extc x_it_st x_it_clr x_it_cpy k_addT k_addT_none k_addT_ite k_orU k_orU_none dU D.turn turnL Tm.turn turnS St.turn turnRows_length
theorem rNaN (ds : List D) (st : Dv.St) : callI Try.prog prims dx tbl 108 ds st = callR Try.prog prims dx tbl 108 ds st (frL (fr st 6) ds) := callRw rfl rfl (rfl : tbl 108 = some c108) rfl ds st
theorem rCmpI (ds : List D) (st : Dv.St) : callI Try.prog prims dx tbl 86 ds st = callR Try.prog prims dx tbl 86 ds st (frL (fr st 6) ds) := callRw rfl rfl (rfl : tbl 86 = some c86) rfl ds st
theorem rOr (ds : List D) (st : Dv.St) : callI Try.prog prims dx tbl 102 ds st = callR Try.prog prims dx tbl 102 ds st (frL (fr st 6) ds) := callRw rfl rfl (rfl : tbl 102 = some c102) rfl ds st
theorem rCmp (ds : List D) (st : Dv.St) : callI Try.prog prims dx tbl 75 ds st = callR Try.prog prims dx tbl 75 ds st (frL (fr st 6) ds) := callRw rfl rfl (rfl : tbl 75 = some c75) rfl ds st
theorem pNaN (x : Int) : pureI Try.prog prims dx tbl 108 [.int .i64 x] = some (.bool false) := by
  rw [pureI_of (rfl : tbl 108 = some c108)]
  simp [c108]
theorem pCmpI (x y : Int) : pureI Try.prog prims dx tbl 86 [.int .i64 x, .int .i64 y] = some (.int .i64 (cmpI x y)) := by
  rw [pureI_of (rfl : tbl 86 = some c86)]
  by_cases h1 : x < y
  · simp [c86, rNaN, callR, pNaN, cmpI, h1]
  · by_cases h2 : y < x
    · simp [c86, rNaN, callR, pNaN, cmpI, h1, h2]
    · simp [c86, rNaN, callR, pNaN, cmpI, h1, h2]
theorem pOr (a b c : Int) : pureI Try.prog prims dx tbl 102 [.list [[.int .i64 a], [.int .i64 b], [.int .i64 c]]] = some (.int .i64 (if a = 0 then (if b = 0 then c else b) else a)) := by
  rw [pureI_of (rfl : tbl 102 = some c102)]
  have w1 : wrapF .i64 1 = 1 := by decide +kernel
  have w2 : wrapF .i64 2 = 2 := by decide +kernel
  have w3 : wrapF .i64 3 = 3 := by decide +kernel
  by_cases h1 : a = 0
  · by_cases h2 : b = 0
    · by_cases h3 : c = 0
      · simp [c102, u102_0, x_iter, h1, h2, h3, w1, w2, w3]
      · simp [c102, u102_0, x_iter, h1, h2, h3, w1, w2, w3]
    · simp [c102, u102_0, x_iter, h1, h2, w1, w2, w3]
  · simp [c102, u102_0, x_iter, h1, w1, w2, w3]
theorem pCmp (a1 a2 a3 b1 b2 b3 : Int) : pureI Try.prog prims dx tbl 75 [.agg [.int .i64 a1, .int .i64 a2, .int .i64 a3], .agg [.int .i64 b1, .int .i64 b2, .int .i64 b3]] = some (.int .i64 (cmpS (a1, a2, a3) (b1, b2, b3))) := by
  rw [pureI_of (rfl : tbl 75 = some c75)]
  simp [c75, rCmpI, rOr, callR, pCmpI, pOr, cmpS]
theorem rRCmp (ds : List D) (st : Dv.St) : callI Try.prog prims dx tbl 35 ds st = callR Try.prog prims dx tbl 35 ds st (frL (fr st 6) ds) := callRw rfl rfl (rfl : tbl 35 = some c35) rfl ds st
theorem pRCmp (a1 a2 a3 b1 b2 b3 : Int) : pureI Try.prog prims dx tbl 35 [.agg [.int .i64 a1, .int .i64 a2, .int .i64 a3], .agg [.int .i64 b1, .int .i64 b2, .int .i64 b3]] = some (.int .i64 (cmpS (a1, a2, a3) (b1, b2, b3))) := by
  rw [pureI_of (rfl : tbl 35 = some c35)]
  have w1 : wrapF .i64 1 = 1 := by decide +kernel
  have w2 : wrapF .i64 2 = 2 := by decide +kernel
  have w3 : wrapF .i64 3 = 3 := by decide +kernel
  by_cases h1 : a1 < b1
  · have := (cmpS_lt a1 a2 a3 b1 b2 b3).2 (by omega)
    simp [c35, u35_0, x_iter, this, h1, w1, w2, w3]
  · by_cases h2 : b1 < a1
    · have := (cmpS_gt a1 a2 a3 b1 b2 b3).2 (by omega)
      simp [c35, u35_0, x_iter, this, h1, h2, w1, w2, w3]
    · by_cases h3 : a2 < b2
      · have := (cmpS_lt a1 a2 a3 b1 b2 b3).2 (by omega)
        simp [c35, u35_0, x_iter, this, h1, h2, h3, w1, w2, w3]
      · by_cases h4 : b2 < a2
        · have := (cmpS_gt a1 a2 a3 b1 b2 b3).2 (by omega)
          simp [c35, u35_0, x_iter, this, h1, h2, h3, h4, w1, w2, w3]
        · by_cases h5 : a3 < b3
          · have := (cmpS_lt a1 a2 a3 b1 b2 b3).2 (by omega)
            simp [c35, u35_0, x_iter, this, h1, h2, h3, h4, h5, w1, w2, w3]
          · by_cases h6 : b3 < a3
            · have := (cmpS_gt a1 a2 a3 b1 b2 b3).2 (by omega)
              simp [c35, u35_0, x_iter, this, h1, h2, h3, h4, h5, h6, w1, w2, w3]
            · have := (cmpS_eq a1 a2 a3 b1 b2 b3).2 (by omega)
              simp [c35, u35_0, x_iter, this, h1, h2, h3, h4, h5, h6, w1, w2, w3]
def errF (s : List UInt8) : F := .ifc 164 (.agg [.str s, .ifc 147 (.agg [])])
theorem pWithi (of : List UInt8) (n most : Int) : pureI Try.prog prims dx tbl 119 [.str of, .int .i64 n, .int .i64 most] = some (if 1 ≤ n ∧ n ≤ most then .nilifc else errF of) := by
  rw [pureI_of (rfl : tbl 119 = some c119)]
  by_cases h1 : n < 1
  · simp [c119, errF, h1, show ¬ (1 ≤ n ∧ n ≤ most) by omega]
  · by_cases h2 : most < n
    · simp [c119, errF, h1, h2, show ¬ (1 ≤ n ∧ n ≤ most) by omega]
    · simp [c119, errF, h1, h2, show (1 ≤ n ∧ n ≤ most) by omega]
def eL (p : Bool) : F := if p then .nilifc else errF [116, 105, 109, 101]
def eR (p : Bool) : F := if p then .nilifc else errF [114, 101, 112, 108, 105, 99, 97]
def eN (p : Bool) : F := if p then .nilifc else errF [110, 117, 109, 98, 101, 114]
noncomputable def joined (p q r : Bool) : F := (onSpot Try.prog prims dx tbl 60 118 [.list [[eL p], [eR q], [eN r]]]).getD .nilifc
theorem pJoin (p q r : Bool) : pureI Try.prog prims dx tbl 118 [.list [[eL p], [eR q], [eN r]]] = some (joined p q r) := by
  refine pureI_spot 60 ?_
  cases p <;> cases q <;> cases r <;> kernel_rfl
theorem pIs (p q r : Bool) : pureI Try.prog prims dx tbl 70 [joined p q r, .ifc 147 (.agg [])] = some (.bool (!(p && q && r))) := by
  refine pureI_spot 60 ?_
  cases p <;> cases q <;> cases r <;> kernel_rfl
/-- The least of a register and a number that is told. -/
def minc (o : Oper) : Option (Nat × Int) := match o.op with
  | .call c => match c.callee, c.args.toList with
    | .builtin .min, [.tmp i, .const (.int .i64 z)] => some (i, z)
    | _, _ => none
  | _ => none
def mincD (d : D) (z : Int) (r : Option D) : Option D := match d with
  | .fz (.int .i64 a) => some (.fz (.int .i64 (if z < a then z else a)))
  | _ => r
theorem slow_minc {P : Program} {o : Oper} {i : Nat} {z : Int} (h : minc o = some (i, z)) (T : Tm) : dSlowX P T o = mincD (T.at i) z (mmRest P T o) := by
  unfold mincD
  split
  · rename_i a hi
    unfold minc at h
    split at h
    · rename_i c hc
      obtain ⟨cal, args, ats⟩ := c
      have two : ∀ {x y : Operand}, args.toList = [x, y] → args = #[x, y] := fun h => by
        cases args; simp at h; subst h; rfl
      split at h
      · rename_i i' z' h1 h2
        cases h
        simp only at h1 h2
        subst h1
        have ha := two h2
        subst ha
        have : dSlow P T o = some (.fz (.int .i64 (if z < a then z else a))) := by
          have hop : o.op.operands = #[.tmp i, .const (.int .i64 z)] := by rw [hc]; rfl
          have hrun : pureRun P (execOp (fun x => (concO (dEnv T) x).getD undef) o) = some (.value (.int .i64 (if z < a then z else a))) := by
            simp [execOp, hc, resolve, invoke, builtin, Builtin.min_, Builtin.min2, concO, dEnv, hi, D.full, F.full, conc, absN]
            rfl
          have hp : pureOp P (dEnv T) o = some (.int .i64 (if z < a then z else a)) := by
            simp only [pureOp, hop, hrun]
            simp [hc, isSelect, concO, dEnv, hi, D.full, F.full, conc, absN]
          have he : evA P (dEnv T) o [] = some (.int .i64 (if z < a then z else a), []) := by
            simp [evA, hc, evBuiltin, hp, keep]
          simp only [dSlow, hop, he]
          simp [dEnv, hi, D.full, F.full, toD, vF, absN]
        simp only [dSlowX, this]
      · cases h
    · cases h
  · rfl
theorem m12 : minc (operAt Try.prog 114 12) = some (12, 1000) := by kernel_rfl
theorem rWithi (ds : List D) (st : Dv.St) : callI Try.prog prims dx tbl 119 ds st = callR Try.prog prims dx tbl 119 ds st (frL (fr st 6) ds) := callRw rfl rfl (rfl : tbl 119 = some c119) rfl ds st
theorem rJoin (ds : List D) (st : Dv.St) : callI Try.prog prims dx tbl 118 ds st = callR Try.prog prims dx tbl 118 ds st (frL (fr st 6) ds) := callRw rfl rfl (rfl : tbl 118 = some c118) rfl ds st
theorem rIs (ds : List D) (st : Dv.St) : callI Try.prog prims dx tbl 70 ds st = callR Try.prog prims dx tbl 70 ds st (frL (fr st 6) ds) := callRw rfl rfl (rfl : tbl 70 = some c70) rfl ds st
theorem rSCheck (ds : List D) (st : Dv.St) : callI Try.prog prims dx tbl 114 ds st = callR Try.prog prims dx tbl 114 ds st (frL (fr st 6) ds) := callRw rfl rfl (rfl : tbl 114 = some c114) rfl ds st
theorem rSMay (ds : List D) (st : Dv.St) : callI Try.prog prims dx tbl 98 ds st = callR Try.prog prims dx tbl 98 ds st (frL (fr st 6) ds) := callRw rfl rfl (rfl : tbl 98 = some c98) rfl ds st
theorem pWithiL (n : Int) : pureI Try.prog prims dx tbl 119 [.str [116, 105, 109, 101], .int .i64 n, .int .i64 5000] = some (eL (decide (1 ≤ n ∧ n ≤ 5000))) := by
  rw [pWithi]; simp only [eL, decide_eq_true_eq]
theorem pWithiR (n : Int) : pureI Try.prog prims dx tbl 119 [.str [114, 101, 112, 108, 105, 99, 97], .int .i64 n, .int .i64 5] = some (eR (decide (1 ≤ n ∧ n ≤ 5))) := by
  rw [pWithi]; simp only [eR, decide_eq_true_eq]
theorem pWithiN (n m : Int) : pureI Try.prog prims dx tbl 119 [.str [110, 117, 109, 98, 101, 114], .int .i64 n, .int .i64 m] = some (eN (decide (1 ≤ n ∧ n ≤ m))) := by
  rw [pWithi]; simp only [eN, decide_eq_true_eq]
theorem fullL (p : Bool) : (eL p).full.isSome = true := by cases p <;> rfl
theorem fullR (p : Bool) : (eR p).full.isSome = true := by cases p <;> rfl
theorem fullN (p : Bool) : (eN p).full.isSome = true := by cases p <;> rfl
def mayB (l r n : Int) : Bool := decide (1 ≤ l ∧ l ≤ 5000) && decide (1 ≤ r ∧ r ≤ 5) && decide (1 ≤ n ∧ n ≤ if 1000 < l then 1000 else l)
theorem pSCheck (l r n : Int) : pureI Try.prog prims dx tbl 114 [.agg [.int .i64 l, .int .i64 r, .int .i64 n]] = some (joined (decide (1 ≤ l ∧ l ≤ 5000)) (decide (1 ≤ r ∧ r ≤ 5)) (decide (1 ≤ n ∧ n ≤ if 1000 < l then 1000 else l))) := by
  rw [pureI_of (rfl : tbl 114 = some c114)]
  have hL := pWithiL l
  have hR := pWithiR r
  have hN := pWithiN n (if 1000 < l then 1000 else l)
  generalize decide (1 ≤ l ∧ l ≤ 5000) = P at hL ⊢
  generalize decide (1 ≤ r ∧ r ≤ 5) = Q at hR ⊢
  generalize decide (1 ≤ n ∧ n ≤ if 1000 < l then 1000 else l) = R at hN ⊢
  have hJ := pJoin P Q R
  by_cases hj : (joined P Q R).full.isSome = true
  all_goals
    generalize joined P Q R = J at hj hJ ⊢
    cases P <;> cases Q <;> cases R <;> simp [eL, eR, eN, errF] at hL hR hN hJ <;>
      simp [c114, rWithi, rJoin, callR, hL, hR, hN, hJ, slow_minc m12, mincD, hj]
theorem pSMay (l r n : Int) : pureI Try.prog prims dx tbl 98 [.agg [.int .i64 l, .int .i64 r, .int .i64 n]] = some (.bool (mayB l r n)) := by
  rw [pureI_of (rfl : tbl 98 = some c98)]
  have hC := pSCheck l r n
  have hI := pIs (decide (1 ≤ l ∧ l ≤ 5000)) (decide (1 ≤ r ∧ r ≤ 5)) (decide (1 ≤ n ∧ n ≤ if 1000 < l then 1000 else l))
  have hM : mayB l r n = (decide (1 ≤ l ∧ l ≤ 5000) && decide (1 ≤ r ∧ r ≤ 5) && decide (1 ≤ n ∧ n ≤ if 1000 < l then 1000 else l)) := rfl
  rw [hM]
  generalize decide (1 ≤ l ∧ l ≤ 5000) = P at hC hI ⊢
  generalize decide (1 ≤ r ∧ r ≤ 5) = Q at hC hI ⊢
  generalize decide (1 ≤ n ∧ n ≤ if 1000 < l then 1000 else l) = R at hC hI ⊢
  generalize joined P Q R = J at hC hI
  by_cases hj : J.full.isSome = true
  all_goals
    simp [c98, rSCheck, rIs, callR, hC, hI, hj]
theorem pRMay (l r n : Int) : pureI Try.prog prims dx tbl 69 [.agg [.int .i64 l, .int .i64 r, .int .i64 n]] = some (.bool (mayB l r n)) := by
  rw [pureI_of (rfl : tbl 69 = some c69)]
  by_cases h1 : 1 ≤ l
  · by_cases h2 : l ≤ 5000
    · by_cases h3 : 1 ≤ r
      · by_cases h4 : r ≤ 5
        · by_cases h5 : 1 ≤ n
          · by_cases h6 : n ≤ 1000
            · by_cases h7 : n ≤ l
              · have : n ≤ (if 1000 < l then 1000 else l) := by split <;> omega
                simp [c69, mayB, h1, h2, h3, h4, h5, h6, h7, this]
              · have : ¬ n ≤ (if 1000 < l then 1000 else l) := by split <;> omega
                simp [c69, mayB, h1, h2, h3, h4, h5, h6, h7, this]
            · have : ¬ n ≤ (if 1000 < l then 1000 else l) := by split <;> omega
              simp [c69, mayB, h1, h2, h3, h4, h5, h6, this]
          · simp [c69, mayB, h1, h2, h3, h4, h5]
        · simp [c69, mayB, h1, h2, h3, h4]
      · simp [c69, mayB, h1, h2, h3]
    · simp [c69, mayB, h1, h2]
  · simp [c69, mayB, h1]
theorem rRMay (ds : List D) (st : Dv.St) : callI Try.prog prims dx tbl 69 ds st = callR Try.prog prims dx tbl 69 ds st (frL (fr st 6) ds) := callRw rfl rfl (rfl : tbl 69 = some c69) rfl ds st
end Go.Proofs.Ytmbboljcgpccfaa.Pl
