/-
  What is proved here: the greatest of all steps from all; whether the law has begun.
  Conditions: none.
-/
import Derived.Test.YtmbboljcgpccfaaTfP
set_option linter.unusedVariables false
set_option linter.unusedSimpArgs false
set_option maxRecDepth 100000
set_option maxHeartbeats 8000000
namespace Go.Proofs.Ytmbboljcgpccfaa.Pl
open Go Go.Proofs Go.Proofs.Ev Go.Proofs.Dv Cd
attribute [local simp] x_pure x_skip x_reg x_drw x_seq x_cond x_block x_frz x_loop' Tm.keep_nil x_exit x_ret k_seq k_seq_ret k_seq_exit k_seq_none k_seq_ite k_cond k_block k_block_ret k_block_exit k_block_none k_block_ite k_iter k_iter_ret k_iter_exit k_iter_none k_iter_ite k_reg k_reg_none k_reg_ite x_is_nil x_is x_is_g k_ins k_ins_none k_ins_ite k_grd x_ord_nil x_ord x_ord_g k_ord k_ord_none k_ord_ite k_ogrd k_out_ret k_out k_out_none k_out_ite k_pure k_pure_none k_pure_ite startD dI dA deo Tm.at Tm.dst Tm.set Tm.put Tm.keep dW dRes oneOfD mkTup mkAgg mkFn allF frL fr vD vD1 vF vFL dBin dEq dNil isNilD dScal F.cv eBin sameKind eInt eStr cellsD oneD F.one dFill putAtD chunk dbnd dSrc St.own St.drop St.still St.fresh chkQ stillQ freshQ lOf rdOf rdOK undefD F.full F.fullL List.mapIdx_cons strip allOne_nil allOne_cons allOne_append allLen_nil allLen_cons allLen_append roomOK_small filterT y_mv y_pick y_new y_box y_build y_bslice y_ld1 y_ldn y_nilchk y_bin y_not y_conv y_bytes y_string y_ifc y_fn y_cut y_cuts y_fa y_fld y_ia y_idx y_idxs y_ext y_len y_lenstr y_app y_grow y_mks y_slow y_call y_callv y_inv y_extc x_it_st x_it_clr x_it_cpy k_addT k_addT_none k_addT_ite k_orU k_orU_none dU D.turn turnL Tm.turn turnS St.turn turnRows_length

def maxL : List Int → Int
  | [] => 0
  | a :: r => maxR a r
theorem pMaxL (l : List Int) (h1 : 1 ≤ l.length) (h2 : l.length < 100000) : pureI Try.prog prims dx tbl 81 [.list (l.map encI)] = some (.int .i64 (maxL l)) := by
  cases l with
  | nil => simp at h1
  | cons a r => exact pMax a r (by simp at h2; omega)
def wideR (e : List (Int × Int)) (n : Nat) : Nat → Nat → Int → Int
  | 0, _, w => w
  | m + 1, i, w => wideR e n m (i + 1) (if w < maxL (stepsN e n ((i : Int) + 1)) then maxL (stepsN e n ((i : Int) + 1)) else w)
theorem mm52 : minmax (operAt Try.prog 52 18) = some (true, 14, 20) := by kernel_rfl
def PostWd (w : Int) (r : Option DSt) : Prop := ∃ T', r = some (.exit 0, T', ⟨[], [], 0⟩) ∧ T'.keep [4] = [(4, .fz (.int .i64 w))]
theorem loopWd (n : Nat) (e : List (Int × Int)) (f : FOk n e) : ∀ (m i : Nat) (iz w : Int), i + m = n → iz = i →
    PostWd (wideR e n m i w) (iterI (dCw Try.prog (callI Try.prog prims dx tbl) l52_0) [0, 1, 4, 10, 11] [(0, .fz (.int .i64 n)), (1, .fz (.list (e.map encE))), (4, .fz (.int .i64 w)), (10, .fz (.int .i64 n)), (11, .fz (.int .i64 iz))] ⟨[], [], 0⟩) := by
  intro m
  induction m with
  | zero =>
    intro i iz w hm hz
    obtain rfl : i = n := by omega
    subst hz
    rw [x_iter]
    simp [u52_0, wideR]
    exact ⟨_, rfl, by simp [Tm.keep]⟩
  | succ m ih =>
    intro i iz w hm hz
    subst hz
    have hin : i < n := by omega
    have h5 := f.n5
    have hlen := f.len
    have hi1 : ((i : Int) + 1) = ((i + 1 : Nat) : Int) := by omega
    have hw : wrapF .i64 ((i : Int) + 1) = (i : Int) + 1 := wz _ (by omega)
    have h1 := pSteps e (by omega) n f.n1 f.n5 ((i : Int) + 1) (by omega) (by omega)
    have hl := stepsN_len e n (by omega) ((i : Int) + 1) (by omega) (by omega)
    have h2 := pMaxL (stepsN e n ((i : Int) + 1)) (by omega) (by omega)
    have goal := ih (i + 1) _ (if w < maxL (stepsN e n ((i : Int) + 1)) then maxL (stepsN e n ((i : Int) + 1)) else w) (by omega) hi1
    rw [x_iter]
    simp [u52_0, hin, hw, rSteps, rMax, callR, h1, h2, slow_mm mm52, mmD, wideR]
    exact goal
theorem pWide (n : Nat) (e : List (Int × Int)) (f : FOk n e) (hm : mayN n e = true) : pureI Try.prog prims dx tbl 52 [.int .i64 n, .list (e.map encE)] = some (.int .i64 (wideR e n n 0 0)) := by
  rw [pureI_of (rfl : tbl 52 = some c52)]
  have h1 := pMay n e f
  rw [hm] at h1
  obtain ⟨T', h2, h3⟩ := loopWd n e f n 0 0 0 (by omega) rfl
  simp [c52, rMay, callR, h1, h2, h3]
theorem rWide (ds : List D) (st : Dv.St) : callI Try.prog prims dx tbl 52 ds st = callR Try.prog prims dx tbl 52 ds st (frL (fr st 6) ds) := callRw rfl rfl (rfl : tbl 52 = some c52) rfl ds st
theorem qBegun24 (st : Dv.St) : callI Try.prog prims dx tbl 48 [] st = some (.fz (.bool true), st, []) := callI_prim (p := .yes) rfl rfl
end Go.Proofs.Ytmbboljcgpccfaa.Pl
