/-
  What is proved here: the law of steps.
  Conditions: none.
-/
import Derived.Test.YtmbboljcgpccfaaTiP
import Derived.Test.YtmbboljcgpccfaaTjP
import Derived.Test.YtmbboljcgpccfaaTqP
set_option linter.unusedVariables false
set_option linter.unusedSimpArgs false
set_option maxRecDepth 100000
set_option maxHeartbeats 8000000
namespace Go.Proofs.Ytmbboljcgpccfaa.Pl
open Go Go.Proofs Go.Proofs.Ev Go.Proofs.Dv Cd
attribute [local simp] x_pure x_skip x_reg x_drw x_seq x_cond x_block x_loop' Tm.keep_nil x_exit x_ret k_seq k_seq_ret k_seq_exit k_seq_none k_seq_ite k_cond k_block k_block_ret k_block_exit k_block_none k_block_ite k_iter k_iter_ret k_iter_exit k_iter_none k_iter_ite k_reg k_reg_none k_reg_ite x_is_nil x_is x_is_g k_ins k_ins_none k_ins_ite k_grd x_ord_nil x_ord x_ord_g k_ord k_ord_none k_ord_ite k_ogrd k_out_ret k_out k_out_none k_out_ite k_pure k_pure_none k_pure_ite startD dI dA deo Tm.at Tm.dst Tm.set Tm.put Tm.keep dW dRes oneOfD mkTup mkAgg mkFn allF frL fr vD vD1 vF vFL dBin dEq dNil isNilD dScal F.cv eBin sameKind eInt eStr cellsD oneD F.one dFill putAtD chunk dbnd dSrc St.own St.drop St.still St.fresh chkQ stillQ freshQ lOf rdOf rdOK undefD F.full F.fullL List.mapIdx_cons strip allOne_nil allOne_cons allOne_append allLen_nil allLen_cons allLen_append roomOK_small filterT y_mv y_pick y_new y_box y_build y_bslice y_ld1 y_ldn y_nilchk y_bin y_not y_conv y_bytes y_string y_ifc y_fn y_cut y_cuts y_fa y_fld y_ia y_idx y_idxs y_ext y_len y_lenstr y_app y_grow y_mks y_slow y_call y_callv y_inv y_extc x_it_st x_it_clr x_it_cpy k_addT k_addT_none k_addT_ite k_orU k_orU_none dU D.turn turnL Tm.turn turnS St.turn turnRows_length

theorem vMade (l : List Int) : varsI Try.prog prims dx tbl 16 [.fz (.list (l.map fun z => [.int .u8 z]))] [] = some (.var [.list (l.map fun z => [.int .u8 z]), .int .i64 0], []) := by
  rw [varsI_of (rfl : tbl 16 = some c16)]
  simp [c16, x_vars, varsOf, varsK, varsK_ite, finals, callVars, splitV, contents, updV, orC]
theorem rMade (ds : List D) (st : Dv.St) : callI Try.prog prims dx tbl 16 ds st = orC (callVars (varsI Try.prog prims dx tbl 16) ds st) (callI0 Try.prog prims dx tbl 16 ds st) := callRwV rfl rfl (rfl : tbl 16 = some c16) rfl ds st
theorem all_S1 : (subs (allE 1)).all (fun e => !connB 1 e || checkS 1 e) = true := by decide +kernel
theorem checked (n : Nat) (h1 : 1 ≤ n) (h5 : n ≤ 5) (e : List (Int × Int)) (he : Ed n e) (hc : connB n e = true) : checkS n e = true := by
  have hm := he.sub h5
  rcases (show n = 1 ∨ n = 2 ∨ n = 3 ∨ n = 4 ∨ n = 5 by omega) with rfl | rfl | rfl | rfl | rfl
  · have := List.all_eq_true.1 all_S1 e hm; rw [hc] at this; exact this
  · have := List.all_eq_true.1 all_S2 e hm; rw [hc] at this; exact this
  · have := List.all_eq_true.1 all_S3 e hm; rw [hc] at this; exact this
  · have := List.all_eq_true.1 all_S4 e hm; rw [hc] at this; exact this
  · have := List.all_eq_true.1 all_S5 e hm; rw [hc] at this; exact this
def TT (e : List (Int × Int)) (n : Nat) (i : Nat) : List Int := stepsN e n ((i : Int) + 1)
theorem mostKT_eq (e : List (Int × Int)) (n i : Nat) : ∀ (m k : Nat) (w : Int), mostK e n i m k w = mostKT (TT e n) i m k w
  | 0, k, w => rfl
  | m + 1, k, w => by
    rw [mostK, mostKT]
    exact mostKT_eq e n i m (k + 1) _
theorem mostIT_eq (e : List (Int × Int)) (n : Nat) : ∀ (m i : Nat) (w : Int), mostI e n m i w = mostIT (TT e n) n m i w
  | 0, i, w => rfl
  | m + 1, i, w => by
    rw [mostI, mostIT, mostKT_eq]
    exact mostIT_eq e n m (i + 1) _
theorem fx_of (n : Nat) (h1 : 1 ≤ n) (h5 : n ≤ 5) (e : List (Int × Int)) (he : Ed n e) (hc : connB n e = true) : Fx n e (TT e n) ∧ mayN n e = true ∧ wideR e n n 0 0 = mostIT (TT e n) n n 0 0 ∧ wideR e n n 0 0 < n := by
  have hk := checked n h1 h5 e he hc
  have hl := he.len h5
  simp only [checkS, Bool.and_eq_true, decide_eq_true_eq, List.all_eq_true, List.mem_range, beq_iff_eq] at hk
  obtain ⟨⟨⟨k1, k2⟩, k3⟩, k4⟩ := hk
  have a1 := fun i k hi hk => (k2 i hi k hk).1.1.1.1
  have a2 := fun i k hi hk => (k2 i hi k hk).1.1.1.2
  have a3 := fun i k hi hk => (k2 i hi k hk).1.1.2
  have a4 := fun i k hi hk => (k2 i hi k hk).1.2
  have a5 := fun i k hi hk => (k2 i hi k hk).2
  refine ⟨⟨h5, by omega, fun i hi => stepsN_len e n (by omega) _ (by omega) (by omega), fun i k hi hk => a1 i k hi hk, fun i k hi hk => a2 i k hi hk, fun i k hi hk => ?_, fun i k hi hk => ?_, fun i k m hi hk hm => a5 i k hi hk m hm⟩, k1, by rw [k3, mostIT_eq], k4⟩
  · have := a3 i k hi hk
    rw [← this, beq_iff_eq]
    exact Iff.rfl
  · have := a4 i k hi hk
    rw [Bool.eq_iff_iff, beq_iff_eq, beq_iff_eq] at this
    exact this
theorem pTopoSteps (l1 : List Int) (h1 : l1.length ≤ maxLen) (hb1 : ∀ z ∈ l1, 0 ≤ z ∧ z < 256) (sz : Int) (hz : 0 ≤ sz ∧ sz < 256) :
    pureI Try.prog prims dx tbl 12 [.list (l1.map fun z => [.int .u8 z]), .int .u8 sz] = some (.bool true) := by
  rw [pureI_of (rfl : tbl 12 = some c12)]
  by_cases g1 : 20 < l1.length
  · simp [c12, qBegun24, show (20 : Int) < l1.length by omega]
  · obtain ⟨q, hq⟩ : ∃ q : Nat, sz % 5 = (q : Int) := ⟨(sz % 5).toNat, by omega⟩
    have hq5 : q < 5 := by omega
    have ht : sz.tmod 5 = (q : Int) := by rw [Int.tmod_eq_emod_of_nonneg hz.1, hq]
    have m1 := vMade l1
    obtain ⟨e, i', hi', he, hc, hv⟩ := vEdges l1 ⟨by omega, hb1⟩ (q + 1) (by omega) (by omega) 0 (Nat.zero_le _)
    obtain ⟨fx, hm, hw, hwn⟩ := fx_of (q + 1) (by omega) (by omega) e he hc
    have fok := he.fok (by omega) (by omega)
    obtain ⟨t, L, c, T1, ht1, k1, j1⟩ := loopA0 (.list (l1.map fun z => [.int .u8 z])) (.int .i64 i') (q + 1) (by omega) e fok hm (TT e (q + 1)) (fun i => rfl) (fun i hi => (fx.zer i i hi hi).2 rfl) (q + 1) 0 1 .nils [] 0 (by omega) rfl (.inl ⟨rfl, rfl⟩)
    obtain ⟨T2, k2, j2⟩ := loopI (.list (l1.map fun z => [.int .u8 z])) (.int .i64 i') (q + 1) e (TT e (q + 1)) fx t L c ht1 (q + 1) 0 0 0 (by omega) rfl
    have hwd := pWide (q + 1) e fok hm
    rw [hw] at hwd hwn
    have hfin : mostIT (TT e (q + 1)) (q + 1) (q + 1) 0 0 ≤ 5 := by omega
    have c1 : -100000 ≤ (q : Int) + 1 ∧ (q : Int) + 1 ≤ 100000 := by omega
    have c2 : -100000 ≤ (q : Int) ∧ (q : Int) ≤ 100000 := by omega
    have hcomm : 1 + (q : Int) = (q : Int) + 1 := by omega
    simp at hv j1 j2 hwd hwn k1 k2
    have g2 : ¬ (20 : Int) < l1.length := by omega
    simp [c12, x_vars, varsOf, varsK, varsK_ite, finals, callVars, splitV, contents, updV, orC, qBegun24, g2, ht, wz _ c1, wz _ c2, hcomm, rMade, m1, rEdges, hv, j1, k1, j2, k2, rWide, callR, hwd, hwn, hfin]
end Go.Proofs.Ytmbboljcgpccfaa.Pl
