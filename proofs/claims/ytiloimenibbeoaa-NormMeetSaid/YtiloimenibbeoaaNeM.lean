/-
  What is proved here: what two boxes both let through.
  Conditions: none.
-/
import Derived.Test.YtiloimenibbeoaaNdM
set_option linter.unusedVariables false
set_option linter.unusedSimpArgs false
set_option maxRecDepth 100000
set_option maxHeartbeats 8000000
namespace Go.Proofs.Ytiloimenibbeoaa.Pl
open Go Go.Proofs Go.Proofs.Ev Go.Proofs.Dv Cd
attribute [local simp] x_pure x_skip x_reg x_drw x_seq x_cond x_block x_frz x_loop' Tm.keep_nil x_exit x_ret k_seq k_seq_ret k_seq_exit k_seq_none k_seq_ite k_cond k_block k_block_ret k_block_exit k_block_none k_block_ite k_iter k_iter_ret k_iter_exit k_iter_none k_iter_ite k_reg k_reg_none k_reg_ite x_is_nil x_is x_is_g k_ins k_ins_none k_ins_ite k_grd x_ord_nil x_ord x_ord_g k_ord k_ord_none k_ord_ite k_ogrd k_out_ret k_out k_out_none k_out_ite k_pure k_pure_none k_pure_ite startD dI dA deo Tm.at Tm.dst Tm.set Tm.put Tm.keep dW dRes oneOfD mkTup mkAgg mkFn allF frL fr vD vD1 vF vFL dBin dEq dNil isNilD dScal F.cv eBin sameKind eInt eStr cellsD oneD F.one dFill putAtD chunk dbnd dSrc St.own St.drop St.still St.fresh chkQ stillQ freshQ lOf rdOf rdOK undefD F.full F.fullL List.mapIdx_cons strip allOne_nil allOne_cons allOne_append allLen_nil allLen_cons allLen_append roomOK_small filterT y_mv y_pick y_new y_box y_build y_bslice y_ld1 y_ldn y_nilchk y_bin y_not y_conv y_bytes y_string y_ifc y_fn y_cut y_cuts y_fa y_fld y_ia y_idx y_idxs y_ext y_len y_lenstr y_app y_grow y_mks y_slow y_call y_callv y_inv y_extc x_it_st x_it_clr x_it_cpy k_addT k_addT_none k_addT_ite k_orU k_orU_none dU D.turn turnL Tm.turn turnS St.turn turnRows_length

def side0 : Side := ⟨0, 0, 0⟩
def box0 : Box := ⟨side0, side0, side0, side0, [], []⟩
def putB (b : Box) (k : Int) (s : Side) : Box := if k = 0 then { b with k0 := s } else if k = 1 then { b with k1 := s } else if k = 2 then { b with k2 := s } else if k = 3 then { b with k3 := s } else b
theorem pKey (k h lo hi : Int) (hk : 0 ≤ k ∧ k < 4) : pureI Try.prog prims dx tbl 57 [.int .i64 k, .int .i64 h, .int .i64 lo, .int .i64 hi] = some (.agg (encB (putB box0 k ⟨h, lo, hi⟩))) := by
  rw [pureI_of (rfl : tbl 57 = some c57)]
  rcases (show k = 0 ∨ k = 1 ∨ k = 2 ∨ k = 3 by omega) with rfl | rfl | rfl | rfl <;> simp [c57, putB, box0, side0, encB]
theorem rKey (ds : List D) (st : Dv.St) : callI Try.prog prims dx tbl 57 ds st = callR Try.prog prims dx tbl 57 ds st (frL (fr st 6) ds) := callRw rfl rfl (rfl : tbl 57 = some c57) rfl ds st
/-! ### The keys, one by one -/
def varZ : Bool × List D := (true, [.fz (.int .i64 0), .fz (.int .i64 0), .fz (.int .i64 0), .fz (.int .i64 0), .fz (.int .i64 0), .fz (.int .i64 0), .fz (.int .i64 0), .fz (.int .i64 0), .fz (.int .i64 0), .fz (.int .i64 0), .fz (.int .i64 0), .fz (.int .i64 0), .fz (.str []), .nils])
theorem roundM0t (a b : Box) (h : (sideB a.k0 b.k0).2 = true) : iterI (dCw Try.prog (callI Try.prog prims dx tbl) l19_0) [2, 3, 4, 8] [(2, .ptr 0 0), (3, .ptr 1 0), (4, .ptr 2 0), (8, .fz (.int .i64 0))] ⟨[varB a, varB b, (true, [.fz (.int .i64 0), .fz (.int .i64 0), .fz (.int .i64 0), .fz (.int .i64 0), .fz (.int .i64 0), .fz (.int .i64 0), .fz (.int .i64 0), .fz (.int .i64 0), .fz (.int .i64 0), .fz (.int .i64 0), .fz (.int .i64 0), .fz (.int .i64 0), .fz (.str []), .nils])], [], 0⟩ = iterI (dCw Try.prog (callI Try.prog prims dx tbl) l19_0) [2, 3, 4, 8] [(2, .ptr 0 0), (3, .ptr 1 0), (4, .ptr 2 0), (8, .fz (.int .i64 1))] ⟨[varB a, varB b, (true, [.fz (.int .i64 (sideB a.k0 b.k0).1.h), .fz (.int .i64 (sideB a.k0 b.k0).1.lo), .fz (.int .i64 (sideB a.k0 b.k0).1.hi), .fz (.int .i64 0), .fz (.int .i64 0), .fz (.int .i64 0), .fz (.int .i64 0), .fz (.int .i64 0), .fz (.int .i64 0), .fz (.int .i64 0), .fz (.int .i64 0), .fz (.int .i64 0), .fz (.str []), .nils])], [], 0⟩ := by
  have hp := pSide a.k0 b.k0
  rw [h] at hp
  have w1 : wrapF .i64 1 = 1 := by decide +kernel
  simp only [encS] at hp
  generalize (sideB a.k0 b.k0).1 = q at *
  simp only [varB, encB, List.map_cons, List.map_nil]
  rw [x_iter]
  simp [u19_0, rSide, callR, hp, w1]
theorem roundM0f (a b : Box) (h : (sideB a.k0 b.k0).2 = false) : ∃ (T' : Tm) (st' : Dv.St), T'.at 4 = .ptr 2 0 ∧ T'.at 5 = .fz (.bool false) ∧ st'.S[2]? = some varZ ∧ iterI (dCw Try.prog (callI Try.prog prims dx tbl) l19_0) [2, 3, 4, 8] [(2, .ptr 0 0), (3, .ptr 1 0), (4, .ptr 2 0), (8, .fz (.int .i64 0))] ⟨[varB a, varB b, (true, [.fz (.int .i64 0), .fz (.int .i64 0), .fz (.int .i64 0), .fz (.int .i64 0), .fz (.int .i64 0), .fz (.int .i64 0), .fz (.int .i64 0), .fz (.int .i64 0), .fz (.int .i64 0), .fz (.int .i64 0), .fz (.int .i64 0), .fz (.int .i64 0), .fz (.str []), .nils])], [], 0⟩ = some (.ret, T', st') := by
  have hp := pSide a.k0 b.k0
  rw [h] at hp
  simp only [encS] at hp
  generalize (sideB a.k0 b.k0).1 = q at *
  simp only [varB, encB, List.map_cons, List.map_nil]
  refine ⟨_, _, ?_, ?_, ?_, (by
    rw [x_iter]
    simp [u19_0, rSide, callR, hp]; exact ⟨rfl, rfl⟩)⟩
  · simp [Tm.at]
  · simp [Tm.at]
  · simp [varZ]
theorem roundM1t (a b : Box) (s0 : Side) (h : (sideB a.k1 b.k1).2 = true) : iterI (dCw Try.prog (callI Try.prog prims dx tbl) l19_0) [2, 3, 4, 8] [(2, .ptr 0 0), (3, .ptr 1 0), (4, .ptr 2 0), (8, .fz (.int .i64 1))] ⟨[varB a, varB b, (true, [.fz (.int .i64 s0.h), .fz (.int .i64 s0.lo), .fz (.int .i64 s0.hi), .fz (.int .i64 0), .fz (.int .i64 0), .fz (.int .i64 0), .fz (.int .i64 0), .fz (.int .i64 0), .fz (.int .i64 0), .fz (.int .i64 0), .fz (.int .i64 0), .fz (.int .i64 0), .fz (.str []), .nils])], [], 0⟩ = iterI (dCw Try.prog (callI Try.prog prims dx tbl) l19_0) [2, 3, 4, 8] [(2, .ptr 0 0), (3, .ptr 1 0), (4, .ptr 2 0), (8, .fz (.int .i64 2))] ⟨[varB a, varB b, (true, [.fz (.int .i64 s0.h), .fz (.int .i64 s0.lo), .fz (.int .i64 s0.hi), .fz (.int .i64 (sideB a.k1 b.k1).1.h), .fz (.int .i64 (sideB a.k1 b.k1).1.lo), .fz (.int .i64 (sideB a.k1 b.k1).1.hi), .fz (.int .i64 0), .fz (.int .i64 0), .fz (.int .i64 0), .fz (.int .i64 0), .fz (.int .i64 0), .fz (.int .i64 0), .fz (.str []), .nils])], [], 0⟩ := by
  have hp := pSide a.k1 b.k1
  rw [h] at hp
  have w1 : wrapF .i64 2 = 2 := by decide +kernel
  simp only [encS] at hp
  generalize (sideB a.k1 b.k1).1 = q at *
  simp only [varB, encB, List.map_cons, List.map_nil]
  rw [x_iter]
  simp [u19_0, rSide, callR, hp, w1]
theorem roundM1f (a b : Box) (s0 : Side) (h : (sideB a.k1 b.k1).2 = false) : ∃ (T' : Tm) (st' : Dv.St), T'.at 4 = .ptr 2 0 ∧ T'.at 5 = .fz (.bool false) ∧ st'.S[2]? = some varZ ∧ iterI (dCw Try.prog (callI Try.prog prims dx tbl) l19_0) [2, 3, 4, 8] [(2, .ptr 0 0), (3, .ptr 1 0), (4, .ptr 2 0), (8, .fz (.int .i64 1))] ⟨[varB a, varB b, (true, [.fz (.int .i64 s0.h), .fz (.int .i64 s0.lo), .fz (.int .i64 s0.hi), .fz (.int .i64 0), .fz (.int .i64 0), .fz (.int .i64 0), .fz (.int .i64 0), .fz (.int .i64 0), .fz (.int .i64 0), .fz (.int .i64 0), .fz (.int .i64 0), .fz (.int .i64 0), .fz (.str []), .nils])], [], 0⟩ = some (.ret, T', st') := by
  have hp := pSide a.k1 b.k1
  rw [h] at hp
  simp only [encS] at hp
  generalize (sideB a.k1 b.k1).1 = q at *
  simp only [varB, encB, List.map_cons, List.map_nil]
  refine ⟨_, _, ?_, ?_, ?_, (by
    rw [x_iter]
    simp [u19_0, rSide, callR, hp]; exact ⟨rfl, rfl⟩)⟩
  · simp [Tm.at]
  · simp [Tm.at]
  · simp [varZ]
theorem roundM2t (a b : Box) (s0 s1 : Side) (h : (sideB a.k2 b.k2).2 = true) : iterI (dCw Try.prog (callI Try.prog prims dx tbl) l19_0) [2, 3, 4, 8] [(2, .ptr 0 0), (3, .ptr 1 0), (4, .ptr 2 0), (8, .fz (.int .i64 2))] ⟨[varB a, varB b, (true, [.fz (.int .i64 s0.h), .fz (.int .i64 s0.lo), .fz (.int .i64 s0.hi), .fz (.int .i64 s1.h), .fz (.int .i64 s1.lo), .fz (.int .i64 s1.hi), .fz (.int .i64 0), .fz (.int .i64 0), .fz (.int .i64 0), .fz (.int .i64 0), .fz (.int .i64 0), .fz (.int .i64 0), .fz (.str []), .nils])], [], 0⟩ = iterI (dCw Try.prog (callI Try.prog prims dx tbl) l19_0) [2, 3, 4, 8] [(2, .ptr 0 0), (3, .ptr 1 0), (4, .ptr 2 0), (8, .fz (.int .i64 3))] ⟨[varB a, varB b, (true, [.fz (.int .i64 s0.h), .fz (.int .i64 s0.lo), .fz (.int .i64 s0.hi), .fz (.int .i64 s1.h), .fz (.int .i64 s1.lo), .fz (.int .i64 s1.hi), .fz (.int .i64 (sideB a.k2 b.k2).1.h), .fz (.int .i64 (sideB a.k2 b.k2).1.lo), .fz (.int .i64 (sideB a.k2 b.k2).1.hi), .fz (.int .i64 0), .fz (.int .i64 0), .fz (.int .i64 0), .fz (.str []), .nils])], [], 0⟩ := by
  have hp := pSide a.k2 b.k2
  rw [h] at hp
  have w1 : wrapF .i64 3 = 3 := by decide +kernel
  simp only [encS] at hp
  generalize (sideB a.k2 b.k2).1 = q at *
  simp only [varB, encB, List.map_cons, List.map_nil]
  rw [x_iter]
  simp [u19_0, rSide, callR, hp, w1]
theorem roundM2f (a b : Box) (s0 s1 : Side) (h : (sideB a.k2 b.k2).2 = false) : ∃ (T' : Tm) (st' : Dv.St), T'.at 4 = .ptr 2 0 ∧ T'.at 5 = .fz (.bool false) ∧ st'.S[2]? = some varZ ∧ iterI (dCw Try.prog (callI Try.prog prims dx tbl) l19_0) [2, 3, 4, 8] [(2, .ptr 0 0), (3, .ptr 1 0), (4, .ptr 2 0), (8, .fz (.int .i64 2))] ⟨[varB a, varB b, (true, [.fz (.int .i64 s0.h), .fz (.int .i64 s0.lo), .fz (.int .i64 s0.hi), .fz (.int .i64 s1.h), .fz (.int .i64 s1.lo), .fz (.int .i64 s1.hi), .fz (.int .i64 0), .fz (.int .i64 0), .fz (.int .i64 0), .fz (.int .i64 0), .fz (.int .i64 0), .fz (.int .i64 0), .fz (.str []), .nils])], [], 0⟩ = some (.ret, T', st') := by
  have hp := pSide a.k2 b.k2
  rw [h] at hp
  simp only [encS] at hp
  generalize (sideB a.k2 b.k2).1 = q at *
  simp only [varB, encB, List.map_cons, List.map_nil]
  refine ⟨_, _, ?_, ?_, ?_, (by
    rw [x_iter]
    simp [u19_0, rSide, callR, hp]; exact ⟨rfl, rfl⟩)⟩
  · simp [Tm.at]
  · simp [Tm.at]
  · simp [varZ]
theorem roundM3t (a b : Box) (s0 s1 s2 : Side) (h : (sideB a.k3 b.k3).2 = true) : iterI (dCw Try.prog (callI Try.prog prims dx tbl) l19_0) [2, 3, 4, 8] [(2, .ptr 0 0), (3, .ptr 1 0), (4, .ptr 2 0), (8, .fz (.int .i64 3))] ⟨[varB a, varB b, (true, [.fz (.int .i64 s0.h), .fz (.int .i64 s0.lo), .fz (.int .i64 s0.hi), .fz (.int .i64 s1.h), .fz (.int .i64 s1.lo), .fz (.int .i64 s1.hi), .fz (.int .i64 s2.h), .fz (.int .i64 s2.lo), .fz (.int .i64 s2.hi), .fz (.int .i64 0), .fz (.int .i64 0), .fz (.int .i64 0), .fz (.str []), .nils])], [], 0⟩ = iterI (dCw Try.prog (callI Try.prog prims dx tbl) l19_0) [2, 3, 4, 8] [(2, .ptr 0 0), (3, .ptr 1 0), (4, .ptr 2 0), (8, .fz (.int .i64 4))] ⟨[varB a, varB b, (true, [.fz (.int .i64 s0.h), .fz (.int .i64 s0.lo), .fz (.int .i64 s0.hi), .fz (.int .i64 s1.h), .fz (.int .i64 s1.lo), .fz (.int .i64 s1.hi), .fz (.int .i64 s2.h), .fz (.int .i64 s2.lo), .fz (.int .i64 s2.hi), .fz (.int .i64 (sideB a.k3 b.k3).1.h), .fz (.int .i64 (sideB a.k3 b.k3).1.lo), .fz (.int .i64 (sideB a.k3 b.k3).1.hi), .fz (.str []), .nils])], [], 0⟩ := by
  have hp := pSide a.k3 b.k3
  rw [h] at hp
  have w1 : wrapF .i64 4 = 4 := by decide +kernel
  simp only [encS] at hp
  generalize (sideB a.k3 b.k3).1 = q at *
  simp only [varB, encB, List.map_cons, List.map_nil]
  rw [x_iter]
  simp [u19_0, rSide, callR, hp, w1]
theorem roundM3f (a b : Box) (s0 s1 s2 : Side) (h : (sideB a.k3 b.k3).2 = false) : ∃ (T' : Tm) (st' : Dv.St), T'.at 4 = .ptr 2 0 ∧ T'.at 5 = .fz (.bool false) ∧ st'.S[2]? = some varZ ∧ iterI (dCw Try.prog (callI Try.prog prims dx tbl) l19_0) [2, 3, 4, 8] [(2, .ptr 0 0), (3, .ptr 1 0), (4, .ptr 2 0), (8, .fz (.int .i64 3))] ⟨[varB a, varB b, (true, [.fz (.int .i64 s0.h), .fz (.int .i64 s0.lo), .fz (.int .i64 s0.hi), .fz (.int .i64 s1.h), .fz (.int .i64 s1.lo), .fz (.int .i64 s1.hi), .fz (.int .i64 s2.h), .fz (.int .i64 s2.lo), .fz (.int .i64 s2.hi), .fz (.int .i64 0), .fz (.int .i64 0), .fz (.int .i64 0), .fz (.str []), .nils])], [], 0⟩ = some (.ret, T', st') := by
  have hp := pSide a.k3 b.k3
  rw [h] at hp
  simp only [encS] at hp
  generalize (sideB a.k3 b.k3).1 = q at *
  simp only [varB, encB, List.map_cons, List.map_nil]
  refine ⟨_, _, ?_, ?_, ?_, (by
    rw [x_iter]
    simp [u19_0, rSide, callR, hp]; exact ⟨rfl, rfl⟩)⟩
  · simp [Tm.at]
  · simp [Tm.at]
  · simp [varZ]
theorem roundM4 (a b : Box) (s0 s1 s2 s3 : Side) : ∃ T' : Tm, T'.keep [2, 3, 4] = [(2, .ptr 0 0), (3, .ptr 1 0), (4, .ptr 2 0)] ∧ iterI (dCw Try.prog (callI Try.prog prims dx tbl) l19_0) [2, 3, 4, 8] [(2, .ptr 0 0), (3, .ptr 1 0), (4, .ptr 2 0), (8, .fz (.int .i64 4))] ⟨[varB a, varB b, (true, [.fz (.int .i64 s0.h), .fz (.int .i64 s0.lo), .fz (.int .i64 s0.hi), .fz (.int .i64 s1.h), .fz (.int .i64 s1.lo), .fz (.int .i64 s1.hi), .fz (.int .i64 s2.h), .fz (.int .i64 s2.lo), .fz (.int .i64 s2.hi), .fz (.int .i64 s3.h), .fz (.int .i64 s3.lo), .fz (.int .i64 s3.hi), .fz (.str []), .nils])], [], 0⟩ = some (.exit 0, T', ⟨[varB a, varB b, (true, [.fz (.int .i64 s0.h), .fz (.int .i64 s0.lo), .fz (.int .i64 s0.hi), .fz (.int .i64 s1.h), .fz (.int .i64 s1.lo), .fz (.int .i64 s1.hi), .fz (.int .i64 s2.h), .fz (.int .i64 s2.lo), .fz (.int .i64 s2.hi), .fz (.int .i64 s3.h), .fz (.int .i64 s3.lo), .fz (.int .i64 s3.hi), .fz (.str []), .nils])], [], 0⟩) := by
  refine ⟨_, ?_, (by
    simp only [varB, encB, List.map_cons, List.map_nil]
    rw [x_iter]
    simp [u19_0]; rfl)⟩
  simp [Tm.keep]
end Go.Proofs.Ytiloimenibbeoaa.Pl
