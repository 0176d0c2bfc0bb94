/-
  What is proved here: what two boxes both let through, as the document has it: the keys.
  Conditions: none.
-/
import Derived.Test.YtiloimenibbeoaaOaM
set_option linter.unusedVariables false
set_option linter.unusedSimpArgs false
set_option maxRecDepth 100000
set_option maxHeartbeats 8000000
namespace Go.Proofs.Ytiloimenibbeoaa.Pl
open Go Go.Proofs Go.Proofs.Ev Go.Proofs.Dv Cd
attribute [local simp] x_pure x_skip x_reg x_drw x_seq x_cond x_block x_frz x_loop' Tm.keep_nil x_exit x_ret k_seq k_seq_ret k_seq_exit k_seq_none k_seq_ite k_cond k_block k_block_ret k_block_exit k_block_none k_block_ite k_iter k_iter_ret k_iter_exit k_iter_none k_iter_ite k_reg k_reg_none k_reg_ite x_is_nil x_is x_is_g k_ins k_ins_none k_ins_ite k_grd x_ord_nil x_ord x_ord_g k_ord k_ord_none k_ord_ite k_ogrd k_out_ret k_out k_out_none k_out_ite k_pure k_pure_none k_pure_ite startD dI dA deo Tm.at Tm.dst Tm.set Tm.put Tm.keep dW dRes oneOfD mkTup mkAgg mkFn allF frL fr vD vD1 vF vFL dBin dEq dNil isNilD dScal F.cv eBin sameKind eInt eStr cellsD oneD F.one dFill putAtD chunk dbnd dSrc St.own St.drop St.still St.fresh chkQ stillQ freshQ lOf rdOf rdOK undefD F.full F.fullL List.mapIdx_cons strip allOne_nil allOne_cons allOne_append allLen_nil allLen_cons allLen_append roomOK_small filterT y_mv y_pick y_new y_box y_build y_bslice y_ld1 y_ldn y_nilchk y_bin y_not y_conv y_bytes y_string y_ifc y_fn y_cut y_cuts y_fa y_fld y_ia y_idx y_idxs y_ext y_len y_lenstr y_app y_grow y_mks y_slow y_call y_callv y_inv y_extc x_it_st x_it_clr x_it_cpy k_addT k_addT_none k_addT_ite k_orU k_orU_none dU D.turn turnL Tm.turn turnS St.turn turnRows_length

theorem mmR1 : minmax (operAt Try.prog 20 64) = some (true, 28, 30) := by kernel_rfl
theorem mmR2 : minmax (operAt Try.prog 20 69) = some (false, 33, 35) := by kernel_rfl
theorem roundR0t (a b : Box) (tg : Tx) (R : List (Bool × List D)) (ha : SOk a.k0) (hb : SOk b.k0) (h : (sideB a.k0 b.k0).2 = true) : ∃ R' : List (Bool × List D), iterI (dCw Try.prog (callI Try.prog prims dx tbl) l20_0) [2, 3, 4, 6, 7] [(2, .ptr 0 0), (3, .ptr 1 0), (4, .ptr 2 0), (6, .ptr 3 0), (7, .fz (.int .i64 0))] ⟨varB a :: varB b :: varZ :: (true, [.fz (.int .i64 0), .fz (.int .i64 0), .fz (.int .i64 0), .fz (.int .i64 0), .fz (.int .i64 0), .fz (.int .i64 0), .fz (.int .i64 0), .fz (.int .i64 0), .fz (.int .i64 0), .fz (.int .i64 0), .fz (.int .i64 0), .fz (.int .i64 0), .fz (.str tg), .nils]) :: R, [], 0⟩ = iterI (dCw Try.prog (callI Try.prog prims dx tbl) l20_0) [2, 3, 4, 6, 7] [(2, .ptr 0 0), (3, .ptr 1 0), (4, .ptr 2 0), (6, .ptr 3 0), (7, .fz (.int .i64 1))] ⟨varB a :: varB b :: varZ :: (true, [.fz (.int .i64 (sideB a.k0 b.k0).1.h), .fz (.int .i64 (sideB a.k0 b.k0).1.lo), .fz (.int .i64 (sideB a.k0 b.k0).1.hi), .fz (.int .i64 0), .fz (.int .i64 0), .fz (.int .i64 0), .fz (.int .i64 0), .fz (.int .i64 0), .fz (.int .i64 0), .fz (.int .i64 0), .fz (.int .i64 0), .fz (.int .i64 0), .fz (.str tg), .nils]) :: R', [], 0⟩ := by
  have w1 : wrapF .i64 1 = 1 := by decide +kernel
  simp only [varB, varZ, encB, List.map_cons, List.map_nil]
  generalize a.k0 = p at *
  generalize b.k0 = q at *
  by_cases h1 : p.h = 0
  · refine ⟨_, by
      rw [x_iter]
      simp [u20_0, sideB, h1, w1]
      rfl⟩
  by_cases h2 : q.h = 0
  · refine ⟨_, by
      rw [x_iter]
      simp [u20_0, sideB, h1, h2, w1]
      rfl⟩
  by_cases h3 : p.h = q.h
  · by_cases h4 : q.h = 2
    · refine ⟨_, by
        rw [x_iter]
        simp [u20_0, sideB, h3, h4, w1]
        rfl⟩
    · have h5 : q.h = 1 := by rcases hb with k | k | ⟨k, _⟩ <;> omega
      have h6 : ¬ (if q.hi < p.hi then q.hi else p.hi) < (if p.lo < q.lo then q.lo else p.lo) := by
        rw [h5] at h3
        simp only [sideB, h3, h5] at h
        simp at h
        omega
      refine ⟨_, by
        rw [x_iter]
        simp [u20_0, sideB, h3, h5, h6, slow_mm mmR1, slow_mm mmR2, mmD, w1]
        rfl⟩
  · simp [sideB, h1, h2, h3] at h
theorem roundR0f (a b : Box) (tg : Tx) (R : List (Bool × List D)) (ha : SOk a.k0) (hb : SOk b.k0) (h : (sideB a.k0 b.k0).2 = false) : ∃ (T' : Tm) (st' : Dv.St), T'.at 4 = .ptr 2 0 ∧ T'.at 5 = .fz (.bool false) ∧ st'.S[2]? = some varZ ∧ iterI (dCw Try.prog (callI Try.prog prims dx tbl) l20_0) [2, 3, 4, 6, 7] [(2, .ptr 0 0), (3, .ptr 1 0), (4, .ptr 2 0), (6, .ptr 3 0), (7, .fz (.int .i64 0))] ⟨varB a :: varB b :: varZ :: (true, [.fz (.int .i64 0), .fz (.int .i64 0), .fz (.int .i64 0), .fz (.int .i64 0), .fz (.int .i64 0), .fz (.int .i64 0), .fz (.int .i64 0), .fz (.int .i64 0), .fz (.int .i64 0), .fz (.int .i64 0), .fz (.int .i64 0), .fz (.int .i64 0), .fz (.str tg), .nils]) :: R, [], 0⟩ = some (.ret, T', st') := by
  simp only [varB, encB, List.map_cons, List.map_nil]
  generalize a.k0 = p at *
  generalize b.k0 = q at *
  by_cases h1 : p.h = 0
  · simp [sideB, h1] at h
  by_cases h2 : q.h = 0
  · simp [sideB, h1, h2] at h
  by_cases h3 : p.h = q.h
  · by_cases h4 : q.h = 2
    · exfalso
      rcases ha with k | k | ⟨k, k2⟩
      · omega
      · omega
      · simp [sideB, h3, h4] at h
        omega
    · have h5 : q.h = 1 := by rcases hb with k | k | ⟨k, _⟩ <;> omega
      have h6 : (if q.hi < p.hi then q.hi else p.hi) < (if p.lo < q.lo then q.lo else p.lo) := by
        rw [h5] at h3
        simp only [sideB, h3, h5] at h
        simp at h
        omega
      refine ⟨_, _, ?_, ?_, ?_, (by
        rw [x_iter]
        simp [u20_0, varZ, h3, h5, h6, slow_mm mmR1, slow_mm mmR2, mmD]; exact ⟨rfl, rfl⟩)⟩
      · simp [Tm.at]
      · simp [Tm.at]
      · simp [varZ]
  · refine ⟨_, _, ?_, ?_, ?_, (by
      rw [x_iter]
      simp [u20_0, varZ, h1, h2, h3]; exact ⟨rfl, rfl⟩)⟩
    · simp [Tm.at]
    · simp [Tm.at]
    · simp [varZ]
theorem roundR1t (a b : Box) (tg : Tx) (s0 : Side) (R : List (Bool × List D)) (ha : SOk a.k1) (hb : SOk b.k1) (h : (sideB a.k1 b.k1).2 = true) : ∃ R' : List (Bool × List D), iterI (dCw Try.prog (callI Try.prog prims dx tbl) l20_0) [2, 3, 4, 6, 7] [(2, .ptr 0 0), (3, .ptr 1 0), (4, .ptr 2 0), (6, .ptr 3 0), (7, .fz (.int .i64 1))] ⟨varB a :: varB b :: varZ :: (true, [.fz (.int .i64 s0.h), .fz (.int .i64 s0.lo), .fz (.int .i64 s0.hi), .fz (.int .i64 0), .fz (.int .i64 0), .fz (.int .i64 0), .fz (.int .i64 0), .fz (.int .i64 0), .fz (.int .i64 0), .fz (.int .i64 0), .fz (.int .i64 0), .fz (.int .i64 0), .fz (.str tg), .nils]) :: R, [], 0⟩ = iterI (dCw Try.prog (callI Try.prog prims dx tbl) l20_0) [2, 3, 4, 6, 7] [(2, .ptr 0 0), (3, .ptr 1 0), (4, .ptr 2 0), (6, .ptr 3 0), (7, .fz (.int .i64 2))] ⟨varB a :: varB b :: varZ :: (true, [.fz (.int .i64 s0.h), .fz (.int .i64 s0.lo), .fz (.int .i64 s0.hi), .fz (.int .i64 (sideB a.k1 b.k1).1.h), .fz (.int .i64 (sideB a.k1 b.k1).1.lo), .fz (.int .i64 (sideB a.k1 b.k1).1.hi), .fz (.int .i64 0), .fz (.int .i64 0), .fz (.int .i64 0), .fz (.int .i64 0), .fz (.int .i64 0), .fz (.int .i64 0), .fz (.str tg), .nils]) :: R', [], 0⟩ := by
  have w1 : wrapF .i64 2 = 2 := by decide +kernel
  simp only [varB, varZ, encB, List.map_cons, List.map_nil]
  generalize a.k1 = p at *
  generalize b.k1 = q at *
  by_cases h1 : p.h = 0
  · refine ⟨_, by
      rw [x_iter]
      simp [u20_0, sideB, h1, w1]
      rfl⟩
  by_cases h2 : q.h = 0
  · refine ⟨_, by
      rw [x_iter]
      simp [u20_0, sideB, h1, h2, w1]
      rfl⟩
  by_cases h3 : p.h = q.h
  · by_cases h4 : q.h = 2
    · refine ⟨_, by
        rw [x_iter]
        simp [u20_0, sideB, h3, h4, w1]
        rfl⟩
    · have h5 : q.h = 1 := by rcases hb with k | k | ⟨k, _⟩ <;> omega
      have h6 : ¬ (if q.hi < p.hi then q.hi else p.hi) < (if p.lo < q.lo then q.lo else p.lo) := by
        rw [h5] at h3
        simp only [sideB, h3, h5] at h
        simp at h
        omega
      refine ⟨_, by
        rw [x_iter]
        simp [u20_0, sideB, h3, h5, h6, slow_mm mmR1, slow_mm mmR2, mmD, w1]
        rfl⟩
  · simp [sideB, h1, h2, h3] at h
theorem roundR1f (a b : Box) (tg : Tx) (s0 : Side) (R : List (Bool × List D)) (ha : SOk a.k1) (hb : SOk b.k1) (h : (sideB a.k1 b.k1).2 = false) : ∃ (T' : Tm) (st' : Dv.St), T'.at 4 = .ptr 2 0 ∧ T'.at 5 = .fz (.bool false) ∧ st'.S[2]? = some varZ ∧ iterI (dCw Try.prog (callI Try.prog prims dx tbl) l20_0) [2, 3, 4, 6, 7] [(2, .ptr 0 0), (3, .ptr 1 0), (4, .ptr 2 0), (6, .ptr 3 0), (7, .fz (.int .i64 1))] ⟨varB a :: varB b :: varZ :: (true, [.fz (.int .i64 s0.h), .fz (.int .i64 s0.lo), .fz (.int .i64 s0.hi), .fz (.int .i64 0), .fz (.int .i64 0), .fz (.int .i64 0), .fz (.int .i64 0), .fz (.int .i64 0), .fz (.int .i64 0), .fz (.int .i64 0), .fz (.int .i64 0), .fz (.int .i64 0), .fz (.str tg), .nils]) :: R, [], 0⟩ = some (.ret, T', st') := by
  simp only [varB, encB, List.map_cons, List.map_nil]
  generalize a.k1 = p at *
  generalize b.k1 = q at *
  by_cases h1 : p.h = 0
  · simp [sideB, h1] at h
  by_cases h2 : q.h = 0
  · simp [sideB, h1, h2] at h
  by_cases h3 : p.h = q.h
  · by_cases h4 : q.h = 2
    · exfalso
      rcases ha with k | k | ⟨k, k2⟩
      · omega
      · omega
      · simp [sideB, h3, h4] at h
        omega
    · have h5 : q.h = 1 := by rcases hb with k | k | ⟨k, _⟩ <;> omega
      have h6 : (if q.hi < p.hi then q.hi else p.hi) < (if p.lo < q.lo then q.lo else p.lo) := by
        rw [h5] at h3
        simp only [sideB, h3, h5] at h
        simp at h
        omega
      refine ⟨_, _, ?_, ?_, ?_, (by
        rw [x_iter]
        simp [u20_0, varZ, h3, h5, h6, slow_mm mmR1, slow_mm mmR2, mmD]; exact ⟨rfl, rfl⟩)⟩
      · simp [Tm.at]
      · simp [Tm.at]
      · simp [varZ]
  · refine ⟨_, _, ?_, ?_, ?_, (by
      rw [x_iter]
      simp [u20_0, varZ, h1, h2, h3]; exact ⟨rfl, rfl⟩)⟩
    · simp [Tm.at]
    · simp [Tm.at]
    · simp [varZ]
theorem roundR2t (a b : Box) (tg : Tx) (s0 s1 : Side) (R : List (Bool × List D)) (ha : SOk a.k2) (hb : SOk b.k2) (h : (sideB a.k2 b.k2).2 = true) : ∃ R' : List (Bool × List D), iterI (dCw Try.prog (callI Try.prog prims dx tbl) l20_0) [2, 3, 4, 6, 7] [(2, .ptr 0 0), (3, .ptr 1 0), (4, .ptr 2 0), (6, .ptr 3 0), (7, .fz (.int .i64 2))] ⟨varB a :: varB b :: varZ :: (true, [.fz (.int .i64 s0.h), .fz (.int .i64 s0.lo), .fz (.int .i64 s0.hi), .fz (.int .i64 s1.h), .fz (.int .i64 s1.lo), .fz (.int .i64 s1.hi), .fz (.int .i64 0), .fz (.int .i64 0), .fz (.int .i64 0), .fz (.int .i64 0), .fz (.int .i64 0), .fz (.int .i64 0), .fz (.str tg), .nils]) :: R, [], 0⟩ = iterI (dCw Try.prog (callI Try.prog prims dx tbl) l20_0) [2, 3, 4, 6, 7] [(2, .ptr 0 0), (3, .ptr 1 0), (4, .ptr 2 0), (6, .ptr 3 0), (7, .fz (.int .i64 3))] ⟨varB a :: varB b :: varZ :: (true, [.fz (.int .i64 s0.h), .fz (.int .i64 s0.lo), .fz (.int .i64 s0.hi), .fz (.int .i64 s1.h), .fz (.int .i64 s1.lo), .fz (.int .i64 s1.hi), .fz (.int .i64 (sideB a.k2 b.k2).1.h), .fz (.int .i64 (sideB a.k2 b.k2).1.lo), .fz (.int .i64 (sideB a.k2 b.k2).1.hi), .fz (.int .i64 0), .fz (.int .i64 0), .fz (.int .i64 0), .fz (.str tg), .nils]) :: R', [], 0⟩ := by
  have w1 : wrapF .i64 3 = 3 := by decide +kernel
  simp only [varB, varZ, encB, List.map_cons, List.map_nil]
  generalize a.k2 = p at *
  generalize b.k2 = q at *
  by_cases h1 : p.h = 0
  · refine ⟨_, by
      rw [x_iter]
      simp [u20_0, sideB, h1, w1]
      rfl⟩
  by_cases h2 : q.h = 0
  · refine ⟨_, by
      rw [x_iter]
      simp [u20_0, sideB, h1, h2, w1]
      rfl⟩
  by_cases h3 : p.h = q.h
  · by_cases h4 : q.h = 2
    · refine ⟨_, by
        rw [x_iter]
        simp [u20_0, sideB, h3, h4, w1]
        rfl⟩
    · have h5 : q.h = 1 := by rcases hb with k | k | ⟨k, _⟩ <;> omega
      have h6 : ¬ (if q.hi < p.hi then q.hi else p.hi) < (if p.lo < q.lo then q.lo else p.lo) := by
        rw [h5] at h3
        simp only [sideB, h3, h5] at h
        simp at h
        omega
      refine ⟨_, by
        rw [x_iter]
        simp [u20_0, sideB, h3, h5, h6, slow_mm mmR1, slow_mm mmR2, mmD, w1]
        rfl⟩
  · simp [sideB, h1, h2, h3] at h
theorem roundR2f (a b : Box) (tg : Tx) (s0 s1 : Side) (R : List (Bool × List D)) (ha : SOk a.k2) (hb : SOk b.k2) (h : (sideB a.k2 b.k2).2 = false) : ∃ (T' : Tm) (st' : Dv.St), T'.at 4 = .ptr 2 0 ∧ T'.at 5 = .fz (.bool false) ∧ st'.S[2]? = some varZ ∧ iterI (dCw Try.prog (callI Try.prog prims dx tbl) l20_0) [2, 3, 4, 6, 7] [(2, .ptr 0 0), (3, .ptr 1 0), (4, .ptr 2 0), (6, .ptr 3 0), (7, .fz (.int .i64 2))] ⟨varB a :: varB b :: varZ :: (true, [.fz (.int .i64 s0.h), .fz (.int .i64 s0.lo), .fz (.int .i64 s0.hi), .fz (.int .i64 s1.h), .fz (.int .i64 s1.lo), .fz (.int .i64 s1.hi), .fz (.int .i64 0), .fz (.int .i64 0), .fz (.int .i64 0), .fz (.int .i64 0), .fz (.int .i64 0), .fz (.int .i64 0), .fz (.str tg), .nils]) :: R, [], 0⟩ = some (.ret, T', st') := by
  simp only [varB, encB, List.map_cons, List.map_nil]
  generalize a.k2 = p at *
  generalize b.k2 = q at *
  by_cases h1 : p.h = 0
  · simp [sideB, h1] at h
  by_cases h2 : q.h = 0
  · simp [sideB, h1, h2] at h
  by_cases h3 : p.h = q.h
  · by_cases h4 : q.h = 2
    · exfalso
      rcases ha with k | k | ⟨k, k2⟩
      · omega
      · omega
      · simp [sideB, h3, h4] at h
        omega
    · have h5 : q.h = 1 := by rcases hb with k | k | ⟨k, _⟩ <;> omega
      have h6 : (if q.hi < p.hi then q.hi else p.hi) < (if p.lo < q.lo then q.lo else p.lo) := by
        rw [h5] at h3
        simp only [sideB, h3, h5] at h
        simp at h
        omega
      refine ⟨_, _, ?_, ?_, ?_, (by
        rw [x_iter]
        simp [u20_0, varZ, h3, h5, h6, slow_mm mmR1, slow_mm mmR2, mmD]; exact ⟨rfl, rfl⟩)⟩
      · simp [Tm.at]
      · simp [Tm.at]
      · simp [varZ]
  · refine ⟨_, _, ?_, ?_, ?_, (by
      rw [x_iter]
      simp [u20_0, varZ, h1, h2, h3]; exact ⟨rfl, rfl⟩)⟩
    · simp [Tm.at]
    · simp [Tm.at]
    · simp [varZ]
theorem roundR3t (a b : Box) (tg : Tx) (s0 s1 s2 : Side) (R : List (Bool × List D)) (ha : SOk a.k3) (hb : SOk b.k3) (h : (sideB a.k3 b.k3).2 = true) : ∃ R' : List (Bool × List D), iterI (dCw Try.prog (callI Try.prog prims dx tbl) l20_0) [2, 3, 4, 6, 7] [(2, .ptr 0 0), (3, .ptr 1 0), (4, .ptr 2 0), (6, .ptr 3 0), (7, .fz (.int .i64 3))] ⟨varB a :: varB b :: varZ :: (true, [.fz (.int .i64 s0.h), .fz (.int .i64 s0.lo), .fz (.int .i64 s0.hi), .fz (.int .i64 s1.h), .fz (.int .i64 s1.lo), .fz (.int .i64 s1.hi), .fz (.int .i64 s2.h), .fz (.int .i64 s2.lo), .fz (.int .i64 s2.hi), .fz (.int .i64 0), .fz (.int .i64 0), .fz (.int .i64 0), .fz (.str tg), .nils]) :: R, [], 0⟩ = iterI (dCw Try.prog (callI Try.prog prims dx tbl) l20_0) [2, 3, 4, 6, 7] [(2, .ptr 0 0), (3, .ptr 1 0), (4, .ptr 2 0), (6, .ptr 3 0), (7, .fz (.int .i64 4))] ⟨varB a :: varB b :: varZ :: (true, [.fz (.int .i64 s0.h), .fz (.int .i64 s0.lo), .fz (.int .i64 s0.hi), .fz (.int .i64 s1.h), .fz (.int .i64 s1.lo), .fz (.int .i64 s1.hi), .fz (.int .i64 s2.h), .fz (.int .i64 s2.lo), .fz (.int .i64 s2.hi), .fz (.int .i64 (sideB a.k3 b.k3).1.h), .fz (.int .i64 (sideB a.k3 b.k3).1.lo), .fz (.int .i64 (sideB a.k3 b.k3).1.hi), .fz (.str tg), .nils]) :: R', [], 0⟩ := by
  have w1 : wrapF .i64 4 = 4 := by decide +kernel
  simp only [varB, varZ, encB, List.map_cons, List.map_nil]
  generalize a.k3 = p at *
  generalize b.k3 = q at *
  by_cases h1 : p.h = 0
  · refine ⟨_, by
      rw [x_iter]
      simp [u20_0, sideB, h1, w1]
      rfl⟩
  by_cases h2 : q.h = 0
  · refine ⟨_, by
      rw [x_iter]
      simp [u20_0, sideB, h1, h2, w1]
      rfl⟩
  by_cases h3 : p.h = q.h
  · by_cases h4 : q.h = 2
    · refine ⟨_, by
        rw [x_iter]
        simp [u20_0, sideB, h3, h4, w1]
        rfl⟩
    · have h5 : q.h = 1 := by rcases hb with k | k | ⟨k, _⟩ <;> omega
      have h6 : ¬ (if q.hi < p.hi then q.hi else p.hi) < (if p.lo < q.lo then q.lo else p.lo) := by
        rw [h5] at h3
        simp only [sideB, h3, h5] at h
        simp at h
        omega
      refine ⟨_, by
        rw [x_iter]
        simp [u20_0, sideB, h3, h5, h6, slow_mm mmR1, slow_mm mmR2, mmD, w1]
        rfl⟩
  · simp [sideB, h1, h2, h3] at h
theorem roundR3f (a b : Box) (tg : Tx) (s0 s1 s2 : Side) (R : List (Bool × List D)) (ha : SOk a.k3) (hb : SOk b.k3) (h : (sideB a.k3 b.k3).2 = false) : ∃ (T' : Tm) (st' : Dv.St), T'.at 4 = .ptr 2 0 ∧ T'.at 5 = .fz (.bool false) ∧ st'.S[2]? = some varZ ∧ iterI (dCw Try.prog (callI Try.prog prims dx tbl) l20_0) [2, 3, 4, 6, 7] [(2, .ptr 0 0), (3, .ptr 1 0), (4, .ptr 2 0), (6, .ptr 3 0), (7, .fz (.int .i64 3))] ⟨varB a :: varB b :: varZ :: (true, [.fz (.int .i64 s0.h), .fz (.int .i64 s0.lo), .fz (.int .i64 s0.hi), .fz (.int .i64 s1.h), .fz (.int .i64 s1.lo), .fz (.int .i64 s1.hi), .fz (.int .i64 s2.h), .fz (.int .i64 s2.lo), .fz (.int .i64 s2.hi), .fz (.int .i64 0), .fz (.int .i64 0), .fz (.int .i64 0), .fz (.str tg), .nils]) :: R, [], 0⟩ = some (.ret, T', st') := by
  simp only [varB, encB, List.map_cons, List.map_nil]
  generalize a.k3 = p at *
  generalize b.k3 = q at *
  by_cases h1 : p.h = 0
  · simp [sideB, h1] at h
  by_cases h2 : q.h = 0
  · simp [sideB, h1, h2] at h
  by_cases h3 : p.h = q.h
  · by_cases h4 : q.h = 2
    · exfalso
      rcases ha with k | k | ⟨k, k2⟩
      · omega
      · omega
      · simp [sideB, h3, h4] at h
        omega
    · have h5 : q.h = 1 := by rcases hb with k | k | ⟨k, _⟩ <;> omega
      have h6 : (if q.hi < p.hi then q.hi else p.hi) < (if p.lo < q.lo then q.lo else p.lo) := by
        rw [h5] at h3
        simp only [sideB, h3, h5] at h
        simp at h
        omega
      refine ⟨_, _, ?_, ?_, ?_, (by
        rw [x_iter]
        simp [u20_0, varZ, h3, h5, h6, slow_mm mmR1, slow_mm mmR2, mmD]; exact ⟨rfl, rfl⟩)⟩
      · simp [Tm.at]
      · simp [Tm.at]
      · simp [varZ]
  · refine ⟨_, _, ?_, ?_, ?_, (by
      rw [x_iter]
      simp [u20_0, varZ, h1, h2, h3]; exact ⟨rfl, rfl⟩)⟩
    · simp [Tm.at]
    · simp [Tm.at]
    · simp [varZ]
theorem roundR4 (a b : Box) (tg : Tx) (s0 s1 s2 s3 : Side) (R : List (Bool × List D)) : ∃ T' : Tm, T'.keep [2, 3, 4, 6] = [(2, .ptr 0 0), (3, .ptr 1 0), (4, .ptr 2 0), (6, .ptr 3 0)] ∧ iterI (dCw Try.prog (callI Try.prog prims dx tbl) l20_0) [2, 3, 4, 6, 7] [(2, .ptr 0 0), (3, .ptr 1 0), (4, .ptr 2 0), (6, .ptr 3 0), (7, .fz (.int .i64 4))] ⟨varB a :: varB b :: varZ :: (true, [.fz (.int .i64 s0.h), .fz (.int .i64 s0.lo), .fz (.int .i64 s0.hi), .fz (.int .i64 s1.h), .fz (.int .i64 s1.lo), .fz (.int .i64 s1.hi), .fz (.int .i64 s2.h), .fz (.int .i64 s2.lo), .fz (.int .i64 s2.hi), .fz (.int .i64 s3.h), .fz (.int .i64 s3.lo), .fz (.int .i64 s3.hi), .fz (.str tg), .nils]) :: R, [], 0⟩ = some (.exit 0, T', ⟨varB a :: varB b :: varZ :: (true, [.fz (.int .i64 s0.h), .fz (.int .i64 s0.lo), .fz (.int .i64 s0.hi), .fz (.int .i64 s1.h), .fz (.int .i64 s1.lo), .fz (.int .i64 s1.hi), .fz (.int .i64 s2.h), .fz (.int .i64 s2.lo), .fz (.int .i64 s2.hi), .fz (.int .i64 s3.h), .fz (.int .i64 s3.lo), .fz (.int .i64 s3.hi), .fz (.str tg), .nils]) :: R, [], 0⟩) := by
  refine ⟨_, ?_, (by
    simp only [varB, varZ, encB, List.map_cons, List.map_nil]
    rw [x_iter]
    simp [u20_0]; rfl)⟩
  simp [Tm.keep]
end Go.Proofs.Ytiloimenibbeoaa.Pl
