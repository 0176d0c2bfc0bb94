/-
  What is proved here: what a box lets through, as the document has it.
  Conditions: none.
-/
import Derived.Test.YtiloimenibbeoaaOgM
set_option linter.unusedVariables false
set_option linter.unusedSimpArgs false
set_option maxRecDepth 100000
set_option maxHeartbeats 8000000
namespace Go.Proofs.Ytiloimenibbeoaa.Pl
open Go Go.Proofs Go.Proofs.Ev Go.Proofs.Dv Cd
attribute [local simp] x_pure x_skip x_reg x_drw x_seq x_cond x_block x_frz x_loop' Tm.keep_nil x_exit x_ret k_seq k_seq_ret k_seq_exit k_seq_none k_seq_ite k_cond k_block k_block_ret k_block_exit k_block_none k_block_ite k_iter k_iter_ret k_iter_exit k_iter_none k_iter_ite k_reg k_reg_none k_reg_ite x_is_nil x_is x_is_g k_ins k_ins_none k_ins_ite k_grd x_ord_nil x_ord x_ord_g k_ord k_ord_none k_ord_ite k_ogrd k_out_ret k_out k_out_none k_out_ite k_pure k_pure_none k_pure_ite startD dI dA deo Tm.at Tm.dst Tm.set Tm.put Tm.keep dW dRes oneOfD mkTup mkAgg mkFn allF frL fr vD vD1 vF vFL dBin dEq dNil isNilD dScal F.cv eBin sameKind eInt eStr cellsD oneD F.one dFill putAtD chunk dbnd dSrc St.own St.drop St.still St.fresh chkQ stillQ freshQ lOf rdOf rdOK undefD F.full F.fullL List.mapIdx_cons strip allOne_nil allOne_cons allOne_append allLen_nil allLen_cons allLen_append roomOK_small filterT y_mv y_pick y_new y_box y_build y_bslice y_ld1 y_ldn y_nilchk y_bin y_not y_conv y_bytes y_string y_ifc y_fn y_cut y_cuts y_fa y_fld y_ia y_idx y_idxs y_ext y_len y_lenstr y_app y_grow y_mks y_slow y_call y_callv y_inv y_extc x_it_st x_it_clr x_it_cpy k_addT k_addT_none k_addT_ite k_orU k_orU_none dU D.turn turnL Tm.turn turnS St.turn turnRows_length

theorem roundB0t (b : Box) (v : Ver) (hl : v.ats.length < 1000000) (R : List (Bool × List D)) (h : letsS b.k0 (attr v.ats 0) = true) : ∃ R' : List (Bool × List D), iterI (dCw Try.prog (callI Try.prog prims dx tbl) l18_0) [2, 3, 5] [(2, .ptr 0 0), (3, .ptr 1 0), (5, .fz (.int .i64 0))] ⟨varB b :: varV v :: R, [], 0⟩ = iterI (dCw Try.prog (callI Try.prog prims dx tbl) l18_0) [2, 3, 5] [(2, .ptr 0 0), (3, .ptr 1 0), (5, .fz (.int .i64 1))] ⟨varB b :: varV v :: R', [], 0⟩ := by
  have w1 : wrapF .i64 1 = 1 := by decide +kernel
  have hp := pRAttr v hl 0
  simp only [encV] at hp
  simp only [varB, varV, encB, encV, List.map_cons, List.map_nil]
  generalize b.k0 = p at *
  generalize attr v.ats 0 = o at *
  unfold letsS at h
  cases o with
  | none =>
    simp only [Option.getD_none, Option.isSome_none] at hp
    by_cases h1 : p.h = 1
    · simp [h1] at h
    by_cases h4 : p.h = 2
    · refine ⟨_, by
        rw [x_iter]
        simp [u18_0, rRAttr, callR, hp, h4, w1]
        rfl⟩
    · refine ⟨_, by
        rw [x_iter]
        simp [u18_0, rRAttr, callR, hp, h1, h4, w1]
        rfl⟩
  | some n =>
    simp only [Option.getD_some, Option.isSome_some] at hp
    by_cases h1 : p.h = 1
    · rw [if_pos h1] at h
      simp only [Bool.and_eq_true, decide_eq_true_eq] at h
      have h2 : ¬ n < p.lo := by omega
      have h3 : ¬ p.hi < n := by omega
      refine ⟨_, by
        rw [x_iter]
        simp [u18_0, rRAttr, callR, hp, h1, h2, h3, w1]
        rfl⟩
    · rw [if_neg h1] at h
      by_cases h4 : p.h = 2
      · simp [h4] at h
      refine ⟨_, by
        rw [x_iter]
        simp [u18_0, rRAttr, callR, hp, h1, h4, w1]
        rfl⟩
theorem roundB0f (b : Box) (v : Ver) (hl : v.ats.length < 1000000) (R : List (Bool × List D)) (h : letsS b.k0 (attr v.ats 0) = false) : ∃ (T' : Tm) (st' : Dv.St), T'.at 4 = .fz (.bool false) ∧ iterI (dCw Try.prog (callI Try.prog prims dx tbl) l18_0) [2, 3, 5] [(2, .ptr 0 0), (3, .ptr 1 0), (5, .fz (.int .i64 0))] ⟨varB b :: varV v :: R, [], 0⟩ = some (.ret, T', st') := by
  have hp := pRAttr v hl 0
  simp only [encV] at hp
  simp only [varB, varV, encB, encV, List.map_cons, List.map_nil]
  generalize b.k0 = p at *
  generalize attr v.ats 0 = o at *
  unfold letsS at h
  cases o with
  | none =>
    simp only [Option.getD_none, Option.isSome_none] at hp
    by_cases h1 : p.h = 1
    · refine ⟨_, _, ?_, (by
        rw [x_iter]
        simp [u18_0, rRAttr, callR, hp, h1]; exact ⟨rfl, rfl⟩)⟩
      simp [Tm.at]
    · simp [h1] at h
  | some n =>
    simp only [Option.getD_some, Option.isSome_some] at hp
    by_cases h1 : p.h = 1
    · rw [if_pos h1] at h
      by_cases h2 : n < p.lo
      · refine ⟨_, _, ?_, (by
          rw [x_iter]
          simp [u18_0, rRAttr, callR, hp, h1, h2]; exact ⟨rfl, rfl⟩)⟩
        simp [Tm.at]
      · have h3 : p.hi < n := by
          rw [← Bool.not_eq_true] at h
          simp only [Bool.and_eq_true, decide_eq_true_eq] at h
          omega
        refine ⟨_, _, ?_, (by
          rw [x_iter]
          simp [u18_0, rRAttr, callR, hp, h1, h2, h3]; exact ⟨rfl, rfl⟩)⟩
        simp [Tm.at]
    · rw [if_neg h1] at h
      by_cases h4 : p.h = 2
      · refine ⟨_, _, ?_, (by
          rw [x_iter]
          simp [u18_0, rRAttr, callR, hp, h1, h4]; exact ⟨rfl, rfl⟩)⟩
        simp [Tm.at]
      · simp [h4] at h
theorem roundB1t (b : Box) (v : Ver) (hl : v.ats.length < 1000000) (R : List (Bool × List D)) (h : letsS b.k1 (attr v.ats 1) = true) : ∃ R' : List (Bool × List D), iterI (dCw Try.prog (callI Try.prog prims dx tbl) l18_0) [2, 3, 5] [(2, .ptr 0 0), (3, .ptr 1 0), (5, .fz (.int .i64 1))] ⟨varB b :: varV v :: R, [], 0⟩ = iterI (dCw Try.prog (callI Try.prog prims dx tbl) l18_0) [2, 3, 5] [(2, .ptr 0 0), (3, .ptr 1 0), (5, .fz (.int .i64 2))] ⟨varB b :: varV v :: R', [], 0⟩ := by
  have w1 : wrapF .i64 2 = 2 := by decide +kernel
  have hp := pRAttr v hl 1
  simp only [encV] at hp
  simp only [varB, varV, encB, encV, List.map_cons, List.map_nil]
  generalize b.k1 = p at *
  generalize attr v.ats 1 = o at *
  unfold letsS at h
  cases o with
  | none =>
    simp only [Option.getD_none, Option.isSome_none] at hp
    by_cases h1 : p.h = 1
    · simp [h1] at h
    by_cases h4 : p.h = 2
    · refine ⟨_, by
        rw [x_iter]
        simp [u18_0, rRAttr, callR, hp, h4, w1]
        rfl⟩
    · refine ⟨_, by
        rw [x_iter]
        simp [u18_0, rRAttr, callR, hp, h1, h4, w1]
        rfl⟩
  | some n =>
    simp only [Option.getD_some, Option.isSome_some] at hp
    by_cases h1 : p.h = 1
    · rw [if_pos h1] at h
      simp only [Bool.and_eq_true, decide_eq_true_eq] at h
      have h2 : ¬ n < p.lo := by omega
      have h3 : ¬ p.hi < n := by omega
      refine ⟨_, by
        rw [x_iter]
        simp [u18_0, rRAttr, callR, hp, h1, h2, h3, w1]
        rfl⟩
    · rw [if_neg h1] at h
      by_cases h4 : p.h = 2
      · simp [h4] at h
      refine ⟨_, by
        rw [x_iter]
        simp [u18_0, rRAttr, callR, hp, h1, h4, w1]
        rfl⟩
theorem roundB1f (b : Box) (v : Ver) (hl : v.ats.length < 1000000) (R : List (Bool × List D)) (h : letsS b.k1 (attr v.ats 1) = false) : ∃ (T' : Tm) (st' : Dv.St), T'.at 4 = .fz (.bool false) ∧ iterI (dCw Try.prog (callI Try.prog prims dx tbl) l18_0) [2, 3, 5] [(2, .ptr 0 0), (3, .ptr 1 0), (5, .fz (.int .i64 1))] ⟨varB b :: varV v :: R, [], 0⟩ = some (.ret, T', st') := by
  have hp := pRAttr v hl 1
  simp only [encV] at hp
  simp only [varB, varV, encB, encV, List.map_cons, List.map_nil]
  generalize b.k1 = p at *
  generalize attr v.ats 1 = o at *
  unfold letsS at h
  cases o with
  | none =>
    simp only [Option.getD_none, Option.isSome_none] at hp
    by_cases h1 : p.h = 1
    · refine ⟨_, _, ?_, (by
        rw [x_iter]
        simp [u18_0, rRAttr, callR, hp, h1]; exact ⟨rfl, rfl⟩)⟩
      simp [Tm.at]
    · simp [h1] at h
  | some n =>
    simp only [Option.getD_some, Option.isSome_some] at hp
    by_cases h1 : p.h = 1
    · rw [if_pos h1] at h
      by_cases h2 : n < p.lo
      · refine ⟨_, _, ?_, (by
          rw [x_iter]
          simp [u18_0, rRAttr, callR, hp, h1, h2]; exact ⟨rfl, rfl⟩)⟩
        simp [Tm.at]
      · have h3 : p.hi < n := by
          rw [← Bool.not_eq_true] at h
          simp only [Bool.and_eq_true, decide_eq_true_eq] at h
          omega
        refine ⟨_, _, ?_, (by
          rw [x_iter]
          simp [u18_0, rRAttr, callR, hp, h1, h2, h3]; exact ⟨rfl, rfl⟩)⟩
        simp [Tm.at]
    · rw [if_neg h1] at h
      by_cases h4 : p.h = 2
      · refine ⟨_, _, ?_, (by
          rw [x_iter]
          simp [u18_0, rRAttr, callR, hp, h1, h4]; exact ⟨rfl, rfl⟩)⟩
        simp [Tm.at]
      · simp [h4] at h
theorem roundB2t (b : Box) (v : Ver) (hl : v.ats.length < 1000000) (R : List (Bool × List D)) (h : letsS b.k2 (attr v.ats 2) = true) : ∃ R' : List (Bool × List D), iterI (dCw Try.prog (callI Try.prog prims dx tbl) l18_0) [2, 3, 5] [(2, .ptr 0 0), (3, .ptr 1 0), (5, .fz (.int .i64 2))] ⟨varB b :: varV v :: R, [], 0⟩ = iterI (dCw Try.prog (callI Try.prog prims dx tbl) l18_0) [2, 3, 5] [(2, .ptr 0 0), (3, .ptr 1 0), (5, .fz (.int .i64 3))] ⟨varB b :: varV v :: R', [], 0⟩ := by
  have w1 : wrapF .i64 3 = 3 := by decide +kernel
  have hp := pRAttr v hl 2
  simp only [encV] at hp
  simp only [varB, varV, encB, encV, List.map_cons, List.map_nil]
  generalize b.k2 = p at *
  generalize attr v.ats 2 = o at *
  unfold letsS at h
  cases o with
  | none =>
    simp only [Option.getD_none, Option.isSome_none] at hp
    by_cases h1 : p.h = 1
    · simp [h1] at h
    by_cases h4 : p.h = 2
    · refine ⟨_, by
        rw [x_iter]
        simp [u18_0, rRAttr, callR, hp, h4, w1]
        rfl⟩
    · refine ⟨_, by
        rw [x_iter]
        simp [u18_0, rRAttr, callR, hp, h1, h4, w1]
        rfl⟩
  | some n =>
    simp only [Option.getD_some, Option.isSome_some] at hp
    by_cases h1 : p.h = 1
    · rw [if_pos h1] at h
      simp only [Bool.and_eq_true, decide_eq_true_eq] at h
      have h2 : ¬ n < p.lo := by omega
      have h3 : ¬ p.hi < n := by omega
      refine ⟨_, by
        rw [x_iter]
        simp [u18_0, rRAttr, callR, hp, h1, h2, h3, w1]
        rfl⟩
    · rw [if_neg h1] at h
      by_cases h4 : p.h = 2
      · simp [h4] at h
      refine ⟨_, by
        rw [x_iter]
        simp [u18_0, rRAttr, callR, hp, h1, h4, w1]
        rfl⟩
theorem roundB2f (b : Box) (v : Ver) (hl : v.ats.length < 1000000) (R : List (Bool × List D)) (h : letsS b.k2 (attr v.ats 2) = false) : ∃ (T' : Tm) (st' : Dv.St), T'.at 4 = .fz (.bool false) ∧ iterI (dCw Try.prog (callI Try.prog prims dx tbl) l18_0) [2, 3, 5] [(2, .ptr 0 0), (3, .ptr 1 0), (5, .fz (.int .i64 2))] ⟨varB b :: varV v :: R, [], 0⟩ = some (.ret, T', st') := by
  have hp := pRAttr v hl 2
  simp only [encV] at hp
  simp only [varB, varV, encB, encV, List.map_cons, List.map_nil]
  generalize b.k2 = p at *
  generalize attr v.ats 2 = o at *
  unfold letsS at h
  cases o with
  | none =>
    simp only [Option.getD_none, Option.isSome_none] at hp
    by_cases h1 : p.h = 1
    · refine ⟨_, _, ?_, (by
        rw [x_iter]
        simp [u18_0, rRAttr, callR, hp, h1]; exact ⟨rfl, rfl⟩)⟩
      simp [Tm.at]
    · simp [h1] at h
  | some n =>
    simp only [Option.getD_some, Option.isSome_some] at hp
    by_cases h1 : p.h = 1
    · rw [if_pos h1] at h
      by_cases h2 : n < p.lo
      · refine ⟨_, _, ?_, (by
          rw [x_iter]
          simp [u18_0, rRAttr, callR, hp, h1, h2]; exact ⟨rfl, rfl⟩)⟩
        simp [Tm.at]
      · have h3 : p.hi < n := by
          rw [← Bool.not_eq_true] at h
          simp only [Bool.and_eq_true, decide_eq_true_eq] at h
          omega
        refine ⟨_, _, ?_, (by
          rw [x_iter]
          simp [u18_0, rRAttr, callR, hp, h1, h2, h3]; exact ⟨rfl, rfl⟩)⟩
        simp [Tm.at]
    · rw [if_neg h1] at h
      by_cases h4 : p.h = 2
      · refine ⟨_, _, ?_, (by
          rw [x_iter]
          simp [u18_0, rRAttr, callR, hp, h1, h4]; exact ⟨rfl, rfl⟩)⟩
        simp [Tm.at]
      · simp [h4] at h
theorem roundB3t (b : Box) (v : Ver) (hl : v.ats.length < 1000000) (R : List (Bool × List D)) (h : letsS b.k3 (attr v.ats 3) = true) : ∃ R' : List (Bool × List D), iterI (dCw Try.prog (callI Try.prog prims dx tbl) l18_0) [2, 3, 5] [(2, .ptr 0 0), (3, .ptr 1 0), (5, .fz (.int .i64 3))] ⟨varB b :: varV v :: R, [], 0⟩ = iterI (dCw Try.prog (callI Try.prog prims dx tbl) l18_0) [2, 3, 5] [(2, .ptr 0 0), (3, .ptr 1 0), (5, .fz (.int .i64 4))] ⟨varB b :: varV v :: R', [], 0⟩ := by
  have w1 : wrapF .i64 4 = 4 := by decide +kernel
  have hp := pRAttr v hl 3
  simp only [encV] at hp
  simp only [varB, varV, encB, encV, List.map_cons, List.map_nil]
  generalize b.k3 = p at *
  generalize attr v.ats 3 = o at *
  unfold letsS at h
  cases o with
  | none =>
    simp only [Option.getD_none, Option.isSome_none] at hp
    by_cases h1 : p.h = 1
    · simp [h1] at h
    by_cases h4 : p.h = 2
    · refine ⟨_, by
        rw [x_iter]
        simp [u18_0, rRAttr, callR, hp, h4, w1]
        rfl⟩
    · refine ⟨_, by
        rw [x_iter]
        simp [u18_0, rRAttr, callR, hp, h1, h4, w1]
        rfl⟩
  | some n =>
    simp only [Option.getD_some, Option.isSome_some] at hp
    by_cases h1 : p.h = 1
    · rw [if_pos h1] at h
      simp only [Bool.and_eq_true, decide_eq_true_eq] at h
      have h2 : ¬ n < p.lo := by omega
      have h3 : ¬ p.hi < n := by omega
      refine ⟨_, by
        rw [x_iter]
        simp [u18_0, rRAttr, callR, hp, h1, h2, h3, w1]
        rfl⟩
    · rw [if_neg h1] at h
      by_cases h4 : p.h = 2
      · simp [h4] at h
      refine ⟨_, by
        rw [x_iter]
        simp [u18_0, rRAttr, callR, hp, h1, h4, w1]
        rfl⟩
theorem roundB3f (b : Box) (v : Ver) (hl : v.ats.length < 1000000) (R : List (Bool × List D)) (h : letsS b.k3 (attr v.ats 3) = false) : ∃ (T' : Tm) (st' : Dv.St), T'.at 4 = .fz (.bool false) ∧ iterI (dCw Try.prog (callI Try.prog prims dx tbl) l18_0) [2, 3, 5] [(2, .ptr 0 0), (3, .ptr 1 0), (5, .fz (.int .i64 3))] ⟨varB b :: varV v :: R, [], 0⟩ = some (.ret, T', st') := by
  have hp := pRAttr v hl 3
  simp only [encV] at hp
  simp only [varB, varV, encB, encV, List.map_cons, List.map_nil]
  generalize b.k3 = p at *
  generalize attr v.ats 3 = o at *
  unfold letsS at h
  cases o with
  | none =>
    simp only [Option.getD_none, Option.isSome_none] at hp
    by_cases h1 : p.h = 1
    · refine ⟨_, _, ?_, (by
        rw [x_iter]
        simp [u18_0, rRAttr, callR, hp, h1]; exact ⟨rfl, rfl⟩)⟩
      simp [Tm.at]
    · simp [h1] at h
  | some n =>
    simp only [Option.getD_some, Option.isSome_some] at hp
    by_cases h1 : p.h = 1
    · rw [if_pos h1] at h
      by_cases h2 : n < p.lo
      · refine ⟨_, _, ?_, (by
          rw [x_iter]
          simp [u18_0, rRAttr, callR, hp, h1, h2]; exact ⟨rfl, rfl⟩)⟩
        simp [Tm.at]
      · have h3 : p.hi < n := by
          rw [← Bool.not_eq_true] at h
          simp only [Bool.and_eq_true, decide_eq_true_eq] at h
          omega
        refine ⟨_, _, ?_, (by
          rw [x_iter]
          simp [u18_0, rRAttr, callR, hp, h1, h2, h3]; exact ⟨rfl, rfl⟩)⟩
        simp [Tm.at]
    · rw [if_neg h1] at h
      by_cases h4 : p.h = 2
      · refine ⟨_, _, ?_, (by
          rw [x_iter]
          simp [u18_0, rRAttr, callR, hp, h1, h4]; exact ⟨rfl, rfl⟩)⟩
        simp [Tm.at]
      · simp [h4] at h
theorem roundB4 (b : Box) (v : Ver) (R : List (Bool × List D)) : ∃ T' : Tm, T'.keep [2, 3] = [(2, .ptr 0 0), (3, .ptr 1 0)] ∧ iterI (dCw Try.prog (callI Try.prog prims dx tbl) l18_0) [2, 3, 5] [(2, .ptr 0 0), (3, .ptr 1 0), (5, .fz (.int .i64 4))] ⟨varB b :: varV v :: R, [], 0⟩ = some (.exit 0, T', ⟨varB b :: varV v :: R, [], 0⟩) := by
  refine ⟨_, ?_, (by
    simp only [varB, varV, encB, encV, List.map_cons, List.map_nil]
    rw [x_iter]
    simp [u18_0]; rfl)⟩
  simp [Tm.keep]
def PostLb (st : Dv.St) (b : Bool) (r : Option DSt) : Prop := if b = true then ∃ (T' : Tm) (st' : Dv.St), T'.at 4 = .fz (.bool false) ∧ r = some (.ret, T', st') else ∃ T' : Tm, T'.keep [2, 3] = [(2, .ptr 0 0), (3, .ptr 1 0)] ∧ r = some (.exit 2, T', st)
theorem loopLb (b : Box) (hb : b.nots.length ≤ 1000) (v : Ver) (R : List (Bool × List D)) : ∀ (r : List Tx) (i : Nat) (iz : Int), iz = i → b.nots.drop i = r → i ≤ b.nots.length →
    PostLb ⟨varB b :: varV v :: R, [], 0⟩ (r.any fun x => front x v.tag) (iterI (dCw Try.prog (callI Try.prog prims dx tbl) l18_1) [2, 3, 9] [(2, .ptr 0 0), (3, .ptr 1 0), (9, .fz (.int .i64 iz))] ⟨varB b :: varV v :: R, [], 0⟩) := by
  intro r
  induction r with
  | nil =>
    intro i iz hz hd hi
    have hi' := drop_nil hd hi
    subst hi' hz
    simp only [varB, varV, encB, encV, List.map_cons, List.map_nil]
    rw [x_iter]
    simp [u18_1]
    simp only [PostLb, Bool.false_eq_true, if_false]
    exact ⟨_, by simp [Tm.keep], rfl⟩
  | cons x r ih =>
    intro i iz hz hd hi
    subst hz
    obtain ⟨hlt, hli, hd'⟩ := drop_cons hd
    have c1 : -100000 ≤ (i : Int) + 1 ∧ (i : Int) + 1 ≤ 100000 := by omega
    have goal := ih (i + 1) ((i : Int) + 1) (by omega) hd' hlt
    have hp := pBegins v.tag x
    rw [List.any_cons]
    simp only [varB, varV, encB, encV, List.map_cons, List.map_nil] at goal ⊢
    rw [x_iter]
    cases hf : front x v.tag with
    | true =>
      rw [hf] at hp
      simp only [Bool.true_or, PostLb, if_true]
      refine ⟨_, _, ?_, (by
        simp [u18_1, hlt, hli, encT, rBegins, callR, hp]; exact ⟨rfl, rfl⟩)⟩
      simp [Tm.at]
    | false =>
      rw [hf] at hp
      rw [Bool.false_or]
      simp [u18_1, hlt, hli, encT, rBegins, callR, hp, wz _ c1]
      exact goal
theorem lboxNone (b : Box) (v : Ver) {T' : Tm} {st' : Dv.St} (h1 : T'.at 4 = .fz (.bool false)) (e : iterI (dCw Try.prog (callI Try.prog prims dx tbl) l18_0) [2, 3, 5] [(2, .ptr 0 0), (3, .ptr 1 0), (5, .fz (.int .i64 0))] ⟨varB b :: varV v :: [], [], 0⟩ = some (.ret, T', st')) :
    dPureW Try.prog (callI Try.prog prims dx tbl) c18 [.agg (encB b), .agg (encV v)] = some (.bool false) := by
  simp only [varB, varV, encB, encV, List.map_cons, List.map_nil] at e
  simp [c18, encB, encV, e, h1]
theorem lboxSome (b : Box) (hb : b.nots.length ≤ 1000) (v : Ver) (R : List (Bool × List D)) {T' : Tm} (k1 : T'.keep [2, 3] = [(2, .ptr 0 0), (3, .ptr 1 0)]) (e : iterI (dCw Try.prog (callI Try.prog prims dx tbl) l18_0) [2, 3, 5] [(2, .ptr 0 0), (3, .ptr 1 0), (5, .fz (.int .i64 0))] ⟨varB b :: varV v :: [], [], 0⟩ = some (.exit 0, T', ⟨varB b :: varV v :: R, [], 0⟩)) :
    dPureW Try.prog (callI Try.prog prims dx tbl) c18 [.agg (encB b), .agg (encV v)] = some (.bool (front b.tag v.tag && !(b.nots.any fun x => front x v.tag))) := by
  have hl := loopLb b hb v R b.nots 0 0 rfl rfl (Nat.zero_le _)
  have hp := pBegins v.tag b.tag
  generalize (b.nots.any fun x => front x v.tag) = w at *
  generalize front b.tag v.tag = f at *
  simp only [varB, varV, encB, encV, List.map_cons, List.map_nil] at e hl
  cases w with
  | true =>
    simp only [PostLb, if_true] at hl
    obtain ⟨T2, st2, k2, j2⟩ := hl
    simp [c18, encB, encV, e, k1, j2, k2]
  | false =>
    simp only [PostLb, Bool.false_eq_true, if_false] at hl
    obtain ⟨T2, k2, j2⟩ := hl
    simp [c18, encB, encV, e, k1, j2, k2, rBegins, callR, hp]
theorem pLBox (b : Box) (hb : b.nots.length ≤ 1000) (v : Ver) (hl : v.ats.length < 1000000) : pureI Try.prog prims dx tbl 18 [.agg (encB b), .agg (encV v)] = some (.bool (letsB b v.ats v.tag)) := by
  rw [pureI_of (rfl : tbl 18 = some c18)]
  unfold letsB
  cases h0 : letsS b.k0 (attr v.ats 0) with
  | false =>
    obtain ⟨T', st', a1, e⟩ := roundB0f b v hl [] h0
    simp only [Bool.false_and]
    exact lboxNone b v a1 e
  | true =>
    obtain ⟨R0, e0⟩ := roundB0t b v hl [] h0
    cases h1 : letsS b.k1 (attr v.ats 1) with
    | false =>
      obtain ⟨T', st', a1, e⟩ := roundB1f b v hl R0 h1
      simp only [Bool.false_and, Bool.true_and]
      exact lboxNone b v a1 (e0.trans e)
    | true =>
      obtain ⟨R1, e1⟩ := roundB1t b v hl R0 h1
      cases h2 : letsS b.k2 (attr v.ats 2) with
      | false =>
        obtain ⟨T', st', a1, e⟩ := roundB2f b v hl R1 h2
        simp only [Bool.false_and, Bool.true_and]
        exact lboxNone b v a1 (e0.trans (e1.trans e))
      | true =>
        obtain ⟨R2, e2⟩ := roundB2t b v hl R1 h2
        cases h3 : letsS b.k3 (attr v.ats 3) with
        | false =>
          obtain ⟨T', st', a1, e⟩ := roundB3f b v hl R2 h3
          simp only [Bool.false_and, Bool.true_and]
          exact lboxNone b v a1 (e0.trans (e1.trans (e2.trans e)))
        | true =>
          obtain ⟨R3, e3⟩ := roundB3t b v hl R2 h3
          obtain ⟨T', k1, e4⟩ := roundB4 b v R3
          simp only [Bool.true_and]
          exact lboxSome b hb v R3 k1 (e0.trans (e1.trans (e2.trans (e3.trans e4))))
theorem rLBox (ds : List D) (st : Dv.St) : callI Try.prog prims dx tbl 18 ds st = callR Try.prog prims dx tbl 18 ds st (frL (fr st 6) ds) := callRw rfl rfl (rfl : tbl 18 = some c18) rfl ds st
end Go.Proofs.Ytiloimenibbeoaa.Pl
