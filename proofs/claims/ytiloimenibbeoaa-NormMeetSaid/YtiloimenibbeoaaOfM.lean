/-
  What is proved here: the law of a filter's boxes, and the document's.
  Conditions: none.
-/
import Derived.Test.YtiloimenibbeoaaOeM
set_option linter.unusedVariables false
set_option linter.unusedSimpArgs false
set_option maxRecDepth 100000
set_option maxHeartbeats 8000000
namespace Go.Proofs.Ytiloimenibbeoaa.Pl
open Go Go.Proofs Go.Proofs.Ev Go.Proofs.Dv Cd
attribute [local simp] x_pure x_skip x_reg x_drw x_seq x_cond x_block x_frz x_loop' Tm.keep_nil x_exit x_ret k_seq k_seq_ret k_seq_exit k_seq_none k_seq_ite k_cond k_block k_block_ret k_block_exit k_block_none k_block_ite k_iter k_iter_ret k_iter_exit k_iter_none k_iter_ite k_reg k_reg_none k_reg_ite x_is_nil x_is x_is_g k_ins k_ins_none k_ins_ite k_grd x_ord_nil x_ord x_ord_g k_ord k_ord_none k_ord_ite k_ogrd k_out_ret k_out k_out_none k_out_ite k_pure k_pure_none k_pure_ite startD dI dA deo Tm.at Tm.dst Tm.set Tm.put Tm.keep dW dRes oneOfD mkTup mkAgg mkFn allF frL fr vD vD1 vF vFL dBin dEq dNil isNilD dScal F.cv eBin sameKind eInt eStr cellsD oneD F.one dFill putAtD chunk dbnd dSrc St.own St.drop St.still St.fresh chkQ stillQ freshQ lOf rdOf rdOK undefD F.full F.fullL List.mapIdx_cons strip allOne_nil allOne_cons allOne_append allLen_nil allLen_cons allLen_append roomOK_small filterT y_mv y_pick y_new y_box y_build y_bslice y_ld1 y_ldn y_nilchk y_bin y_not y_conv y_bytes y_string y_ifc y_fn y_cut y_cuts y_fa y_fld y_ia y_idx y_idxs y_ext y_len y_lenstr y_app y_grow y_mks y_slow y_call y_callv y_inv y_extc x_it_st x_it_clr x_it_cpy k_addT k_addT_none k_addT_ite k_orU k_orU_none dU D.turn turnL Tm.turn turnS St.turn turnRows_length

theorem eK7 : eqOK (operAt Try.prog 21 7) = some (7, 9) := by kernel_rfl
def PostS0 (st : Dv.St) (r : Option DSt) : Prop := ∃ T' : Tm, r = some (.exit 0, T', st)
theorem loopS0 (b : Box) (hb : b.nots.length ≤ 1000) : ∀ (r : List Tx) (i : Nat) (iz : Int), iz = i → b.nots.drop i = r → i ≤ b.nots.length →
    PostS0 ⟨[varB b, varB b], [], 0⟩ (iterI (dCw Try.prog (callI Try.prog prims dx tbl) l21_0) [2, 3, 5] [(2, .ptr 0 0), (3, .ptr 1 0), (5, .fz (.int .i64 iz))] ⟨[varB b, varB b], [], 0⟩) := by
  intro r
  induction r with
  | nil =>
    intro i iz hz hd hi
    have hi' := drop_nil hd hi
    subst hi' hz
    simp only [varB, encB, List.map_cons, List.map_nil]
    rw [x_iter]
    simp [u21_0]
    exact ⟨_, rfl⟩
  | cons x r ih =>
    intro i iz hz hd hi
    subst hz
    obtain ⟨hlt, hli, hd'⟩ := drop_cons hd
    have c1 : -100000 ≤ (i : Int) + 1 ∧ (i : Int) + 1 ≤ 100000 := by omega
    have goal := ih (i + 1) ((i : Int) + 1) (by omega) hd' hlt
    simp only [varB, encB, List.map_cons, List.map_nil] at goal ⊢
    rw [x_iter]
    simp [u21_0, hlt, hli, encT, beqB_eq, wz _ c1]
    exact goal
theorem pSameBox (b : Box) (hb : b.nots.length ≤ 1000) : pureI Try.prog prims dx tbl 21 [.agg (encB b), .agg (encB b)] = some (.bool true) := by
  rw [pureI_of (rfl : tbl 21 = some c21)]
  obtain ⟨T1, j1⟩ := loopS0 b hb b.nots 0 0 rfl rfl (Nat.zero_le _)
  simp only [varB, encB, List.map_cons, List.map_nil] at j1 ⊢
  simp [c21, slow_eqK eK7, eqDK, beqB_eq, j1]
theorem rSameBox (ds : List D) (st : Dv.St) : callI Try.prog prims dx tbl 21 ds st = callR Try.prog prims dx tbl 21 ds st (frL (fr st 6) ds) := callRw rfl rfl (rfl : tbl 21 = some c21) rfl ds st
theorem loopSs (l : List Box) (hl : l.length ≤ 1000) (hn : ∀ b ∈ l, b.nots.length ≤ 100) : ∀ (r : List Box) (i : Nat) (iz : Int), iz = i → l.drop i = r → i ≤ l.length →
    PostS0 ⟨[], [], 0⟩ (iterI (dCw Try.prog (callI Try.prog prims dx tbl) l14_0) [0, 1, 5] [(0, .fz (.list (l.map encB))), (1, .fz (.list (l.map encB))), (5, .fz (.int .i64 iz))] ⟨[], [], 0⟩) := by
  intro r
  induction r with
  | nil =>
    intro i iz hz hd hi
    have hi' := drop_nil hd hi
    subst hi' hz
    rw [x_iter]
    simp [u14_0]
    exact ⟨_, rfl⟩
  | cons x r ih =>
    intro i iz hz hd hi
    subst hz
    obtain ⟨hlt, hli, hd'⟩ := drop_cons hd
    have hb := hn x (by rw [← hli]; exact List.getElem_mem hlt)
    have c1 : -100000 ≤ (i : Int) + 1 ∧ (i : Int) + 1 ≤ 100000 := by omega
    have goal := ih (i + 1) ((i : Int) + 1) (by omega) hd' hlt
    have hp := pSameBox x (by omega)
    simp only [encB] at hp
    rw [x_iter]
    simp [u14_0, hlt, hli, encB, rSameBox, callR, hp, wz _ c1]
    exact goal
theorem pSameBoxes (l : List Box) (hl : l.length ≤ 1000) (hn : ∀ b ∈ l, b.nots.length ≤ 100) : pureI Try.prog prims dx tbl 14 [.list (l.map encB), .list (l.map encB)] = some (.bool true) := by
  rw [pureI_of (rfl : tbl 14 = some c14)]
  obtain ⟨T1, j1⟩ := loopSs l hl hn l 0 0 rfl rfl (Nat.zero_le _)
  simp [c14, j1]
theorem rSameBoxes (ds : List D) (st : Dv.St) : callI Try.prog prims dx tbl 14 ds st = callR Try.prog prims dx tbl 14 ds st (frL (fr st 6) ds) := callRw rfl rfl (rfl : tbl 14 = some c14) rfl ds st
theorem u8s_of {l : List Int} (h : l.length ≤ 1000) (hb : ∀ z ∈ l, 0 ≤ z ∧ z < 256) : U8s l := ⟨by omega, hb⟩
theorem qBegun7 (st : Dv.St) : callI Try.prog prims dx tbl 9 [] st = some (.fz (.bool true), st, []) := callI_prim (p := .yes) rfl rfl
theorem few_getD {f : Flt} (hf : f.ok) (hn : leaves f ≤ 100) (t : Bool) : ((ofB f t).getD []).length ≤ 16 ∧ ∀ x ∈ (ofB f t).getD [], x.nots.length ≤ 100 := by
  cases h : ofB f t with
  | none => simp
  | some l =>
    obtain ⟨h1, h2⟩ := few_of hf h
    exact ⟨h1, fun x hx => by have := h2 x hx; omega⟩
theorem pNormAll (l1 : List Int) (h1 : l1.length ≤ maxLen) (hb1 : ∀ z ∈ l1, 0 ≤ z ∧ z < 256) (z : Int) (hz : 0 ≤ z ∧ z < 256) :
    pureI Try.prog prims dx tbl 3 [.list (l1.map fun z => [.int .u8 z]), .int .u8 z] = some (.bool true) := by
  rw [pureI_of (rfl : tbl 3 = some c3)]
  by_cases g1 : 50 < l1.length
  · simp [c3, qBegun7, show (50 : Int) < l1.length by omega]
  have e1' : ¬ (50 : Int) < l1.length := by omega
  have m1 := vMade l1
  have hd : 0 ≤ z.tmod 3 ∧ z.tmod 3 < 3 := ⟨Int.tmod_nonneg 3 hz.1, Int.tmod_lt_of_pos z (by omega)⟩
  generalize hk : z.tmod 3 = k at *
  obtain ⟨n, rfl⟩ : ∃ n : Nat, k = n := ⟨k.toNat, by omega⟩
  have c1 : -100000 ≤ (n : Int) ∧ (n : Int) ≤ 100000 := by omega
  have c2 : -100000 ≤ 3 + (n : Int) ∧ 3 + (n : Int) ≤ 100000 := by omega
  obtain ⟨f, i0, _, ⟨hf, hn⟩, e0⟩ := vFilter l1 (u8s_of (by omega) hb1) (3 + n) (3 + (n : Int)) 0 (by omega) (by omega) (Nat.zero_le _)
  have hn' : leaves f ≤ 100 := by
    have : n = 0 ∨ n = 1 ∨ n = 2 := by omega
    rcases this with rfl | rfl | rfl
    · have : (2 : Nat) ^ (3 + 0) = 8 := rfl
      omega
    · have : (2 : Nat) ^ (3 + 1) = 16 := rfl
      omega
    · have : (2 : Nat) ^ (3 + 2) = 32 := rfl
      omega
  have a1 := pOF f hf hn'
  have a2 := pROF f hf hn'
  obtain ⟨q1, q2⟩ := few_getD hf hn' false
  simp only [encO] at a1 a2
  generalize (ofB f false).isSome = p at *
  generalize (ofB f false).getD [] = X at *
  have hs := pSameBoxes X (by omega) q2
  obtain ⟨x1, x2, x3, x4, x5, x6, hx⟩ := encF_eq f
  simp only [hx] at e0 a1 a2
  simp at e0
  simp [c3, x_vars, varsOf, varsK, varsK_ite, finals, callVars, splitV, contents, updV, orC, qBegun7, e1', rMade, m1, hk, wz _ c1, wz _ c2, rFilter, e0, rOF, rROF, callR, a1, a2, rSameBoxes, hs, freshQ]
end Go.Proofs.Ytiloimenibbeoaa.Pl
