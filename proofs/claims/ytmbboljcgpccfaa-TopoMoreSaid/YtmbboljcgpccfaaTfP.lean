/-
  What is proved here: whether edges have the form and join all; the greatest of all steps.
  Conditions: none.
-/
import Derived.Test.YtmbboljcgpccfaaTeP
set_option linter.unusedVariables false
set_option linter.unusedSimpArgs false
set_option maxRecDepth 100000
set_option maxHeartbeats 8000000
namespace Go.Proofs.Ytmbboljcgpccfaa.Pl
open Go Go.Proofs Go.Proofs.Ev Go.Proofs.Dv Cd
attribute [local simp] x_pure x_skip x_reg x_drw x_seq x_cond x_block x_frz x_loop' Tm.keep_nil x_exit x_ret k_seq k_seq_ret k_seq_exit k_seq_none k_seq_ite k_cond k_block k_block_ret k_block_exit k_block_none k_block_ite k_iter k_iter_ret k_iter_exit k_iter_none k_iter_ite k_reg k_reg_none k_reg_ite x_is_nil x_is x_is_g k_ins k_ins_none k_ins_ite k_grd x_ord_nil x_ord x_ord_g k_ord k_ord_none k_ord_ite k_ogrd k_out_ret k_out k_out_none k_out_ite k_pure k_pure_none k_pure_ite startD dI dA deo Tm.at Tm.dst Tm.set Tm.put Tm.keep dW dRes oneOfD mkTup mkAgg mkFn allF frL fr vD vD1 vF vFL dBin dEq dNil isNilD dScal F.cv eBin sameKind eInt eStr cellsD oneD F.one dFill putAtD chunk dbnd dSrc St.own St.drop St.still St.fresh chkQ stillQ freshQ lOf rdOf rdOK undefD F.full F.fullL List.mapIdx_cons strip allOne_nil allOne_cons allOne_append allLen_nil allLen_cons allLen_append roomOK_small filterT y_mv y_pick y_new y_box y_build y_bslice y_ld1 y_ldn y_nilchk y_bin y_not y_conv y_bytes y_string y_ifc y_fn y_cut y_cuts y_fa y_fld y_ia y_idx y_idxs y_ext y_len y_lenstr y_app y_grow y_mks y_slow y_call y_callv y_inv y_extc x_it_st x_it_clr x_it_cpy k_addT k_addT_none k_addT_ite k_orU k_orU_none dU D.turn turnL Tm.turn turnS St.turn turnRows_length

def ltE (x y : Int × Int) : Prop := x.1 < y.1 ∨ x.1 = y.1 ∧ x.2 < y.2
instance (x y : Int × Int) : Decidable (ltE x y) := inferInstanceAs (Decidable (_ ∨ _))
structure FOk (n : Nat) (e : List (Int × Int)) : Prop where
  n1 : 1 ≤ n
  n5 : n ≤ 5
  len : e.length ≤ 100
  el : ∀ x ∈ e, 1 ≤ x.1 ∧ x.1 < x.2 ∧ x.2 ≤ n
  up : ∀ (i : Nat) (h : i + 1 < e.length), ltE e[i] e[i + 1]
theorem pOr2 (a b : Int) : pureI Try.prog prims dx tbl 102 [.list [[.int .i64 a], [.int .i64 b]]] = some (.int .i64 (if a = 0 then b else a)) := by
  rw [pureI_of (rfl : tbl 102 = some c102)]
  have w1 : wrapF .i64 1 = 1 := by decide +kernel
  have w2 : wrapF .i64 2 = 2 := by decide +kernel
  by_cases h1 : a = 0
  · by_cases h2 : b = 0
    · simp [c102, u102_0, x_iter, h1, h2, w1, w2]
    · simp [c102, u102_0, x_iter, h1, h2, w1, w2]
  · simp [c102, u102_0, x_iter, h1, w1, w2]
theorem or_lt {x y : Int × Int} (h : ltE x y) : (if cmpI x.1 y.1 = 0 then cmpI x.2 y.2 else cmpI x.1 y.1) = -1 := by
  rcases h with h | ⟨h1, h2⟩
  · simp [cmpI, h]
  · simp [cmpI, h1, h2]
def PostFm (n : Nat) (r : Option DSt) : Prop := ∃ S L c T', r = some (.exit 0, T', ⟨S, L, c⟩) ∧ T'.keep [0] = [(0, .fz (.int .i64 n))]
theorem loopFm (n : Nat) (e : List (Int × Int)) (f : FOk n e) : ∀ (r : List (Int × Int)) (i : Nat) (iz : Int) (S : List (Bool × List D)) (L : List Nat) (c : Nat), iz = i → e.drop i = r → i ≤ e.length →
    PostFm n (iterI (dCw Try.prog (callI Try.prog prims dx tbl) l82_0) [0, 1, 7, 8, 9] [(0, .fz (.int .i64 n)), (1, .fz (.list (e.map encE))), (7, .fz (.list (e.map encE))), (8, .fz (.int .i64 e.length)), (9, .fz (.int .i64 iz))] ⟨S, L, c⟩) := by
  intro r
  induction r with
  | nil =>
    intro i iz S L c hz hd hi
    have hi' := drop_nil hd hi
    subst hi' hz
    rw [x_iter]
    simp [u82_0]
    exact ⟨S, L, c, _, rfl, by simp [Tm.keep]⟩
  | cons a r ih =>
    intro i iz S L c hz hd hi
    subst hz
    obtain ⟨hlt, hli, hd'⟩ := drop_cons hd
    have hi1 : ((i : Int) + 1) = ((i + 1 : Nat) : Int) := by omega
    have hw : wrapF .i64 ((i : Int) + 1) = (i : Int) + 1 := wz _ (by have := f.len; omega)
    obtain ⟨x1, x2, x3⟩ := f.el a (by rw [← hli]; exact List.getElem_mem hlt)
    have y1 : ¬ a.1 < 1 := by omega
    have y2 : ¬ a.2 ≤ a.1 := by omega
    have y3 : ¬ (n : Int) < a.2 := by omega
    rw [x_iter]
    have goal := fun S L c => ih (i + 1) _ S L c hi1 hd' hlt
    have w1 : wrapF .i64 1 = 1 := by decide +kernel
    cases i with
    | zero =>
      simp at goal
      simp [u82_0, hlt, hli, encE, y1, y2, y3, w1]
      exact goal _ _ _
    | succ j =>
      have hu := or_lt (f.up j hlt)
      rw [hli] at hu
      have hj : j < e.length := by omega
      have wj : wrapF .i64 (((j + 1 : Nat) : Int) - 1) = j := wzp _ _ (by omega) (by have := f.len; omega)
      have gj : (0 : Int) < (j : Int) + 1 := by omega
      simp at goal hw wj
      have gl : (j : Int) + 1 < e.length := by omega
      have g0 : (0 : Int) ≤ (j : Int) + 1 := by omega
      simp [u82_0, hlt, hli, encE, y1, y2, y3, hw, wj, hj, gj, rCmpI, rOr, callR, pCmpI, pOr2, gl, g0, hu]
      exact goal _ _ _
theorem pForm (n : Nat) (e : List (Int × Int)) (f : FOk n e) : pureI Try.prog prims dx tbl 82 [.int .i64 n, .list (e.map encE)] = some (.bool true) := by
  rw [pureI_of (rfl : tbl 82 = some c82)]
  obtain ⟨S, L, c, T', h1, h2⟩ := loopFm n e f e 0 0 [] [] 0 rfl rfl (Nat.zero_le _)
  have := f.n1
  have := f.n5
  have g1 : 1 ≤ (n : Int) := by omega
  have g2 : (n : Int) ≤ 5 := by omega
  simp [c82, h1, h2, g1, g2]
theorem rForm (ds : List D) (st : Dv.St) : callI Try.prog prims dx tbl 82 ds st = callR Try.prog prims dx tbl 82 ds st (frL (fr st 6) ds) := callRw rfl rfl (rfl : tbl 82 = some c82) rfl ds st
/-! ### Whether all are joined to all -/
def mayN (n : Nat) (e : List (Int × Int)) : Bool := !decide ((-1 : Int) ∈ stepsN e n 1)
theorem bok_len {e : List (Int × Int)} {n : Nat} : ∀ (k : Nat) (out todo : List Int), Bok n out todo → (bfs e k out todo).length = n
  | 0, out, todo, b => b.len
  | k + 1, out, [], b => b.len
  | k + 1, out, a :: r, b => by
    obtain ⟨a1, a2, a3⟩ := b.todo a (by simp)
    obtain ⟨b', -⟩ := lookR_ok e n a n 0 out (a :: r) (by omega) b ⟨a1, a2, a3⟩
    obtain ⟨r', hr'⟩ := lookR_head e a n 0 out r
    simp only [bfs, b.len, hr', List.tail_cons]
    rw [hr'] at b'
    exact bok_len k _ _ ⟨b'.len, b'.lo, fun y hy => b'.todo y (by simp [hy])⟩
theorem stepsN_len (e : List (Int × Int)) (n : Nat) (hn : n ≤ 50) (a : Int) (h1 : 1 ≤ a) (h2 : a ≤ n) : (stepsN e n a).length = n := bok_len n _ _ (bok0 n hn a h1 h2).1
theorem pMay (n : Nat) (e : List (Int × Int)) (f : FOk n e) : pureI Try.prog prims dx tbl 53 [.int .i64 n, .list (e.map encE)] = some (.bool (mayN n e)) := by
  rw [pureI_of (rfl : tbl 53 = some c53)]
  have := f.n1
  have := f.n5
  have := f.len
  have h1 := pForm n e f
  have h2 := pSteps e (by omega) n f.n1 f.n5 1 (by omega) (by omega)
  have h3 := pCon (stepsN e n 1) (by rw [stepsN_len e n (by omega) 1 (by omega) (by omega)]; omega) (-1)
  simp [c53, rForm, rSteps, rCon, callR, h1, h2, h3, mayN]
theorem rMay (ds : List D) (st : Dv.St) : callI Try.prog prims dx tbl 53 ds st = callR Try.prog prims dx tbl 53 ds st (frL (fr st 6) ds) := callRw rfl rfl (rfl : tbl 53 = some c53) rfl ds st
theorem pStepsU (n : Nat) (e : List (Int × Int)) (f : FOk n e) (hm : mayN n e = true) (a : Int) (a1 : 1 ≤ a) (a2 : a ≤ n) : pureI Try.prog prims dx tbl 50 [.int .i64 n, .list (e.map encE), .int .i64 a] = some (.list ((stepsN e n a).map encI)) := by
  rw [pureI_of (rfl : tbl 50 = some c50)]
  have := f.len
  have h1 := pMay n e f
  rw [hm] at h1
  have h2 := pSteps e (by omega) n f.n1 f.n5 a a1 a2
  have g1 : ¬ a < 1 := by omega
  have g2 : ¬ (n : Int) < a := by omega
  simp [c50, rMay, rSteps, callR, h1, h2, g1, g2]
theorem rStepsU (ds : List D) (st : Dv.St) : callI Try.prog prims dx tbl 50 ds st = callR Try.prog prims dx tbl 50 ds st (frL (fr st 6) ds) := callRw rfl rfl (rfl : tbl 50 = some c50) rfl ds st
/-! ### The greatest -/
def maxR : Int → List Int → Int
  | m, [] => m
  | m, x :: r => maxR (if m < x then x else m) r
theorem mm81 : minmax (operAt Try.prog 81 20) = some (true, 18, 22) := by kernel_rfl
def PostMx (m : Int) (r : Option DSt) : Prop := ∃ T', r = some (.exit 0, T', ⟨[], [], 0⟩) ∧ T'.keep [3] = [(3, .fz (.int .i64 m))]
theorem loopMx (l : List Int) (hl : l.length < 1000000) : ∀ (r : List Int) (i : Nat) (iz m : Int), iz = i → l.drop i = r → i ≤ l.length →
    PostMx (maxR m r) (iterI (dCw Try.prog (callI Try.prog prims dx tbl) l81_0) [0, 3, 4] [(0, .fz (.list (l.map encI))), (3, .fz (.int .i64 m)), (4, .fz (.int .i64 iz))] ⟨[], [], 0⟩) := by
  intro r
  induction r with
  | nil =>
    intro i iz m hz hd hi
    have hi' := drop_nil hd hi
    subst hi' hz
    rw [x_iter]
    simp [u81_0, maxR]
    exact ⟨_, rfl, by simp [Tm.keep]⟩
  | cons a r ih =>
    intro i iz m hz hd hi
    subst hz
    obtain ⟨hlt, hli, hd'⟩ := drop_cons hd
    have hi1 : ((i : Int) + 1) = ((i + 1 : Nat) : Int) := by omega
    have hw : wrapF .i64 ((i : Int) + 1) = (i : Int) + 1 := wrap_id _ (by omega) (by omega)
    have goal := ih (i + 1) _ (if m < a then a else m) hi1 hd' hlt
    rw [x_iter]
    simp [u81_0, hlt, hli, encI, hw, slow_mm mm81, mmD, maxR]
    exact goal
theorem pMax (a : Int) (r : List Int) (hl : r.length < 100000) : pureI Try.prog prims dx tbl 81 [.list ((a :: r).map encI)] = some (.int .i64 (maxR a r)) := by
  rw [pureI_of (rfl : tbl 81 = some c81)]
  obtain ⟨T', h1, h2⟩ := loopMx (a :: r) (by simp; omega) r 1 1 a rfl rfl (by simp)
  simp [encI] at h1
  have g : ¬ ((r.length : Int) + 1 < 1) := by omega
  simp [c81, encI, h1, h2, g]
theorem rMax (ds : List D) (st : Dv.St) : callI Try.prog prims dx tbl 81 ds st = callR Try.prog prims dx tbl 81 ds st (frL (fr st 6) ds) := callRw rfl rfl (rfl : tbl 81 = some c81) rfl ds st
end Go.Proofs.Ytmbboljcgpccfaa.Pl
