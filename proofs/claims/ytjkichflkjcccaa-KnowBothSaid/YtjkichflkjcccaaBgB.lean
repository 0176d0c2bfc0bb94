/-
  What is proved here: the law of what both know.
  Conditions: none.
-/
import Derived.Test.YtjkichflkjcccaaBfB
set_option linter.unusedVariables false
set_option linter.unusedSimpArgs false
set_option maxRecDepth 100000
set_option maxHeartbeats 8000000
namespace Go.Proofs.Ytjkichflkjcccaa.Pl
open Go Go.Proofs Go.Proofs.Ev Go.Proofs.Dv Cd
attribute [local simp] x_pure x_skip x_reg x_drw x_seq x_cond x_block x_frz x_loop' Tm.keep_nil x_exit x_ret k_seq k_seq_ret k_seq_exit k_seq_none k_seq_ite k_cond k_block k_block_ret k_block_exit k_block_none k_block_ite k_iter k_iter_ret k_iter_exit k_iter_none k_iter_ite k_reg k_reg_none k_reg_ite x_is_nil x_is x_is_g k_ins k_ins_none k_ins_ite k_grd x_ord_nil x_ord x_ord_g k_ord k_ord_none k_ord_ite k_ogrd k_out_ret k_out k_out_none k_out_ite k_pure k_pure_none k_pure_ite startD dI dA deo Tm.at Tm.dst Tm.set Tm.put Tm.keep dW dRes oneOfD mkTup mkAgg mkFn allF frL fr vD vD1 vF vFL dBin dEq dNil isNilD dScal F.cv eBin sameKind eInt eStr cellsD oneD F.one dFill putAtD chunk dbnd dSrc St.own St.drop St.still St.fresh chkQ stillQ freshQ lOf rdOf rdOK undefD F.full F.fullL List.mapIdx_cons strip allOne_nil allOne_cons allOne_append allLen_nil allLen_cons allLen_append roomOK_small filterT y_mv y_pick y_new y_box y_build y_bslice y_ld1 y_ldn y_nilchk y_bin y_not y_conv y_bytes y_string y_ifc y_fn y_cut y_cuts y_fa y_fld y_ia y_idx y_idxs y_ext y_len y_lenstr y_app y_grow y_mks y_slow y_call y_callv y_inv y_extc x_it_st x_it_clr x_it_cpy k_addT k_addT_none k_addT_ite k_orU k_orU_none dU D.turn turnL Tm.turn turnS St.turn turnRows_length

theorem qBegun2 (st : Dv.St) : callI Try.prog prims dx tbl 4 [] st = some (.fz (.bool true), st, []) := callI_prim (p := .yes) rfl rfl
theorem pHas5 (k : Kn) (h : K50 k) (n : Int) : pureI Try.prog prims dx tbl 7 [.agg (encK k), .int .i64 n] = some (.bool (hasK k n)) := pHas k (by have := h.len; omega) n
def varK (k : Kn) : Bool × List D := (true, [.fz (.int .i64 k.up), .fz (.list (k.more.map encI))])
def PostL (S : List (Bool × List D)) (r : Option DSt) : Prop := ∃ T' : Tm, T'.keep [7, 8, 9, 10] = [(7, .ptr 0 0), (8, .ptr 1 0), (9, .ptr 2 0), (10, .ptr 3 0)] ∧ r = some (.exit 0, T', ⟨S, [], 0⟩)
theorem loopL (x y z : Kn) (hx : K50 x) (hy : K50 y) (hz : K50 z) : ∀ (q : Nat) (n : Int), n + q = 60 → 0 ≤ n →
    PostL [varK x, varK y, varK z, varK (bothK x y)] (iterI (dCw Try.prog (callI Try.prog prims dx tbl) l3_0) [7, 8, 9, 10, 11] [(7, .ptr 0 0), (8, .ptr 1 0), (9, .ptr 2 0), (10, .ptr 3 0), (11, .fz (.int .i64 n))] ⟨[varK x, varK y, varK z, varK (bothK x y)], [], 0⟩) := by
  intro q
  induction q with
  | zero =>
    intro n hn h0
    have hn' : n = 60 := by omega
    subst hn'
    rw [x_iter]
    simp [u3_0]
    exact ⟨_, by simp [Tm.keep], rfl⟩
  | succ q ih =>
    intro n hn h0
    have goal := ih (n + 1) (by omega) (by omega)
    have h1 := pHas5 x hx n
    have h2 := pHas5 y hy n
    have h3 := pHas5 (bothK x y) (hx.both hy) n
    rw [has_both hx.ok hy.ok] at h3
    have hlt : n < 60 := by omega
    have c1 : -100000 ≤ n + 1 ∧ n + 1 ≤ 100000 := by omega
    generalize bothK x y = m at *
    simp only [encK, varK] at h1 h2 h3 goal ⊢
    rw [x_iter]
    cases ex : hasK x n with
    | true =>
      rw [ex] at h1 h3
      simp at h3
      simp [u3_0, hlt, rHas, callR, h1, h2, h3, wz _ c1]
      exact goal
    | false =>
      rw [ex] at h1 h3
      cases ey : hasK y n with
      | true =>
        rw [ey] at h2 h3
        simp at h3
        simp [u3_0, hlt, rHas, callR, h1, h2, h3, wz _ c1]
        exact goal
      | false =>
        rw [ey] at h2 h3
        simp at h3
        simp [u3_0, hlt, rHas, callR, h1, h2, h3, wz _ c1]
        exact goal
theorem pSameE (k m : Kn) (hk : K50 k) (hm : K50 m) (h : k = m) : pureI Try.prog prims dx tbl 10 [.agg (encK k), .agg (encK m)] = some (.bool true) := by
  have := pSameK k m (by have := hk.len; omega) (by have := hm.len; omega)
  rw [this, h]
  simp
theorem pWithin5 (a b : Kn) (ha : K50 a) (hb : K50 b) : pureI Try.prog prims dx tbl 9 [.agg (encK a), .agg (encK b)] = some (.bool (withinK a b)) := pWithin a b (by have := ha.len; omega) (by have := hb.len; omega)
theorem pKnowBoth (l1 : List Int) (h1 : l1.length ≤ maxLen) (hb1 : ∀ z ∈ l1, 0 ≤ z ∧ z < 256) (l2 : List Int) (h2 : l2.length ≤ maxLen) (hb2 : ∀ z ∈ l2, 0 ≤ z ∧ z < 256) (l3 : List Int) (h3 : l3.length ≤ maxLen) (hb3 : ∀ z ∈ l3, 0 ≤ z ∧ z < 256) :
    pureI Try.prog prims dx tbl 3 [.list (l1.map fun z => [.int .u8 z]), .list (l2.map fun z => [.int .u8 z]), .list (l3.map fun z => [.int .u8 z])] = some (.bool true) := by
  rw [pureI_of (rfl : tbl 3 = some c3)]
  by_cases g1 : 20 < l1.length
  · simp [c3, qBegun2, show (20 : Int) < l1.length by omega]
  by_cases g2 : 20 < l2.length
  · simp [c3, qBegun2, show ¬ (20 : Int) < l1.length by omega, show (20 : Int) < l2.length by omega]
  by_cases g3 : 20 < l3.length
  · simp [c3, qBegun2, show ¬ (20 : Int) < l1.length by omega, show ¬ (20 : Int) < l2.length by omega, show (20 : Int) < l3.length by omega]
  have m1 := pMade2 l1 (by omega) hb1
  have m2 := pMade2 l2 (by omega) hb2
  have m3 := pMade2 l3 (by omega) hb3
  have hx := madeF_ok l1 _ K50.zero hb1
  have hy := madeF_ok l2 _ K50.zero hb2
  have hz := madeF_ok l3 _ K50.zero hb3
  have e1 : ¬ (20 : Int) < l1.length := by omega
  have e2 : ¬ (20 : Int) < l2.length := by omega
  have e3 : ¬ (20 : Int) < l3.length := by omega
  generalize madeF ⟨0, []⟩ l1 = x at *
  generalize madeF ⟨0, []⟩ l2 = y at *
  generalize madeF ⟨0, []⟩ l3 = z at *
  have hm := hx.both hy
  have hm2 := hy.both hx
  have hyz := hy.both hz
  obtain ⟨T', k1, j1⟩ := loopL x y z hx hy hz 60 0 (by omega) (Int.le_refl _)
  have b1 := pBoth x y hx hy
  have b2 := pBoth y x hy hx
  have b3 := pBoth (bothK x y) z hm hz
  have b4 := pBoth y z hy hz
  have b5 := pBoth x (bothK y z) hx hyz
  have b6 := pBoth x x hx hx
  have w1 := pWithin5 x (bothK x y) hx hm
  have w2 := pWithin5 y (bothK x y) hy hm
  have w3 := pWithin5 (bothK x y) x hm hx
  have w4 := pWithin5 y x hy hx
  rw [within_left hx.ok hy.ok] at w1
  rw [within_right hx.ok hy.ok] at w2
  rw [within_both hx.ok hy.ok] at w3
  have s1 := pSameE (bothK x y) (bothK y x) hm hm2 (both_comm hx.ok hy.ok)
  have s2 := pSameE (bothK (bothK x y) z) (bothK x (bothK y z)) (hm.both hz) (hx.both hyz) (both_assoc hx.ok hy.ok hz.ok)
  have s3 := pSameE (bothK x x) x (hx.both hx) hx (both_self hx.ok)
  have p1 := pMay (bothK x y) hm
  generalize withinK y x = w at *
  generalize bothK x (bothK y z) = k8 at *
  generalize bothK (bothK x y) z = k7 at *
  generalize bothK x y = k6 at *
  generalize bothK y x = k5 at *
  generalize bothK y z = k4 at *
  generalize bothK x x = k3 at *
  simp only [encK, varK] at m1 m2 m3 b1 b2 b3 b4 b5 b6 w1 w2 w3 w4 s1 s2 s3 p1 j1
  simp [c3, qBegun2, e1, e2, e3, rMade2, rBoth, rMay, rWithin, rSameK, callR, m1, m2, m3, b1, b2, b3, b4, b5, b6, w1, w2, w3, w4, s1, s2, s3, p1, j1, k1]
end Go.Proofs.Ytjkichflkjcccaa.Pl
