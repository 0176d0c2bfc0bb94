/-
  What is proved here: the law of steps: its loops.
  Conditions: none.
-/
import Derived.Test.YtmbboljcgpccfaaTgP
set_option linter.unusedVariables false
set_option linter.unusedSimpArgs false
set_option maxRecDepth 100000
set_option maxHeartbeats 8000000
namespace Go.Proofs.Ytmbboljcgpccfaa.Pl
open Go Go.Proofs Go.Proofs.Ev Go.Proofs.Dv Cd
attribute [local simp] x_pure x_skip x_reg x_drw x_seq x_cond x_block x_loop' Tm.keep_nil x_exit x_ret k_seq k_seq_ret k_seq_exit k_seq_none k_seq_ite k_cond k_block k_block_ret k_block_exit k_block_none k_block_ite k_iter k_iter_ret k_iter_exit k_iter_none k_iter_ite k_reg k_reg_none k_reg_ite x_is_nil x_is x_is_g k_ins k_ins_none k_ins_ite k_grd x_ord_nil x_ord x_ord_g k_ord k_ord_none k_ord_ite k_ogrd k_out_ret k_out k_out_none k_out_ite k_pure k_pure_none k_pure_ite startD dI dA deo Tm.at Tm.dst Tm.set Tm.put Tm.keep dW dRes oneOfD mkTup mkAgg mkFn allF frL fr vD vD1 vF vFL dBin dEq dNil isNilD dScal F.cv eBin sameKind eInt eStr cellsD oneD F.one dFill putAtD chunk dbnd dSrc St.own St.drop St.still St.fresh chkQ stillQ freshQ lOf rdOf rdOK undefD F.full F.fullL List.mapIdx_cons strip allOne_nil allOne_cons allOne_append allLen_nil allLen_cons allLen_append roomOK_small filterT y_mv y_pick y_new y_box y_build y_bslice y_ld1 y_ldn y_nilchk y_bin y_not y_conv y_bytes y_string y_ifc y_fn y_cut y_cuts y_fa y_fld y_ia y_idx y_idxs y_ext y_len y_lenstr y_app y_grow y_mks y_slow y_call y_callv y_inv y_extc x_it_st x_it_clr x_it_cpy k_addT k_addT_none k_addT_ite k_orU k_orU_none dU D.turn turnL Tm.turn turnS St.turn turnRows_length

def tv (T : Nat → List Int) (i k : Nat) : Int := (T i).getD k 0
theorem tv_get {T : Nat → List Int} {i k : Nat} (h : k < (T i).length) : (T i)[k] = tv T i k := by
  rw [tv, List.getD_eq_getElem?_getD, List.getElem?_eq_getElem h]
  rfl
def rowsT (T : Nat → List Int) (m : Nat) : List (List F) := (List.range m).map fun i => [F.list ((T i).map encI)]
theorem rowsT_succ (T : Nat → List Int) (m : Nat) : rowsT T (m + 1) = rowsT T m ++ [[F.list ((T m).map encI)]] := by
  simp [rowsT, List.range_succ]
theorem rowsT_one (T : Nat → List Int) (m : Nat) : allOne (rowsT T m) = true := allOne_map _ (fun a => rfl) _
theorem rowsT_len (T : Nat → List Int) (m : Nat) : (rowsT T m).length = m := by simp [rowsT]
theorem rowsT_get (T : Nat → List Int) (m k : Nat) (h : k < (rowsT T m).length) : (rowsT T m)[k] = [F.list ((T k).map encI)] := by
  simp [rowsT]
/-! ### All steps, in a row -/
def PostA0 (xa xb : F) (n : Nat) (e : List (Int × Int)) (T : Nat → List Int) (r : Option DSt) : Prop := ∃ (t : Nat) (L : List Nat) (c : Nat) (T' : Tm), t ∈ L ∧ T'.keep [5, 6, 7] = [(5, .fz (.int .i64 n)), (6, .fz (.list (e.map encE))), (7, .ow t 0 1 (rowsT T n))] ∧ r = some (.exit 0, T', ⟨[(true, [.fz xa, .fz xb])], L, c⟩)
def OwnT (T : Nat → List Int) (m : Nat) (L : List Nat) (d : D) : Prop := (m = 0 ∧ d = .nils) ∨ ∃ t, t ∈ L ∧ d = .ow t 0 1 (rowsT T m)
theorem ownT_of {T : Nat → List Int} {m t : Nat} {L : List Nat} {R : List (List F)} (h2 : R = rowsT T m) (h3 : t ∈ L) : OwnT T m L (.ow t 0 1 R) := .inr ⟨t, h3, by rw [h2]⟩
theorem loopA0 (xa xb : F) (n : Nat) (hn1 : 1 ≤ n) (e : List (Int × Int)) (f : FOk n e) (hm : mayN n e = true) (T : Nat → List Int) (hT : ∀ i, T i = stepsN e n ((i : Int) + 1)) (h0 : ∀ i, i < n → tv T i i = 0) : ∀ (m i : Nat) (iz : Int) (d : D) (L : List Nat) (c : Nat), i + m = n → iz = (i : Int) + 1 → OwnT T i L d →
    PostA0 xa xb n e T (iterI (dCw Try.prog (callI Try.prog prims dx tbl) l12_0) [5, 6, 7, 8] [(5, .fz (.int .i64 n)), (6, .fz (.list (e.map encE))), (7, d), (8, .fz (.int .i64 iz))] ⟨[(true, [.fz xa, .fz xb])], L, c⟩) := by
  intro m
  induction m with
  | zero =>
    intro i iz d L c hi hz hd
    obtain rfl : i = n := by omega
    subst hz
    rcases hd with ⟨h, _⟩ | ⟨t, ht, rfl⟩
    · omega
    · refine ⟨t, L, c, _, ht, ?_, (by
        rw [x_iter]
        simp [u12_0, show ¬ ((i : Int) + 1 ≤ i) by omega]; rfl)⟩
      simp [Tm.keep]
  | succ m ih =>
    intro i iz d L c hi hz hd
    subst hz
    have hin : i < n := by omega
    have hn5 := f.n5
    have hs := pStepsU n e f hm ((i : Int) + 1) (by omega) (by omega)
    rw [← hT] at hs
    have hl : (T i).length = n := by rw [hT]; exact stepsN_len e n (by omega) _ (by omega) (by omega)
    have hv := h0 i hin
    have c1 : -100000 ≤ (i : Int) + 1 + 1 ∧ (i : Int) + 1 + 1 ≤ 100000 := by omega
    have c2 : -100000 ≤ (i : Int) ∧ (i : Int) ≤ 100000 := by omega
    have g1 : (i : Int) + 1 ≤ n := by omega
    have g2 : i < (T i).length := by omega
    have r1 : roomOK 24 1 := roomOK_small (by omega) (by omega)
    have r2 : roomOK 24 (i + 1) := roomOK_small (by omega) (by omega)
    have o1 := rowsT_one T i
    have hgv := tv_get g2
    rw [hv] at hgv
    have goal := fun d L c => ih (i + 1) ((i : Int) + 1 + 1) d L c (by omega) (by omega)
    rw [x_iter]
    rcases hd with ⟨hi0, rfl⟩ | ⟨t, ht, rfl⟩
    · simp [u12_0, rStepsU, callR, hs, hl, hin, hgv, g1, encI, wz _ c1, wz _ c2, r1]
      exact goal _ _ _ (ownT_of (by subst hi0; rfl) (by simp))
    · simp [u12_0, rStepsU, callR, hs, hl, hin, hgv, g1, encI, wz _ c1, wz _ c2, r1, r2, o1, ht, rowsT_len]
      exact goal _ _ _ (ownT_of (by rw [rowsT_succ]) (by simp))
/-! ### What is looked at -/
structure Fx (n : Nat) (e : List (Int × Int)) (T : Nat → List Int) : Prop where
  n5 : n ≤ 5
  el : e.length ≤ 100
  len : ∀ i, i < n → (T i).length = n
  b : ∀ i k, i < n → k < n → 0 ≤ tv T i k ∧ tv T i k < n
  sym : ∀ i k, i < n → k < n → tv T i k = tv T k i
  bes : ∀ i k, i < n → k < n → (tv T i k = 1 ↔ besE e ((i : Int) + 1) ((k : Int) + 1) = true)
  zer : ∀ i k, i < n → k < n → (tv T i k = 0 ↔ i = k)
  tri : ∀ i k m, i < n → k < n → m < n → tv T i k ≤ tv T i m + tv T m k
def PostM (xa xb : F) (n : Nat) (e : List (Int × Int)) (T : Nat → List Int) (t : Nat) (w : Int) (i k : Nat) (L : List Nat) (c : Nat) (r : Option DSt) : Prop := ∃ (T' : Tm), T'.keep [5, 6, 7, 10, 11, 12] = [(5, .fz (.int .i64 n)), (6, .fz (.list (e.map encE))), (7, .ow t 0 1 (rowsT T n)), (10, .fz (.int .i64 w)), (11, .fz (.int .i64 i)), (12, .fz (.int .i64 k))] ∧ r = some (.exit 6, T', ⟨[(true, [.fz xa, .fz xb])], L, c⟩)
theorem loopM (xa xb : F) (n : Nat) (e : List (Int × Int)) (T : Nat → List Int) (f : Fx n e T) (t : Nat) (w : Int) (i k : Nat) (hin : i < n) (hkn : k < n) (L : List Nat) (c : Nat) (ht : t ∈ L) : ∀ (m j : Nat) (jz : Int), j + m = n → jz = j →
    PostM xa xb n e T t w i k L c (iterI (dCw Try.prog (callI Try.prog prims dx tbl) l12_1) [5, 6, 7, 10, 11, 12, 13] [(5, .fz (.int .i64 n)), (6, .fz (.list (e.map encE))), (7, .ow t 0 1 (rowsT T n)), (10, .fz (.int .i64 w)), (11, .fz (.int .i64 i)), (12, .fz (.int .i64 k)), (13, .fz (.int .i64 jz))] ⟨[(true, [.fz xa, .fz xb])], L, c⟩) := by
  intro m
  induction m with
  | zero =>
    intro j jz hj hz
    obtain rfl : j = n := by omega
    subst hz
    refine ⟨_, ?_, (by
      rw [x_iter]
      simp [u12_1]; rfl)⟩
    simp [Tm.keep]
  | succ m ih =>
    intro j jz hj hz
    subst hz
    have hjn : j < n := by omega
    have h5 := f.n5
    have l1 := f.len i hin
    have l2 := f.len j hjn
    have v1 := tv_get (show k < (T i).length by omega)
    have v2 := tv_get (show j < (T i).length by omega)
    have v3 := tv_get (show k < (T j).length by omega)
    have b1 := f.b i k hin hkn
    have b2 := f.b i j hin hjn
    have b3 := f.b j k hjn hkn
    have ht3 := f.tri i k j hin hkn hjn
    have c1 : -100000 ≤ tv T i j + tv T j k ∧ tv T i j + tv T j k ≤ 100000 := by omega
    have c2 : -100000 ≤ (j : Int) + 1 ∧ (j : Int) + 1 ≤ 100000 := by omega
    have g1 : ¬ (tv T i j + tv T j k < tv T i k) := by omega
    have goal := ih (j + 1) ((j : Int) + 1) (by omega) (by omega)
    rw [x_iter]
    simp [u12_1, ht, hin, hkn, hjn, rowsT_len, rowsT_get, l1, l2, encI, v1, v2, v3, wz _ c1, wz _ c2, g1]
    exact goal
def mostKT (T : Nat → List Int) (i : Nat) : Nat → Nat → Int → Int
  | 0, _, w => w
  | m + 1, k, w => mostKT T i m (k + 1) (if w < tv T i k then tv T i k else w)
def mostIT (T : Nat → List Int) (n : Nat) : Nat → Nat → Int → Int
  | 0, _, w => w
  | m + 1, i, w => mostIT T n m (i + 1) (mostKT T i n 0 w)
theorem mm12 : minmax (operAt Try.prog 12 154) = some (true, 146, 153) := by kernel_rfl
def PostK (xa xb : F) (n : Nat) (e : List (Int × Int)) (T : Nat → List Int) (t : Nat) (w : Int) (i : Nat) (L : List Nat) (c : Nat) (r : Option DSt) : Prop := ∃ (T' : Tm), T'.keep [5, 6, 7, 10, 11] = [(5, .fz (.int .i64 n)), (6, .fz (.list (e.map encE))), (7, .ow t 0 1 (rowsT T n)), (10, .fz (.int .i64 w)), (11, .fz (.int .i64 i))] ∧ r = some (.exit 4, T', ⟨[(true, [.fz xa, .fz xb])], L, c⟩)
theorem loopK (xa xb : F) (n : Nat) (e : List (Int × Int)) (T : Nat → List Int) (f : Fx n e T) (t : Nat) (i : Nat) (hin : i < n) (L : List Nat) (c : Nat) (ht : t ∈ L) : ∀ (m k : Nat) (kz w : Int), k + m = n → kz = k →
    PostK xa xb n e T t (mostKT T i m k w) i L c (iterI (dCw Try.prog (callI Try.prog prims dx tbl) l12_2) [5, 6, 7, 10, 11, 12] [(5, .fz (.int .i64 n)), (6, .fz (.list (e.map encE))), (7, .ow t 0 1 (rowsT T n)), (10, .fz (.int .i64 w)), (11, .fz (.int .i64 i)), (12, .fz (.int .i64 kz))] ⟨[(true, [.fz xa, .fz xb])], L, c⟩) := by
  intro m
  induction m with
  | zero =>
    intro k kz w hk hz
    obtain rfl : k = n := by omega
    subst hz
    refine ⟨_, ?_, (by
      rw [x_iter]
      simp [u12_2]; rfl)⟩
    simp [Tm.keep, mostKT]
  | succ m ih =>
    intro k kz w hk hz
    subst hz
    have hkn : k < n := by omega
    have h5 := f.n5
    have l1 := f.len i hin
    have l2 := f.len k hkn
    have v1 := tv_get (show k < (T i).length by omega)
    have v2 := tv_get (show i < (T k).length by omega)
    rw [← f.sym i k hin hkn] at v2
    have b1 := f.b i k hin hkn
    have g1 : ¬ tv T i k < 0 := by omega
    have c1 : -100000 ≤ (i : Int) + 1 ∧ (i : Int) + 1 ≤ 100000 := by omega
    have c2 : -100000 ≤ (k : Int) + 1 ∧ (k : Int) + 1 ≤ 100000 := by omega
    have hbs := pBes e (by have := f.el; omega) ((i : Int) + 1) ((k : Int) + 1)
    have fb := f.bes i k hin hkn
    have fz := f.zer i k hin hkn
    obtain ⟨T1, k1, k2⟩ := loopM xa xb n e T f t w i k hin hkn L c ht n 0 0 (by omega) rfl
    have goal := ih (k + 1) ((k : Int) + 1) (if w < tv T i k then tv T i k else w) (by omega) (by omega)
    rw [x_iter, mostKT]
    generalize mostKT T i m (k + 1) (if w < tv T i k then tv T i k else w) = res at goal ⊢
    cases hbe : besE e ((i : Int) + 1) ((k : Int) + 1) with
    | true =>
      rw [hbe] at hbs
      have z1 : tv T i k = 1 := fb.2 hbe
      have hik : ¬ i = k := fun h => by have := fz.2 h; omega
      have hikz : ¬ (i : Int) = (k : Int) := by omega
      rw [z1] at v1 v2 goal
      simp [u12_2, ht, hin, hkn, rowsT_len, rowsT_get, l1, l2, encI, v1, v2, g1, wz _ c1, wz _ c2, rBes, callR, hbs, hikz, k1, k2, slow_mm mm12, mmD]
      exact goal
    | false =>
      rw [hbe] at hbs
      have z1 : ¬ tv T i k = 1 := fun h => by rw [fb.1 h] at hbe; cases hbe
      by_cases hik : i = k
      · have z0 := fz.2 hik
        rw [z0] at v1 v2 goal
        subst hik
        simp [u12_2, ht, hin, hkn, rowsT_len, rowsT_get, l1, l2, encI, v1, v2, g1, wz _ c1, wz _ c2, rBes, callR, hbs, k1, k2, slow_mm mm12, mmD]
        exact goal
      · have z0 : ¬ tv T i k = 0 := fun h => hik (fz.1 h)
        simp [u12_2, ht, hin, hkn, rowsT_len, rowsT_get, l1, l2, encI, v1, v2, g1, wz _ c1, wz _ c2, rBes, callR, hbs, show ¬ (i : Int) = (k : Int) by omega, z0, z1, k1, k2, slow_mm mm12, mmD]
        exact goal
def PostI (xa xb : F) (n : Nat) (e : List (Int × Int)) (w : Int) (L : List Nat) (c : Nat) (r : Option DSt) : Prop := ∃ (T' : Tm), T'.keep [5, 6, 10] = [(5, .fz (.int .i64 n)), (6, .fz (.list (e.map encE))), (10, .fz (.int .i64 w))] ∧ r = some (.exit 2, T', ⟨[(true, [.fz xa, .fz xb])], L, c⟩)
theorem loopI (xa xb : F) (n : Nat) (e : List (Int × Int)) (T : Nat → List Int) (f : Fx n e T) (t : Nat) (L : List Nat) (c : Nat) (ht : t ∈ L) : ∀ (m i : Nat) (iz w : Int), i + m = n → iz = i →
    PostI xa xb n e (mostIT T n m i w) L c (iterI (dCw Try.prog (callI Try.prog prims dx tbl) l12_3) [5, 6, 7, 10, 11] [(5, .fz (.int .i64 n)), (6, .fz (.list (e.map encE))), (7, .ow t 0 1 (rowsT T n)), (10, .fz (.int .i64 w)), (11, .fz (.int .i64 iz))] ⟨[(true, [.fz xa, .fz xb])], L, c⟩) := by
  intro m
  induction m with
  | zero =>
    intro i iz w hi hz
    obtain rfl : i = n := by omega
    subst hz
    refine ⟨_, ?_, (by
      rw [x_iter]
      simp [u12_3]; rfl)⟩
    simp [Tm.keep, mostIT]
  | succ m ih =>
    intro i iz w hi hz
    subst hz
    have hin : i < n := by omega
    have h5 := f.n5
    have c2 : -100000 ≤ (i : Int) + 1 ∧ (i : Int) + 1 ≤ 100000 := by omega
    obtain ⟨T1, k1, k2⟩ := loopK xa xb n e T f t i hin L c ht n 0 0 w (by omega) rfl
    have goal := ih (i + 1) ((i : Int) + 1) (mostKT T i n 0 w) (by omega) (by omega)
    rw [x_iter, mostIT]
    simp [u12_3, ht, hin, wz _ c2, k1, k2]
    exact goal
end Go.Proofs.Ytmbboljcgpccfaa.Pl
