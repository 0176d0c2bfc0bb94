/-
  What is proved here: edges by numbers: they rise, are within, and join all.
  Conditions: none.
-/
import Derived.Test.YtmbboljcgpccfaaThP
import Derived.Test.YtmbboljcgpccfaaNuP
set_option linter.unusedVariables false
set_option linter.unusedSimpArgs false
set_option maxRecDepth 100000
set_option maxHeartbeats 8000000
namespace Go.Proofs.Ytmbboljcgpccfaa.Pl
open Go Go.Proofs Go.Proofs.Ev Go.Proofs.Dv Cd
attribute [local simp] x_pure x_skip x_reg x_drw x_seq x_cond x_block x_frz x_loop' Tm.keep_nil x_exit x_ret k_seq k_seq_ret k_seq_exit k_seq_none k_seq_ite k_cond k_block k_block_ret k_block_exit k_block_none k_block_ite k_iter k_iter_ret k_iter_exit k_iter_none k_iter_ite k_reg k_reg_none k_reg_ite x_is_nil x_is x_is_g k_ins k_ins_none k_ins_ite k_grd x_ord_nil x_ord x_ord_g k_ord k_ord_none k_ord_ite k_ogrd k_out_ret k_out k_out_none k_out_ite k_pure k_pure_none k_pure_ite startD dI dA deo Tm.at Tm.dst Tm.set Tm.put Tm.keep dW dRes oneOfD mkTup mkAgg mkFn allF frL fr vD vD1 vF vFL dBin dEq dNil isNilD dScal F.cv eBin sameKind eInt eStr cellsD oneD F.one dFill putAtD chunk dbnd dSrc St.own St.drop St.still St.fresh chkQ stillQ freshQ lOf rdOf rdOK undefD F.full F.fullL List.mapIdx_cons strip allOne_nil allOne_cons allOne_append allLen_nil allLen_cons allLen_append roomOK_small filterT y_mv y_pick y_new y_box y_build y_bslice y_ld1 y_ldn y_nilchk y_bin y_not y_conv y_bytes y_string y_ifc y_fn y_cut y_cuts y_fa y_fld y_ia y_idx y_idxs y_ext y_len y_lenstr y_app y_grow y_mks y_slow y_call y_callv y_inv y_extc x_it_st x_it_clr x_it_cpy k_addT k_addT_none k_addT_ite k_orU k_orU_none dU D.turn turnL Tm.turn turnS St.turn turnRows_length

def FrzE (rows : List (Int × Int)) (d : D) : Prop := (rows = [] ∧ d = .nils) ∨ d = .fz (.list (rows.map encE))
def HasB (b : Nat) (l : List (Int × Int)) : Prop := ∀ k : Nat, 2 ≤ k → k < b → ∃ x ∈ l, x.2 = (k : Int)
theorem HasB.conn {n : Nat} {l : List (Int × Int)} (h : HasB (n + 1) l) : connB n l = true := by
  simp only [connB, List.all_eq_true, List.mem_range'_1, List.any_eq_true]
  intro b hb
  obtain ⟨x, hx, hb2⟩ := h b (by omega) (by omega)
  exact ⟨x, hx, by simp [hb2]⟩
def PostE1 (n : Nat) (l : List Int) (r : Option DSt) : Prop := ∃ (rows : List (Int × Int)) (d : D) (i' : Nat) (T' : Tm), Ed n rows ∧ HasB (n + 1) rows ∧ FrzE rows d ∧ i' ≤ l.length ∧ T'.keep [0, 1, 5] = [(0, .ptr 0 0), (1, .fz (.int .i64 n)), (5, d)] ∧ r = some (.exit 0, T', ⟨[(true, [.fz (.list (l.map fun z => [.int .u8 z])), .fz (.int .i64 i')])], [], 0⟩)
theorem loopE1 (l : List Int) (hl : U8s l) (n : Nat) (hn : n ≤ 5) : ∀ (m b : Nat) (bz : Int) (rows : List (Int × Int)) (i : Nat) (d : D), b + m = n + 1 → bz = b → 2 ≤ b → Ed n rows → HasB b rows → i ≤ l.length → FrzE rows d →
    PostE1 n l (iterI (dCw Try.prog (callI Try.prog prims dx tbl) l49_0) [0, 1, 5, 6] [(0, .ptr 0 0), (1, .fz (.int .i64 n)), (5, d), (6, .fz (.int .i64 bz))] ⟨[(true, [.fz (.list (l.map fun z => [.int .u8 z])), .fz (.int .i64 i)])], [], 0⟩) := by
  intro m
  induction m with
  | zero =>
    intro b bz rows i d hm hz hb he hh hi hd
    obtain rfl : b = n + 1 := by omega
    subst hz
    refine ⟨rows, d, i, _, he, hh, hd, hi, ?_, (by
      rw [x_iter]
      simp [u49_0, show ¬ ((n : Int) + 1 ≤ n) by omega]; rfl)⟩
    simp [Tm.keep]
  | succ m ih =>
    intro b bz rows i d hm hz hb he hh hi hd
    subst hz
    obtain ⟨n1, i1, b1, m1, _, e1⟩ := vNum l hl i hi ((b : Int) - 1)
    have m1 := m1 (by omega)
    have hbn : b ≤ n := by omega
    have c0 : -100000 ≤ (b : Int) - 1 ∧ (b : Int) - 1 ≤ 100000 := by omega
    have c1 : -100000 ≤ 1 + n1 ∧ 1 + n1 ≤ 100000 := by omega
    have c2 : -100000 ≤ (b : Int) + 1 ∧ (b : Int) + 1 ≤ 100000 := by omega
    have hlen := he.len hn
    have hj := pJoined rows (by omega) (1 + n1, (b : Int))
    have he' : Ed n (joinE (1 + n1, (b : Int)) rows) := he.join ⟨by simp only; omega, by simp only; omega, by simp only; omega⟩
    have hh' : HasB (b + 1) (joinE (1 + n1, (b : Int)) rows) := by
      intro k k1 k2
      by_cases hk : k = b
      · subst hk
        exact ⟨_, (mem_joinE _ _ _).2 (.inl rfl), rfl⟩
      · obtain ⟨x, hx, hx2⟩ := hh k k1 (by omega)
        exact ⟨x, (mem_joinE _ _ _).2 (.inr hx), hx2⟩
    have goal := ih (b + 1) _ _ i1 _ (by omega) (show ((b : Int) + 1) = ((b + 1 : Nat) : Int) by omega) (by omega) he' hh' b1 (.inr rfl)
    rw [x_iter]
    simp only at hj
    rcases hd with ⟨rfl, rfl⟩ | rfl
    · simp at hj
      simp [u49_0, x_vars, varsOf, varsK, varsK_ite, finals, callVars, splitV, contents, updV, orC, rNum, rJoined, callR, hbn, wz _ c0, wz _ c1, wz _ c2, e1, hj]
      exact goal
    · simp [u49_0, x_vars, varsOf, varsK, varsK_ite, finals, callVars, splitV, contents, updV, orC, rNum, rJoined, callR, hbn, wz _ c0, wz _ c1, wz _ c2, e1, hj]
      exact goal
theorem mmLo : minmax (operAt Try.prog 49 44) = some (false, 46, 47) := by kernel_rfl
theorem mmHi : minmax (operAt Try.prog 49 47) = some (true, 49, 50) := by kernel_rfl
def PostE2 (n : Nat) (l : List Int) (r : Option DSt) : Prop := ∃ (rows : List (Int × Int)) (d : D) (i' : Nat) (T' : Tm), Ed n rows ∧ HasB (n + 1) rows ∧ FrzE rows d ∧ i' ≤ l.length ∧ T'.keep [5] = [(5, d)] ∧ r = some (.exit 2, T', ⟨[(true, [.fz (.list (l.map fun z => [.int .u8 z])), .fz (.int .i64 i')])], [], 0⟩)
theorem loopE2 (l : List Int) (hl : U8s l) (n : Nat) (hn1 : 1 ≤ n) (hn : n ≤ 5) : ∀ (k : Nat) (kz : Int) (rows : List (Int × Int)) (i : Nat) (d : D), k ≤ 3 → kz = k → Ed n rows → HasB (n + 1) rows → i ≤ l.length → FrzE rows d →
    PostE2 n l (iterI (dCw Try.prog (callI Try.prog prims dx tbl) l49_1) [0, 1, 5, 7] [(0, .ptr 0 0), (1, .fz (.int .i64 n)), (5, d), (7, .fz (.int .i64 kz))] ⟨[(true, [.fz (.list (l.map fun z => [.int .u8 z])), .fz (.int .i64 i)])], [], 0⟩) := by
  intro k
  induction k with
  | zero =>
    intro kz rows i d hk hz he hh hi hd
    subst hz
    refine ⟨rows, d, i, _, he, hh, hd, hi, ?_, (by
      rw [x_iter]
      simp [u49_1]; rfl)⟩
    simp [Tm.keep]
  | succ k ih =>
    intro kz rows i d hk hz he hh hi hd
    subst hz
    have hk0 : (0 : Int) < (k : Int) + 1 := by omega
    by_cases h2 : 2 < n
    · have h2' : (2 : Int) < n := by omega
      obtain ⟨n1, i1, b1, m1, _, e1⟩ := vNum l hl i hi (n : Int)
      obtain ⟨n2, i2, b2, m2, _, e2⟩ := vNum l hl i1 b1 (n : Int)
      have m1 := m1 (by omega)
      have m2 := m2 (by omega)
      have c1 : -100000 ≤ 1 + n1 ∧ 1 + n1 ≤ 100000 := by omega
      have c2 : -100000 ≤ 1 + n2 ∧ 1 + n2 ≤ 100000 := by omega
      have c4 : -100000 ≤ (k : Int) ∧ (k : Int) ≤ 100000 := by omega
      have hlen := he.len hn
      rw [x_iter]
      by_cases hne : n1 = n2
      · have goal := ih _ rows i2 d (by omega) rfl he hh b2 hd
        subst hne
        rcases hd with ⟨rfl, rfl⟩ | rfl
        · simp [u49_1, x_vars, varsOf, varsK, varsK_ite, finals, callVars, splitV, contents, updV, orC, rNum, hk0, h2, h2', e1, e2, wz _ c1, wz _ c2, wz _ c4]
          exact goal
        · simp [u49_1, x_vars, varsOf, varsK, varsK_ite, finals, callVars, splitV, contents, updV, orC, rNum, hk0, h2, h2', e1, e2, wz _ c1, wz _ c2, wz _ c4]
          exact goal
      · have hne' : ¬ (1 + n1 = 1 + n2) := by omega
        by_cases hlt : n1 < n2
        · have g1 : ¬ (1 + n2 < 1 + n1) := by omega
          have g2 : 1 + n1 < 1 + n2 := by omega
          have he' : Ed n (joinE (1 + n1, 1 + n2) rows) := he.join ⟨by simp only; omega, by simp only; omega, by simp only; omega⟩
          have hh' : HasB (n + 1) (joinE (1 + n1, 1 + n2) rows) := fun k k1 k2 => by
            obtain ⟨x, hx, hx2⟩ := hh k k1 k2
            exact ⟨x, (mem_joinE _ _ _).2 (.inr hx), hx2⟩
          have hj := pJoined rows (by omega) (1 + n1, 1 + n2)
          have goal := ih _ _ i2 _ (by omega) rfl he' hh' b2 (.inr rfl)
          simp only at hj
          rcases hd with ⟨rfl, rfl⟩ | rfl
          · simp at hj
            simp [u49_1, x_vars, varsOf, varsK, varsK_ite, finals, callVars, splitV, contents, updV, orC, rNum, rJoined, callR, hk0, h2, h2', e1, e2, wz _ c1, wz _ c2, wz _ c4, hne, hne', slow_mm mmLo, slow_mm mmHi, mmD, g1, g2, hj, hlt]
            exact goal
          · simp [u49_1, x_vars, varsOf, varsK, varsK_ite, finals, callVars, splitV, contents, updV, orC, rNum, rJoined, callR, hk0, h2, h2', e1, e2, wz _ c1, wz _ c2, wz _ c4, hne, hne', slow_mm mmLo, slow_mm mmHi, mmD, g1, g2, hj, hlt]
            exact goal
        · have g1 : 1 + n2 < 1 + n1 := by omega
          have g2 : ¬ (1 + n1 < 1 + n2) := by omega
          have hlt' : n2 < n1 := by omega
          have he' : Ed n (joinE (1 + n2, 1 + n1) rows) := he.join ⟨by simp only; omega, by simp only; omega, by simp only; omega⟩
          have hh' : HasB (n + 1) (joinE (1 + n2, 1 + n1) rows) := fun k k1 k2 => by
            obtain ⟨x, hx, hx2⟩ := hh k k1 k2
            exact ⟨x, (mem_joinE _ _ _).2 (.inr hx), hx2⟩
          have hj := pJoined rows (by omega) (1 + n2, 1 + n1)
          have goal := ih _ _ i2 _ (by omega) rfl he' hh' b2 (.inr rfl)
          simp only at hj
          rcases hd with ⟨rfl, rfl⟩ | rfl
          · simp at hj
            simp [u49_1, x_vars, varsOf, varsK, varsK_ite, finals, callVars, splitV, contents, updV, orC, rNum, rJoined, callR, hk0, h2, h2', e1, e2, wz _ c1, wz _ c2, wz _ c4, hne, hne', slow_mm mmLo, slow_mm mmHi, mmD, g1, g2, hj, hlt, hlt']
            exact goal
          · simp [u49_1, x_vars, varsOf, varsK, varsK_ite, finals, callVars, splitV, contents, updV, orC, rNum, rJoined, callR, hk0, h2, h2', e1, e2, wz _ c1, wz _ c2, wz _ c4, hne, hne', slow_mm mmLo, slow_mm mmHi, mmD, g1, g2, hj, hlt, hlt']
            exact goal
    · have h2' : ¬ (2 : Int) < n := by omega
      refine ⟨rows, d, i, _, he, hh, hd, hi, ?_, (by
        rw [x_iter]
        simp [u49_1, hk0, h2, h2']; rfl)⟩
      simp [Tm.keep]
theorem vEdges (l : List Int) (hl : U8s l) (n : Nat) (hn1 : 1 ≤ n) (hn : n ≤ 5) (i : Nat) (hi : i ≤ l.length) : ∃ (e : List (Int × Int)) (i' : Nat), i' ≤ l.length ∧ Ed n e ∧ connB n e = true ∧
    varsI Try.prog prims dx tbl 49 [.ptr 0 0, .fz (.int .i64 n)] [[.list (l.map fun z => [.int .u8 z]), .int .i64 i]] = some (.val (.list (e.map encE)), [[.list (l.map fun z => [.int .u8 z]), .int .i64 i']]) := by
  obtain ⟨rows, d, i1, T1, he, hh, hd, hi1, hk1, hr1⟩ := loopE1 l hl n hn (n - 1) 2 2 [] i .nils (by omega) rfl (by omega) ⟨List.Pairwise.nil, by simp⟩ (fun k k1 k2 => by omega) hi (.inl ⟨rfl, rfl⟩)
  obtain ⟨n2, i2, b2, m2, _, e2⟩ := vNum l hl i1 hi1 3
  have m2 := m2 (by omega)
  obtain ⟨rows', d', i3, T3, he', hh', hd', hi3, hk3, hr3⟩ := loopE2 l hl n hn1 hn n2.toNat n2 rows i2 d (by omega) (by omega) he hh b2 hd
  refine ⟨rows', i3, hi3, he', hh'.conn, ?_⟩
  rw [varsI_of (rfl : tbl 49 = some c49)]
  have o1 := (encE_ok rows').1
  rcases hd' with ⟨rfl, rfl⟩ | rfl
  · simp [c49, x_vars, varsOf, varsK, varsK_ite, finals, callVars, splitV, contents, updV, orC, rNum, e2, hr1, hk1, hr3, hk3]
  · simp [c49, x_vars, varsOf, varsK, varsK_ite, finals, callVars, splitV, contents, updV, orC, rNum, e2, hr1, hk1, hr3, hk3]
theorem rEdges (ds : List D) (st : Dv.St) : callI Try.prog prims dx tbl 49 ds st = orC (callVars (varsI Try.prog prims dx tbl 49) ds st) (callI0 Try.prog prims dx tbl 49 ds st) := callRwV rfl rfl (rfl : tbl 49 = some c49) rfl ds st
end Go.Proofs.Ytmbboljcgpccfaa.Pl
