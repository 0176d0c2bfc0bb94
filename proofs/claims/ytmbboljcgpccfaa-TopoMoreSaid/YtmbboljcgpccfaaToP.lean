/-
  What is proved here: the law of one more edge.
  Conditions: none.
-/
import Derived.Test.YtmbboljcgpccfaaTiP
import Derived.Test.YtmbboljcgpccfaaTlP
import Derived.Test.YtmbboljcgpccfaaTmP
set_option linter.unusedVariables false
set_option linter.unusedSimpArgs false
set_option maxRecDepth 100000
set_option maxHeartbeats 8000000
namespace Go.Proofs.Ytmbboljcgpccfaa.Pl
open Go Go.Proofs Go.Proofs.Ev Go.Proofs.Dv Cd
attribute [local simp] x_pure x_skip x_reg x_drw x_seq x_cond x_block x_frz x_loop' Tm.keep_nil x_exit x_ret k_seq k_seq_ret k_seq_exit k_seq_none k_seq_ite k_cond k_block k_block_ret k_block_exit k_block_none k_block_ite k_iter k_iter_ret k_iter_exit k_iter_none k_iter_ite k_reg k_reg_none k_reg_ite x_is_nil x_is x_is_g k_ins k_ins_none k_ins_ite k_grd x_ord_nil x_ord x_ord_g k_ord k_ord_none k_ord_ite k_ogrd k_out_ret k_out k_out_none k_out_ite k_pure k_pure_none k_pure_ite startD dI dA deo Tm.at Tm.dst Tm.set Tm.put Tm.keep dW dRes oneOfD mkTup mkAgg mkFn allF frL fr vD vD1 vF vFL dBin dEq dNil isNilD dScal F.cv eBin sameKind eInt eStr cellsD oneD F.one dFill putAtD chunk dbnd dSrc St.own St.drop St.still St.fresh chkQ stillQ freshQ lOf rdOf rdOK undefD F.full F.fullL List.mapIdx_cons strip allOne_nil allOne_cons allOne_append allLen_nil allLen_cons allLen_append roomOK_small filterT y_mv y_pick y_new y_box y_build y_bslice y_ld1 y_ldn y_nilchk y_bin y_not y_conv y_bytes y_string y_ifc y_fn y_cut y_cuts y_fa y_fld y_ia y_idx y_idxs y_ext y_len y_lenstr y_app y_grow y_mks y_slow y_call y_callv y_inv y_extc x_it_st x_it_clr x_it_cpy k_addT k_addT_none k_addT_ite k_orU k_orU_none dU D.turn turnL Tm.turn turnS St.turn turnRows_length

theorem vMade (l : List Int) : varsI Try.prog prims dx tbl 16 [.fz (.list (l.map fun z => [.int .u8 z]))] [] = some (.var [.list (l.map fun z => [.int .u8 z]), .int .i64 0], []) := by
  rw [varsI_of (rfl : tbl 16 = some c16)]
  simp [c16, x_vars, varsOf, varsK, varsK_ite, finals, callVars, splitV, contents, updV, orC]
theorem rMade (ds : List D) (st : Dv.St) : callI Try.prog prims dx tbl 16 ds st = orC (callVars (varsI Try.prog prims dx tbl 16) ds st) (callI0 Try.prog prims dx tbl 16 ds st) := callRwV rfl rfl (rfl : tbl 16 = some c16) rfl ds st
theorem pTopoMore (l1 : List Int) (h1 : l1.length ≤ maxLen) (hb1 : ∀ z ∈ l1, 0 ≤ z ∧ z < 256) (sz : Int) (hz : 0 ≤ sz ∧ sz < 256) (az : Int) (ha : 0 ≤ az ∧ az < 256) (bz : Int) (hb : 0 ≤ bz ∧ bz < 256) :
    pureI Try.prog prims dx tbl 13 [.list (l1.map fun z => [.int .u8 z]), .int .u8 sz, .int .u8 az, .int .u8 bz] = some (.bool true) := by
  rw [pureI_of (rfl : tbl 13 = some c13)]
  by_cases g1 : 20 < l1.length
  · simp [c13, qBegun24, show (20 : Int) < l1.length by omega]
  · obtain ⟨q, hq⟩ : ∃ q : Nat, sz % 4 = (q : Int) := ⟨(sz % 4).toNat, by omega⟩
    have hq5 : q < 4 := by omega
    have ht0 : sz.tmod 4 = (q : Int) := by rw [Int.tmod_eq_emod_of_nonneg hz.1, hq]
    obtain ⟨x, hx⟩ : ∃ x : Int, az.tmod ((q : Int) + 2) = x := ⟨_, rfl⟩
    obtain ⟨y, hy⟩ : ∃ y : Int, bz.tmod ((q : Int) + 2) = y := ⟨_, rfl⟩
    have hxb : 0 ≤ x ∧ x < (q : Int) + 2 := by
      rw [← hx, Int.tmod_eq_emod_of_nonneg ha.1]
      exact ⟨Int.emod_nonneg _ (by omega), Int.emod_lt_of_pos _ (by omega)⟩
    have hyb : 0 ≤ y ∧ y < (q : Int) + 2 := by
      rw [← hy, Int.tmod_eq_emod_of_nonneg hb.1]
      exact ⟨Int.emod_nonneg _ (by omega), Int.emod_lt_of_pos _ (by omega)⟩
    have m1 := vMade l1
    obtain ⟨e, i', hi', he, hc, hv⟩ := vEdges l1 ⟨by omega, hb1⟩ (q + 2) (by omega) (by omega) 0 (Nat.zero_le _)
    have fok := he.fok (by omega) (by omega)
    have hlen := he.len (by omega)
    have c0 : -100000 ≤ (q : Int) + 2 ∧ (q : Int) + 2 ≤ 100000 := by omega
    have c1 : -100000 ≤ (q : Int) ∧ (q : Int) ≤ 100000 := by omega
    have c2 : -100000 ≤ 1 + x ∧ 1 + x ≤ 100000 := by omega
    have c3 : -100000 ≤ 1 + y ∧ 1 + y ≤ 100000 := by omega
    have c4 : -100000 ≤ x ∧ x ≤ 100000 := by omega
    have c5 : -100000 ≤ y ∧ y ≤ 100000 := by omega
    have c6 : -100000 ≤ az ∧ az ≤ 100000 := by omega
    have c7 : -100000 ≤ bz ∧ bz ≤ 100000 := by omega
    have hcomm : 2 + (q : Int) = (q : Int) + 2 := by omega
    have g2 : ¬ (20 : Int) < l1.length := by omega
    have g0 : ¬ (q : Int) + 2 = 0 := by omega
    simp at hv
    have hbs := pBes e (by omega) (1 + x) (1 + y)
    by_cases hxy : 1 + y ≤ 1 + x
    · simp [c13, x_vars, varsOf, varsK, varsK_ite, finals, callVars, splitV, contents, updV, orC, qBegun24, g2, ht0, wz _ c0, wz _ c1, wz _ c2, wz _ c3, wz _ c4, wz _ c5, wz _ c6, wz _ c7, hcomm, rMade, m1, rEdges, hv, hx, hy, g0, hxy]
    · cases hbe : besE e (1 + x) (1 + y) with
      | true =>
        rw [hbe] at hbs
        simp [c13, x_vars, varsOf, varsK, varsK_ite, finals, callVars, splitV, contents, updV, orC, qBegun24, g2, ht0, wz _ c0, wz _ c1, wz _ c2, wz _ c3, wz _ c4, wz _ c5, wz _ c6, wz _ c7, hcomm, rMade, m1, rEdges, hv, hx, hy, g0, hxy, rBes, callR, hbs]
      | false =>
        rw [hbe] at hbs
        have hn : (1 + x, 1 + y) ∉ e := by
          unfold besE at hbe
          simp at hbe
          exact hbe.1
        have hxx : 1 ≤ ((1 + x, 1 + y) : Int × Int).1 ∧ ((1 + x, 1 + y) : Int × Int).1 < ((1 + x, 1 + y) : Int × Int).2 ∧ ((1 + x, 1 + y) : Int × Int).2 ≤ ((q + 2 : Nat) : Int) := by
          simp only
          omega
        obtain ⟨me, mm, mw, ms⟩ := more_of (q + 2) (by omega) (by omega) e he hc (1 + x, 1 + y) hxx hn
        have hem := he.ins hxx hn
        have fokm := hem.fok (by omega) (by omega)
        have w1 := pWide (q + 2) e fok me
        have w2 := pWide (q + 2) _ fokm mm
        have y1 := pMay (q + 2) _ fokm
        rw [mm] at y1
        have b1 := pBes (insP (1 + x, 1 + y) e) (by have := hem.len (by omega); omega) (1 + y) (1 + x)
        rw [show besE (insP (1 + x, 1 + y) e) (1 + y) (1 + x) = true by unfold besE; simp [mem_insP]] at b1
        have r1 : roomOK 16 (e.length + 1) := roomOK_small (by omega) (by omega)
        have r3 : roomOK 16 1 := roomOK_small (by omega) (by omega)
        have o1 := (encE_ok e).1
        have o2 := (encE_ok e).2
        have o3 := (encE_ok (insP (1 + x, 1 + y) e)).1
        have o4 := (encE_ok (insP (1 + x, 1 + y) e)).2
        have hlenm : (insP (1 + x, 1 + y) e).length = e.length + 1 := insP_len _ _
        rcases jA_false (1 + x, 1 + y) e [] hn with hj | ⟨hj, hj2⟩
        · obtain ⟨d, L, c, T1, hw, j1, k1⟩ := loopN0 (.list (l1.map fun z => [.int .u8 z])) (.int .i64 i') (q + 2) e (by omega) (1 + x, 1 + y) e 0 0 false [] .nils [] 0 true _ rfl rfl (Nat.zero_le _) (Nat.zero_le _) (.inl ⟨rfl, rfl⟩) hn hj
          rcases hw with ⟨h0, _⟩ | ⟨t, _, ht, rfl⟩
          · exact absurd (congrArg List.length h0) (by simp [insP_len])
          · simp at j1 k1
            obtain ⟨T2, k2, j2⟩ := loopN2 (.list (l1.map fun z => [.int .u8 z])) (.int .i64 i') (L.filter (fun t_1 => !decide (t_1 = t))) (c) (q + 2) e _ fok fokm me mm (1 + x) (1 + y) ms (q + 2) 0 1 (by omega) rfl
            simp at k2 j2 y1 b1 w1 w2
            simp [c13, x_vars, varsOf, varsK, varsK_ite, finals, callVars, splitV, contents, updV, orC, qBegun24, g2, ht0, wz _ c0, wz _ c1, wz _ c2, wz _ c3, wz _ c4, wz _ c5, wz _ c6, wz _ c7, hcomm, rMade, m1, rEdges, hv, hx, hy, g0, hxy, rBes, callR, hbs, j1, k1, ht, k2, j2, rMay, rWide, y1, b1, w1, w2, mw]
        · obtain ⟨d, L, c, T1, hw, j1, k1⟩ := loopN0 (.list (l1.map fun z => [.int .u8 z])) (.int .i64 i') (q + 2) e (by omega) (1 + x, 1 + y) e 0 0 false [] .nils [] 0 false _ rfl rfl (Nat.zero_le _) (Nat.zero_le _) (.inl ⟨rfl, rfl⟩) hn hj
          simp at j1 k1
          rcases hw with ⟨h0, rfl⟩ | ⟨t, _, ht, rfl⟩
          · have hmap : (insP (1 + x, 1 + y) e).map encE = [[.int .i64 (1 + x), .int .i64 (1 + y)]] := by
              have he0 : e = [] := by simpa using h0
              rw [hj2, he0]
              rfl
            obtain ⟨T2, k2, j2⟩ := loopN2 (.list (l1.map fun z => [.int .u8 z])) (.int .i64 i') (c :: L.filter (fun t => !decide (t = c + 1))) (c + 1 + 1) (q + 2) e _ fok fokm me mm (1 + x) (1 + y) ms (q + 2) 0 1 (by omega) rfl
            rw [hmap] at k2 j2 y1 b1 w2
            simp at k2 j2 y1 b1 w1 w2
            simp [c13, x_vars, varsOf, varsK, varsK_ite, finals, callVars, splitV, contents, updV, orC, qBegun24, g2, ht0, wz _ c0, wz _ c1, wz _ c2, wz _ c3, wz _ c4, wz _ c5, wz _ c6, wz _ c7, hcomm, rMade, m1, rEdges, hv, hx, hy, g0, hxy, rBes, callR, hbs, j1, k1, r1, r3, k2, j2, rMay, rWide, y1, b1, w1, w2, mw]
          · have hmap : (insP (1 + x, 1 + y) e).map encE = e.map encE ++ [[.int .i64 (1 + x), .int .i64 (1 + y)]] := by
              rw [hj2]
              simp [encE]
            obtain ⟨T2, k2, j2⟩ := loopN2 (.list (l1.map fun z => [.int .u8 z])) (.int .i64 i') ((c :: L).filter (fun a => !decide (a = c + 1) && !decide (a = t))) (c + 1 + 1) (q + 2) e _ fok fokm me mm (1 + x) (1 + y) ms (q + 2) 0 1 (by omega) rfl
            rw [hmap] at k2 j2 y1 b1 w2
            simp at k2 j2 y1 b1 w1 w2
            simp [c13, x_vars, varsOf, varsK, varsK_ite, finals, callVars, splitV, contents, updV, orC, qBegun24, g2, ht0, wz _ c0, wz _ c1, wz _ c2, wz _ c3, wz _ c4, wz _ c5, wz _ c6, wz _ c7, hcomm, rMade, m1, rEdges, hv, hx, hy, g0, hxy, rBes, callR, hbs, j1, k1, ht, r1, r3, o1, o2, k2, j2, rMay, rWide, y1, b1, w1, w2, mw]
end Go.Proofs.Ytmbboljcgpccfaa.Pl
