/-
  What is proved here: over how many edges each is from one.
  Conditions: none.
-/
import Derived.Test.YtmbboljcgpccfaaTdP
set_option linter.unusedVariables false
set_option linter.unusedSimpArgs false
set_option maxRecDepth 100000
set_option maxHeartbeats 8000000
namespace Go.Proofs.Ytmbboljcgpccfaa.Pl
open Go Go.Proofs Go.Proofs.Ev Go.Proofs.Dv Cd
attribute [local simp] x_pure x_skip x_reg x_drw x_seq x_cond x_block x_frz x_loop' Tm.keep_nil x_exit x_ret k_seq k_seq_ret k_seq_exit k_seq_none k_seq_ite k_cond k_block k_block_ret k_block_exit k_block_none k_block_ite k_iter k_iter_ret k_iter_exit k_iter_none k_iter_ite k_reg k_reg_none k_reg_ite x_is_nil x_is x_is_g k_ins k_ins_none k_ins_ite k_grd x_ord_nil x_ord x_ord_g k_ord k_ord_none k_ord_ite k_ogrd k_out_ret k_out k_out_none k_out_ite k_pure k_pure_none k_pure_ite startD dI dA deo Tm.at Tm.dst Tm.set Tm.put Tm.keep dW dRes oneOfD mkTup mkAgg mkFn allF frL fr vD vD1 vF vFL dBin dEq dNil isNilD dScal F.cv eBin sameKind eInt eStr cellsD oneD F.one dFill putAtD chunk dbnd dSrc St.own St.drop St.still St.fresh chkQ stillQ freshQ lOf rdOf rdOK undefD F.full F.fullL List.mapIdx_cons strip allOne_nil allOne_cons allOne_append allLen_nil allLen_cons allLen_append roomOK_small filterT y_mv y_pick y_new y_box y_build y_bslice y_ld1 y_ldn y_nilchk y_bin y_not y_conv y_bytes y_string y_ifc y_fn y_cut y_cuts y_fa y_fld y_ia y_idx y_idxs y_ext y_len y_lenstr y_app y_grow y_mks y_slow y_call y_callv y_inv y_extc x_it_st x_it_clr x_it_cpy k_addT k_addT_none k_addT_ite k_orU k_orU_none dU D.turn turnL Tm.turn turnS St.turn turnRows_length

theorem rRep1 : callI Try.prog prims dx tbl 105 [.ow 0 0 1 [[.int .i64 (-1)]], .fz (.int .i64 ((1 : Nat) : Int))] ⟨[], [0], 1⟩ = some (.ow 1 0 1 ((List.replicate 1 (-1)).map encI), ⟨[], [1], 2⟩, []) := callI_iff.2 ⟨60, by kernel_rfl⟩
theorem rRep2 : callI Try.prog prims dx tbl 105 [.ow 0 0 1 [[.int .i64 (-1)]], .fz (.int .i64 ((2 : Nat) : Int))] ⟨[], [0], 1⟩ = some (.ow 1 0 1 ((List.replicate 2 (-1)).map encI), ⟨[], [1], 2⟩, []) := callI_iff.2 ⟨60, by kernel_rfl⟩
theorem rRep3 : callI Try.prog prims dx tbl 105 [.ow 0 0 1 [[.int .i64 (-1)]], .fz (.int .i64 ((3 : Nat) : Int))] ⟨[], [0], 1⟩ = some (.ow 1 0 1 ((List.replicate 3 (-1)).map encI), ⟨[], [1], 2⟩, []) := callI_iff.2 ⟨60, by kernel_rfl⟩
theorem rRep4 : callI Try.prog prims dx tbl 105 [.ow 0 0 1 [[.int .i64 (-1)]], .fz (.int .i64 ((4 : Nat) : Int))] ⟨[], [0], 1⟩ = some (.ow 1 0 1 ((List.replicate 4 (-1)).map encI), ⟨[], [1], 2⟩, []) := callI_iff.2 ⟨60, by kernel_rfl⟩
theorem rRep5 : callI Try.prog prims dx tbl 105 [.ow 0 0 1 [[.int .i64 (-1)]], .fz (.int .i64 ((5 : Nat) : Int))] ⟨[], [0], 1⟩ = some (.ow 1 0 1 ((List.replicate 5 (-1)).map encI), ⟨[], [1], 2⟩, []) := callI_iff.2 ⟨60, by kernel_rfl⟩
theorem rRep (n : Nat) (h1 : 1 ≤ n) (h2 : n ≤ 5) : callI Try.prog prims dx tbl 105 [.ow 0 0 1 [[.int .i64 (-1)]], .fz (.int .i64 n)] ⟨[], [0], 1⟩ = some (.ow 1 0 1 ((List.replicate n (-1)).map encI), ⟨[], [1], 2⟩, []) := by
  rcases (show n = 1 ∨ n = 2 ∨ n = 3 ∨ n = 4 ∨ n = 5 by omega) with rfl | rfl | rfl | rfl | rfl
  · exact rRep1
  · exact rRep2
  · exact rRep3
  · exact rRep4
  · exact rRep5
def stepsN (e : List (Int × Int)) (n : Nat) (a : Int) : List Int := bfs e n ((List.replicate n (-1)).set (a - 1).toNat 0) [a]
theorem bok0 (n : Nat) (hn : n ≤ 50) (a : Int) (h1 : 1 ≤ a) (h2 : a ≤ n) : Bok n ((List.replicate n (-1)).set (a - 1).toNat 0) [a] ∧ negs ((List.replicate n (-1)).set (a - 1).toNat 0) + 1 = n := by
  have hl : (a - 1).toNat < (List.replicate n (-1 : Int)).length := by rw [List.length_replicate]; omega
  have hneg : negs (List.replicate n (-1)) = n := by
    rw [negs, List.filter_eq_self.2 (by intro x hx; rw [List.eq_of_mem_replicate hx]; rfl), List.length_replicate]
  have hs := negs_set (List.replicate n (-1)) (a - 1).toNat 0 (by rw [List.eq_of_mem_replicate (getD_mem hl)]; omega) (by omega)
  refine ⟨⟨by simp, fun z hz => ?_, fun y hy => ?_⟩, by omega⟩
  · rcases List.mem_or_eq_of_mem_set hz with hz | rfl
    · have := List.eq_of_mem_replicate hz
      omega
    · omega
  · simp at hy
    subst hy
    refine ⟨h1, h2, ?_⟩
    rw [getD_set hl, if_pos rfl]
    omega
theorem pSteps (e : List (Int × Int)) (he : e.length < 1000000) (n : Nat) (hn1 : 1 ≤ n) (hn : n ≤ 5) (a : Int) (h1 : 1 ≤ a) (h2 : a ≤ n) : pureI Try.prog prims dx tbl 79 [.int .i64 n, .list (e.map encE), .int .i64 a] = some (.list ((stepsN e n a).map encI)) := by
  rw [pureI_of (rfl : tbl 79 = some c79)]
  obtain ⟨b, hb⟩ := bok0 n (by omega) a h1 h2
  obtain ⟨p, hp⟩ : ∃ p : Nat, a = (p : Int) + 1 := ⟨(a - 1).toNat, by omega⟩
  have hpn : (a - 1).toNat = p := by omega
  have hpp : p < n := by omega
  have ha9 : a - 1 = (p : Int) := by omega
  have hp9 : -100000 ≤ (p : Int) ∧ (p : Int) ≤ 100000 := by omega
  have hr := rRep n hn1 hn
  have g1 : ¬ a < 1 := by omega
  have g2 : ¬ (n : Int) < a := by omega
  rw [hpn] at b hb
  have hst : stepsN e n a = bfs e n ((List.replicate n (-1)).set p 0) [a] := by rw [stepsN, hpn]
  rw [hst]
  have hX := List.length_replicate (n := n) (a := (-1 : Int))
  generalize List.replicate n (-1 : Int) = X at hr hX b hb ⊢
  have o1 := (encI_ok X).1
  obtain ⟨t, L, c, T', k1, k2, k3, k4⟩ := loopBf e he n (by omega) n (X.set p 0) [a] 2 3 0 [3, 2] 4 b (by simp; omega) (by omega) (by simp) (by simp) (by omega) (by omega) (by omega)
  have hpX : p < X.length := by omega
  simp [encI] at k4
  simp [c79, hr, g1, g2, o1, wzp _ _ ha9 hp9, hpX, encI, turn_setI, k1, k3, k4, (encI_ok (bfs e n (X.set p 0) [a])).1]
theorem rSteps (ds : List D) (st : Dv.St) : callI Try.prog prims dx tbl 79 ds st = callR Try.prog prims dx tbl 79 ds st (frL (fr st 6) ds) := callRw rfl rfl (rfl : tbl 79 = some c79) rfl ds st
end Go.Proofs.Ytmbboljcgpccfaa.Pl
