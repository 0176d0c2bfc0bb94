/-
  What is proved here: slices.Grow of nothing, slices.Concat of two, at string.
  Conditions: none.
-/
import Derived.Test.YtiloimenibbeoaaNaM
set_option linter.unusedVariables false
set_option linter.unusedSimpArgs false
set_option maxRecDepth 100000
set_option maxHeartbeats 8000000
namespace Go.Proofs.Ytiloimenibbeoaa.Pl
open Go Go.Proofs Go.Proofs.Ev Go.Proofs.Dv Cd
attribute [local simp] x_pure x_skip x_reg x_drw x_seq x_cond x_block x_frz x_loop' Tm.keep_nil x_exit x_ret k_seq k_seq_ret k_seq_exit k_seq_none k_seq_ite k_cond k_block k_block_ret k_block_exit k_block_none k_block_ite k_iter k_iter_ret k_iter_exit k_iter_none k_iter_ite k_reg k_reg_none k_reg_ite x_is_nil x_is x_is_g k_ins k_ins_none k_ins_ite k_grd x_ord_nil x_ord x_ord_g k_ord k_ord_none k_ord_ite k_ogrd k_out_ret k_out k_out_none k_out_ite k_pure k_pure_none k_pure_ite startD dI dA deo Tm.at Tm.dst Tm.set Tm.put Tm.keep dW dRes oneOfD mkTup mkAgg mkFn allF frL fr vD vD1 vF vFL dBin dEq dNil isNilD dScal F.cv eBin sameKind eInt eStr cellsD oneD F.one dFill putAtD chunk dbnd dSrc St.own St.drop St.still St.fresh chkQ stillQ freshQ lOf rdOf rdOK undefD F.full F.fullL List.mapIdx_cons strip allOne_nil allOne_cons allOne_append allLen_nil allLen_cons allLen_append roomOK_small filterT y_mv y_pick y_new y_box y_build y_bslice y_ld1 y_ldn y_nilchk y_bin y_not y_conv y_bytes y_string y_ifc y_fn y_cut y_cuts y_fa y_fld y_ia y_idx y_idxs y_ext y_len y_lenstr y_app y_grow y_mks y_slow y_call y_callv y_inv y_extc x_it_st x_it_clr x_it_cpy k_addT k_addT_none k_addT_ite k_orU k_orU_none dU D.turn turnL Tm.turn turnS St.turn turnRows_length
def capO (o : Oper) : Option (Nat × Nat) := match o.op with
  | .call c => match c.callee, c.args.toList, c.argTypes.toList with
    | .builtin .cap, [.tmp i], [t] => some (i, t)
    | _, _, _ => none
  | _ => none
def capD (d : D) (r : Option D) : Option D := match d with
  | .nils => some (.fz (.int .i64 0))
  | _ => r
theorem slow_cap {P : Program} {o : Oper} {i t e : Nat} (h : capO o = some (i, t)) (hu : pureRun P (underlying t) = some (TypeDesc.slice e)) (T : Tm) : dSlowX P T o = capD (T.at i) (mmRest P T o) := by
  unfold capD
  split
  · rename_i hi
    unfold capO at h
    split at h
    · rename_i c hc
      obtain ⟨cal, args, ats⟩ := c
      split at h
      · rename_i i' t' h1 h2 h3
        cases h
        simp only at h1 h2 h3
        subst h1
        have ha : args = #[.tmp i] := by cases args; simp at h2; subst h2; rfl
        subst ha
        have hb : ats = #[t] := by cases ats; simp at h3; subst h3; rfl
        subst hb
        have : dSlow P T o = some (.fz (.int .i64 0)) := by
          have hop : o.op.operands = #[.tmp i] := by rw [hc]; rfl
          have hrun : pureRun P (execOp (fun x => (concO (dEnv T) x).getD undef) o) = some (.value (.int .i64 0)) := by
            simp [execOp, hc, resolve, invoke, builtin, Builtin.cap_, concO, dEnv, hi, D.full, F.full, conc, Dv.pureRun_map, Dv.pureRun_bind, hu, Dv.pureRun_pure, goInt]
          have hp : pureOp P (dEnv T) o = some (.int .i64 0) := by
            simp only [pureOp, hop, hrun]
            simp [hc, isSelect, concO, dEnv, hi, D.full, F.full, conc, absN]
          have he : evA P (dEnv T) o [] = some (.int .i64 0, []) := by
            simp [evA, hc, evBuiltin, hp, keep]
          simp only [dSlow, hop, he]
          simp [dEnv, hi, D.full, F.full, toD, vF]
        simp only [dSlowX, this]
      · cases h
    · cases h
  · rfl
theorem cG7S : capO (operAt Try.prog 50 7) = some (9, 46) := by kernel_rfl
theorem cG17S : capO (operAt Try.prog 50 17) = some (18, 46) := by kernel_rfl
theorem uGS : pureRun Try.prog (underlying 46) = some (TypeDesc.slice 9) := by kernel_rfl
theorem oGrow0S : ownI Try.prog prims dx tbl 50 [.nils, .fz (.int .i64 0)] = some .nils := by
  rw [ownI_of (rfl : tbl 50 = some c50)]
  have w0 : wrapF .i64 0 = 0 := by decide +kernel
  simp [c50, x_own, ownK, ownK_ite, takeO, takeL, giveO, giveL, O.cnt, O.cntL, newL, aliveMv, St.back, callOwn, orC, slow_cap cG7S uGS, slow_cap cG17S uGS, capD, w0]
theorem gw3S (n : Nat) (hn : n ≤ 1000) : IntKind.i64.wrap (n : Int) = n := by rw [IntKind.wrap_i64]; omega
theorem gw4S (n : Nat) (hn : n ≤ 1000) : (n : Int) * 16 ≤ 140737488355328 ∧ (n : Int) ≤ 1152921504606846976 := by omega
theorem gw5S (n : Nat) (h0 : 0 < n) (hn : n ≤ 1000) : IntKind.i64.wrap (n : Int) = (n : Int) ∧ 0 ≤ (n : Int) ∧ (n : Int) * 16 ≤ 140737488355328 ∧ (n : Int) ≤ 1152921504606846976 := ⟨gw3S n hn, by omega, gw4S n hn⟩
theorem oGrowS (n : Nat) (h0 : 0 < n) (hn : n ≤ 1000) : ownI Try.prog prims dx tbl 50 [.nils, .fz (.int .i64 n)] = some (.ow 1 []) := by
  rw [ownI_of (rfl : tbl 50 = some c50)]
  have c1 : -100000 ≤ (n : Int) ∧ (n : Int) ≤ 100000 := by omega
  have g1 : ¬ (n : Int) < 0 := by omega
  have g2 : (0 : Int) < n := by omega
  have hg := gw5S n h0 hn
  obtain ⟨z, hz⟩ : ∃ z : Int, (n : Int) = z := ⟨_, rfl⟩
  have hw := wz _ c1
  rw [hz] at c1 g1 g2 hg hw ⊢
  have w0 : wrapF .i64 0 = 0 := by decide +kernel
  simp [c50, x_own, ownK, ownK_ite, takeO, takeL, giveO, giveL, O.cnt, O.cntL, newL, aliveMv, St.back, callOwn, orC, slow_cap cG7S uGS, slow_cap cG17S uGS, capD, w0, hw, g1, g2, hg]
theorem rGrowS (ds : List D) (st : Dv.St) : callI Try.prog prims dx tbl 50 ds st = orC (callOwn (ownI Try.prog prims dx tbl 50) ds st) (callI0 Try.prog prims dx tbl 50 ds st) := callRwO rfl rfl (rfl : tbl 50 = some c50) rfl ds st
def PostC0S (D0 : D) (n : Int) (st : Dv.St) (r : Option DSt) : Prop := ∃ T' : Tm, T'.keep [0, 3] = [(0, D0), (3, .fz (.int .i64 n))] ∧ r = some (.exit 0, T', st)
theorem loopC0S (X Y : List (List F)) (hX : X.length ≤ 100) (hY : Y.length ≤ 100) : PostC0S (.ow 0 0 1 [[.list X], [.list Y]]) ((X.length : Int) + Y.length) ⟨[], [0], 1⟩
    (iterI (dCw Try.prog (callI Try.prog prims dx tbl) l36_0) [0, 3, 9, 10, 11] [(0, .ow 0 0 1 [[.list X], [.list Y]]), (3, .fz (.int .i64 0)), (9, .ow 0 0 1 [[.list X], [.list Y]]), (10, .fz (.int .i64 2)), (11, .fz (.int .i64 0))] ⟨[], [0], 1⟩) := by
  have c1 : -100000 ≤ (X.length : Int) ∧ (X.length : Int) ≤ 100000 := by omega
  have c2 : -100000 ≤ (X.length : Int) + Y.length ∧ (X.length : Int) + Y.length ≤ 100000 := by omega
  have g1 : ¬ (X.length : Int) < 0 := by omega
  have g2 : ¬ (X.length : Int) + Y.length < 0 := by omega
  have d1 := wz _ c1
  have d2 := wz _ c2
  have w1 : wrapF .i64 1 = 1 := by decide +kernel
  have w2 : wrapF .i64 2 = 2 := by decide +kernel
  clear c1 c2 hX hY
  generalize hA : (X.length : Int) = A at *
  generalize hB : (Y.length : Int) = B at *
  refine ⟨_, ?_, (by
    rw [x_iter]
    simp [u36_0, hA, d1, g1, w1]
    rw [x_iter]
    simp [u36_0, hB, d2, g2, w2]
    rw [x_iter]
    simp [u36_0]; rfl)⟩
  simp [Tm.keep]
def PostC1S (X Y : List (List F)) (r : Option DSt) : Prop := ∃ (t : Nat) (L : List Nat) (c : Nat) (T' : Tm), t ∈ L ∧ T'.keep [6] = [(6, .ow t 0 1 (X ++ Y))] ∧ r = some (.exit 2, T', ⟨[], L, c⟩)
theorem loopC1S (X Y : List (List F)) (hX : X.length ≤ 100) (hY : Y.length ≤ 100) (oX : allOne X = true) (oY : allOne Y = true) (lX : allLen 1 X = true) (lY : allLen 1 Y = true) (t : Nat) (L : List Nat) (c : Nat) (ht : t ∈ L) (h0 : 0 ∈ L) (ht0 : ¬ 0 = t) (hc : 0 < c) : PostC1S X Y
    (iterI (dCw Try.prog (callI Try.prog prims dx tbl) l36_1) [6, 25, 26, 27] [(6, .ow t 0 1 []), (25, .ow 0 0 1 [[.list X], [.list Y]]), (26, .fz (.int .i64 2)), (27, .fz (.int .i64 0))] ⟨[], L, c⟩) := by
  have r1 : roomOK 16 X.length := roomOK_small (by omega) (by omega)
  have r2 : roomOK 16 Y.length := roomOK_small (by omega) (by omega)
  have r3 : roomOK 16 (X.length + Y.length) := roomOK_small (by omega) (by omega)
  have hc0 : ¬ 0 = c := by omega
  have hc1 : ¬ c = 0 := by omega
  have w1 : wrapF .i64 1 = 1 := by decide +kernel
  have w2 : wrapF .i64 2 = 2 := by decide +kernel
  refine ⟨c + 1, _, c + 2, _, ?_, ?_, (by
    rw [x_iter]
    simp [u36_1, ht, h0, ht0, w1, oX, lX, r1]
    rw [x_iter]
    simp [u36_1, ht, h0, ht0, hc0, hc1, w2, oX, lX, oY, lY, r2, r3]
    rw [x_iter]
    simp [u36_1]; exact ⟨rfl, rfl⟩)⟩
  · simp
  · simp [Tm.keep]
theorem loopC1nS : PostC1S [] []
    (iterI (dCw Try.prog (callI Try.prog prims dx tbl) l36_1) [6, 25, 26, 27] [(6, .nils), (25, .ow 0 0 1 [[.list []], [.list []]]), (26, .fz (.int .i64 2)), (27, .fz (.int .i64 0))] ⟨[], [0], 1⟩) := by
  have r1 : roomOK 16 0 := roomOK_small (by decide) (by decide)
  have w1 : wrapF .i64 1 = 1 := by decide +kernel
  have w2 : wrapF .i64 2 = 2 := by decide +kernel
  refine ⟨2, _, 3, _, ?_, ?_, (by
    rw [x_iter]
    simp [u36_1, w1, r1]
    rw [x_iter]
    simp [u36_1, w2, r1]
    rw [x_iter]
    simp [u36_1]; exact ⟨rfl, rfl⟩)⟩
  · simp
  · simp [Tm.keep]
theorem oConcatS (X Y : List (List F)) (hx : X.length ≤ 100) (hy : Y.length ≤ 100) (oX : allOne X = true) (oY : allOne Y = true) (lX : allLen 1 X = true) (lY : allLen 1 Y = true) : ownI Try.prog prims dx tbl 36 [.ow 1 [[.list X], [.list Y]]] = some (.ow 1 (X ++ Y)) := by
  rw [ownI_of (rfl : tbl 36 = some c36)]
  obtain ⟨T1, k1, j1⟩ := loopC0S X Y hx hy
  by_cases h0 : X.length + Y.length = 0
  · obtain rfl : X = [] := List.eq_nil_of_length_eq_zero (by omega)
    obtain rfl : Y = [] := List.eq_nil_of_length_eq_zero (by simpa using h0)
    obtain ⟨t, L, c, T2, ht, k2, j2⟩ := loopC1nS
    have hG := oGrow0S
    simp at k1 j1 k2 j2
    simp [c36, x_own, ownK, ownK_ite, takeO, takeL, giveO, giveL, O.cnt, O.cntL, newL, aliveMv, St.back, callOwn, orC, k1, j1, k2, j2, rGrowS, hG, ht]
  · obtain ⟨t, L, c, T2, ht, k2, j2⟩ := loopC1S X Y hx hy oX oY lX lY 1 [1, 0] 2 (by simp) (by simp) (by decide) (by decide)
    have hG := oGrowS (X.length + Y.length) (by omega) (by omega)
    rw [Int.natCast_add] at hG
    obtain ⟨z, hz⟩ : ∃ z : Int, (X.length : Int) + Y.length = z := ⟨_, rfl⟩
    rw [hz] at hG k1
    clear hz h0 hx hy
    simp [c36, x_own, ownK, ownK_ite, takeO, takeL, giveO, giveL, O.cnt, O.cntL, newL, aliveMv, St.back, callOwn, orC, k1, j1, rGrowS, hG]
    simp [k2, j2, ht, x_own, ownK, ownK_ite, takeO, takeL, giveO, giveL, O.cnt, O.cntL, newL, aliveMv, St.back, callOwn, orC]
theorem rConcatS (ds : List D) (st : Dv.St) : callI Try.prog prims dx tbl 36 ds st = orC (callOwn (ownI Try.prog prims dx tbl 36) ds st) (callI0 Try.prog prims dx tbl 36 ds st) := callRwO rfl rfl (rfl : tbl 36 = some c36) rfl ds st
end Go.Proofs.Ytiloimenibbeoaa.Pl
