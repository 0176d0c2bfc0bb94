/-
  What is proved here: slices.Grow of nothing; slices.Concat of two rows of numbers.
  Conditions: none.
-/
import Derived.Test.YtjkichflkjcccaaKtB
set_option linter.unusedVariables false
set_option linter.unusedSimpArgs false
set_option maxRecDepth 100000
set_option maxHeartbeats 8000000
namespace Go.Proofs.Ytjkichflkjcccaa.Pl
open Go Go.Proofs Go.Proofs.Ev Go.Proofs.Dv Cd
attribute [local simp] x_pure x_skip x_reg x_drw x_seq x_cond x_block x_frz x_loop' Tm.keep_nil x_exit x_ret k_seq k_seq_ret k_seq_exit k_seq_none k_seq_ite k_cond k_block k_block_ret k_block_exit k_block_none k_block_ite k_iter k_iter_ret k_iter_exit k_iter_none k_iter_ite k_reg k_reg_none k_reg_ite x_is_nil x_is x_is_g k_ins k_ins_none k_ins_ite k_grd x_ord_nil x_ord x_ord_g k_ord k_ord_none k_ord_ite k_ogrd k_out_ret k_out k_out_none k_out_ite k_pure k_pure_none k_pure_ite startD dI dA deo Tm.at Tm.dst Tm.set Tm.put Tm.keep dW dRes oneOfD mkTup mkAgg mkFn allF frL fr vD vD1 vF vFL dBin dEq dNil isNilD dScal F.cv eBin sameKind eInt eStr cellsD oneD F.one dFill putAtD chunk dbnd dSrc St.own St.drop St.still St.fresh chkQ stillQ freshQ lOf rdOf rdOK undefD F.full F.fullL List.mapIdx_cons strip allOne_nil allOne_cons allOne_append allLen_nil allLen_cons allLen_append roomOK_small filterT y_mv y_pick y_new y_box y_build y_bslice y_ld1 y_ldn y_nilchk y_bin y_not y_conv y_bytes y_string y_ifc y_fn y_cut y_cuts y_fa y_fld y_ia y_idx y_idxs y_ext y_len y_lenstr y_app y_grow y_mks y_slow y_call y_callv y_inv y_extc x_it_st x_it_clr x_it_cpy k_addT k_addT_none k_addT_ite k_orU k_orU_none dU D.turn turnL Tm.turn turnS St.turn turnRows_length

def capO (o : Oper) : Option (Nat × Nat) := match o.op with
  | .call c => match c.callee, c.args.toList, c.argTypes.toList with
    | .builtin .cap, [.tmp i], [t] => some (i, t)
    | _, _, _ => none
  | _ => none
def capD (d : D) (r : Option D) : Option D := match d with
  | .nils => some (.fz (.int .i64 0))
  | _ => r
theorem slow_cap {P : Program} {o : Oper} {i t e : Nat} (h : capO o = some (i, t)) (hu : pureRun P (underlying t) = some (TypeDesc.slice e)) (T : Tm) : dSlowX P T o = capD (T.at i) (mmRest P T o) := by
  unfold capD
  split
  · rename_i hi
    unfold capO at h
    split at h
    · rename_i c hc
      obtain ⟨cal, args, ats⟩ := c
      split at h
      · rename_i i' t' h1 h2 h3
        cases h
        simp only at h1 h2 h3
        subst h1
        have ha : args = #[.tmp i] := by cases args; simp at h2; subst h2; rfl
        subst ha
        have hb : ats = #[t] := by cases ats; simp at h3; subst h3; rfl
        subst hb
        have : dSlow P T o = some (.fz (.int .i64 0)) := by
          have hop : o.op.operands = #[.tmp i] := by rw [hc]; rfl
          have hrun : pureRun P (execOp (fun x => (concO (dEnv T) x).getD undef) o) = some (.value (.int .i64 0)) := by
            simp [execOp, hc, resolve, invoke, builtin, Builtin.cap_, concO, dEnv, hi, D.full, F.full, conc, Dv.pureRun_map, Dv.pureRun_bind, hu, Dv.pureRun_pure, goInt]
          have hp : pureOp P (dEnv T) o = some (.int .i64 0) := by
            simp only [pureOp, hop, hrun]
            simp [hc, isSelect, concO, dEnv, hi, D.full, F.full, conc, absN]
          have he : evA P (dEnv T) o [] = some (.int .i64 0, []) := by
            simp [evA, hc, evBuiltin, hp, keep]
          simp only [dSlow, hop, he]
          simp [dEnv, hi, D.full, F.full, toD, vF]
        simp only [dSlowX, this]
      · cases h
    · cases h
  · rfl
theorem wz (x : Int) (h : -100000 ≤ x ∧ x ≤ 100000) : wrapF .i64 x = x := wrap_id _ (by omega) (by omega)
theorem wzp (x p : Int) (h : x = p) (hb : -100000 ≤ p ∧ p ≤ 100000) : wrapF .i64 x = p := by rw [h]; exact wz p hb
theorem cG7 : capO (operAt Try.prog 28 7) = some (9, 24) := by kernel_rfl
theorem cG17 : capO (operAt Try.prog 28 17) = some (18, 24) := by kernel_rfl
theorem uG : pureRun Try.prog (underlying 24) = some (TypeDesc.slice 3) := by kernel_rfl
theorem oGrow0 : ownI Try.prog prims dx tbl 28 [.nils, .fz (.int .i64 0)] = some .nils := by
  rw [ownI_of (rfl : tbl 28 = some c28)]
  have w0 : wrapF .i64 0 = 0 := by decide +kernel
  simp [c28, x_own, ownK, ownK_ite, takeO, takeL, giveO, giveL, O.cnt, O.cntL, newL, aliveMv, St.back, callOwn, orC, slow_cap cG7 uG, slow_cap cG17 uG, capD, w0]
theorem gw3 (n : Nat) (hn : n ≤ 1000) : IntKind.i64.wrap (n : Int) = n := by rw [IntKind.wrap_i64]; omega
theorem gw4 (n : Nat) (hn : n ≤ 1000) : (n : Int) * 8 ≤ 140737488355328 ∧ (n : Int) ≤ 1152921504606846976 := by omega
theorem gw5 (n : Nat) (h0 : 0 < n) (hn : n ≤ 1000) : IntKind.i64.wrap (n : Int) = (n : Int) ∧ 0 ≤ (n : Int) ∧ (n : Int) * 8 ≤ 140737488355328 ∧ (n : Int) ≤ 1152921504606846976 := ⟨gw3 n hn, by omega, gw4 n hn⟩
theorem oGrow (n : Nat) (h0 : 0 < n) (hn : n ≤ 1000) : ownI Try.prog prims dx tbl 28 [.nils, .fz (.int .i64 n)] = some (.ow 1 []) := by
  rw [ownI_of (rfl : tbl 28 = some c28)]
  have c1 : -100000 ≤ (n : Int) ∧ (n : Int) ≤ 100000 := by omega
  have g1 : ¬ (n : Int) < 0 := by omega
  have g2 : (0 : Int) < n := by omega
  have hg := gw5 n h0 hn
  obtain ⟨z, hz⟩ : ∃ z : Int, (n : Int) = z := ⟨_, rfl⟩
  have hw := wz _ c1
  rw [hz] at c1 g1 g2 hg hw ⊢
  have w0 : wrapF .i64 0 = 0 := by decide +kernel
  simp [c28, x_own, ownK, ownK_ite, takeO, takeL, giveO, giveL, O.cnt, O.cntL, newL, aliveMv, St.back, callOwn, orC, slow_cap cG7 uG, slow_cap cG17 uG, capD, w0, hw, g1, g2, hg]
theorem rGrow (ds : List D) (st : Dv.St) : callI Try.prog prims dx tbl 28 ds st = orC (callOwn (ownI Try.prog prims dx tbl 28) ds st) (callI0 Try.prog prims dx tbl 28 ds st) := callRwO rfl rfl (rfl : tbl 28 = some c28) rfl ds st
end Go.Proofs.Ytjkichflkjcccaa.Pl
