/-
  What is proved here: two attributes compared.
  Conditions: none.
-/
import Derived.Test.YtmbboljcgpccfaaEqH
set_option linter.unusedVariables false
set_option linter.unusedSimpArgs false
set_option maxRecDepth 100000
set_option maxHeartbeats 4000000
namespace Go.Proofs.Ytmbboljcgpccfaa.Pl
open Go Go.Proofs Go.Proofs.Ev Go.Proofs.Dv Cd
theorem pr_undAttr : pureRun Try.prog (underlying 85) = some (TypeDesc.struct #[{ name := "Key", type := 3, offset := 0, embedded := false, tag := "", pkgPath := "", byteOffset := 0 }, { name := "Val", type := 3, offset := 1, embedded := false, tag := "", pkgPath := "", byteOffset := 8 }]) := by kernel_rfl
theorem pr_stAttr : (Try.prog.stoodInHeld 85) = false := by kernel_rfl
theorem pr_partAttr0 (a0 : Int) (a1 : Int) : pureRun Try.prog (part 3 #[.int .i64 a0, .int .i64 a1] 0) = some (.int .i64 a0) := by kernel_rfl
theorem pr_partAttr1 (a0 : Int) (a1 : Int) : pureRun Try.prog (part 3 #[.int .i64 a0, .int .i64 a1] 1) = some (.int .i64 a1) := by kernel_rfl
theorem pr_structAttr (d : Nat) (a0 : Int) (a1 : Int) (b0 : Int) (b1 : Int) : pureRun Try.prog (Op.equalIn (d + 2) 85 (.agg #[.int .i64 a0, .int .i64 a1]) (.agg #[.int .i64 b0, .int .i64 b1])) = some (((a0 == b0) && (a1 == b1))) := by
  rw [Op.equalIn]
  simp only [Dv.pureRun_bind, pr_undAttr, Option.bind_some, pr_prog, pr_stAttr]
  by_cases h0 : a0 = b0 <;> by_cases h1 : a1 = b1 <;> simp [Dv.pureRun_bind, Dv.pureRun_pure, pr_partAttr0, pr_partAttr1, pr_eqi, pr_eqs, ba_eq, h0, h1]
theorem pr_guardAttr (i j : Nat) (a0 : Int) (a1 : Int) (b0 : Int) (b1 : Int) : pureRun Try.prog (eqGuard .eql 85 (.tmp i) (.tmp j) (.agg #[.int .i64 a0, .int .i64 a1]) (.agg #[.int .i64 b0, .int .i64 b1])) = some () := by kernel_rfl
theorem pr_guarnAttr (i j : Nat) (a0 : Int) (a1 : Int) (b0 : Int) (b1 : Int) : pureRun Try.prog (eqGuard .neq 85 (.tmp i) (.tmp j) (.agg #[.int .i64 a0, .int .i64 a1]) (.agg #[.int .i64 b0, .int .i64 b1])) = some () := by kernel_rfl
def eqOAttr (o : Oper) : Option (Bool × Nat × Nat) := match o.op with
  | .binOp .eql 85 (.tmp i) (.tmp j) _ => some (true, i, j)
  | .binOp .neq 85 (.tmp i) (.tmp j) _ => some (false, i, j)
  | _ => none
def eqDAttr (e : Bool) (d1 d2 : D) (r : Option D) : Option D := match d1, d2 with
  | .fz (.agg [.int .i64 a0, .int .i64 a1]), .fz (.agg [.int .i64 b0, .int .i64 b1]) => some (.fz (.bool (((a0 == b0) && (a1 == b1)) == e)))
  | _, _ => r
theorem slow_eqAttr {o : Oper} {e : Bool} {i j : Nat} (h : eqOAttr o = some (e, i, j)) (T : Tm) : dSlowX Try.prog T o = eqDAttr e (T.at i) (T.at j) (mmRest Try.prog T o) := by
  unfold eqDAttr
  split
  · rename_i a0 a1 b0 b1 hi hj
    unfold eqOAttr at h
    have hb := pr_structAttr 9998 a0 a1 b0 b1
    split at h
    · rename_i i' j' tt hc
      cases h
      have hop : o.op.operands = #[.tmp i, .tmp j] := by rw [hc]; rfl
      have hrun : pureRun Try.prog (execOp (fun x => (concO (dEnv T) x).getD undef) o) = some (.value (.bool (((a0 == b0) && (a1 == b1))))) := by
        simp [execOp, hc, binOp, Op.equal, Op.maxDepth, concO, dEnv, hi, hj, D.full, F.full, F.fullL, conc, concL, Dv.pureRun_bind, Dv.pureRun_map, pr_guardAttr]
        simpa using hb
      have hp : pureOp Try.prog (dEnv T) o = some (.bool (((a0 == b0) && (a1 == b1)))) := by
        simp only [pureOp, hop, hrun]
        simp [hc, isSelect, concO, dEnv, hi, hj, D.full, F.full, F.fullL, conc, concL, absN]
      have he : evA Try.prog (dEnv T) o [] = some (.bool (((a0 == b0) && (a1 == b1))), []) := by
        simp only [evA, hc, hp]
      simp only [dSlowX, dSlow, hop, he]
      simp [dEnv, hi, hj, D.full, F.full, F.fullL, toD, vF]
    · rename_i i' j' tt hc
      cases h
      have hop : o.op.operands = #[.tmp i, .tmp j] := by rw [hc]; rfl
      have hrun : pureRun Try.prog (execOp (fun x => (concO (dEnv T) x).getD undef) o) = some (.value (.bool (!(((a0 == b0) && (a1 == b1)))))) := by
        simp [execOp, hc, binOp, Op.equal, Op.maxDepth, concO, dEnv, hi, hj, D.full, F.full, F.fullL, conc, concL, Dv.pureRun_bind, Dv.pureRun_map, pr_guarnAttr, Dv.pureRun_pure]
        simpa using hb
      have hp : pureOp Try.prog (dEnv T) o = some (.bool (!(((a0 == b0) && (a1 == b1))))) := by
        simp only [pureOp, hop, hrun]
        simp [hc, isSelect, concO, dEnv, hi, hj, D.full, F.full, F.fullL, conc, concL, absN]
      have he : evA Try.prog (dEnv T) o [] = some (.bool (!(((a0 == b0) && (a1 == b1)))), []) := by
        simp only [evA, hc, hp]
      simp only [dSlowX, dSlow, hop, he]
      simp [dEnv, hi, hj, D.full, F.full, F.fullL, toD, vF]
    · cases h
  · rfl
end Go.Proofs.Ytmbboljcgpccfaa.Pl
