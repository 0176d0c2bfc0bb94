/-
  What is proved here: structs asked whether they are one.
  Conditions: none.
-/
import Derived.Test.YtmbboljcgpccfaaCdH
set_option linter.unusedVariables false
set_option linter.unusedSimpArgs false
set_option maxRecDepth 100000
set_option maxHeartbeats 4000000
namespace Go.Proofs.Ytmbboljcgpccfaa.Pl
open Go Go.Proofs Go.Proofs.Ev Go.Proofs.Dv Cd
theorem pr_eqi (d : Nat) (a b : Int) : pureRun Try.prog (Op.equalIn (d + 1) 3 (.int .i64 a) (.int .i64 b)) = some (a == b) := by kernel_rfl
theorem pr_eqs (d : Nat) (a b : ByteArray) : pureRun Try.prog (Op.equalIn (d + 1) 9 (.string a) (.string b)) = some (a == b) := by kernel_rfl
theorem pr_prog : pureRun Try.prog program = some Try.prog := rfl
theorem ba_eq (a b : List UInt8) : ((⟨a.toArray⟩ : ByteArray) == (⟨b.toArray⟩ : ByteArray)) = decide (a = b) := by
  change (a.toArray == b.toArray) = decide (a = b)
  rw [Bool.eq_iff_iff]
  simp
theorem pr_undStamp : pureRun Try.prog (underlying 27) = some (TypeDesc.struct #[{ name := "L", type := 3, offset := 0, embedded := false, tag := "", pkgPath := "", byteOffset := 0 }, { name := "R", type := 3, offset := 1, embedded := false, tag := "", pkgPath := "", byteOffset := 8 }, { name := "N", type := 3, offset := 2, embedded := false, tag := "", pkgPath := "", byteOffset := 16 }]) := by kernel_rfl
theorem pr_stStamp : (Try.prog.stoodInHeld 27) = false := by kernel_rfl
theorem pr_partStamp0 (a0 : Int) (a1 : Int) (a2 : Int) : pureRun Try.prog (part 3 #[.int .i64 a0, .int .i64 a1, .int .i64 a2] 0) = some (.int .i64 a0) := by kernel_rfl
theorem pr_partStamp1 (a0 : Int) (a1 : Int) (a2 : Int) : pureRun Try.prog (part 3 #[.int .i64 a0, .int .i64 a1, .int .i64 a2] 1) = some (.int .i64 a1) := by kernel_rfl
theorem pr_partStamp2 (a0 : Int) (a1 : Int) (a2 : Int) : pureRun Try.prog (part 3 #[.int .i64 a0, .int .i64 a1, .int .i64 a2] 2) = some (.int .i64 a2) := by kernel_rfl
theorem pr_structStamp (d : Nat) (a0 : Int) (a1 : Int) (a2 : Int) (b0 : Int) (b1 : Int) (b2 : Int) : pureRun Try.prog (Op.equalIn (d + 2) 27 (.agg #[.int .i64 a0, .int .i64 a1, .int .i64 a2]) (.agg #[.int .i64 b0, .int .i64 b1, .int .i64 b2])) = some (((a0 == b0) && ((a1 == b1) && (a2 == b2)))) := by
  rw [Op.equalIn]
  simp only [Dv.pureRun_bind, pr_undStamp, Option.bind_some, pr_prog, pr_stStamp]
  by_cases h0 : a0 = b0 <;> by_cases h1 : a1 = b1 <;> by_cases h2 : a2 = b2 <;> simp [Dv.pureRun_bind, Dv.pureRun_pure, pr_partStamp0, pr_partStamp1, pr_partStamp2, pr_eqi, pr_eqs, ba_eq, h0, h1, h2]
theorem pr_guardStamp (i j : Nat) (a0 : Int) (a1 : Int) (a2 : Int) (b0 : Int) (b1 : Int) (b2 : Int) : pureRun Try.prog (eqGuard .eql 27 (.tmp i) (.tmp j) (.agg #[.int .i64 a0, .int .i64 a1, .int .i64 a2]) (.agg #[.int .i64 b0, .int .i64 b1, .int .i64 b2])) = some () := by kernel_rfl
theorem pr_guarnStamp (i j : Nat) (a0 : Int) (a1 : Int) (a2 : Int) (b0 : Int) (b1 : Int) (b2 : Int) : pureRun Try.prog (eqGuard .neq 27 (.tmp i) (.tmp j) (.agg #[.int .i64 a0, .int .i64 a1, .int .i64 a2]) (.agg #[.int .i64 b0, .int .i64 b1, .int .i64 b2])) = some () := by kernel_rfl
def eqOStamp (o : Oper) : Option (Bool × Nat × Nat) := match o.op with
  | .binOp .eql 27 (.tmp i) (.tmp j) _ => some (true, i, j)
  | .binOp .neq 27 (.tmp i) (.tmp j) _ => some (false, i, j)
  | _ => none
def eqDStamp (e : Bool) (d1 d2 : D) (r : Option D) : Option D := match d1, d2 with
  | .fz (.agg [.int .i64 a0, .int .i64 a1, .int .i64 a2]), .fz (.agg [.int .i64 b0, .int .i64 b1, .int .i64 b2]) => some (.fz (.bool (((a0 == b0) && ((a1 == b1) && (a2 == b2))) == e)))
  | _, _ => r
theorem slow_eqStamp {o : Oper} {e : Bool} {i j : Nat} (h : eqOStamp o = some (e, i, j)) (T : Tm) : dSlowX Try.prog T o = eqDStamp e (T.at i) (T.at j) (mmRest Try.prog T o) := by
  unfold eqDStamp
  split
  · rename_i a0 a1 a2 b0 b1 b2 hi hj
    unfold eqOStamp at h
    have hb := pr_structStamp 9998 a0 a1 a2 b0 b1 b2
    split at h
    · rename_i i' j' tt hc
      cases h
      have hop : o.op.operands = #[.tmp i, .tmp j] := by rw [hc]; rfl
      have hrun : pureRun Try.prog (execOp (fun x => (concO (dEnv T) x).getD undef) o) = some (.value (.bool (((a0 == b0) && ((a1 == b1) && (a2 == b2)))))) := by
        simp [execOp, hc, binOp, Op.equal, Op.maxDepth, concO, dEnv, hi, hj, D.full, F.full, F.fullL, conc, concL, Dv.pureRun_bind, Dv.pureRun_map, pr_guardStamp]
        simpa using hb
      have hp : pureOp Try.prog (dEnv T) o = some (.bool (((a0 == b0) && ((a1 == b1) && (a2 == b2))))) := by
        simp only [pureOp, hop, hrun]
        simp [hc, isSelect, concO, dEnv, hi, hj, D.full, F.full, F.fullL, conc, concL, absN]
      have he : evA Try.prog (dEnv T) o [] = some (.bool (((a0 == b0) && ((a1 == b1) && (a2 == b2)))), []) := by
        simp only [evA, hc, hp]
      simp only [dSlowX, dSlow, hop, he]
      simp [dEnv, hi, hj, D.full, F.full, F.fullL, toD, vF]
    · rename_i i' j' tt hc
      cases h
      have hop : o.op.operands = #[.tmp i, .tmp j] := by rw [hc]; rfl
      have hrun : pureRun Try.prog (execOp (fun x => (concO (dEnv T) x).getD undef) o) = some (.value (.bool (!(((a0 == b0) && ((a1 == b1) && (a2 == b2))))))) := by
        simp [execOp, hc, binOp, Op.equal, Op.maxDepth, concO, dEnv, hi, hj, D.full, F.full, F.fullL, conc, concL, Dv.pureRun_bind, Dv.pureRun_map, pr_guarnStamp, Dv.pureRun_pure]
        simpa using hb
      have hp : pureOp Try.prog (dEnv T) o = some (.bool (!(((a0 == b0) && ((a1 == b1) && (a2 == b2)))))) := by
        simp only [pureOp, hop, hrun]
        simp [hc, isSelect, concO, dEnv, hi, hj, D.full, F.full, F.fullL, conc, concL, absN]
      have he : evA Try.prog (dEnv T) o [] = some (.bool (!(((a0 == b0) && ((a1 == b1) && (a2 == b2))))), []) := by
        simp only [evA, hc, hp]
      simp only [dSlowX, dSlow, hop, he]
      simp [dEnv, hi, hj, D.full, F.full, F.fullL, toD, vF]
    · cases h
  · rfl
theorem pr_undHead : pureRun Try.prog (underlying 59) = some (TypeDesc.struct #[{ name := "Item", type := 3, offset := 0, embedded := false, tag := "", pkgPath := "", byteOffset := 0 }, { name := "S", type := 27, offset := 1, embedded := false, tag := "", pkgPath := "", byteOffset := 8 }]) := by kernel_rfl
theorem pr_stHead : (Try.prog.stoodInHeld 59) = false := by kernel_rfl
theorem pr_partHead0 (a0 : Int) (a1 : Int) (a2 : Int) (a3 : Int) : pureRun Try.prog (part 3 #[.int .i64 a0, .int .i64 a1, .int .i64 a2, .int .i64 a3] 0) = some (.int .i64 a0) := by kernel_rfl
theorem pr_partHead1 (a0 : Int) (a1 : Int) (a2 : Int) (a3 : Int) : pureRun Try.prog (part 27 #[.int .i64 a0, .int .i64 a1, .int .i64 a2, .int .i64 a3] 1) = some (.agg #[.int .i64 a1, .int .i64 a2, .int .i64 a3]) := by kernel_rfl
theorem pr_structHead (d : Nat) (a0 : Int) (a1 : Int) (a2 : Int) (a3 : Int) (b0 : Int) (b1 : Int) (b2 : Int) (b3 : Int) : pureRun Try.prog (Op.equalIn (d + 3) 59 (.agg #[.int .i64 a0, .int .i64 a1, .int .i64 a2, .int .i64 a3]) (.agg #[.int .i64 b0, .int .i64 b1, .int .i64 b2, .int .i64 b3])) = some (((a0 == b0) && ((a1 == b1) && ((a2 == b2) && (a3 == b3))))) := by
  rw [Op.equalIn]
  simp only [Dv.pureRun_bind, pr_undHead, Option.bind_some, pr_prog, pr_stHead]
  by_cases h0 : a0 = b0 <;> by_cases h1 : a1 = b1 <;> by_cases h2 : a2 = b2 <;> by_cases h3 : a3 = b3 <;> simp [Dv.pureRun_bind, Dv.pureRun_pure, pr_partHead0, pr_partHead1, pr_structStamp, pr_eqi, pr_eqs, ba_eq, h0, h1, h2, h3]
theorem pr_guardHead (i j : Nat) (a0 : Int) (a1 : Int) (a2 : Int) (a3 : Int) (b0 : Int) (b1 : Int) (b2 : Int) (b3 : Int) : pureRun Try.prog (eqGuard .eql 59 (.tmp i) (.tmp j) (.agg #[.int .i64 a0, .int .i64 a1, .int .i64 a2, .int .i64 a3]) (.agg #[.int .i64 b0, .int .i64 b1, .int .i64 b2, .int .i64 b3])) = some () := by kernel_rfl
theorem pr_guarnHead (i j : Nat) (a0 : Int) (a1 : Int) (a2 : Int) (a3 : Int) (b0 : Int) (b1 : Int) (b2 : Int) (b3 : Int) : pureRun Try.prog (eqGuard .neq 59 (.tmp i) (.tmp j) (.agg #[.int .i64 a0, .int .i64 a1, .int .i64 a2, .int .i64 a3]) (.agg #[.int .i64 b0, .int .i64 b1, .int .i64 b2, .int .i64 b3])) = some () := by kernel_rfl
def eqOHead (o : Oper) : Option (Bool × Nat × Nat) := match o.op with
  | .binOp .eql 59 (.tmp i) (.tmp j) _ => some (true, i, j)
  | .binOp .neq 59 (.tmp i) (.tmp j) _ => some (false, i, j)
  | _ => none
def eqDHead (e : Bool) (d1 d2 : D) (r : Option D) : Option D := match d1, d2 with
  | .fz (.agg [.int .i64 a0, .int .i64 a1, .int .i64 a2, .int .i64 a3]), .fz (.agg [.int .i64 b0, .int .i64 b1, .int .i64 b2, .int .i64 b3]) => some (.fz (.bool (((a0 == b0) && ((a1 == b1) && ((a2 == b2) && (a3 == b3)))) == e)))
  | _, _ => r
theorem slow_eqHead {o : Oper} {e : Bool} {i j : Nat} (h : eqOHead o = some (e, i, j)) (T : Tm) : dSlowX Try.prog T o = eqDHead e (T.at i) (T.at j) (mmRest Try.prog T o) := by
  unfold eqDHead
  split
  · rename_i a0 a1 a2 a3 b0 b1 b2 b3 hi hj
    unfold eqOHead at h
    have hb := pr_structHead 9997 a0 a1 a2 a3 b0 b1 b2 b3
    split at h
    · rename_i i' j' tt hc
      cases h
      have hop : o.op.operands = #[.tmp i, .tmp j] := by rw [hc]; rfl
      have hrun : pureRun Try.prog (execOp (fun x => (concO (dEnv T) x).getD undef) o) = some (.value (.bool (((a0 == b0) && ((a1 == b1) && ((a2 == b2) && (a3 == b3))))))) := by
        simp [execOp, hc, binOp, Op.equal, Op.maxDepth, concO, dEnv, hi, hj, D.full, F.full, F.fullL, conc, concL, Dv.pureRun_bind, Dv.pureRun_map, pr_guardHead]
        simpa using hb
      have hp : pureOp Try.prog (dEnv T) o = some (.bool (((a0 == b0) && ((a1 == b1) && ((a2 == b2) && (a3 == b3)))))) := by
        simp only [pureOp, hop, hrun]
        simp [hc, isSelect, concO, dEnv, hi, hj, D.full, F.full, F.fullL, conc, concL, absN]
      have he : evA Try.prog (dEnv T) o [] = some (.bool (((a0 == b0) && ((a1 == b1) && ((a2 == b2) && (a3 == b3))))), []) := by
        simp only [evA, hc, hp]
      simp only [dSlowX, dSlow, hop, he]
      simp [dEnv, hi, hj, D.full, F.full, F.fullL, toD, vF]
    · rename_i i' j' tt hc
      cases h
      have hop : o.op.operands = #[.tmp i, .tmp j] := by rw [hc]; rfl
      have hrun : pureRun Try.prog (execOp (fun x => (concO (dEnv T) x).getD undef) o) = some (.value (.bool (!(((a0 == b0) && ((a1 == b1) && ((a2 == b2) && (a3 == b3)))))))) := by
        simp [execOp, hc, binOp, Op.equal, Op.maxDepth, concO, dEnv, hi, hj, D.full, F.full, F.fullL, conc, concL, Dv.pureRun_bind, Dv.pureRun_map, pr_guarnHead, Dv.pureRun_pure]
        simpa using hb
      have hp : pureOp Try.prog (dEnv T) o = some (.bool (!(((a0 == b0) && ((a1 == b1) && ((a2 == b2) && (a3 == b3))))))) := by
        simp only [pureOp, hop, hrun]
        simp [hc, isSelect, concO, dEnv, hi, hj, D.full, F.full, F.fullL, conc, concL, absN]
      have he : evA Try.prog (dEnv T) o [] = some (.bool (!(((a0 == b0) && ((a1 == b1) && ((a2 == b2) && (a3 == b3)))))), []) := by
        simp only [evA, hc, hp]
      simp only [dSlowX, dSlow, hop, he]
      simp [dEnv, hi, hj, D.full, F.full, F.fullL, toD, vF]
    · cases h
  · rfl
end Go.Proofs.Ytmbboljcgpccfaa.Pl
