/-
  What is proved here: structs asked whether they are one.
  Conditions: none.
-/
import Derived.Test.YtpinhopgeaamdaaCdK
set_option linter.unusedVariables false
set_option linter.unusedSimpArgs false
set_option maxRecDepth 100000
set_option maxHeartbeats 4000000
namespace Go.Proofs.Ytpinhopgeaamdaa.Pl
open Go Go.Proofs Go.Proofs.Ev Go.Proofs.Dv Cd
theorem pr_eqi (d : Nat) (a b : Int) : pureRun Try.prog (Op.equalIn (d + 1) 3 (.int .i64 a) (.int .i64 b)) = some (a == b) := by kernel_rfl
theorem pr_eqs (d : Nat) (a b : ByteArray) : pureRun Try.prog (Op.equalIn (d + 1) 9 (.string a) (.string b)) = some (a == b) := by kernel_rfl
theorem pr_prog : pureRun Try.prog program = some Try.prog := rfl
theorem ba_eq (a b : List UInt8) : ((⟨a.toArray⟩ : ByteArray) == (⟨b.toArray⟩ : ByteArray)) = decide (a = b) := by
  change (a.toArray == b.toArray) = decide (a = b)
  rw [Bool.eq_iff_iff]
  simp
theorem pr_undSeg : pureRun Try.prog (underlying 56) = some (TypeDesc.struct #[{ name := "Num", type := 3, offset := 0, embedded := false, tag := "", pkgPath := "", byteOffset := 0 }, { name := "B", type := 9, offset := 1, embedded := false, tag := "", pkgPath := "", byteOffset := 8 }]) := by kernel_rfl
theorem pr_stSeg : (Try.prog.stoodInHeld 56) = false := by kernel_rfl
theorem pr_partSeg0 (a0 : Int) (a1 : List UInt8) : pureRun Try.prog (part 3 #[.int .i64 a0, .string ⟨a1.toArray⟩] 0) = some (.int .i64 a0) := by kernel_rfl
theorem pr_partSeg1 (a0 : Int) (a1 : List UInt8) : pureRun Try.prog (part 9 #[.int .i64 a0, .string ⟨a1.toArray⟩] 1) = some (.string ⟨a1.toArray⟩) := by kernel_rfl
theorem pr_structSeg (d : Nat) (a0 : Int) (a1 : List UInt8) (b0 : Int) (b1 : List UInt8) : pureRun Try.prog (Op.equalIn (d + 2) 56 (.agg #[.int .i64 a0, .string ⟨a1.toArray⟩]) (.agg #[.int .i64 b0, .string ⟨b1.toArray⟩])) = some (((a0 == b0) && decide (a1 = b1))) := by
  rw [Op.equalIn]
  simp only [Dv.pureRun_bind, pr_undSeg, Option.bind_some, pr_prog, pr_stSeg]
  by_cases h0 : a0 = b0 <;> by_cases h1 : a1 = b1 <;> simp [Dv.pureRun_bind, Dv.pureRun_pure, pr_partSeg0, pr_partSeg1, pr_eqi, pr_eqs, ba_eq, h0, h1]
theorem pr_guardSeg (i j : Nat) (a0 : Int) (a1 : List UInt8) (b0 : Int) (b1 : List UInt8) : pureRun Try.prog (eqGuard .eql 56 (.tmp i) (.tmp j) (.agg #[.int .i64 a0, .string ⟨a1.toArray⟩]) (.agg #[.int .i64 b0, .string ⟨b1.toArray⟩])) = some () := by kernel_rfl
theorem pr_guarnSeg (i j : Nat) (a0 : Int) (a1 : List UInt8) (b0 : Int) (b1 : List UInt8) : pureRun Try.prog (eqGuard .neq 56 (.tmp i) (.tmp j) (.agg #[.int .i64 a0, .string ⟨a1.toArray⟩]) (.agg #[.int .i64 b0, .string ⟨b1.toArray⟩])) = some () := by kernel_rfl
def eqOSeg (o : Oper) : Option (Bool × Nat × Nat) := match o.op with
  | .binOp .eql 56 (.tmp i) (.tmp j) _ => some (true, i, j)
  | .binOp .neq 56 (.tmp i) (.tmp j) _ => some (false, i, j)
  | _ => none
def eqDSeg (e : Bool) (d1 d2 : D) (r : Option D) : Option D := match d1, d2 with
  | .fz (.agg [.int .i64 a0, .str a1]), .fz (.agg [.int .i64 b0, .str b1]) => some (.fz (.bool (((a0 == b0) && decide (a1 = b1)) == e)))
  | _, _ => r
theorem slow_eqSeg {o : Oper} {e : Bool} {i j : Nat} (h : eqOSeg o = some (e, i, j)) (T : Tm) : dSlowX Try.prog T o = eqDSeg e (T.at i) (T.at j) (mmRest Try.prog T o) := by
  unfold eqDSeg
  split
  · rename_i a0 a1 b0 b1 hi hj
    unfold eqOSeg at h
    have hb := pr_structSeg 9998 a0 a1 b0 b1
    split at h
    · rename_i i' j' tt hc
      cases h
      have hop : o.op.operands = #[.tmp i, .tmp j] := by rw [hc]; rfl
      have hrun : pureRun Try.prog (execOp (fun x => (concO (dEnv T) x).getD undef) o) = some (.value (.bool (((a0 == b0) && decide (a1 = b1))))) := by
        simp [execOp, hc, binOp, Op.equal, Op.maxDepth, concO, dEnv, hi, hj, D.full, F.full, F.fullL, conc, concL, Dv.pureRun_bind, Dv.pureRun_map, pr_guardSeg]
        simpa using hb
      have hp : pureOp Try.prog (dEnv T) o = some (.bool (((a0 == b0) && decide (a1 = b1)))) := by
        simp only [pureOp, hop, hrun]
        simp [hc, isSelect, concO, dEnv, hi, hj, D.full, F.full, F.fullL, conc, concL, absN]
      have he : evA Try.prog (dEnv T) o [] = some (.bool (((a0 == b0) && decide (a1 = b1))), []) := by
        simp only [evA, hc, hp]
      simp only [dSlowX, dSlow, hop, he]
      simp [dEnv, hi, hj, D.full, F.full, F.fullL, toD, vF]
    · rename_i i' j' tt hc
      cases h
      have hop : o.op.operands = #[.tmp i, .tmp j] := by rw [hc]; rfl
      have hrun : pureRun Try.prog (execOp (fun x => (concO (dEnv T) x).getD undef) o) = some (.value (.bool (!(((a0 == b0) && decide (a1 = b1)))))) := by
        simp [execOp, hc, binOp, Op.equal, Op.maxDepth, concO, dEnv, hi, hj, D.full, F.full, F.fullL, conc, concL, Dv.pureRun_bind, Dv.pureRun_map, pr_guarnSeg, Dv.pureRun_pure]
        simpa using hb
      have hp : pureOp Try.prog (dEnv T) o = some (.bool (!(((a0 == b0) && decide (a1 = b1))))) := by
        simp only [pureOp, hop, hrun]
        simp [hc, isSelect, concO, dEnv, hi, hj, D.full, F.full, F.fullL, conc, concL, absN]
      have he : evA Try.prog (dEnv T) o [] = some (.bool (!(((a0 == b0) && decide (a1 = b1)))), []) := by
        simp only [evA, hc, hp]
      simp only [dSlowX, dSlow, hop, he]
      simp [dEnv, hi, hj, D.full, F.full, F.fullL, toD, vF]
    · cases h
  · rfl
end Go.Proofs.Ytpinhopgeaamdaa.Pl
