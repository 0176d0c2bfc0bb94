/-
  What is proved here: structs and rows of sides asked whether they are one.
  Conditions: none.
-/
import Derived.Test.YtiloimenibbeoaaOdM
set_option linter.unusedVariables false
set_option linter.unusedSimpArgs false
set_option maxRecDepth 100000
set_option maxHeartbeats 4000000
namespace Go.Proofs.Ytiloimenibbeoaa.Pl
open Go Go.Proofs Go.Proofs.Ev Go.Proofs.Dv Cd
theorem pr_eqi (d : Nat) (a b : Int) : pureRun Try.prog (Op.equalIn (d + 1) 3 (.int .i64 a) (.int .i64 b)) = some (a == b) := by kernel_rfl
theorem pr_eqs (d : Nat) (a b : ByteArray) : pureRun Try.prog (Op.equalIn (d + 1) 9 (.string a) (.string b)) = some (a == b) := by kernel_rfl
theorem pr_prog : pureRun Try.prog program = some Try.prog := rfl
theorem ba_eq (a b : List UInt8) : ((⟨a.toArray⟩ : ByteArray) == (⟨b.toArray⟩ : ByteArray)) = decide (a = b) := by
  change (a.toArray == b.toArray) = decide (a = b)
  rw [Bool.eq_iff_iff]
  simp
theorem pr_undSide : pureRun Try.prog (underlying 44) = some (TypeDesc.struct #[{ name := "How", type := 3, offset := 0, embedded := false, tag := "", pkgPath := "", byteOffset := 0 }, { name := "Lo", type := 3, offset := 1, embedded := false, tag := "", pkgPath := "", byteOffset := 8 }, { name := "Hi", type := 3, offset := 2, embedded := false, tag := "", pkgPath := "", byteOffset := 16 }]) := by kernel_rfl
theorem pr_stSide : (Try.prog.stoodInHeld 44) = false := by kernel_rfl
theorem pr_partSide0 (a0 : Int) (a1 : Int) (a2 : Int) : pureRun Try.prog (part 3 #[.int .i64 a0, .int .i64 a1, .int .i64 a2] 0) = some (.int .i64 a0) := by kernel_rfl
theorem pr_partSide1 (a0 : Int) (a1 : Int) (a2 : Int) : pureRun Try.prog (part 3 #[.int .i64 a0, .int .i64 a1, .int .i64 a2] 1) = some (.int .i64 a1) := by kernel_rfl
theorem pr_partSide2 (a0 : Int) (a1 : Int) (a2 : Int) : pureRun Try.prog (part 3 #[.int .i64 a0, .int .i64 a1, .int .i64 a2] 2) = some (.int .i64 a2) := by kernel_rfl
theorem pr_structSide (d : Nat) (a0 : Int) (a1 : Int) (a2 : Int) (b0 : Int) (b1 : Int) (b2 : Int) : pureRun Try.prog (Op.equalIn (d + 2) 44 (.agg #[.int .i64 a0, .int .i64 a1, .int .i64 a2]) (.agg #[.int .i64 b0, .int .i64 b1, .int .i64 b2])) = some (((a0 == b0) && ((a1 == b1) && (a2 == b2)))) := by
  rw [Op.equalIn]
  simp only [Dv.pureRun_bind, pr_undSide, Option.bind_some, pr_prog, pr_stSide]
  by_cases h0 : a0 = b0 <;> by_cases h1 : a1 = b1 <;> by_cases h2 : a2 = b2 <;> simp [Dv.pureRun_bind, Dv.pureRun_pure, pr_partSide0, pr_partSide1, pr_partSide2, pr_eqi, pr_eqs, ba_eq, h0, h1, h2]
theorem pr_guardSide (i j : Nat) (a0 : Int) (a1 : Int) (a2 : Int) (b0 : Int) (b1 : Int) (b2 : Int) : pureRun Try.prog (eqGuard .eql 44 (.tmp i) (.tmp j) (.agg #[.int .i64 a0, .int .i64 a1, .int .i64 a2]) (.agg #[.int .i64 b0, .int .i64 b1, .int .i64 b2])) = some () := by kernel_rfl
theorem pr_guarnSide (i j : Nat) (a0 : Int) (a1 : Int) (a2 : Int) (b0 : Int) (b1 : Int) (b2 : Int) : pureRun Try.prog (eqGuard .neq 44 (.tmp i) (.tmp j) (.agg #[.int .i64 a0, .int .i64 a1, .int .i64 a2]) (.agg #[.int .i64 b0, .int .i64 b1, .int .i64 b2])) = some () := by kernel_rfl
def eqOSide (o : Oper) : Option (Bool × Nat × Nat) := match o.op with
  | .binOp .eql 44 (.tmp i) (.tmp j) _ => some (true, i, j)
  | .binOp .neq 44 (.tmp i) (.tmp j) _ => some (false, i, j)
  | _ => none
def eqDSide (e : Bool) (d1 d2 : D) (r : Option D) : Option D := match d1, d2 with
  | .fz (.agg [.int .i64 a0, .int .i64 a1, .int .i64 a2]), .fz (.agg [.int .i64 b0, .int .i64 b1, .int .i64 b2]) => some (.fz (.bool (((a0 == b0) && ((a1 == b1) && (a2 == b2))) == e)))
  | _, _ => r
theorem slow_eqSide {o : Oper} {e : Bool} {i j : Nat} (h : eqOSide o = some (e, i, j)) (T : Tm) : dSlowX Try.prog T o = eqDSide e (T.at i) (T.at j) (mmRest Try.prog T o) := by
  unfold eqDSide
  split
  · rename_i a0 a1 a2 b0 b1 b2 hi hj
    unfold eqOSide at h
    have hb := pr_structSide 9998 a0 a1 a2 b0 b1 b2
    split at h
    · rename_i i' j' tt hc
      cases h
      have hop : o.op.operands = #[.tmp i, .tmp j] := by rw [hc]; rfl
      have hrun : pureRun Try.prog (execOp (fun x => (concO (dEnv T) x).getD undef) o) = some (.value (.bool (((a0 == b0) && ((a1 == b1) && (a2 == b2)))))) := by
        simp [execOp, hc, binOp, Op.equal, Op.maxDepth, concO, dEnv, hi, hj, D.full, F.full, F.fullL, conc, concL, Dv.pureRun_bind, Dv.pureRun_map, pr_guardSide]
        simpa using hb
      have hp : pureOp Try.prog (dEnv T) o = some (.bool (((a0 == b0) && ((a1 == b1) && (a2 == b2))))) := by
        simp only [pureOp, hop, hrun]
        simp [hc, isSelect, concO, dEnv, hi, hj, D.full, F.full, F.fullL, conc, concL, absN]
      have he : evA Try.prog (dEnv T) o [] = some (.bool (((a0 == b0) && ((a1 == b1) && (a2 == b2)))), []) := by
        simp only [evA, hc, hp]
      simp only [dSlowX, dSlow, hop, he]
      simp [dEnv, hi, hj, D.full, F.full, F.fullL, toD, vF]
    · rename_i i' j' tt hc
      cases h
      have hop : o.op.operands = #[.tmp i, .tmp j] := by rw [hc]; rfl
      have hrun : pureRun Try.prog (execOp (fun x => (concO (dEnv T) x).getD undef) o) = some (.value (.bool (!(((a0 == b0) && ((a1 == b1) && (a2 == b2))))))) := by
        simp [execOp, hc, binOp, Op.equal, Op.maxDepth, concO, dEnv, hi, hj, D.full, F.full, F.fullL, conc, concL, Dv.pureRun_bind, Dv.pureRun_map, pr_guarnSide, Dv.pureRun_pure]
        simpa using hb
      have hp : pureOp Try.prog (dEnv T) o = some (.bool (!(((a0 == b0) && ((a1 == b1) && (a2 == b2)))))) := by
        simp only [pureOp, hop, hrun]
        simp [hc, isSelect, concO, dEnv, hi, hj, D.full, F.full, F.fullL, conc, concL, absN]
      have he : evA Try.prog (dEnv T) o [] = some (.bool (!(((a0 == b0) && ((a1 == b1) && (a2 == b2))))), []) := by
        simp only [evA, hc, hp]
      simp only [dSlowX, dSlow, hop, he]
      simp [dEnv, hi, hj, D.full, F.full, F.fullL, toD, vF]
    · cases h
  · rfl
theorem pr_undK : pureRun Try.prog (underlying 45) = some (TypeDesc.array 4 44) := by kernel_rfl
theorem pr_sizeK : pureRun Try.prog (sizeOf 44) = some 3 := by kernel_rfl
theorem pr_partK0 (a0 a1 a2 a3 a4 a5 a6 a7 a8 a9 a10 a11 : Int) : pureRun Try.prog (part 44 #[.int .i64 a0, .int .i64 a1, .int .i64 a2, .int .i64 a3, .int .i64 a4, .int .i64 a5, .int .i64 a6, .int .i64 a7, .int .i64 a8, .int .i64 a9, .int .i64 a10, .int .i64 a11] 0) = some (.agg #[.int .i64 a0, .int .i64 a1, .int .i64 a2]) := by kernel_rfl
theorem pr_partK1 (a0 a1 a2 a3 a4 a5 a6 a7 a8 a9 a10 a11 : Int) : pureRun Try.prog (part 44 #[.int .i64 a0, .int .i64 a1, .int .i64 a2, .int .i64 a3, .int .i64 a4, .int .i64 a5, .int .i64 a6, .int .i64 a7, .int .i64 a8, .int .i64 a9, .int .i64 a10, .int .i64 a11] 3) = some (.agg #[.int .i64 a3, .int .i64 a4, .int .i64 a5]) := by kernel_rfl
theorem pr_partK2 (a0 a1 a2 a3 a4 a5 a6 a7 a8 a9 a10 a11 : Int) : pureRun Try.prog (part 44 #[.int .i64 a0, .int .i64 a1, .int .i64 a2, .int .i64 a3, .int .i64 a4, .int .i64 a5, .int .i64 a6, .int .i64 a7, .int .i64 a8, .int .i64 a9, .int .i64 a10, .int .i64 a11] 6) = some (.agg #[.int .i64 a6, .int .i64 a7, .int .i64 a8]) := by kernel_rfl
theorem pr_partK3 (a0 a1 a2 a3 a4 a5 a6 a7 a8 a9 a10 a11 : Int) : pureRun Try.prog (part 44 #[.int .i64 a0, .int .i64 a1, .int .i64 a2, .int .i64 a3, .int .i64 a4, .int .i64 a5, .int .i64 a6, .int .i64 a7, .int .i64 a8, .int .i64 a9, .int .i64 a10, .int .i64 a11] 9) = some (.agg #[.int .i64 a9, .int .i64 a10, .int .i64 a11]) := by kernel_rfl
theorem pr_arrK (d : Nat) (a0 a1 a2 a3 a4 a5 a6 a7 a8 a9 a10 a11 : Int) : pureRun Try.prog (Op.equalIn (d + 3) 45 (.agg #[.int .i64 a0, .int .i64 a1, .int .i64 a2, .int .i64 a3, .int .i64 a4, .int .i64 a5, .int .i64 a6, .int .i64 a7, .int .i64 a8, .int .i64 a9, .int .i64 a10, .int .i64 a11]) (.agg #[.int .i64 a0, .int .i64 a1, .int .i64 a2, .int .i64 a3, .int .i64 a4, .int .i64 a5, .int .i64 a6, .int .i64 a7, .int .i64 a8, .int .i64 a9, .int .i64 a10, .int .i64 a11])) = some true := by
  have h0 := pr_structSide d a0 a1 a2 a0 a1 a2
  have h1 := pr_structSide d a3 a4 a5 a3 a4 a5
  have h2 := pr_structSide d a6 a7 a8 a6 a7 a8
  have h3 := pr_structSide d a9 a10 a11 a9 a10 a11
  simp only [beq_self_eq_true, Bool.and_self] at h0 h1 h2 h3
  rw [Op.equalIn]
  simp only [Dv.pureRun_bind, pr_undK, pr_sizeK, Option.bind_some]
  simp [Std.Legacy.Range.forIn_eq_forIn_range', Std.Legacy.Range.size, List.range', Dv.pureRun_bind, Dv.pureRun_pure, pr_partK0, pr_partK1, pr_partK2, pr_partK3, h0, h1, h2, h3]
theorem pr_guardK (i j : Nat) (a0 a1 a2 a3 a4 a5 a6 a7 a8 a9 a10 a11 : Int) : pureRun Try.prog (eqGuard .neq 45 (.tmp i) (.tmp j) (.agg #[.int .i64 a0, .int .i64 a1, .int .i64 a2, .int .i64 a3, .int .i64 a4, .int .i64 a5, .int .i64 a6, .int .i64 a7, .int .i64 a8, .int .i64 a9, .int .i64 a10, .int .i64 a11]) (.agg #[.int .i64 a0, .int .i64 a1, .int .i64 a2, .int .i64 a3, .int .i64 a4, .int .i64 a5, .int .i64 a6, .int .i64 a7, .int .i64 a8, .int .i64 a9, .int .i64 a10, .int .i64 a11])) = some () := by kernel_rfl
def eqOK (o : Oper) : Option (Nat × Nat) := match o.op with
  | .binOp .neq 45 (.tmp i) (.tmp j) _ => some (i, j)
  | _ => none
def eqDK (d1 d2 : D) (r : Option D) : Option D := match d1, d2 with
  | .fz (.agg [.int .i64 a0, .int .i64 a1, .int .i64 a2, .int .i64 a3, .int .i64 a4, .int .i64 a5, .int .i64 a6, .int .i64 a7, .int .i64 a8, .int .i64 a9, .int .i64 a10, .int .i64 a11]), .fz (.agg [.int .i64 b0, .int .i64 b1, .int .i64 b2, .int .i64 b3, .int .i64 b4, .int .i64 b5, .int .i64 b6, .int .i64 b7, .int .i64 b8, .int .i64 b9, .int .i64 b10, .int .i64 b11]) => if a0 = b0 ∧ a1 = b1 ∧ a2 = b2 ∧ a3 = b3 ∧ a4 = b4 ∧ a5 = b5 ∧ a6 = b6 ∧ a7 = b7 ∧ a8 = b8 ∧ a9 = b9 ∧ a10 = b10 ∧ a11 = b11 then some (.fz (.bool false)) else r
  | _, _ => r
theorem slow_eqK {o : Oper} {i j : Nat} (h : eqOK o = some (i, j)) (T : Tm) : dSlowX Try.prog T o = eqDK (T.at i) (T.at j) (mmRest Try.prog T o) := by
  unfold eqDK
  split
  · rename_i a0 a1 a2 a3 a4 a5 a6 a7 a8 a9 a10 a11 b0 b1 b2 b3 b4 b5 b6 b7 b8 b9 b10 b11 hi hj
    split
    · rename_i he
      obtain ⟨rfl, rfl, rfl, rfl, rfl, rfl, rfl, rfl, rfl, rfl, rfl, rfl⟩ := he
      unfold eqOK at h
      have hb := pr_arrK 9997 a0 a1 a2 a3 a4 a5 a6 a7 a8 a9 a10 a11
      split at h
      · rename_i i' j' tt hc
        cases h
        have hop : o.op.operands = #[.tmp i, .tmp j] := by rw [hc]; rfl
        have hrun : pureRun Try.prog (execOp (fun x => (concO (dEnv T) x).getD undef) o) = some (.value (.bool false)) := by
          simp [execOp, hc, binOp, Op.equal, Op.maxDepth, concO, dEnv, hi, hj, D.full, F.full, F.fullL, conc, concL, Dv.pureRun_bind, Dv.pureRun_map, pr_guardK, Dv.pureRun_pure]
          simpa using hb
        have hp : pureOp Try.prog (dEnv T) o = some (.bool false) := by
          simp only [pureOp, hop, hrun]
          simp [hc, isSelect, concO, dEnv, hi, hj, D.full, F.full, F.fullL, conc, concL, absN]
        have he : evA Try.prog (dEnv T) o [] = some (.bool false, []) := by
          simp only [evA, hc, hp]
        simp only [dSlowX, dSlow, hop, he]
        simp [dEnv, hi, hj, D.full, F.full, F.fullL, toD, vF]
      · cases h
    · rfl
  · rfl
end Go.Proofs.Ytiloimenibbeoaa.Pl
