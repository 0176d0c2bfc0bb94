/-
  What is proved here: stamps, one against the other; three of them stand in one row.
  Conditions: none.
-/
import Derived.Test.YtpinhopgeaamdaaCd
import Derived.WideShapes
set_option linter.unusedVariables false
set_option linter.unusedSimpArgs false
set_option maxRecDepth 100000
set_option maxHeartbeats 2000000
namespace Go.Proofs.Ytpinhopgeaamdaa.Pl
open Go Go.Proofs Go.Proofs.Ev Go.Proofs.Dv Cd
open Go.RowKit Go.WideShapes
theorem cell_int {P : Program} {w : World} {base : Nat} {e : TypeId} {k : IntKind} {v : Value} (he : P.underlying e = some (.int k)) (h : Cell.okWide P w .any base e v) : ∃ n, v = .int k n := by
  simp only [Cell.okWide, he] at h
  cases v <;> simp_all [Cell.ok]
/-- A struct of numbers of one kind, as it comes in. -/
theorem ints_of {P : Program} {w : World} {base : Nat} {t e : TypeId} {fs : Array Field} {k : IntKind} {n : Nat} {v : Value} (hu : P.underlying t = some (.struct fs)) (hct : P.cellTypes P.depth t = some (List.replicate n e)) (hc : P.cellsOf t = n) (he : P.underlying e = some (.int k))
    (hok : Value.okWide P w .any base t v) : ∃ zs : List Int, zs.length = n ∧ v = .agg (zs.map (Value.int k)).toArray := by
  simp only [Value.okWide, hu] at hok
  obtain ⟨cs, rfl, hsz, ts, hts, _, hall⟩ := hok
  rw [hct] at hts
  cases hts
  refine ⟨cs.toList.map fun v => match v with | .int _ z => z | _ => 0, by simp [hsz, hc], ?_⟩
  congr 1
  apply Array.ext'
  simp only [List.map_map]
  symm
  rw [List.map_congr_left (g := id), List.map_id]
  intro v hv
  obtain ⟨i, hi⟩ := List.mem_iff_getElem?.1 hv
  obtain ⟨u, hu', hok⟩ := hall i v (by simpa using hi)
  have hm := List.mem_of_getElem? hu'
  rw [List.mem_replicate] at hm
  rw [hm.2] at hok
  obtain ⟨z, rfl⟩ := cell_int he hok
  rfl
theorem in_ints3 {P : Program} {w : World} {base : Nat} {t e : TypeId} {fs : Array Field} {k : IntKind} {v : Value} (hu : P.underlying t = some (.struct fs)) (hct : P.cellTypes P.depth t = some [e, e, e]) (hc : P.cellsOf t = 3) (he : P.underlying e = some (.int k))
    (hok : Value.okWide P w .any base t v) : ∃ a b c : Int, In1 w v (.agg [.int k a, .int k b, .int k c]) := by
  obtain ⟨zs, hl, rfl⟩ := ints_of (n := 3) hu hct hc he hok
  match zs, hl with
  | [a, b, c], _ => exact ⟨a, b, c, In1.ints (ks := [(k, a), (k, b), (k, c)]) rfl⟩
theorem pureRun_bind {α β : Type} {P : Program} (s : Sem α) (f : α → Sem β) : pureRun P (s >>= f) = (pureRun P s).bind fun x => pureRun P (f x) := by
  show pureRun P (s.bind f) = _
  induction s <;> simp_all [Sem.bind, pureRun]
theorem pr_part (a b c : Int) : pureRun Try.prog (part 3 #[.int .i64 a, .int .i64 b, .int .i64 c] 0) = some (.int .i64 a) := by kernel_rfl
theorem pr_eq (d : Nat) (a b : Int) : pureRun Try.prog (Op.equalIn (d + 1) 3 (.int .i64 a) (.int .i64 b)) = some (a == b) := by kernel_rfl
theorem pr_st : (Try.prog.stoodInHeld 23) = false := by kernel_rfl
theorem pr_part1 (a b c : Int) : pureRun Try.prog (part 3 #[.int .i64 a, .int .i64 b, .int .i64 c] 1) = some (.int .i64 b) := by kernel_rfl
theorem pr_part2 (a b c : Int) : pureRun Try.prog (part 3 #[.int .i64 a, .int .i64 b, .int .i64 c] 2) = some (.int .i64 c) := by kernel_rfl
theorem pr_und : pureRun Try.prog (underlying 23) = some (TypeDesc.struct
      #[{ name := "L", type := 3, offset := 0, embedded := false, tag := "", pkgPath := "", byteOffset := 0 },
        { name := "R", type := 3, offset := 1, embedded := false, tag := "", pkgPath := "", byteOffset := 8 },
        { name := "N", type := 3, offset := 2, embedded := false, tag := "", pkgPath := "", byteOffset := 16 }]) := by kernel_rfl
theorem pr_prog : pureRun Try.prog program = some Try.prog := rfl
theorem pr_pure {α : Type} (x : α) : pureRun Try.prog (pure x : Sem α) = some x := rfl
theorem pr_struct (d : Nat) (a1 a2 a3 b1 b2 b3 : Int) : pureRun Try.prog (Op.equalIn (d + 2) 23 (.agg #[.int .i64 a1, .int .i64 a2, .int .i64 a3]) (.agg #[.int .i64 b1, .int .i64 b2, .int .i64 b3])) = some (a1 == b1 && (a2 == b2 && a3 == b3)) := by
  rw [Op.equalIn]
  simp only [pureRun_bind, pr_und, Option.bind_some, pr_prog, pr_st]
  by_cases h1 : a1 = b1 <;> by_cases h2 : a2 = b2 <;> by_cases h3 : a3 = b3 <;> simp [pureRun_bind, pr_part, pr_part1, pr_part2, pr_eq, pr_pure, h1, h2, h3]

theorem pureRun_map {α β : Type} {P : Program} (f : α → β) (s : Sem α) : pureRun P (f <$> s) = (pureRun P s).map f := by
  show pureRun P (s.bind fun x => Sem.pure (f x)) = _
  have := pureRun_bind (P := P) s fun x => Sem.pure (f x)
  rw [show (s >>= fun x => Sem.pure (f x)) = s.bind fun x => Sem.pure (f x) from rfl] at this
  rw [this]
  cases pureRun P s <;> rfl
theorem pr_guard (i j : Nat) (a1 a2 a3 b1 b2 b3 : Int) : pureRun Try.prog (eqGuard .eql 23 (.tmp i) (.tmp j) (.agg #[.int .i64 a1, .int .i64 a2, .int .i64 a3]) (.agg #[.int .i64 b1, .int .i64 b2, .int .i64 b3])) = some () := by kernel_rfl
theorem pr_neg (a : Int) : pureRun Try.prog (Op.unary .neg (.int .i64 a)) = some (.int .i64 (IntKind.wrap .i64 (-a))) := by
  rw [← Int.zero_sub]
  rfl
/-- Two registers, stamps, asked whether they are one; a number turned round. -/
def eqS (o : Oper) : Option (Nat × Nat) := match o.op with
  | .binOp .eql 23 (.tmp i) (.tmp j) _ => some (i, j)
  | _ => none
def eqSD (d e : D) (r : Option D) : Option D := match d, e with
  | .fz (.agg [.int .i64 a1, .int .i64 a2, .int .i64 a3]), .fz (.agg [.int .i64 b1, .int .i64 b2, .int .i64 b3]) => some (.fz (.bool (a1 == b1 && (a2 == b2 && a3 == b3))))
  | _, _ => r
theorem slow_eqS {o : Oper} {i j : Nat} (h : eqS o = some (i, j)) (T : Tm) : dSlowX Try.prog T o = eqSD (T.at i) (T.at j) (mmRest Try.prog T o) := by
  unfold eqSD
  split
  · rename_i a1 a2 a3 b1 b2 b3 hi hj
    unfold eqS at h
    split at h
    · rename_i i' j' tt hc
      cases h
      have hop : o.op.operands = #[.tmp i, .tmp j] := by rw [hc]; rfl
      have hrun : pureRun Try.prog (execOp (fun x => (concO (dEnv T) x).getD undef) o) = some (.value (.bool (a1 == b1 && (a2 == b2 && a3 == b3)))) := by
        have hb := pr_struct 9998 a1 a2 a3 b1 b2 b3
        simp [execOp, hc, binOp, Op.equal, Op.maxDepth, concO, dEnv, hi, hj, D.full, F.full, F.fullL, conc, concL, pureRun_bind, pureRun_map, pr_guard]
        simpa using hb
      have hp : pureOp Try.prog (dEnv T) o = some (.bool (a1 == b1 && (a2 == b2 && a3 == b3))) := by
        simp only [pureOp, hop, hrun]
        simp [hc, isSelect, concO, dEnv, hi, hj, D.full, F.full, F.fullL, conc, concL, absN]
      have he : evA Try.prog (dEnv T) o [] = some (.bool (a1 == b1 && (a2 == b2 && a3 == b3)), []) := by
        simp only [evA, hc, hp]
      simp only [dSlowX, dSlow, hop, he]
      simp [dEnv, hi, hj, D.full, F.full, F.fullL, toD, vF]
    · cases h
  · rfl
def neg1 (o : Oper) : Option Nat := match o.op with
  | .unOp .neg 3 (.tmp i) => some i
  | _ => none
def negD (d : D) (r : Option D) : Option D := match d with
  | .fz (.int .i64 a) => some (.fz (.int .i64 (wrapF .i64 (-a))))
  | _ => r
theorem slow_neg {o : Oper} {i : Nat} (h : neg1 o = some i) (T : Tm) : dSlowX Try.prog T o = negD (T.at i) (mmRest Try.prog T o) := by
  unfold negD
  split
  · rename_i a hi
    unfold neg1 at h
    split at h
    · rename_i i' hc
      cases h
      have hop : o.op.operands = #[.tmp i] := by rw [hc]; rfl
      have hrun : pureRun Try.prog (execOp (fun x => (concO (dEnv T) x).getD undef) o) = some (.value (.int .i64 (wrapF .i64 (-a)))) := by
        simp [execOp, hc, concO, dEnv, hi, D.full, F.full, conc, pureRun_bind, pureRun_map, pr_neg, wrapF_eq]
      have hp : pureOp Try.prog (dEnv T) o = some (.int .i64 (wrapF .i64 (-a))) := by
        simp only [pureOp, hop, hrun]
        simp [hc, isSelect, concO, dEnv, hi, D.full, F.full, conc, absN]
      have he : evA Try.prog (dEnv T) o [] = some (.int .i64 (wrapF .i64 (-a)), []) := by
        simp [evA, hc, hp, keep]
      simp only [dSlowX, dSlow, hop, he]
      simp [dEnv, hi, D.full, F.full, toD, vF]
    · cases h
  · rfl
theorem e38 : eqS (operAt Try.prog 4 38) = some (38, 39) := by kernel_rfl
theorem n23 : neg1 (operAt Try.prog 4 23) = some 24 := by kernel_rfl
theorem q14 (st : Dv.St) : callI Try.prog noPrims dx tbl 14 [] st = some (.fz (.bool true), st, []) := callI_iff.2 ⟨60, by kernel_rfl⟩
theorem r71 (ds : List D) (st : Dv.St) : callI Try.prog noPrims dx tbl 71 ds st = callR Try.prog noPrims dx tbl 71 ds st (frL (fr st 6) ds) := callRw rfl rfl (rfl : tbl 71 = some c71) rfl ds st
theorem r43 (ds : List D) (st : Dv.St) : callI Try.prog noPrims dx tbl 43 ds st = callR Try.prog noPrims dx tbl 43 ds st (frL (fr st 6) ds) := callRw rfl rfl (rfl : tbl 43 = some c43) rfl ds st
theorem r42 (ds : List D) (st : Dv.St) : callI Try.prog noPrims dx tbl 42 ds st = callR Try.prog noPrims dx tbl 42 ds st (frL (fr st 6) ds) := callRw rfl rfl (rfl : tbl 42 = some c42) rfl ds st
theorem r21 (ds : List D) (st : Dv.St) : callI Try.prog noPrims dx tbl 21 ds st = callR Try.prog noPrims dx tbl 21 ds st (frL (fr st 6) ds) := callRw rfl rfl (rfl : tbl 21 = some c21) rfl ds st
theorem p71 (x : Int) : pureI Try.prog noPrims dx tbl 71 [.int .i64 x] = some (.bool false) := by
  rw [pureI_of (rfl : tbl 71 = some c71)]
  simp [c71, x_pure, x_skip, x_reg, x_drw, x_seq, x_cond, x_block, x_loop', Tm.keep_nil, x_exit, x_ret, k_seq, k_seq_ret, k_seq_exit, k_seq_none, k_seq_ite, k_cond, k_block, k_block_ret, k_block_exit, k_block_none, k_block_ite, k_iter, k_iter_ret, k_iter_exit, k_iter_none, k_iter_ite, k_reg, k_reg_none, k_reg_ite, x_is_nil, x_is, x_is_g, k_ins, k_ins_none, k_ins_ite, k_grd, x_ord_nil, x_ord, x_ord_g, k_ord, k_ord_none, k_ord_ite, k_ogrd, k_out_ret, k_out, k_out_none, k_out_ite, k_pure, k_pure_none, k_pure_ite, startD, dI, dA, deo, Tm.at, Tm.dst, Tm.set, Tm.put, Tm.keep, dW, dRes, oneOfD, mkTup, mkAgg, mkFn, allF, frL, fr, vD, vD1, vF, vFL, dBin, dEq, dNil, isNilD, dScal, F.cv, eBin, sameKind, eInt, eStr, cellsD, oneD, F.one, dFill, putAtD, chunk, dbnd, allLen, allOne, dSrc, roomOK, St.own, St.drop, St.still, St.fresh, chkQ, stillQ, freshQ, lOf, rdOf, rdOK, undefD, F.full, F.fullL, List.mapIdx_cons, strip]
def cmpI (x y : Int) : Int := if x < y then -1 else if x > y then 1 else 0
theorem p43 (x y : Int) : pureI Try.prog noPrims dx tbl 43 [.int .i64 x, .int .i64 y] = some (.int .i64 (cmpI x y)) := by
  rw [pureI_of (rfl : tbl 43 = some c43)]
  by_cases h1 : x < y
  · simp [c43, x_pure, x_skip, x_reg, x_drw, x_seq, x_cond, x_block, x_loop', Tm.keep_nil, x_exit, x_ret, k_seq, k_seq_ret, k_seq_exit, k_seq_none, k_seq_ite, k_cond, k_block, k_block_ret, k_block_exit, k_block_none, k_block_ite, k_iter, k_iter_ret, k_iter_exit, k_iter_none, k_iter_ite, k_reg, k_reg_none, k_reg_ite, x_is_nil, x_is, x_is_g, k_ins, k_ins_none, k_ins_ite, k_grd, x_ord_nil, x_ord, x_ord_g, k_ord, k_ord_none, k_ord_ite, k_ogrd, k_out_ret, k_out, k_out_none, k_out_ite, k_pure, k_pure_none, k_pure_ite, startD, dI, dA, deo, Tm.at, Tm.dst, Tm.set, Tm.put, Tm.keep, dW, dRes, oneOfD, mkTup, mkAgg, mkFn, allF, frL, fr, vD, vD1, vF, vFL, dBin, dEq, dNil, isNilD, dScal, F.cv, eBin, sameKind, eInt, eStr, cellsD, oneD, F.one, dFill, putAtD, chunk, dbnd, allLen, allOne, dSrc, roomOK, St.own, St.drop, St.still, St.fresh, chkQ, stillQ, freshQ, lOf, rdOf, rdOK, undefD, F.full, F.fullL, List.mapIdx_cons, strip, r71, callR, p71, cmpI, h1]
  · by_cases h2 : y < x
    · simp [c43, x_pure, x_skip, x_reg, x_drw, x_seq, x_cond, x_block, x_loop', Tm.keep_nil, x_exit, x_ret, k_seq, k_seq_ret, k_seq_exit, k_seq_none, k_seq_ite, k_cond, k_block, k_block_ret, k_block_exit, k_block_none, k_block_ite, k_iter, k_iter_ret, k_iter_exit, k_iter_none, k_iter_ite, k_reg, k_reg_none, k_reg_ite, x_is_nil, x_is, x_is_g, k_ins, k_ins_none, k_ins_ite, k_grd, x_ord_nil, x_ord, x_ord_g, k_ord, k_ord_none, k_ord_ite, k_ogrd, k_out_ret, k_out, k_out_none, k_out_ite, k_pure, k_pure_none, k_pure_ite, startD, dI, dA, deo, Tm.at, Tm.dst, Tm.set, Tm.put, Tm.keep, dW, dRes, oneOfD, mkTup, mkAgg, mkFn, allF, frL, fr, vD, vD1, vF, vFL, dBin, dEq, dNil, isNilD, dScal, F.cv, eBin, sameKind, eInt, eStr, cellsD, oneD, F.one, dFill, putAtD, chunk, dbnd, allLen, allOne, dSrc, roomOK, St.own, St.drop, St.still, St.fresh, chkQ, stillQ, freshQ, lOf, rdOf, rdOK, undefD, F.full, F.fullL, List.mapIdx_cons, strip, r71, callR, p71, cmpI, h1, h2]
    · simp [c43, x_pure, x_skip, x_reg, x_drw, x_seq, x_cond, x_block, x_loop', Tm.keep_nil, x_exit, x_ret, k_seq, k_seq_ret, k_seq_exit, k_seq_none, k_seq_ite, k_cond, k_block, k_block_ret, k_block_exit, k_block_none, k_block_ite, k_iter, k_iter_ret, k_iter_exit, k_iter_none, k_iter_ite, k_reg, k_reg_none, k_reg_ite, x_is_nil, x_is, x_is_g, k_ins, k_ins_none, k_ins_ite, k_grd, x_ord_nil, x_ord, x_ord_g, k_ord, k_ord_none, k_ord_ite, k_ogrd, k_out_ret, k_out, k_out_none, k_out_ite, k_pure, k_pure_none, k_pure_ite, startD, dI, dA, deo, Tm.at, Tm.dst, Tm.set, Tm.put, Tm.keep, dW, dRes, oneOfD, mkTup, mkAgg, mkFn, allF, frL, fr, vD, vD1, vF, vFL, dBin, dEq, dNil, isNilD, dScal, F.cv, eBin, sameKind, eInt, eStr, cellsD, oneD, F.one, dFill, putAtD, chunk, dbnd, allLen, allOne, dSrc, roomOK, St.own, St.drop, St.still, St.fresh, chkQ, stillQ, freshQ, lOf, rdOf, rdOK, undefD, F.full, F.fullL, List.mapIdx_cons, strip, r71, callR, p71, cmpI, h1, h2]
theorem p42 (a b c : Int) : pureI Try.prog noPrims dx tbl 42 [.list [[.int .i64 a], [.int .i64 b], [.int .i64 c]]] = some (.int .i64 (if a = 0 then (if b = 0 then c else b) else a)) := by
  rw [pureI_of (rfl : tbl 42 = some c42)]
  have w1 : wrapF .i64 1 = 1 := by decide +kernel
  have w2 : wrapF .i64 2 = 2 := by decide +kernel
  have w3 : wrapF .i64 3 = 3 := by decide +kernel
  by_cases h1 : a = 0
  · by_cases h2 : b = 0
    · by_cases h3 : c = 0
      · simp [c42, x_pure, x_skip, x_reg, x_drw, x_seq, x_cond, x_block, x_loop', Tm.keep_nil, x_exit, x_ret, k_seq, k_seq_ret, k_seq_exit, k_seq_none, k_seq_ite, k_cond, k_block, k_block_ret, k_block_exit, k_block_none, k_block_ite, k_iter, k_iter_ret, k_iter_exit, k_iter_none, k_iter_ite, k_reg, k_reg_none, k_reg_ite, x_is_nil, x_is, x_is_g, k_ins, k_ins_none, k_ins_ite, k_grd, x_ord_nil, x_ord, x_ord_g, k_ord, k_ord_none, k_ord_ite, k_ogrd, k_out_ret, k_out, k_out_none, k_out_ite, k_pure, k_pure_none, k_pure_ite, startD, dI, dA, deo, Tm.at, Tm.dst, Tm.set, Tm.put, Tm.keep, dW, dRes, oneOfD, mkTup, mkAgg, mkFn, allF, frL, fr, vD, vD1, vF, vFL, dBin, dEq, dNil, isNilD, dScal, F.cv, eBin, sameKind, eInt, eStr, cellsD, oneD, F.one, dFill, putAtD, chunk, dbnd, allLen, allOne, dSrc, roomOK, St.own, St.drop, St.still, St.fresh, chkQ, stillQ, freshQ, lOf, rdOf, rdOK, undefD, F.full, F.fullL, List.mapIdx_cons, strip, u42_0, x_iter, h1, h2, h3, w1, w2, w3]
      · simp [c42, x_pure, x_skip, x_reg, x_drw, x_seq, x_cond, x_block, x_loop', Tm.keep_nil, x_exit, x_ret, k_seq, k_seq_ret, k_seq_exit, k_seq_none, k_seq_ite, k_cond, k_block, k_block_ret, k_block_exit, k_block_none, k_block_ite, k_iter, k_iter_ret, k_iter_exit, k_iter_none, k_iter_ite, k_reg, k_reg_none, k_reg_ite, x_is_nil, x_is, x_is_g, k_ins, k_ins_none, k_ins_ite, k_grd, x_ord_nil, x_ord, x_ord_g, k_ord, k_ord_none, k_ord_ite, k_ogrd, k_out_ret, k_out, k_out_none, k_out_ite, k_pure, k_pure_none, k_pure_ite, startD, dI, dA, deo, Tm.at, Tm.dst, Tm.set, Tm.put, Tm.keep, dW, dRes, oneOfD, mkTup, mkAgg, mkFn, allF, frL, fr, vD, vD1, vF, vFL, dBin, dEq, dNil, isNilD, dScal, F.cv, eBin, sameKind, eInt, eStr, cellsD, oneD, F.one, dFill, putAtD, chunk, dbnd, allLen, allOne, dSrc, roomOK, St.own, St.drop, St.still, St.fresh, chkQ, stillQ, freshQ, lOf, rdOf, rdOK, undefD, F.full, F.fullL, List.mapIdx_cons, strip, u42_0, x_iter, h1, h2, h3, w1, w2, w3]
    · simp [c42, x_pure, x_skip, x_reg, x_drw, x_seq, x_cond, x_block, x_loop', Tm.keep_nil, x_exit, x_ret, k_seq, k_seq_ret, k_seq_exit, k_seq_none, k_seq_ite, k_cond, k_block, k_block_ret, k_block_exit, k_block_none, k_block_ite, k_iter, k_iter_ret, k_iter_exit, k_iter_none, k_iter_ite, k_reg, k_reg_none, k_reg_ite, x_is_nil, x_is, x_is_g, k_ins, k_ins_none, k_ins_ite, k_grd, x_ord_nil, x_ord, x_ord_g, k_ord, k_ord_none, k_ord_ite, k_ogrd, k_out_ret, k_out, k_out_none, k_out_ite, k_pure, k_pure_none, k_pure_ite, startD, dI, dA, deo, Tm.at, Tm.dst, Tm.set, Tm.put, Tm.keep, dW, dRes, oneOfD, mkTup, mkAgg, mkFn, allF, frL, fr, vD, vD1, vF, vFL, dBin, dEq, dNil, isNilD, dScal, F.cv, eBin, sameKind, eInt, eStr, cellsD, oneD, F.one, dFill, putAtD, chunk, dbnd, allLen, allOne, dSrc, roomOK, St.own, St.drop, St.still, St.fresh, chkQ, stillQ, freshQ, lOf, rdOf, rdOK, undefD, F.full, F.fullL, List.mapIdx_cons, strip, u42_0, x_iter, h1, h2, w1, w2, w3]
  · simp [c42, x_pure, x_skip, x_reg, x_drw, x_seq, x_cond, x_block, x_loop', Tm.keep_nil, x_exit, x_ret, k_seq, k_seq_ret, k_seq_exit, k_seq_none, k_seq_ite, k_cond, k_block, k_block_ret, k_block_exit, k_block_none, k_block_ite, k_iter, k_iter_ret, k_iter_exit, k_iter_none, k_iter_ite, k_reg, k_reg_none, k_reg_ite, x_is_nil, x_is, x_is_g, k_ins, k_ins_none, k_ins_ite, k_grd, x_ord_nil, x_ord, x_ord_g, k_ord, k_ord_none, k_ord_ite, k_ogrd, k_out_ret, k_out, k_out_none, k_out_ite, k_pure, k_pure_none, k_pure_ite, startD, dI, dA, deo, Tm.at, Tm.dst, Tm.set, Tm.put, Tm.keep, dW, dRes, oneOfD, mkTup, mkAgg, mkFn, allF, frL, fr, vD, vD1, vF, vFL, dBin, dEq, dNil, isNilD, dScal, F.cv, eBin, sameKind, eInt, eStr, cellsD, oneD, F.one, dFill, putAtD, chunk, dbnd, allLen, allOne, dSrc, roomOK, St.own, St.drop, St.still, St.fresh, chkQ, stillQ, freshQ, lOf, rdOf, rdOK, undefD, F.full, F.fullL, List.mapIdx_cons, strip, u42_0, x_iter, h1, w1, w2, w3]
def cmpS (a b : Int × Int × Int) : Int := if cmpI a.1 b.1 = 0 then (if cmpI a.2.1 b.2.1 = 0 then cmpI a.2.2 b.2.2 else cmpI a.2.1 b.2.1) else cmpI a.1 b.1
theorem p21 (a1 a2 a3 b1 b2 b3 : Int) : pureI Try.prog noPrims dx tbl 21 [.agg [.int .i64 a1, .int .i64 a2, .int .i64 a3], .agg [.int .i64 b1, .int .i64 b2, .int .i64 b3]] = some (.int .i64 (cmpS (a1, a2, a3) (b1, b2, b3))) := by
  rw [pureI_of (rfl : tbl 21 = some c21)]
  simp [c21, x_pure, x_skip, x_reg, x_drw, x_seq, x_cond, x_block, x_loop', Tm.keep_nil, x_exit, x_ret, k_seq, k_seq_ret, k_seq_exit, k_seq_none, k_seq_ite, k_cond, k_block, k_block_ret, k_block_exit, k_block_none, k_block_ite, k_iter, k_iter_ret, k_iter_exit, k_iter_none, k_iter_ite, k_reg, k_reg_none, k_reg_ite, x_is_nil, x_is, x_is_g, k_ins, k_ins_none, k_ins_ite, k_grd, x_ord_nil, x_ord, x_ord_g, k_ord, k_ord_none, k_ord_ite, k_ogrd, k_out_ret, k_out, k_out_none, k_out_ite, k_pure, k_pure_none, k_pure_ite, startD, dI, dA, deo, Tm.at, Tm.dst, Tm.set, Tm.put, Tm.keep, dW, dRes, oneOfD, mkTup, mkAgg, mkFn, allF, frL, fr, vD, vD1, vF, vFL, dBin, dEq, dNil, isNilD, dScal, F.cv, eBin, sameKind, eInt, eStr, cellsD, oneD, F.one, dFill, putAtD, chunk, dbnd, allLen, allOne, dSrc, roomOK, St.own, St.drop, St.still, St.fresh, chkQ, stillQ, freshQ, lOf, rdOf, rdOK, undefD, F.full, F.fullL, List.mapIdx_cons, strip, r43, r42, callR, p43, p42, cmpS]
theorem cmpS_lt (a1 a2 a3 b1 b2 b3 : Int) : cmpS (a1, a2, a3) (b1, b2, b3) = -1 ↔ a1 < b1 ∨ (a1 = b1 ∧ (a2 < b2 ∨ (a2 = b2 ∧ a3 < b3))) := by
  simp only [cmpS, cmpI]
  repeat' split
  all_goals omega
theorem cmpS_eq (a1 a2 a3 b1 b2 b3 : Int) : cmpS (a1, a2, a3) (b1, b2, b3) = 0 ↔ a1 = b1 ∧ a2 = b2 ∧ a3 = b3 := by
  simp only [cmpS, cmpI]
  repeat' split
  all_goals omega
theorem cmpS_gt (a1 a2 a3 b1 b2 b3 : Int) : cmpS (a1, a2, a3) (b1, b2, b3) = 1 ↔ b1 < a1 ∨ (a1 = b1 ∧ (b2 < a2 ∨ (a2 = b2 ∧ b3 < a3))) := by
  simp only [cmpS, cmpI]
  repeat' split
  all_goals omega
theorem cmpS_3 (a1 a2 a3 b1 b2 b3 : Int) : cmpS (a1, a2, a3) (b1, b2, b3) = -1 ∨ cmpS (a1, a2, a3) (b1, b2, b3) = 0 ∨ cmpS (a1, a2, a3) (b1, b2, b3) = 1 := by
  simp only [cmpS, cmpI]
  repeat' split
  all_goals omega
theorem p4 (a1 a2 a3 b1 b2 b3 c1 c2 c3 : Int) : pureI Try.prog noPrims dx tbl 4 [.agg [.int .i64 a1, .int .i64 a2, .int .i64 a3], .agg [.int .i64 b1, .int .i64 b2, .int .i64 b3], .agg [.int .i64 c1, .int .i64 c2, .int .i64 c3]] = some (.bool true) := by
  rw [pureI_of (rfl : tbl 4 = some c4)]
  have w1 : wrapF .i64 1 = 1 := by decide +kernel
  have w2 : wrapF .i64 (-1) = -1 := by decide +kernel
  have w3 : wrapF .i64 0 = 0 := by decide +kernel
  have lt1 := cmpS_lt a1 a2 a3 b1 b2 b3
  have eq1 := cmpS_eq a1 a2 a3 b1 b2 b3
  have gt1 := cmpS_gt a1 a2 a3 b1 b2 b3
  have lt2 := cmpS_lt b1 b2 b3 a1 a2 a3
  have eq2 := cmpS_eq b1 b2 b3 a1 a2 a3
  have gt2 := cmpS_gt b1 b2 b3 a1 a2 a3
  have lt3 := cmpS_lt b1 b2 b3 c1 c2 c3
  have eq3 := cmpS_eq b1 b2 b3 c1 c2 c3
  have lt4 := cmpS_lt a1 a2 a3 c1 c2 c3
  have eq4 := cmpS_eq a1 a2 a3 c1 c2 c3
  have t3 := cmpS_3 b1 b2 b3 c1 c2 c3
  have t4 := cmpS_3 a1 a2 a3 c1 c2 c3
  rcases cmpS_3 a1 a2 a3 b1 b2 b3 with hx | hx | hx
  · have hxy : cmpS (b1, b2, b3) (a1, a2, a3) = 1 := by have := lt1.1 hx; exact gt2.2 (by omega)
    have hne : (a1 == b1 && (a2 == b2 && a3 == b3)) = false := by
      have := lt1.1 hx
      rw [Bool.eq_false_iff]
      intro h
      simp at h
      omega
    by_cases hy : cmpS (b1, b2, b3) (c1, c2, c3) ≤ 0
    · have hz : cmpS (a1, a2, a3) (c1, c2, c3) = -1 := by
        have h1 := lt1.1 hx
        refine lt4.2 ?_
        rcases t3 with h | h | h
        · have := lt3.1 h; omega
        · have := eq3.1 h; omega
        · omega
      simp [c4, x_pure, x_skip, x_reg, x_drw, x_seq, x_cond, x_block, x_loop', Tm.keep_nil, x_exit, x_ret, k_seq, k_seq_ret, k_seq_exit, k_seq_none, k_seq_ite, k_cond, k_block, k_block_ret, k_block_exit, k_block_none, k_block_ite, k_iter, k_iter_ret, k_iter_exit, k_iter_none, k_iter_ite, k_reg, k_reg_none, k_reg_ite, x_is_nil, x_is, x_is_g, k_ins, k_ins_none, k_ins_ite, k_grd, x_ord_nil, x_ord, x_ord_g, k_ord, k_ord_none, k_ord_ite, k_ogrd, k_out_ret, k_out, k_out_none, k_out_ite, k_pure, k_pure_none, k_pure_ite, startD, dI, dA, deo, Tm.at, Tm.dst, Tm.set, Tm.put, Tm.keep, dW, dRes, oneOfD, mkTup, mkAgg, mkFn, allF, frL, fr, vD, vD1, vF, vFL, dBin, dEq, dNil, isNilD, dScal, F.cv, eBin, sameKind, eInt, eStr, cellsD, oneD, F.one, dFill, putAtD, chunk, dbnd, allLen, allOne, dSrc, roomOK, St.own, St.drop, St.still, St.fresh, chkQ, stillQ, freshQ, lOf, rdOf, rdOK, undefD, F.full, F.fullL, List.mapIdx_cons, strip, q14, r21, callR, p21, slow_eqS e38, slow_neg n23, eqSD, negD, w1, w2, w3, hx, hxy, hne, hy, hz]
    · simp [c4, x_pure, x_skip, x_reg, x_drw, x_seq, x_cond, x_block, x_loop', Tm.keep_nil, x_exit, x_ret, k_seq, k_seq_ret, k_seq_exit, k_seq_none, k_seq_ite, k_cond, k_block, k_block_ret, k_block_exit, k_block_none, k_block_ite, k_iter, k_iter_ret, k_iter_exit, k_iter_none, k_iter_ite, k_reg, k_reg_none, k_reg_ite, x_is_nil, x_is, x_is_g, k_ins, k_ins_none, k_ins_ite, k_grd, x_ord_nil, x_ord, x_ord_g, k_ord, k_ord_none, k_ord_ite, k_ogrd, k_out_ret, k_out, k_out_none, k_out_ite, k_pure, k_pure_none, k_pure_ite, startD, dI, dA, deo, Tm.at, Tm.dst, Tm.set, Tm.put, Tm.keep, dW, dRes, oneOfD, mkTup, mkAgg, mkFn, allF, frL, fr, vD, vD1, vF, vFL, dBin, dEq, dNil, isNilD, dScal, F.cv, eBin, sameKind, eInt, eStr, cellsD, oneD, F.one, dFill, putAtD, chunk, dbnd, allLen, allOne, dSrc, roomOK, St.own, St.drop, St.still, St.fresh, chkQ, stillQ, freshQ, lOf, rdOf, rdOK, undefD, F.full, F.fullL, List.mapIdx_cons, strip, q14, r21, callR, p21, slow_eqS e38, slow_neg n23, eqSD, negD, w1, w2, w3, hx, hxy, hne, hy]
  · have hxy : cmpS (b1, b2, b3) (a1, a2, a3) = 0 := by have := eq1.1 hx; exact eq2.2 (by omega)
    have hne : (a1 == b1 && (a2 == b2 && a3 == b3)) = true := by simpa using eq1.1 hx
    by_cases hy : cmpS (b1, b2, b3) (c1, c2, c3) ≤ 0
    · have hz : ¬ 0 < cmpS (a1, a2, a3) (c1, c2, c3) := by
        have h1 := eq1.1 hx
        rcases t3 with h | h | h
        · have h2 := lt3.1 h
          have := lt4.2 (by omega)
          omega
        · have h2 := eq3.1 h
          have := eq4.2 (by omega)
          omega
        · omega
      simp [c4, x_pure, x_skip, x_reg, x_drw, x_seq, x_cond, x_block, x_loop', Tm.keep_nil, x_exit, x_ret, k_seq, k_seq_ret, k_seq_exit, k_seq_none, k_seq_ite, k_cond, k_block, k_block_ret, k_block_exit, k_block_none, k_block_ite, k_iter, k_iter_ret, k_iter_exit, k_iter_none, k_iter_ite, k_reg, k_reg_none, k_reg_ite, x_is_nil, x_is, x_is_g, k_ins, k_ins_none, k_ins_ite, k_grd, x_ord_nil, x_ord, x_ord_g, k_ord, k_ord_none, k_ord_ite, k_ogrd, k_out_ret, k_out, k_out_none, k_out_ite, k_pure, k_pure_none, k_pure_ite, startD, dI, dA, deo, Tm.at, Tm.dst, Tm.set, Tm.put, Tm.keep, dW, dRes, oneOfD, mkTup, mkAgg, mkFn, allF, frL, fr, vD, vD1, vF, vFL, dBin, dEq, dNil, isNilD, dScal, F.cv, eBin, sameKind, eInt, eStr, cellsD, oneD, F.one, dFill, putAtD, chunk, dbnd, allLen, allOne, dSrc, roomOK, St.own, St.drop, St.still, St.fresh, chkQ, stillQ, freshQ, lOf, rdOf, rdOK, undefD, F.full, F.fullL, List.mapIdx_cons, strip, q14, r21, callR, p21, slow_eqS e38, slow_neg n23, eqSD, negD, w1, w2, w3, hx, hxy, hne, hy, hz]
    · simp [c4, x_pure, x_skip, x_reg, x_drw, x_seq, x_cond, x_block, x_loop', Tm.keep_nil, x_exit, x_ret, k_seq, k_seq_ret, k_seq_exit, k_seq_none, k_seq_ite, k_cond, k_block, k_block_ret, k_block_exit, k_block_none, k_block_ite, k_iter, k_iter_ret, k_iter_exit, k_iter_none, k_iter_ite, k_reg, k_reg_none, k_reg_ite, x_is_nil, x_is, x_is_g, k_ins, k_ins_none, k_ins_ite, k_grd, x_ord_nil, x_ord, x_ord_g, k_ord, k_ord_none, k_ord_ite, k_ogrd, k_out_ret, k_out, k_out_none, k_out_ite, k_pure, k_pure_none, k_pure_ite, startD, dI, dA, deo, Tm.at, Tm.dst, Tm.set, Tm.put, Tm.keep, dW, dRes, oneOfD, mkTup, mkAgg, mkFn, allF, frL, fr, vD, vD1, vF, vFL, dBin, dEq, dNil, isNilD, dScal, F.cv, eBin, sameKind, eInt, eStr, cellsD, oneD, F.one, dFill, putAtD, chunk, dbnd, allLen, allOne, dSrc, roomOK, St.own, St.drop, St.still, St.fresh, chkQ, stillQ, freshQ, lOf, rdOf, rdOK, undefD, F.full, F.fullL, List.mapIdx_cons, strip, q14, r21, callR, p21, slow_eqS e38, slow_neg n23, eqSD, negD, w1, w2, w3, hx, hxy, hne, hy]
  · have hxy : cmpS (b1, b2, b3) (a1, a2, a3) = -1 := by have := gt1.1 hx; exact lt2.2 (by omega)
    have hne : (a1 == b1 && (a2 == b2 && a3 == b3)) = false := by
      have := gt1.1 hx
      rw [Bool.eq_false_iff]
      intro h
      simp at h
      omega
    simp [c4, x_pure, x_skip, x_reg, x_drw, x_seq, x_cond, x_block, x_loop', Tm.keep_nil, x_exit, x_ret, k_seq, k_seq_ret, k_seq_exit, k_seq_none, k_seq_ite, k_cond, k_block, k_block_ret, k_block_exit, k_block_none, k_block_ite, k_iter, k_iter_ret, k_iter_exit, k_iter_none, k_iter_ite, k_reg, k_reg_none, k_reg_ite, x_is_nil, x_is, x_is_g, k_ins, k_ins_none, k_ins_ite, k_grd, x_ord_nil, x_ord, x_ord_g, k_ord, k_ord_none, k_ord_ite, k_ogrd, k_out_ret, k_out, k_out_none, k_out_ite, k_pure, k_pure_none, k_pure_ite, startD, dI, dA, deo, Tm.at, Tm.dst, Tm.set, Tm.put, Tm.keep, dW, dRes, oneOfD, mkTup, mkAgg, mkFn, allF, frL, fr, vD, vD1, vF, vFL, dBin, dEq, dNil, isNilD, dScal, F.cv, eBin, sameKind, eInt, eStr, cellsD, oneD, F.one, dFill, putAtD, chunk, dbnd, allLen, allOne, dSrc, roomOK, St.own, St.drop, St.still, St.fresh, chkQ, stillQ, freshQ, lOf, rdOf, rdOK, undefD, F.full, F.fullL, List.mapIdx_cons, strip, q14, r21, callR, p21, slow_eqS e38, slow_neg n23, eqSD, negD, w1, w2, w3, hx, hxy, hne]
end Go.Proofs.Ytpinhopgeaamdaa.Pl
