/-
  What is proved here: edges: asked whether they are one, found; who is beside whom.
  Conditions: none.
-/
import Derived.Test.YtmbboljcgpccfaaCdP
import Derived.Test.YtmbboljcgpccfaaCn
import Derived.Test.YtmbboljcgpccfaaCs
set_option linter.unusedVariables false
set_option linter.unusedSimpArgs false
set_option maxRecDepth 100000
set_option maxHeartbeats 8000000
namespace Go.Proofs.Ytmbboljcgpccfaa.Pl
open Go Go.Proofs Go.Proofs.Ev Go.Proofs.Dv Cd
attribute [local simp] x_pure x_skip x_reg x_drw x_seq x_cond x_block x_frz x_loop' Tm.keep_nil x_exit x_ret k_seq k_seq_ret k_seq_exit k_seq_none k_seq_ite k_cond k_block k_block_ret k_block_exit k_block_none k_block_ite k_iter k_iter_ret k_iter_exit k_iter_none k_iter_ite k_reg k_reg_none k_reg_ite x_is_nil x_is x_is_g k_ins k_ins_none k_ins_ite k_grd x_ord_nil x_ord x_ord_g k_ord k_ord_none k_ord_ite k_ogrd k_out_ret k_out k_out_none k_out_ite k_pure k_pure_none k_pure_ite startD dI dA deo Tm.at Tm.dst Tm.set Tm.put Tm.keep dW dRes oneOfD mkTup mkAgg mkFn allF frL fr vD vD1 vF vFL dBin dEq dNil isNilD dScal F.cv eBin sameKind eInt eStr cellsD oneD F.one dFill putAtD chunk dbnd dSrc St.own St.drop St.still St.fresh chkQ stillQ freshQ lOf rdOf rdOK undefD F.full F.fullL List.mapIdx_cons strip allOne_nil allOne_cons allOne_append allLen_nil allLen_cons allLen_append roomOK_small filterT y_mv y_pick y_new y_box y_build y_bslice y_ld1 y_ldn y_nilchk y_bin y_not y_conv y_bytes y_string y_ifc y_fn y_cut y_cuts y_fa y_fld y_ia y_idx y_idxs y_ext y_len y_lenstr y_app y_grow y_mks y_slow y_call y_callv y_inv y_extc x_it_st x_it_clr x_it_cpy k_addT k_addT_none k_addT_ite k_orU k_orU_none dU D.turn turnL Tm.turn turnS St.turn turnRows_length
theorem pr_eqi (d : Nat) (a b : Int) : pureRun Try.prog (Op.equalIn (d + 1) 3 (.int .i64 a) (.int .i64 b)) = some (a == b) := by kernel_rfl
theorem pr_prog : pureRun Try.prog program = some Try.prog := rfl
theorem pr_undPair : pureRun Try.prog (underlying 73) = some (TypeDesc.array 2 3) := by kernel_rfl
theorem pr_sizePair : pureRun Try.prog (sizeOf 3) = some 1 := by kernel_rfl
theorem pr_partPair0 (a0 a1 : Int) : pureRun Try.prog (part 3 #[.int .i64 a0, .int .i64 a1] 0) = some (.int .i64 a0) := by kernel_rfl
theorem pr_partPair1 (a0 a1 : Int) : pureRun Try.prog (part 3 #[.int .i64 a0, .int .i64 a1] 1) = some (.int .i64 a1) := by kernel_rfl
theorem pr_structPair (d : Nat) (a0 a1 b0 b1 : Int) : pureRun Try.prog (Op.equalIn (d + 2) 73 (.agg #[.int .i64 a0, .int .i64 a1]) (.agg #[.int .i64 b0, .int .i64 b1])) = some (((a0 == b0) && (a1 == b1))) := by
  rw [Op.equalIn]
  simp only [Dv.pureRun_bind, pr_undPair, Option.bind_some, pr_sizePair]
  by_cases h0 : a0 = b0 <;> by_cases h1 : a1 = b1 <;> simp [Std.Legacy.Range.forIn_eq_forIn_range', Std.Legacy.Range.size, List.range', Dv.pureRun_bind, Dv.pureRun_pure, pr_partPair0, pr_partPair1, pr_eqi, h0, h1]
theorem pr_guardPair (i j : Nat) (a0 a1 b0 b1 : Int) : pureRun Try.prog (eqGuard .eql 73 (.tmp i) (.tmp j) (.agg #[.int .i64 a0, .int .i64 a1]) (.agg #[.int .i64 b0, .int .i64 b1])) = some () := by kernel_rfl
theorem pr_guarnPair (i j : Nat) (a0 a1 b0 b1 : Int) : pureRun Try.prog (eqGuard .neq 73 (.tmp i) (.tmp j) (.agg #[.int .i64 a0, .int .i64 a1]) (.agg #[.int .i64 b0, .int .i64 b1])) = some () := by kernel_rfl
def eqOPair (o : Oper) : Option (Bool × Nat × Nat) := match o.op with
  | .binOp .eql 73 (.tmp i) (.tmp j) _ => some (true, i, j)
  | .binOp .neq 73 (.tmp i) (.tmp j) _ => some (false, i, j)
  | _ => none
def eqDPair (e : Bool) (d1 d2 : D) (r : Option D) : Option D := match d1, d2 with
  | .fz (.agg [.int .i64 a0, .int .i64 a1]), .fz (.agg [.int .i64 b0, .int .i64 b1]) => some (.fz (.bool (((a0 == b0) && (a1 == b1)) == e)))
  | _, _ => r
theorem slow_eqPair {o : Oper} {e : Bool} {i j : Nat} (h : eqOPair o = some (e, i, j)) (T : Tm) : dSlowX Try.prog T o = eqDPair e (T.at i) (T.at j) (mmRest Try.prog T o) := by
  unfold eqDPair
  split
  · rename_i a0 a1 b0 b1 hi hj
    unfold eqOPair at h
    have hb := pr_structPair 9998 a0 a1 b0 b1
    split at h
    · rename_i i' j' tt hc
      cases h
      have hop : o.op.operands = #[.tmp i, .tmp j] := by rw [hc]; rfl
      have hrun : pureRun Try.prog (execOp (fun x => (concO (dEnv T) x).getD undef) o) = some (.value (.bool (((a0 == b0) && (a1 == b1))))) := by
        simp [execOp, hc, binOp, Op.equal, Op.maxDepth, concO, dEnv, hi, hj, D.full, F.full, F.fullL, conc, concL, Dv.pureRun_bind, Dv.pureRun_map, pr_guardPair]
        simpa using hb
      have hp : pureOp Try.prog (dEnv T) o = some (.bool (((a0 == b0) && (a1 == b1)))) := by
        simp only [pureOp, hop, hrun]
        simp [hc, isSelect, concO, dEnv, hi, hj, D.full, F.full, F.fullL, conc, concL, absN]
      have he : evA Try.prog (dEnv T) o [] = some (.bool (((a0 == b0) && (a1 == b1))), []) := by
        simp only [evA, hc, hp]
      simp only [dSlowX, dSlow, hop, he]
      simp [dEnv, hi, hj, D.full, F.full, F.fullL, toD, vF]
    · rename_i i' j' tt hc
      cases h
      have hop : o.op.operands = #[.tmp i, .tmp j] := by rw [hc]; rfl
      have hrun : pureRun Try.prog (execOp (fun x => (concO (dEnv T) x).getD undef) o) = some (.value (.bool (!(((a0 == b0) && (a1 == b1)))))) := by
        simp [execOp, hc, binOp, Op.equal, Op.maxDepth, concO, dEnv, hi, hj, D.full, F.full, F.fullL, conc, concL, Dv.pureRun_bind, Dv.pureRun_map, pr_guarnPair, Dv.pureRun_pure]
        simpa using hb
      have hp : pureOp Try.prog (dEnv T) o = some (.bool (!(((a0 == b0) && (a1 == b1))))) := by
        simp only [pureOp, hop, hrun]
        simp [hc, isSelect, concO, dEnv, hi, hj, D.full, F.full, F.fullL, conc, concL, absN]
      have he : evA Try.prog (dEnv T) o [] = some (.bool (!(((a0 == b0) && (a1 == b1)))), []) := by
        simp only [evA, hc, hp]
      simp only [dSlowX, dSlow, hop, he]
      simp [dEnv, hi, hj, D.full, F.full, F.fullL, toD, vF]
    · cases h
  · rfl

def encE (e : Int × Int) : List F := [.int .i64 e.1, .int .i64 e.2]
theorem encE_ok (l : List (Int × Int)) : allOne (l.map encE) = true ∧ allLen 2 (l.map encE) = true := ⟨allOne_map encE (fun a => rfl) _, allLen_map 2 encE (fun a => rfl) _⟩
def encI (z : Int) : List F := [.int .i64 z]
theorem encI_ok (l : List Int) : allOne (l.map encI) = true ∧ allLen 1 (l.map encI) = true := ⟨allOne_map encI (fun a => rfl) _, allLen_map 1 encI (fun a => rfl) _⟩
theorem pe_eq (x y : Int × Int) : ((x.1 == y.1) && (x.2 == y.2)) = decide (x = y) := by
  obtain ⟨a, b⟩ := x
  obtain ⟨a', b'⟩ := y
  rw [Bool.eq_iff_iff]
  simp
/-! ### slices.Index, slices.Contains of edges -/
def idxE (t : Int × Int) : List (Int × Int) → Nat → Int
  | [], _ => -1
  | z :: r, n => if t = z then n else idxE t r (n + 1)
theorem idxE_in (t : Int × Int) : ∀ (l : List (Int × Int)) (n : Nat), (0 ≤ idxE t l n ↔ t ∈ l)
  | [], n => by simp [idxE]
  | z :: r, n => by
    have := idxE_in t r (n + 1)
    simp only [idxE, List.mem_cons]
    split
    · rename_i h
      simp [h]
    · rename_i h
      rw [this]
      simp [h]
theorem idxE_neg (t : Int × Int) : ∀ (r : List (Int × Int)) (n : Nat), idxE t r n < 0 → idxE t r n = -1
  | [], n, _ => rfl
  | z :: r, n, hn => by
    simp only [idxE] at hn ⊢
    split at hn
    · omega
    · rename_i hne
      rw [if_neg hne]
      exact idxE_neg t r _ hn
theorem eIx : eqOPair (operAt Try.prog 106 13) = some (true, 11, 15) := by kernel_rfl
def PostIE (n : Int) (r : Option DSt) : Prop := ∃ T' st', r = some (if n < 0 then .exit 0 else .ret, T', st') ∧ (0 ≤ n → T'.at 4 = .fz (.int .i64 n))
theorem loopIE (t : Int × Int) (l : List (Int × Int)) (hl : l.length < 1000000) : ∀ (r : List (Int × Int)) (i : Nat) (iz : Int), iz = i → l.drop i = r → i ≤ l.length →
    PostIE (idxE t r i) (iterI (dCw Try.prog (callI Try.prog prims dx tbl) l106_0) [0, 3, 7, 8] [(0, .fz (.list (l.map encE))), (3, .ptr 0 0), (7, .fz (.int .i64 l.length)), (8, .fz (.int .i64 iz))] ⟨[(true, [.fz (.int .i64 t.1), .fz (.int .i64 t.2)])], [], 0⟩) := by
  intro r
  induction r with
  | nil =>
    intro i iz hz hd hi
    have hi' := drop_nil hd hi
    subst hi' hz
    rw [x_iter]
    simp [u106_0, idxE]
    exact ⟨_, _, rfl, fun h => by omega⟩
  | cons a r ih =>
    intro i iz hz hd hi
    subst hz
    obtain ⟨hlt, hli, hd'⟩ := drop_cons hd
    have hi1 : ((i : Int) + 1) = ((i + 1 : Nat) : Int) := by omega
    have he := pe_eq t a
    have hw : wrapF .i64 ((i : Int) + 1) = (i : Int) + 1 := wrap_id _ (by omega) (by omega)
    rw [x_iter]
    by_cases h : t = a
    · rw [decide_eq_true h] at he
      simp [u106_0, hlt, hli, encE, idxE, h, slow_eqPair eIx, eqDPair]
      exact ⟨_, _, by rw [if_neg (show ¬ ((i : Int) < 0) by omega)], fun _ => rfl⟩
    · rw [decide_eq_false h] at he
      have := ih (i + 1) _ hi1 hd' hlt
      simp [u106_0, hlt, hli, encE, idxE, h, slow_eqPair eIx, eqDPair, he, hw]
      exact this
theorem pIE (l : List (Int × Int)) (hl : l.length < 1000000) (t : Int × Int) : pureI Try.prog prims dx tbl 106 [.list (l.map encE), .agg [.int .i64 t.1, .int .i64 t.2]] = some (.int .i64 (idxE t l 0)) := by
  rw [pureI_of (rfl : tbl 106 = some c106)]
  obtain ⟨T', st', h1, h2⟩ := loopIE t l hl l 0 0 rfl rfl (Nat.zero_le _)
  by_cases h : idxE t l 0 < 0
  · have hn := idxE_neg t l 0 h
    simp [h] at h1
    simp [c106, h1, hn]
  · simp [h] at h1
    simp [c106, h1, h2 (by omega)]
theorem rIE (ds : List D) (st : Dv.St) : callI Try.prog prims dx tbl 106 ds st = callR Try.prog prims dx tbl 106 ds st (frL (fr st 6) ds) := callRw rfl rfl (rfl : tbl 106 = some c106) rfl ds st
theorem pCE (l : List (Int × Int)) (hl : l.length < 1000000) (t : Int × Int) : pureI Try.prog prims dx tbl 80 [.list (l.map encE), .agg [.int .i64 t.1, .int .i64 t.2]] = some (.bool (decide (t ∈ l))) := by
  rw [pureI_of (rfl : tbl 80 = some c80)]
  have h1 := pIE l hl t
  have h2 := idxE_in t l 0
  simp [c80, rIE, callR, h1, h2]
theorem rCE (ds : List D) (st : Dv.St) : callI Try.prog prims dx tbl 80 ds st = callR Try.prog prims dx tbl 80 ds st (frL (fr st 6) ds) := callRw rfl rfl (rfl : tbl 80 = some c80) rfl ds st
def besE (l : List (Int × Int)) (a b : Int) : Bool := decide ((a, b) ∈ l) || decide ((b, a) ∈ l)
theorem pBes (l : List (Int × Int)) (hl : l.length < 1000000) (a b : Int) : pureI Try.prog prims dx tbl 51 [.list (l.map encE), .int .i64 a, .int .i64 b] = some (.bool (besE l a b)) := by
  rw [pureI_of (rfl : tbl 51 = some c51)]
  have h1 := pCE l hl (a, b)
  have h2 := pCE l hl (b, a)
  simp only at h1 h2
  cases k : decide ((a, b) ∈ l) with
  | true =>
    rw [k] at h1
    simp [c51, rCE, callR, h1, besE, k]
  | false =>
    rw [k] at h1
    simp [c51, rCE, callR, h1, h2, besE, k]
theorem rBes (ds : List D) (st : Dv.St) : callI Try.prog prims dx tbl 51 ds st = callR Try.prog prims dx tbl 51 ds st (frL (fr st 6) ds) := callRw rfl rfl (rfl : tbl 51 = some c51) rfl ds st
/-! ### slices.Index, slices.Contains -/
def idxI (t : Int) : List Int → Nat → Int
  | [], _ => -1
  | z :: r, n => if t = z then n else idxI t r (n + 1)
theorem idxI_in (t : Int) : ∀ (l : List Int) (n : Nat), (0 ≤ idxI t l n ↔ t ∈ l)
  | [], n => by simp [idxI]
  | z :: r, n => by
    have := idxI_in t r (n + 1)
    simp only [idxI, List.mem_cons]
    split
    · rename_i h
      simp [h]
    · rename_i h
      rw [this]
      simp [h]
def PostX (n : Int) (r : Option DSt) : Prop := ∃ T', r = some (if n < 0 then .exit 0 else .ret, T', ⟨[], [], 0⟩) ∧ (0 ≤ n → T'.at 4 = .fz (.int .i64 n))
theorem loopIx (t : Int) (l : List Int) (hl : l.length < 1000000) : ∀ (r : List Int) (i : Nat) (iz : Int), iz = i → l.drop i = r → i ≤ l.length →
    PostX (idxI t r i) (iterI (dCw Try.prog (callI Try.prog prims dx tbl) l107_0) [0, 1, 7, 8] [(0, .fz (.list (l.map encI))), (1, .fz (.int .i64 t)), (7, .fz (.int .i64 l.length)), (8, .fz (.int .i64 iz))] ⟨[], [], 0⟩) := by
  intro r
  induction r with
  | nil =>
    intro i iz hz hd hi
    have hi' := drop_nil hd hi
    subst hi' hz
    rw [x_iter]
    simp [u107_0, idxI]
    exact ⟨_, rfl, fun h => by omega⟩
  | cons a r ih =>
    intro i iz hz hd hi
    subst hz
    obtain ⟨hlt, hli, hd'⟩ := drop_cons hd
    have hi1 : ((i : Int) + 1) = ((i + 1 : Nat) : Int) := by omega
    have hw : wrapF .i64 ((i : Int) + 1) = (i : Int) + 1 := wrap_id _ (by omega) (by omega)
    rw [x_iter]
    by_cases h : t = a
    · simp [u107_0, hlt, hli, encI, idxI, h]
      exact ⟨_, by simp [show ¬ ((i : Int) < 0) by omega]; rfl, fun _ => rfl⟩
    · have := ih (i + 1) _ hi1 hd' hlt
      simp [u107_0, hlt, hli, encI, idxI, h, hw]
      exact this
theorem pIx (l : List Int) (hl : l.length < 1000000) (t : Int) : pureI Try.prog prims dx tbl 107 [.list (l.map encI), .int .i64 t] = some (.int .i64 (idxI t l 0)) := by
  rw [pureI_of (rfl : tbl 107 = some c107)]
  obtain ⟨T', h1, h2⟩ := loopIx t l hl l 0 0 rfl rfl (Nat.zero_le _)
  by_cases h : idxI t l 0 < 0
  · have hn : idxI t l 0 = -1 := by
      have : ∀ (r : List Int) (n : Nat), idxI t r n < 0 → idxI t r n = -1 := by
        intro r
        induction r with
        | nil => intro n _; rfl
        | cons z r ih =>
          intro n hn
          simp only [idxI] at hn ⊢
          split at hn
          · omega
          · rename_i hne
            rw [if_neg hne]
            exact ih _ hn
      exact this l 0 h
    simp [h] at h1
    simp [c107, h1, hn]
  · simp [h] at h1
    simp [c107, h1, h2 (by omega)]
theorem rIx (ds : List D) (st : Dv.St) : callI Try.prog prims dx tbl 107 ds st = callR Try.prog prims dx tbl 107 ds st (frL (fr st 6) ds) := callRw rfl rfl (rfl : tbl 107 = some c107) rfl ds st
theorem pCon (l : List Int) (hl : l.length < 1000000) (t : Int) : pureI Try.prog prims dx tbl 83 [.list (l.map encI), .int .i64 t] = some (.bool (decide (t ∈ l))) := by
  rw [pureI_of (rfl : tbl 83 = some c83)]
  have h1 := pIx l hl t
  have h2 := idxI_in t l 0
  simp [c83, rIx, callR, h1, h2]
theorem rCon (ds : List D) (st : Dv.St) : callI Try.prog prims dx tbl 83 ds st = callR Try.prog prims dx tbl 83 ds st (frL (fr st 6) ds) := callRw rfl rfl (rfl : tbl 83 = some c83) rfl ds st
theorem rNaN (ds : List D) (st : Dv.St) : callI Try.prog prims dx tbl 108 ds st = callR Try.prog prims dx tbl 108 ds st (frL (fr st 6) ds) := callRw rfl rfl (rfl : tbl 108 = some c108) rfl ds st
theorem rCmpI (ds : List D) (st : Dv.St) : callI Try.prog prims dx tbl 86 ds st = callR Try.prog prims dx tbl 86 ds st (frL (fr st 6) ds) := callRw rfl rfl (rfl : tbl 86 = some c86) rfl ds st
theorem rOr (ds : List D) (st : Dv.St) : callI Try.prog prims dx tbl 102 ds st = callR Try.prog prims dx tbl 102 ds st (frL (fr st 6) ds) := callRw rfl rfl (rfl : tbl 102 = some c102) rfl ds st
theorem pNaN (x : Int) : pureI Try.prog prims dx tbl 108 [.int .i64 x] = some (.bool false) := by
  rw [pureI_of (rfl : tbl 108 = some c108)]
  simp [c108]
theorem pCmpI (x y : Int) : pureI Try.prog prims dx tbl 86 [.int .i64 x, .int .i64 y] = some (.int .i64 (cmpI x y)) := by
  rw [pureI_of (rfl : tbl 86 = some c86)]
  by_cases h1 : x < y
  · simp [c86, rNaN, callR, pNaN, cmpI, h1]
  · by_cases h2 : y < x
    · simp [c86, rNaN, callR, pNaN, cmpI, h1, h2]
    · simp [c86, rNaN, callR, pNaN, cmpI, h1, h2]
theorem pOr (a b c : Int) : pureI Try.prog prims dx tbl 102 [.list [[.int .i64 a], [.int .i64 b], [.int .i64 c]]] = some (.int .i64 (if a = 0 then (if b = 0 then c else b) else a)) := by
  rw [pureI_of (rfl : tbl 102 = some c102)]
  have w1 : wrapF .i64 1 = 1 := by decide +kernel
  have w2 : wrapF .i64 2 = 2 := by decide +kernel
  have w3 : wrapF .i64 3 = 3 := by decide +kernel
  by_cases h1 : a = 0
  · by_cases h2 : b = 0
    · by_cases h3 : c = 0
      · simp [c102, u102_0, x_iter, h1, h2, h3, w1, w2, w3]
      · simp [c102, u102_0, x_iter, h1, h2, h3, w1, w2, w3]
    · simp [c102, u102_0, x_iter, h1, h2, w1, w2, w3]
  · simp [c102, u102_0, x_iter, h1, w1, w2, w3]
end Go.Proofs.Ytmbboljcgpccfaa.Pl
