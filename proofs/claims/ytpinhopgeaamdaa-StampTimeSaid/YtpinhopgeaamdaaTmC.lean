/-
  What is proved here: of two replicas that tell one another their times, what is written later is behind.
  Conditions: none.
-/
import Derived.Test.YtpinhopgeaamdaaStC
import Derived.Test.YtpinhopgeaamdaaPs
set_option linter.unusedVariables false
set_option linter.unusedSimpArgs false
set_option maxRecDepth 100000
set_option maxHeartbeats 8000000
namespace Go.Proofs.Ytpinhopgeaamdaa.Pl
open Go Go.Proofs Go.Proofs.Ev Go.Proofs.Dv Cd

theorem qBegun1 (st : Dv.St) : callI Try.prog prims dx tbl 14 [] st = some (.fz (.bool true), st, []) := callI_iff.2 ⟨60, by kernel_rfl⟩
theorem pNext (l r n : Int) : pureI Try.prog prims dx tbl 17 [.int .i64 l, .int .i64 r, .int .i64 n] = some (if l < 5000 ∧ n < 1000 ∧ mayB (wrapF .i64 (l + 1)) r (wrapF .i64 (n + 1)) = true then .tup [.agg [.int .i64 (wrapF .i64 (l + 1)), .int .i64 r, .int .i64 (wrapF .i64 (n + 1))], .bool true] else .tup [.agg [.int .i64 0, .int .i64 0, .int .i64 0], .bool false]) := by
  rw [pureI_of (rfl : tbl 17 = some c17)]
  by_cases h1 : l < 5000
  · by_cases h2 : n < 1000
    · cases hm : mayB (wrapF .i64 (l + 1)) r (wrapF .i64 (n + 1)) <;>
        simp [c17, x_pure, x_skip, x_reg, x_drw, x_seq, x_cond, x_block, x_loop', Tm.keep_nil, x_exit, x_ret, k_seq, k_seq_ret, k_seq_exit, k_seq_none, k_seq_ite, k_cond, k_block, k_block_ret, k_block_exit, k_block_none, k_block_ite, k_iter, k_iter_ret, k_iter_exit, k_iter_none, k_iter_ite, k_reg, k_reg_none, k_reg_ite, x_is_nil, x_is, x_is_g, k_ins, k_ins_none, k_ins_ite, k_grd, x_ord_nil, x_ord, x_ord_g, k_ord, k_ord_none, k_ord_ite, k_ogrd, k_out_ret, k_out, k_out_none, k_out_ite, k_pure, k_pure_none, k_pure_ite, startD, dI, dA, deo, Tm.at, Tm.dst, Tm.set, Tm.put, Tm.keep, dW, dRes, oneOfD, mkTup, mkAgg, mkFn, allF, frL, fr, vD, vD1, vF, vFL, dBin, dEq, dNil, isNilD, dScal, F.cv, eBin, sameKind, eInt, eStr, cellsD, oneD, F.one, dFill, putAtD, chunk, dbnd, dSrc, St.own, St.drop, St.still, St.fresh, chkQ, stillQ, freshQ, lOf, rdOf, rdOK, undefD, F.full, F.fullL, List.mapIdx_cons, strip, allOne_nil, allOne_cons, allOne_append, allLen_nil, allLen_cons, allLen_append, roomOK_small, filterT, y_mv, y_pick, y_new, y_box, y_build, y_bslice, y_ld1, y_ldn, y_nilchk, y_bin, y_not, y_conv, y_bytes, y_string, y_ifc, y_fn, y_cut, y_cuts, y_fa, y_fld, y_ia, y_idx, y_idxs, y_ext, y_len, y_lenstr, y_app, y_grow, y_mks, y_slow, y_call, y_callv, y_inv, y_extc, x_it_st, x_it_clr, x_it_cpy, k_addT, k_addT_none, k_addT_ite, k_orU, k_orU_none, dU, D.turn, turnL, Tm.turn, turnS, St.turn, turnRows_length, rSMay, callR, pSMay, h1, h2, hm, show ¬ (5000 ≤ l) by omega, show ¬ (1000 ≤ n) by omega]
    · simp [c17, x_pure, x_skip, x_reg, x_drw, x_seq, x_cond, x_block, x_loop', Tm.keep_nil, x_exit, x_ret, k_seq, k_seq_ret, k_seq_exit, k_seq_none, k_seq_ite, k_cond, k_block, k_block_ret, k_block_exit, k_block_none, k_block_ite, k_iter, k_iter_ret, k_iter_exit, k_iter_none, k_iter_ite, k_reg, k_reg_none, k_reg_ite, x_is_nil, x_is, x_is_g, k_ins, k_ins_none, k_ins_ite, k_grd, x_ord_nil, x_ord, x_ord_g, k_ord, k_ord_none, k_ord_ite, k_ogrd, k_out_ret, k_out, k_out_none, k_out_ite, k_pure, k_pure_none, k_pure_ite, startD, dI, dA, deo, Tm.at, Tm.dst, Tm.set, Tm.put, Tm.keep, dW, dRes, oneOfD, mkTup, mkAgg, mkFn, allF, frL, fr, vD, vD1, vF, vFL, dBin, dEq, dNil, isNilD, dScal, F.cv, eBin, sameKind, eInt, eStr, cellsD, oneD, F.one, dFill, putAtD, chunk, dbnd, dSrc, St.own, St.drop, St.still, St.fresh, chkQ, stillQ, freshQ, lOf, rdOf, rdOK, undefD, F.full, F.fullL, List.mapIdx_cons, strip, allOne_nil, allOne_cons, allOne_append, allLen_nil, allLen_cons, allLen_append, roomOK_small, filterT, y_mv, y_pick, y_new, y_box, y_build, y_bslice, y_ld1, y_ldn, y_nilchk, y_bin, y_not, y_conv, y_bytes, y_string, y_ifc, y_fn, y_cut, y_cuts, y_fa, y_fld, y_ia, y_idx, y_idxs, y_ext, y_len, y_lenstr, y_app, y_grow, y_mks, y_slow, y_call, y_callv, y_inv, y_extc, x_it_st, x_it_clr, x_it_cpy, k_addT, k_addT_none, k_addT_ite, k_orU, k_orU_none, dU, D.turn, turnL, Tm.turn, turnS, St.turn, turnRows_length, rSMay, callR, pSMay, h1, h2, show ¬ (5000 ≤ l) by omega, show (1000 ≤ n) by omega]
  · simp [c17, x_pure, x_skip, x_reg, x_drw, x_seq, x_cond, x_block, x_loop', Tm.keep_nil, x_exit, x_ret, k_seq, k_seq_ret, k_seq_exit, k_seq_none, k_seq_ite, k_cond, k_block, k_block_ret, k_block_exit, k_block_none, k_block_ite, k_iter, k_iter_ret, k_iter_exit, k_iter_none, k_iter_ite, k_reg, k_reg_none, k_reg_ite, x_is_nil, x_is, x_is_g, k_ins, k_ins_none, k_ins_ite, k_grd, x_ord_nil, x_ord, x_ord_g, k_ord, k_ord_none, k_ord_ite, k_ogrd, k_out_ret, k_out, k_out_none, k_out_ite, k_pure, k_pure_none, k_pure_ite, startD, dI, dA, deo, Tm.at, Tm.dst, Tm.set, Tm.put, Tm.keep, dW, dRes, oneOfD, mkTup, mkAgg, mkFn, allF, frL, fr, vD, vD1, vF, vFL, dBin, dEq, dNil, isNilD, dScal, F.cv, eBin, sameKind, eInt, eStr, cellsD, oneD, F.one, dFill, putAtD, chunk, dbnd, dSrc, St.own, St.drop, St.still, St.fresh, chkQ, stillQ, freshQ, lOf, rdOf, rdOK, undefD, F.full, F.fullL, List.mapIdx_cons, strip, allOne_nil, allOne_cons, allOne_append, allLen_nil, allLen_cons, allLen_append, roomOK_small, filterT, y_mv, y_pick, y_new, y_box, y_build, y_bslice, y_ld1, y_ldn, y_nilchk, y_bin, y_not, y_conv, y_bytes, y_string, y_ifc, y_fn, y_cut, y_cuts, y_fa, y_fld, y_ia, y_idx, y_idxs, y_ext, y_len, y_lenstr, y_app, y_grow, y_mks, y_slow, y_call, y_callv, y_inv, y_extc, x_it_st, x_it_clr, x_it_cpy, k_addT, k_addT_none, k_addT_ite, k_orU, k_orU_none, dU, D.turn, turnL, Tm.turn, turnS, St.turn, turnRows_length, rSMay, callR, pSMay, h1, show (5000 ≤ l) by omega]
theorem rNext (ds : List D) (st : Dv.St) : callI Try.prog prims dx tbl 17 ds st = callR Try.prog prims dx tbl 17 ds st (frL (fr st 6) ds) := callRw rfl rfl (rfl : tbl 17 = some c17) rfl ds st
theorem tm_may (t r n : Int) (h1 : 0 ≤ n) (h2 : n ≤ t) (h3 : t ≤ 30) (h4 : 1 ≤ r) (h5 : r ≤ 3) : mayB (t + 1) r (n + 1) = true := by
  have h6 : ¬ 1000 < t + 1 := by omega
  simp only [mayB, if_neg h6, Bool.and_eq_true, decide_eq_true_eq]
  omega
theorem tm_next (t r n : Int) (h1 : 0 ≤ n) (h2 : n ≤ t) (h3 : t ≤ 30) (h4 : 1 ≤ r) (h5 : r ≤ 3) : pureI Try.prog prims dx tbl 17 [.int .i64 t, .int .i64 r, .int .i64 n] = some (.tup [.agg [.int .i64 (t + 1), .int .i64 r, .int .i64 (n + 1)], .bool true]) := by
  have hm := tm_may t r n h1 h2 h3 h4 h5
  have h := pNext t r n
  have l1 : t < 5000 := by omega
  have l2 : n < 1000 := by omega
  rw [wrap_id (t + 1) (by omega) (by omega), wrap_id (n + 1) (by omega) (by omega), if_pos ⟨l1, l2, hm⟩] at h
  exact h
theorem tm_lt (a b c t r n : Int) (h : a < t) : cmpS (a, b, c) (t, r, n) = -1 := (cmpS_lt a b c t r n).2 (.inl h)
theorem mm38 : minmax (operAt Try.prog 7 38) = some (true, 38, 40) := by kernel_rfl
theorem mm41 : minmax (operAt Try.prog 7 41) = some (true, 41, 43) := by kernel_rfl
theorem tm_w (i : Nat) (h : i ≤ 20) : wrapF .i64 ((i : Int) + 1) = (i : Int) + 1 := wrap_id _ (by omega) (by omega)
theorem tw0 : wrapF .i64 0 = 0 := by decide +kernel
theorem tw1 : wrapF .i64 1 = 1 := by decide +kernel
theorem tw2 : wrapF .i64 2 = 2 := by decide +kernel
theorem tw3 : wrapF .i64 3 = 3 := by decide +kernel
theorem setE {α : Type} (S : List α) (x y : α) : (S ++ [x]).set S.length y = S ++ [y] := by
  rw [List.set_append_right _ _ (Nat.le_refl _)]
  simp
def encP (e : Int × Int) : List F := [.int .u8 e.1, .int .u8 e.2]
def Tme (k : Nat) (t0 t1 t2 n0 n1 n2 La : Int) : Prop := 0 ≤ n0 ∧ n0 ≤ t0 ∧ t0 ≤ k ∧ 0 ≤ n1 ∧ n1 ≤ t1 ∧ t1 ≤ k ∧ 0 ≤ n2 ∧ n2 ≤ t2 ∧ t2 ≤ k ∧ (La ≤ t0 ∨ La ≤ t1 ∨ La ≤ t2)
def PostT (r : Option DSt) : Prop := ∃ T' st', r = some (.exit 0, T', st')
abbrev i6 (n : Int) : D := .fz (.int .i64 n)
theorem loopT (l : List (Int × Int)) (hl : l.length ≤ 20) (hb : ∀ e ∈ l, (0 ≤ e.1 ∧ e.1 < 256) ∧ 0 ≤ e.2 ∧ e.2 < 256) : ∀ (r : List (Int × Int)) (i : Nat) (iz t0 t1 t2 n0 n1 n2 La Lb Lc : Int) (S : List (Bool × List D)) (L : List Nat) (c : Nat), iz = i → l.drop i = r → i ≤ l.length → Tme i t0 t1 t2 n0 n1 n2 La →
    PostT (iterI (dCw Try.prog (callI Try.prog prims dx tbl) l7_0) [0, 3, 4, 5, 6] [(0, .fz (.list (l.map encP))), (3, .ptr 0 0), (4, .ptr 1 0), (5, .ptr 2 0), (6, .fz (.int .i64 iz))]
      ⟨(true, [.fz (.int .i64 t0), .fz (.int .i64 t1), .fz (.int .i64 t2)]) :: (true, [.fz (.int .i64 n0), .fz (.int .i64 n1), .fz (.int .i64 n2)]) :: (true, [.fz (.int .i64 La), .fz (.int .i64 Lb), .fz (.int .i64 Lc)]) :: S, L, c⟩) := by
  intro r
  induction r with
  | nil =>
    intro i iz t0 t1 t2 n0 n1 n2 La Lb Lc S L c hz hd hi hT
    have hi' := drop_nil hd hi
    subst hi' hz
    rw [x_iter]
    simp [u7_0, x_pure, x_skip, x_reg, x_drw, x_seq, x_cond, x_block, x_loop', Tm.keep_nil, x_exit, x_ret, k_seq, k_seq_ret, k_seq_exit, k_seq_none, k_seq_ite, k_cond, k_block, k_block_ret, k_block_exit, k_block_none, k_block_ite, k_iter, k_iter_ret, k_iter_exit, k_iter_none, k_iter_ite, k_reg, k_reg_none, k_reg_ite, x_is_nil, x_is, x_is_g, k_ins, k_ins_none, k_ins_ite, k_grd, x_ord_nil, x_ord, x_ord_g, k_ord, k_ord_none, k_ord_ite, k_ogrd, k_out_ret, k_out, k_out_none, k_out_ite, k_pure, k_pure_none, k_pure_ite, startD, dI, dA, deo, Tm.at, Tm.dst, Tm.set, Tm.put, Tm.keep, dW, dRes, oneOfD, mkTup, mkAgg, mkFn, allF, frL, fr, vD, vD1, vF, vFL, dBin, dEq, dNil, isNilD, dScal, F.cv, eBin, sameKind, eInt, eStr, cellsD, oneD, F.one, dFill, putAtD, chunk, dbnd, dSrc, St.own, St.drop, St.still, St.fresh, chkQ, stillQ, freshQ, lOf, rdOf, rdOK, undefD, F.full, F.fullL, List.mapIdx_cons, strip, allOne_nil, allOne_cons, allOne_append, allLen_nil, allLen_cons, allLen_append, roomOK_small, filterT, y_mv, y_pick, y_new, y_box, y_build, y_bslice, y_ld1, y_ldn, y_nilchk, y_bin, y_not, y_conv, y_bytes, y_string, y_ifc, y_fn, y_cut, y_cuts, y_fa, y_fld, y_ia, y_idx, y_idxs, y_ext, y_len, y_lenstr, y_app, y_grow, y_mks, y_slow, y_call, y_callv, y_inv, y_extc, x_it_st, x_it_clr, x_it_cpy, k_addT, k_addT_none, k_addT_ite, k_orU, k_orU_none, dU, D.turn, turnL, Tm.turn, turnS, St.turn, turnRows_length]
    exact ⟨_, _, rfl⟩
  | cons e r ih =>
    intro i iz t0 t1 t2 n0 n1 n2 La Lb Lc S L c hz hd hi hT
    subst hz
    obtain ⟨hlt, hli, hd'⟩ := drop_cons hd
    obtain ⟨⟨x1, x2⟩, y1, y2⟩ := hb e (by rw [← hli]; exact List.getElem_mem hlt)
    have hi1 : ((i : Int) + 1) = ((i + 1 : Nat) : Int) := by omega
    have hx : e.1.tmod 3 = 0 ∨ e.1.tmod 3 = 1 ∨ e.1.tmod 3 = 2 := by
      rw [Int.tmod_eq_emod_of_nonneg x1]
      omega
    unfold Tme at hT
    obtain ⟨A, hA⟩ : ∃ A, (if t0 < t1 then t1 else t0) = A := ⟨_, rfl⟩
    obtain ⟨M, hM⟩ : ∃ M, (if A < t2 then t2 else A) = M := ⟨_, rfl⟩
    have hA' : t0 ≤ A ∧ t1 ≤ A ∧ A ≤ i ∧ 0 ≤ A := by
      rw [← hA]
      split <;> omega
    have hM' : A ≤ M ∧ t2 ≤ M ∧ M ≤ i ∧ La < M + 1 := by
      rw [← hM]
      split <;> omega
    have hiq : (0 : Int) < i ∨ ¬ (0 : Int) < i := Classical.em _
    rw [x_iter]
    rcases hx with hx | hx | hx
    · by_cases hy : e.2.tmod 2 = 0
      · skip
        have qN := tm_next M 1 n0 (by omega) (by omega) (by omega) (by omega) (by omega)
        have qM := pSMay (M + 1) 1 (n0 + 1)
        rw [tm_may M 1 n0 (by omega) (by omega) (by omega) (by omega) (by omega)] at qM
        have qC := pCmp La Lb Lc (M + 1) 1 (n0 + 1)
        rw [tm_lt La Lb Lc (M + 1) 1 (n0 + 1) (by omega)] at qC
        have := ih (i + 1) _ (M + 1) t1 t2 (n0 + 1) n1 n2 (M + 1) 1 (n0 + 1) (S ++ [(true, [.fz (.int .i64 (M + 1)), .fz (.int .i64 1), .fz (.int .i64 (n0 + 1))])]) L c hi1 hd' hlt (by unfold Tme; omega)
        try simp at this
        rcases hiq with hiq | hiq
        · have hiq' : 0 < i := by omega
          simp [u7_0, x_pure, x_skip, x_reg, x_drw, x_seq, x_cond, x_block, x_loop', Tm.keep_nil, x_exit, x_ret, k_seq, k_seq_ret, k_seq_exit, k_seq_none, k_seq_ite, k_cond, k_block, k_block_ret, k_block_exit, k_block_none, k_block_ite, k_iter, k_iter_ret, k_iter_exit, k_iter_none, k_iter_ite, k_reg, k_reg_none, k_reg_ite, x_is_nil, x_is, x_is_g, k_ins, k_ins_none, k_ins_ite, k_grd, x_ord_nil, x_ord, x_ord_g, k_ord, k_ord_none, k_ord_ite, k_ogrd, k_out_ret, k_out, k_out_none, k_out_ite, k_pure, k_pure_none, k_pure_ite, startD, dI, dA, deo, Tm.at, Tm.dst, Tm.set, Tm.put, Tm.keep, dW, dRes, oneOfD, mkTup, mkAgg, mkFn, allF, frL, fr, vD, vD1, vF, vFL, dBin, dEq, dNil, isNilD, dScal, F.cv, eBin, sameKind, eInt, eStr, cellsD, oneD, F.one, dFill, putAtD, chunk, dbnd, dSrc, St.own, St.drop, St.still, St.fresh, chkQ, stillQ, freshQ, lOf, rdOf, rdOK, undefD, F.full, F.fullL, List.mapIdx_cons, strip, allOne_nil, allOne_cons, allOne_append, allLen_nil, allLen_cons, allLen_append, roomOK_small, filterT, y_mv, y_pick, y_new, y_box, y_build, y_bslice, y_ld1, y_ldn, y_nilchk, y_bin, y_not, y_conv, y_bytes, y_string, y_ifc, y_fn, y_cut, y_cuts, y_fa, y_fld, y_ia, y_idx, y_idxs, y_ext, y_len, y_lenstr, y_app, y_grow, y_mks, y_slow, y_call, y_callv, y_inv, y_extc, x_it_st, x_it_clr, x_it_cpy, k_addT, k_addT_none, k_addT_ite, k_orU, k_orU_none, dU, D.turn, turnL, Tm.turn, turnS, St.turn, turnRows_length, hlt, hli, encP, hx, hy, tw0, tw1, tw2, tw3, slow_mm mm38, slow_mm mm41, mmD, hA, hM, rNext, rSMay, rCmp, callR, qN, qM, qC, hiq, hiq', setE, tm_w i (Nat.le_trans hi hl)]
          exact this
        · have hiq' : ¬ 0 < i := by omega
          simp [u7_0, x_pure, x_skip, x_reg, x_drw, x_seq, x_cond, x_block, x_loop', Tm.keep_nil, x_exit, x_ret, k_seq, k_seq_ret, k_seq_exit, k_seq_none, k_seq_ite, k_cond, k_block, k_block_ret, k_block_exit, k_block_none, k_block_ite, k_iter, k_iter_ret, k_iter_exit, k_iter_none, k_iter_ite, k_reg, k_reg_none, k_reg_ite, x_is_nil, x_is, x_is_g, k_ins, k_ins_none, k_ins_ite, k_grd, x_ord_nil, x_ord, x_ord_g, k_ord, k_ord_none, k_ord_ite, k_ogrd, k_out_ret, k_out, k_out_none, k_out_ite, k_pure, k_pure_none, k_pure_ite, startD, dI, dA, deo, Tm.at, Tm.dst, Tm.set, Tm.put, Tm.keep, dW, dRes, oneOfD, mkTup, mkAgg, mkFn, allF, frL, fr, vD, vD1, vF, vFL, dBin, dEq, dNil, isNilD, dScal, F.cv, eBin, sameKind, eInt, eStr, cellsD, oneD, F.one, dFill, putAtD, chunk, dbnd, dSrc, St.own, St.drop, St.still, St.fresh, chkQ, stillQ, freshQ, lOf, rdOf, rdOK, undefD, F.full, F.fullL, List.mapIdx_cons, strip, allOne_nil, allOne_cons, allOne_append, allLen_nil, allLen_cons, allLen_append, roomOK_small, filterT, y_mv, y_pick, y_new, y_box, y_build, y_bslice, y_ld1, y_ldn, y_nilchk, y_bin, y_not, y_conv, y_bytes, y_string, y_ifc, y_fn, y_cut, y_cuts, y_fa, y_fld, y_ia, y_idx, y_idxs, y_ext, y_len, y_lenstr, y_app, y_grow, y_mks, y_slow, y_call, y_callv, y_inv, y_extc, x_it_st, x_it_clr, x_it_cpy, k_addT, k_addT_none, k_addT_ite, k_orU, k_orU_none, dU, D.turn, turnL, Tm.turn, turnS, St.turn, turnRows_length, hlt, hli, encP, hx, hy, tw0, tw1, tw2, tw3, slow_mm mm38, slow_mm mm41, mmD, hA, hM, rNext, rSMay, rCmp, callR, qN, qM, qC, hiq, hiq', setE, tm_w i (Nat.le_trans hi hl)]
          exact this
      · skip
        have qN := tm_next t0 1 n0 (by omega) (by omega) (by omega) (by omega) (by omega)
        have qM := pSMay (t0 + 1) 1 (n0 + 1)
        rw [tm_may t0 1 n0 (by omega) (by omega) (by omega) (by omega) (by omega)] at qM
        have qC := pCmp La Lb Lc (t0 + 1) 1 (n0 + 1)
        by_cases hlt' : cmpS (La, Lb, Lc) (t0 + 1, 1, n0 + 1) < 0
        · have := ih (i + 1) _ (t0 + 1) t1 t2 (n0 + 1) n1 n2 (t0 + 1) 1 (n0 + 1) (S ++ [(true, [.fz (.int .i64 (t0 + 1)), .fz (.int .i64 1), .fz (.int .i64 (n0 + 1))])]) L c hi1 hd' hlt (by unfold Tme; omega)
          try simp at this
          simp [u7_0, x_pure, x_skip, x_reg, x_drw, x_seq, x_cond, x_block, x_loop', Tm.keep_nil, x_exit, x_ret, k_seq, k_seq_ret, k_seq_exit, k_seq_none, k_seq_ite, k_cond, k_block, k_block_ret, k_block_exit, k_block_none, k_block_ite, k_iter, k_iter_ret, k_iter_exit, k_iter_none, k_iter_ite, k_reg, k_reg_none, k_reg_ite, x_is_nil, x_is, x_is_g, k_ins, k_ins_none, k_ins_ite, k_grd, x_ord_nil, x_ord, x_ord_g, k_ord, k_ord_none, k_ord_ite, k_ogrd, k_out_ret, k_out, k_out_none, k_out_ite, k_pure, k_pure_none, k_pure_ite, startD, dI, dA, deo, Tm.at, Tm.dst, Tm.set, Tm.put, Tm.keep, dW, dRes, oneOfD, mkTup, mkAgg, mkFn, allF, frL, fr, vD, vD1, vF, vFL, dBin, dEq, dNil, isNilD, dScal, F.cv, eBin, sameKind, eInt, eStr, cellsD, oneD, F.one, dFill, putAtD, chunk, dbnd, dSrc, St.own, St.drop, St.still, St.fresh, chkQ, stillQ, freshQ, lOf, rdOf, rdOK, undefD, F.full, F.fullL, List.mapIdx_cons, strip, allOne_nil, allOne_cons, allOne_append, allLen_nil, allLen_cons, allLen_append, roomOK_small, filterT, y_mv, y_pick, y_new, y_box, y_build, y_bslice, y_ld1, y_ldn, y_nilchk, y_bin, y_not, y_conv, y_bytes, y_string, y_ifc, y_fn, y_cut, y_cuts, y_fa, y_fld, y_ia, y_idx, y_idxs, y_ext, y_len, y_lenstr, y_app, y_grow, y_mks, y_slow, y_call, y_callv, y_inv, y_extc, x_it_st, x_it_clr, x_it_cpy, k_addT, k_addT_none, k_addT_ite, k_orU, k_orU_none, dU, D.turn, turnL, Tm.turn, turnS, St.turn, turnRows_length, hlt, hli, encP, hx, hy, tw0, tw1, tw2, tw3, rNext, rSMay, rCmp, callR, qN, qM, qC, hlt', setE, tm_w i (Nat.le_trans hi hl)]
          exact this
        · have := ih (i + 1) _ (t0 + 1) t1 t2 (n0 + 1) n1 n2 La Lb Lc (S ++ [(true, [.fz (.int .i64 (t0 + 1)), .fz (.int .i64 1), .fz (.int .i64 (n0 + 1))])]) L c hi1 hd' hlt (by unfold Tme; omega)
          try simp at this
          simp [u7_0, x_pure, x_skip, x_reg, x_drw, x_seq, x_cond, x_block, x_loop', Tm.keep_nil, x_exit, x_ret, k_seq, k_seq_ret, k_seq_exit, k_seq_none, k_seq_ite, k_cond, k_block, k_block_ret, k_block_exit, k_block_none, k_block_ite, k_iter, k_iter_ret, k_iter_exit, k_iter_none, k_iter_ite, k_reg, k_reg_none, k_reg_ite, x_is_nil, x_is, x_is_g, k_ins, k_ins_none, k_ins_ite, k_grd, x_ord_nil, x_ord, x_ord_g, k_ord, k_ord_none, k_ord_ite, k_ogrd, k_out_ret, k_out, k_out_none, k_out_ite, k_pure, k_pure_none, k_pure_ite, startD, dI, dA, deo, Tm.at, Tm.dst, Tm.set, Tm.put, Tm.keep, dW, dRes, oneOfD, mkTup, mkAgg, mkFn, allF, frL, fr, vD, vD1, vF, vFL, dBin, dEq, dNil, isNilD, dScal, F.cv, eBin, sameKind, eInt, eStr, cellsD, oneD, F.one, dFill, putAtD, chunk, dbnd, dSrc, St.own, St.drop, St.still, St.fresh, chkQ, stillQ, freshQ, lOf, rdOf, rdOK, undefD, F.full, F.fullL, List.mapIdx_cons, strip, allOne_nil, allOne_cons, allOne_append, allLen_nil, allLen_cons, allLen_append, roomOK_small, filterT, y_mv, y_pick, y_new, y_box, y_build, y_bslice, y_ld1, y_ldn, y_nilchk, y_bin, y_not, y_conv, y_bytes, y_string, y_ifc, y_fn, y_cut, y_cuts, y_fa, y_fld, y_ia, y_idx, y_idxs, y_ext, y_len, y_lenstr, y_app, y_grow, y_mks, y_slow, y_call, y_callv, y_inv, y_extc, x_it_st, x_it_clr, x_it_cpy, k_addT, k_addT_none, k_addT_ite, k_orU, k_orU_none, dU, D.turn, turnL, Tm.turn, turnS, St.turn, turnRows_length, hlt, hli, encP, hx, hy, tw0, tw1, tw2, tw3, rNext, rSMay, rCmp, callR, qN, qM, qC, hlt', setE, tm_w i (Nat.le_trans hi hl)]
          exact this
    · by_cases hy : e.2.tmod 2 = 0
      · skip
        have qN := tm_next M 2 n1 (by omega) (by omega) (by omega) (by omega) (by omega)
        have qM := pSMay (M + 1) 2 (n1 + 1)
        rw [tm_may M 2 n1 (by omega) (by omega) (by omega) (by omega) (by omega)] at qM
        have qC := pCmp La Lb Lc (M + 1) 2 (n1 + 1)
        rw [tm_lt La Lb Lc (M + 1) 2 (n1 + 1) (by omega)] at qC
        have := ih (i + 1) _ t0 (M + 1) t2 n0 (n1 + 1) n2 (M + 1) 2 (n1 + 1) (S ++ [(true, [.fz (.int .i64 (M + 1)), .fz (.int .i64 2), .fz (.int .i64 (n1 + 1))])]) L c hi1 hd' hlt (by unfold Tme; omega)
        try simp at this
        rcases hiq with hiq | hiq
        · have hiq' : 0 < i := by omega
          simp [u7_0, x_pure, x_skip, x_reg, x_drw, x_seq, x_cond, x_block, x_loop', Tm.keep_nil, x_exit, x_ret, k_seq, k_seq_ret, k_seq_exit, k_seq_none, k_seq_ite, k_cond, k_block, k_block_ret, k_block_exit, k_block_none, k_block_ite, k_iter, k_iter_ret, k_iter_exit, k_iter_none, k_iter_ite, k_reg, k_reg_none, k_reg_ite, x_is_nil, x_is, x_is_g, k_ins, k_ins_none, k_ins_ite, k_grd, x_ord_nil, x_ord, x_ord_g, k_ord, k_ord_none, k_ord_ite, k_ogrd, k_out_ret, k_out, k_out_none, k_out_ite, k_pure, k_pure_none, k_pure_ite, startD, dI, dA, deo, Tm.at, Tm.dst, Tm.set, Tm.put, Tm.keep, dW, dRes, oneOfD, mkTup, mkAgg, mkFn, allF, frL, fr, vD, vD1, vF, vFL, dBin, dEq, dNil, isNilD, dScal, F.cv, eBin, sameKind, eInt, eStr, cellsD, oneD, F.one, dFill, putAtD, chunk, dbnd, dSrc, St.own, St.drop, St.still, St.fresh, chkQ, stillQ, freshQ, lOf, rdOf, rdOK, undefD, F.full, F.fullL, List.mapIdx_cons, strip, allOne_nil, allOne_cons, allOne_append, allLen_nil, allLen_cons, allLen_append, roomOK_small, filterT, y_mv, y_pick, y_new, y_box, y_build, y_bslice, y_ld1, y_ldn, y_nilchk, y_bin, y_not, y_conv, y_bytes, y_string, y_ifc, y_fn, y_cut, y_cuts, y_fa, y_fld, y_ia, y_idx, y_idxs, y_ext, y_len, y_lenstr, y_app, y_grow, y_mks, y_slow, y_call, y_callv, y_inv, y_extc, x_it_st, x_it_clr, x_it_cpy, k_addT, k_addT_none, k_addT_ite, k_orU, k_orU_none, dU, D.turn, turnL, Tm.turn, turnS, St.turn, turnRows_length, hlt, hli, encP, hx, hy, tw0, tw1, tw2, tw3, slow_mm mm38, slow_mm mm41, mmD, hA, hM, rNext, rSMay, rCmp, callR, qN, qM, qC, hiq, hiq', setE, tm_w i (Nat.le_trans hi hl)]
          exact this
        · have hiq' : ¬ 0 < i := by omega
          simp [u7_0, x_pure, x_skip, x_reg, x_drw, x_seq, x_cond, x_block, x_loop', Tm.keep_nil, x_exit, x_ret, k_seq, k_seq_ret, k_seq_exit, k_seq_none, k_seq_ite, k_cond, k_block, k_block_ret, k_block_exit, k_block_none, k_block_ite, k_iter, k_iter_ret, k_iter_exit, k_iter_none, k_iter_ite, k_reg, k_reg_none, k_reg_ite, x_is_nil, x_is, x_is_g, k_ins, k_ins_none, k_ins_ite, k_grd, x_ord_nil, x_ord, x_ord_g, k_ord, k_ord_none, k_ord_ite, k_ogrd, k_out_ret, k_out, k_out_none, k_out_ite, k_pure, k_pure_none, k_pure_ite, startD, dI, dA, deo, Tm.at, Tm.dst, Tm.set, Tm.put, Tm.keep, dW, dRes, oneOfD, mkTup, mkAgg, mkFn, allF, frL, fr, vD, vD1, vF, vFL, dBin, dEq, dNil, isNilD, dScal, F.cv, eBin, sameKind, eInt, eStr, cellsD, oneD, F.one, dFill, putAtD, chunk, dbnd, dSrc, St.own, St.drop, St.still, St.fresh, chkQ, stillQ, freshQ, lOf, rdOf, rdOK, undefD, F.full, F.fullL, List.mapIdx_cons, strip, allOne_nil, allOne_cons, allOne_append, allLen_nil, allLen_cons, allLen_append, roomOK_small, filterT, y_mv, y_pick, y_new, y_box, y_build, y_bslice, y_ld1, y_ldn, y_nilchk, y_bin, y_not, y_conv, y_bytes, y_string, y_ifc, y_fn, y_cut, y_cuts, y_fa, y_fld, y_ia, y_idx, y_idxs, y_ext, y_len, y_lenstr, y_app, y_grow, y_mks, y_slow, y_call, y_callv, y_inv, y_extc, x_it_st, x_it_clr, x_it_cpy, k_addT, k_addT_none, k_addT_ite, k_orU, k_orU_none, dU, D.turn, turnL, Tm.turn, turnS, St.turn, turnRows_length, hlt, hli, encP, hx, hy, tw0, tw1, tw2, tw3, slow_mm mm38, slow_mm mm41, mmD, hA, hM, rNext, rSMay, rCmp, callR, qN, qM, qC, hiq, hiq', setE, tm_w i (Nat.le_trans hi hl)]
          exact this
      · skip
        have qN := tm_next t1 2 n1 (by omega) (by omega) (by omega) (by omega) (by omega)
        have qM := pSMay (t1 + 1) 2 (n1 + 1)
        rw [tm_may t1 2 n1 (by omega) (by omega) (by omega) (by omega) (by omega)] at qM
        have qC := pCmp La Lb Lc (t1 + 1) 2 (n1 + 1)
        by_cases hlt' : cmpS (La, Lb, Lc) (t1 + 1, 2, n1 + 1) < 0
        · have := ih (i + 1) _ t0 (t1 + 1) t2 n0 (n1 + 1) n2 (t1 + 1) 2 (n1 + 1) (S ++ [(true, [.fz (.int .i64 (t1 + 1)), .fz (.int .i64 2), .fz (.int .i64 (n1 + 1))])]) L c hi1 hd' hlt (by unfold Tme; omega)
          try simp at this
          simp [u7_0, x_pure, x_skip, x_reg, x_drw, x_seq, x_cond, x_block, x_loop', Tm.keep_nil, x_exit, x_ret, k_seq, k_seq_ret, k_seq_exit, k_seq_none, k_seq_ite, k_cond, k_block, k_block_ret, k_block_exit, k_block_none, k_block_ite, k_iter, k_iter_ret, k_iter_exit, k_iter_none, k_iter_ite, k_reg, k_reg_none, k_reg_ite, x_is_nil, x_is, x_is_g, k_ins, k_ins_none, k_ins_ite, k_grd, x_ord_nil, x_ord, x_ord_g, k_ord, k_ord_none, k_ord_ite, k_ogrd, k_out_ret, k_out, k_out_none, k_out_ite, k_pure, k_pure_none, k_pure_ite, startD, dI, dA, deo, Tm.at, Tm.dst, Tm.set, Tm.put, Tm.keep, dW, dRes, oneOfD, mkTup, mkAgg, mkFn, allF, frL, fr, vD, vD1, vF, vFL, dBin, dEq, dNil, isNilD, dScal, F.cv, eBin, sameKind, eInt, eStr, cellsD, oneD, F.one, dFill, putAtD, chunk, dbnd, dSrc, St.own, St.drop, St.still, St.fresh, chkQ, stillQ, freshQ, lOf, rdOf, rdOK, undefD, F.full, F.fullL, List.mapIdx_cons, strip, allOne_nil, allOne_cons, allOne_append, allLen_nil, allLen_cons, allLen_append, roomOK_small, filterT, y_mv, y_pick, y_new, y_box, y_build, y_bslice, y_ld1, y_ldn, y_nilchk, y_bin, y_not, y_conv, y_bytes, y_string, y_ifc, y_fn, y_cut, y_cuts, y_fa, y_fld, y_ia, y_idx, y_idxs, y_ext, y_len, y_lenstr, y_app, y_grow, y_mks, y_slow, y_call, y_callv, y_inv, y_extc, x_it_st, x_it_clr, x_it_cpy, k_addT, k_addT_none, k_addT_ite, k_orU, k_orU_none, dU, D.turn, turnL, Tm.turn, turnS, St.turn, turnRows_length, hlt, hli, encP, hx, hy, tw0, tw1, tw2, tw3, rNext, rSMay, rCmp, callR, qN, qM, qC, hlt', setE, tm_w i (Nat.le_trans hi hl)]
          exact this
        · have := ih (i + 1) _ t0 (t1 + 1) t2 n0 (n1 + 1) n2 La Lb Lc (S ++ [(true, [.fz (.int .i64 (t1 + 1)), .fz (.int .i64 2), .fz (.int .i64 (n1 + 1))])]) L c hi1 hd' hlt (by unfold Tme; omega)
          try simp at this
          simp [u7_0, x_pure, x_skip, x_reg, x_drw, x_seq, x_cond, x_block, x_loop', Tm.keep_nil, x_exit, x_ret, k_seq, k_seq_ret, k_seq_exit, k_seq_none, k_seq_ite, k_cond, k_block, k_block_ret, k_block_exit, k_block_none, k_block_ite, k_iter, k_iter_ret, k_iter_exit, k_iter_none, k_iter_ite, k_reg, k_reg_none, k_reg_ite, x_is_nil, x_is, x_is_g, k_ins, k_ins_none, k_ins_ite, k_grd, x_ord_nil, x_ord, x_ord_g, k_ord, k_ord_none, k_ord_ite, k_ogrd, k_out_ret, k_out, k_out_none, k_out_ite, k_pure, k_pure_none, k_pure_ite, startD, dI, dA, deo, Tm.at, Tm.dst, Tm.set, Tm.put, Tm.keep, dW, dRes, oneOfD, mkTup, mkAgg, mkFn, allF, frL, fr, vD, vD1, vF, vFL, dBin, dEq, dNil, isNilD, dScal, F.cv, eBin, sameKind, eInt, eStr, cellsD, oneD, F.one, dFill, putAtD, chunk, dbnd, dSrc, St.own, St.drop, St.still, St.fresh, chkQ, stillQ, freshQ, lOf, rdOf, rdOK, undefD, F.full, F.fullL, List.mapIdx_cons, strip, allOne_nil, allOne_cons, allOne_append, allLen_nil, allLen_cons, allLen_append, roomOK_small, filterT, y_mv, y_pick, y_new, y_box, y_build, y_bslice, y_ld1, y_ldn, y_nilchk, y_bin, y_not, y_conv, y_bytes, y_string, y_ifc, y_fn, y_cut, y_cuts, y_fa, y_fld, y_ia, y_idx, y_idxs, y_ext, y_len, y_lenstr, y_app, y_grow, y_mks, y_slow, y_call, y_callv, y_inv, y_extc, x_it_st, x_it_clr, x_it_cpy, k_addT, k_addT_none, k_addT_ite, k_orU, k_orU_none, dU, D.turn, turnL, Tm.turn, turnS, St.turn, turnRows_length, hlt, hli, encP, hx, hy, tw0, tw1, tw2, tw3, rNext, rSMay, rCmp, callR, qN, qM, qC, hlt', setE, tm_w i (Nat.le_trans hi hl)]
          exact this
    · by_cases hy : e.2.tmod 2 = 0
      · skip
        have qN := tm_next M 3 n2 (by omega) (by omega) (by omega) (by omega) (by omega)
        have qM := pSMay (M + 1) 3 (n2 + 1)
        rw [tm_may M 3 n2 (by omega) (by omega) (by omega) (by omega) (by omega)] at qM
        have qC := pCmp La Lb Lc (M + 1) 3 (n2 + 1)
        rw [tm_lt La Lb Lc (M + 1) 3 (n2 + 1) (by omega)] at qC
        have := ih (i + 1) _ t0 t1 (M + 1) n0 n1 (n2 + 1) (M + 1) 3 (n2 + 1) (S ++ [(true, [.fz (.int .i64 (M + 1)), .fz (.int .i64 3), .fz (.int .i64 (n2 + 1))])]) L c hi1 hd' hlt (by unfold Tme; omega)
        try simp at this
        rcases hiq with hiq | hiq
        · have hiq' : 0 < i := by omega
          simp [u7_0, x_pure, x_skip, x_reg, x_drw, x_seq, x_cond, x_block, x_loop', Tm.keep_nil, x_exit, x_ret, k_seq, k_seq_ret, k_seq_exit, k_seq_none, k_seq_ite, k_cond, k_block, k_block_ret, k_block_exit, k_block_none, k_block_ite, k_iter, k_iter_ret, k_iter_exit, k_iter_none, k_iter_ite, k_reg, k_reg_none, k_reg_ite, x_is_nil, x_is, x_is_g, k_ins, k_ins_none, k_ins_ite, k_grd, x_ord_nil, x_ord, x_ord_g, k_ord, k_ord_none, k_ord_ite, k_ogrd, k_out_ret, k_out, k_out_none, k_out_ite, k_pure, k_pure_none, k_pure_ite, startD, dI, dA, deo, Tm.at, Tm.dst, Tm.set, Tm.put, Tm.keep, dW, dRes, oneOfD, mkTup, mkAgg, mkFn, allF, frL, fr, vD, vD1, vF, vFL, dBin, dEq, dNil, isNilD, dScal, F.cv, eBin, sameKind, eInt, eStr, cellsD, oneD, F.one, dFill, putAtD, chunk, dbnd, dSrc, St.own, St.drop, St.still, St.fresh, chkQ, stillQ, freshQ, lOf, rdOf, rdOK, undefD, F.full, F.fullL, List.mapIdx_cons, strip, allOne_nil, allOne_cons, allOne_append, allLen_nil, allLen_cons, allLen_append, roomOK_small, filterT, y_mv, y_pick, y_new, y_box, y_build, y_bslice, y_ld1, y_ldn, y_nilchk, y_bin, y_not, y_conv, y_bytes, y_string, y_ifc, y_fn, y_cut, y_cuts, y_fa, y_fld, y_ia, y_idx, y_idxs, y_ext, y_len, y_lenstr, y_app, y_grow, y_mks, y_slow, y_call, y_callv, y_inv, y_extc, x_it_st, x_it_clr, x_it_cpy, k_addT, k_addT_none, k_addT_ite, k_orU, k_orU_none, dU, D.turn, turnL, Tm.turn, turnS, St.turn, turnRows_length, hlt, hli, encP, hx, hy, tw0, tw1, tw2, tw3, slow_mm mm38, slow_mm mm41, mmD, hA, hM, rNext, rSMay, rCmp, callR, qN, qM, qC, hiq, hiq', setE, tm_w i (Nat.le_trans hi hl)]
          exact this
        · have hiq' : ¬ 0 < i := by omega
          simp [u7_0, x_pure, x_skip, x_reg, x_drw, x_seq, x_cond, x_block, x_loop', Tm.keep_nil, x_exit, x_ret, k_seq, k_seq_ret, k_seq_exit, k_seq_none, k_seq_ite, k_cond, k_block, k_block_ret, k_block_exit, k_block_none, k_block_ite, k_iter, k_iter_ret, k_iter_exit, k_iter_none, k_iter_ite, k_reg, k_reg_none, k_reg_ite, x_is_nil, x_is, x_is_g, k_ins, k_ins_none, k_ins_ite, k_grd, x_ord_nil, x_ord, x_ord_g, k_ord, k_ord_none, k_ord_ite, k_ogrd, k_out_ret, k_out, k_out_none, k_out_ite, k_pure, k_pure_none, k_pure_ite, startD, dI, dA, deo, Tm.at, Tm.dst, Tm.set, Tm.put, Tm.keep, dW, dRes, oneOfD, mkTup, mkAgg, mkFn, allF, frL, fr, vD, vD1, vF, vFL, dBin, dEq, dNil, isNilD, dScal, F.cv, eBin, sameKind, eInt, eStr, cellsD, oneD, F.one, dFill, putAtD, chunk, dbnd, dSrc, St.own, St.drop, St.still, St.fresh, chkQ, stillQ, freshQ, lOf, rdOf, rdOK, undefD, F.full, F.fullL, List.mapIdx_cons, strip, allOne_nil, allOne_cons, allOne_append, allLen_nil, allLen_cons, allLen_append, roomOK_small, filterT, y_mv, y_pick, y_new, y_box, y_build, y_bslice, y_ld1, y_ldn, y_nilchk, y_bin, y_not, y_conv, y_bytes, y_string, y_ifc, y_fn, y_cut, y_cuts, y_fa, y_fld, y_ia, y_idx, y_idxs, y_ext, y_len, y_lenstr, y_app, y_grow, y_mks, y_slow, y_call, y_callv, y_inv, y_extc, x_it_st, x_it_clr, x_it_cpy, k_addT, k_addT_none, k_addT_ite, k_orU, k_orU_none, dU, D.turn, turnL, Tm.turn, turnS, St.turn, turnRows_length, hlt, hli, encP, hx, hy, tw0, tw1, tw2, tw3, slow_mm mm38, slow_mm mm41, mmD, hA, hM, rNext, rSMay, rCmp, callR, qN, qM, qC, hiq, hiq', setE, tm_w i (Nat.le_trans hi hl)]
          exact this
      · skip
        have qN := tm_next t2 3 n2 (by omega) (by omega) (by omega) (by omega) (by omega)
        have qM := pSMay (t2 + 1) 3 (n2 + 1)
        rw [tm_may t2 3 n2 (by omega) (by omega) (by omega) (by omega) (by omega)] at qM
        have qC := pCmp La Lb Lc (t2 + 1) 3 (n2 + 1)
        by_cases hlt' : cmpS (La, Lb, Lc) (t2 + 1, 3, n2 + 1) < 0
        · have := ih (i + 1) _ t0 t1 (t2 + 1) n0 n1 (n2 + 1) (t2 + 1) 3 (n2 + 1) (S ++ [(true, [.fz (.int .i64 (t2 + 1)), .fz (.int .i64 3), .fz (.int .i64 (n2 + 1))])]) L c hi1 hd' hlt (by unfold Tme; omega)
          try simp at this
          simp [u7_0, x_pure, x_skip, x_reg, x_drw, x_seq, x_cond, x_block, x_loop', Tm.keep_nil, x_exit, x_ret, k_seq, k_seq_ret, k_seq_exit, k_seq_none, k_seq_ite, k_cond, k_block, k_block_ret, k_block_exit, k_block_none, k_block_ite, k_iter, k_iter_ret, k_iter_exit, k_iter_none, k_iter_ite, k_reg, k_reg_none, k_reg_ite, x_is_nil, x_is, x_is_g, k_ins, k_ins_none, k_ins_ite, k_grd, x_ord_nil, x_ord, x_ord_g, k_ord, k_ord_none, k_ord_ite, k_ogrd, k_out_ret, k_out, k_out_none, k_out_ite, k_pure, k_pure_none, k_pure_ite, startD, dI, dA, deo, Tm.at, Tm.dst, Tm.set, Tm.put, Tm.keep, dW, dRes, oneOfD, mkTup, mkAgg, mkFn, allF, frL, fr, vD, vD1, vF, vFL, dBin, dEq, dNil, isNilD, dScal, F.cv, eBin, sameKind, eInt, eStr, cellsD, oneD, F.one, dFill, putAtD, chunk, dbnd, dSrc, St.own, St.drop, St.still, St.fresh, chkQ, stillQ, freshQ, lOf, rdOf, rdOK, undefD, F.full, F.fullL, List.mapIdx_cons, strip, allOne_nil, allOne_cons, allOne_append, allLen_nil, allLen_cons, allLen_append, roomOK_small, filterT, y_mv, y_pick, y_new, y_box, y_build, y_bslice, y_ld1, y_ldn, y_nilchk, y_bin, y_not, y_conv, y_bytes, y_string, y_ifc, y_fn, y_cut, y_cuts, y_fa, y_fld, y_ia, y_idx, y_idxs, y_ext, y_len, y_lenstr, y_app, y_grow, y_mks, y_slow, y_call, y_callv, y_inv, y_extc, x_it_st, x_it_clr, x_it_cpy, k_addT, k_addT_none, k_addT_ite, k_orU, k_orU_none, dU, D.turn, turnL, Tm.turn, turnS, St.turn, turnRows_length, hlt, hli, encP, hx, hy, tw0, tw1, tw2, tw3, rNext, rSMay, rCmp, callR, qN, qM, qC, hlt', setE, tm_w i (Nat.le_trans hi hl)]
          exact this
        · have := ih (i + 1) _ t0 t1 (t2 + 1) n0 n1 (n2 + 1) La Lb Lc (S ++ [(true, [.fz (.int .i64 (t2 + 1)), .fz (.int .i64 3), .fz (.int .i64 (n2 + 1))])]) L c hi1 hd' hlt (by unfold Tme; omega)
          try simp at this
          simp [u7_0, x_pure, x_skip, x_reg, x_drw, x_seq, x_cond, x_block, x_loop', Tm.keep_nil, x_exit, x_ret, k_seq, k_seq_ret, k_seq_exit, k_seq_none, k_seq_ite, k_cond, k_block, k_block_ret, k_block_exit, k_block_none, k_block_ite, k_iter, k_iter_ret, k_iter_exit, k_iter_none, k_iter_ite, k_reg, k_reg_none, k_reg_ite, x_is_nil, x_is, x_is_g, k_ins, k_ins_none, k_ins_ite, k_grd, x_ord_nil, x_ord, x_ord_g, k_ord, k_ord_none, k_ord_ite, k_ogrd, k_out_ret, k_out, k_out_none, k_out_ite, k_pure, k_pure_none, k_pure_ite, startD, dI, dA, deo, Tm.at, Tm.dst, Tm.set, Tm.put, Tm.keep, dW, dRes, oneOfD, mkTup, mkAgg, mkFn, allF, frL, fr, vD, vD1, vF, vFL, dBin, dEq, dNil, isNilD, dScal, F.cv, eBin, sameKind, eInt, eStr, cellsD, oneD, F.one, dFill, putAtD, chunk, dbnd, dSrc, St.own, St.drop, St.still, St.fresh, chkQ, stillQ, freshQ, lOf, rdOf, rdOK, undefD, F.full, F.fullL, List.mapIdx_cons, strip, allOne_nil, allOne_cons, allOne_append, allLen_nil, allLen_cons, allLen_append, roomOK_small, filterT, y_mv, y_pick, y_new, y_box, y_build, y_bslice, y_ld1, y_ldn, y_nilchk, y_bin, y_not, y_conv, y_bytes, y_string, y_ifc, y_fn, y_cut, y_cuts, y_fa, y_fld, y_ia, y_idx, y_idxs, y_ext, y_len, y_lenstr, y_app, y_grow, y_mks, y_slow, y_call, y_callv, y_inv, y_extc, x_it_st, x_it_clr, x_it_cpy, k_addT, k_addT_none, k_addT_ite, k_orU, k_orU_none, dU, D.turn, turnL, Tm.turn, turnS, St.turn, turnRows_length, hlt, hli, encP, hx, hy, tw0, tw1, tw2, tw3, rNext, rSMay, rCmp, callR, qN, qM, qC, hlt', setE, tm_w i (Nat.le_trans hi hl)]
          exact this
theorem two_of (xs : List Int) (h : 2 ≤ xs.length) : xs.take 2 = [xs.getD 0 0, xs.getD 1 0] := by
  match xs, h with
  | a :: b :: r, _ => rfl
theorem getD_mem (xs : List Int) (i : Nat) (h : i < xs.length) : xs.getD i 0 ∈ xs := by
  rw [List.getD_eq_getElem?_getD, List.getElem?_eq_getElem h]
  exact List.getElem_mem h
theorem rows_p (n : Nat) (zs : List Int) (hl : zs.length = n * 2) (hw : ∀ z ∈ zs, (Lit.int .u8 z).wf = true) : ∃ l : List (Int × Int), l.length = n ∧ rowsOf .u8 2 n zs = l.map encP ∧ ∀ e ∈ l, (0 ≤ e.1 ∧ e.1 < 256) ∧ 0 ≤ e.2 ∧ e.2 < 256 := by
  refine ⟨(List.range n).map fun q => ((zs.drop (q * 2)).getD 0 0, (zs.drop (q * 2)).getD 1 0), by simp, ?_, fun e he => ?_⟩
  · rw [rowsOf, List.map_map]
    refine List.map_congr_left fun q hq => ?_
    have := List.mem_range.1 hq
    rw [two_of _ (by rw [List.length_drop]; omega)]
    rfl
  · obtain ⟨q, hq, rfl⟩ := List.mem_map.1 he
    have := List.mem_range.1 hq
    exact ⟨wf_u8 (hw _ (List.mem_of_mem_drop (getD_mem _ 0 (by rw [List.length_drop]; omega)))), wf_u8 (hw _ (List.mem_of_mem_drop (getD_mem _ 1 (by rw [List.length_drop]; omega))))⟩
theorem pStampTime (n : Nat) (zs : List Int) (hn : n ≤ maxLen) (hz : zs.length = n * 2) (hwf : ∀ z ∈ zs, (Lit.int .u8 z).wf = true) : pureI Try.prog prims dx tbl 7 [.list (rowsOf .u8 2 n zs)] = some (.bool true) := by
  obtain ⟨l, hl, hw, hb⟩ := rows_p n zs hz hwf
  rw [pureI_of (rfl : tbl 7 = some c7), hw]
  by_cases g0 : 20 < l.length
  · simp [c7, x_pure, x_skip, x_reg, x_drw, x_seq, x_cond, x_block, x_loop', Tm.keep_nil, x_exit, x_ret, k_seq, k_seq_ret, k_seq_exit, k_seq_none, k_seq_ite, k_cond, k_block, k_block_ret, k_block_exit, k_block_none, k_block_ite, k_iter, k_iter_ret, k_iter_exit, k_iter_none, k_iter_ite, k_reg, k_reg_none, k_reg_ite, x_is_nil, x_is, x_is_g, k_ins, k_ins_none, k_ins_ite, k_grd, x_ord_nil, x_ord, x_ord_g, k_ord, k_ord_none, k_ord_ite, k_ogrd, k_out_ret, k_out, k_out_none, k_out_ite, k_pure, k_pure_none, k_pure_ite, startD, dI, dA, deo, Tm.at, Tm.dst, Tm.set, Tm.put, Tm.keep, dW, dRes, oneOfD, mkTup, mkAgg, mkFn, allF, frL, fr, vD, vD1, vF, vFL, dBin, dEq, dNil, isNilD, dScal, F.cv, eBin, sameKind, eInt, eStr, cellsD, oneD, F.one, dFill, putAtD, chunk, dbnd, dSrc, St.own, St.drop, St.still, St.fresh, chkQ, stillQ, freshQ, lOf, rdOf, rdOK, undefD, F.full, F.fullL, List.mapIdx_cons, strip, allOne_nil, allOne_cons, allOne_append, allLen_nil, allLen_cons, allLen_append, roomOK_small, filterT, y_mv, y_pick, y_new, y_box, y_build, y_bslice, y_ld1, y_ldn, y_nilchk, y_bin, y_not, y_conv, y_bytes, y_string, y_ifc, y_fn, y_cut, y_cuts, y_fa, y_fld, y_ia, y_idx, y_idxs, y_ext, y_len, y_lenstr, y_app, y_grow, y_mks, y_slow, y_call, y_callv, y_inv, y_extc, x_it_st, x_it_clr, x_it_cpy, k_addT, k_addT_none, k_addT_ite, k_orU, k_orU_none, dU, D.turn, turnL, Tm.turn, turnS, St.turn, turnRows_length, qBegun1, show (20 : Int) < l.length by omega]
  · obtain ⟨T', st', hT⟩ := loopT l (by omega) hb l 0 0 0 0 0 0 0 0 0 0 0 [] [] 0 rfl rfl (Nat.zero_le _) (by unfold Tme; omega)
    try simp at hT
    simp [c7, x_pure, x_skip, x_reg, x_drw, x_seq, x_cond, x_block, x_loop', Tm.keep_nil, x_exit, x_ret, k_seq, k_seq_ret, k_seq_exit, k_seq_none, k_seq_ite, k_cond, k_block, k_block_ret, k_block_exit, k_block_none, k_block_ite, k_iter, k_iter_ret, k_iter_exit, k_iter_none, k_iter_ite, k_reg, k_reg_none, k_reg_ite, x_is_nil, x_is, x_is_g, k_ins, k_ins_none, k_ins_ite, k_grd, x_ord_nil, x_ord, x_ord_g, k_ord, k_ord_none, k_ord_ite, k_ogrd, k_out_ret, k_out, k_out_none, k_out_ite, k_pure, k_pure_none, k_pure_ite, startD, dI, dA, deo, Tm.at, Tm.dst, Tm.set, Tm.put, Tm.keep, dW, dRes, oneOfD, mkTup, mkAgg, mkFn, allF, frL, fr, vD, vD1, vF, vFL, dBin, dEq, dNil, isNilD, dScal, F.cv, eBin, sameKind, eInt, eStr, cellsD, oneD, F.one, dFill, putAtD, chunk, dbnd, dSrc, St.own, St.drop, St.still, St.fresh, chkQ, stillQ, freshQ, lOf, rdOf, rdOK, undefD, F.full, F.fullL, List.mapIdx_cons, strip, allOne_nil, allOne_cons, allOne_append, allLen_nil, allLen_cons, allLen_append, roomOK_small, filterT, y_mv, y_pick, y_new, y_box, y_build, y_bslice, y_ld1, y_ldn, y_nilchk, y_bin, y_not, y_conv, y_bytes, y_string, y_ifc, y_fn, y_cut, y_cuts, y_fa, y_fld, y_ia, y_idx, y_idxs, y_ext, y_len, y_lenstr, y_app, y_grow, y_mks, y_slow, y_call, y_callv, y_inv, y_extc, x_it_st, x_it_clr, x_it_cpy, k_addT, k_addT_none, k_addT_ite, k_orU, k_orU_none, dU, D.turn, turnL, Tm.turn, turnS, St.turn, turnRows_length, qBegun1, show ¬ (20 : Int) < l.length by omega, hT]
end Go.Proofs.Ytpinhopgeaamdaa.Pl
