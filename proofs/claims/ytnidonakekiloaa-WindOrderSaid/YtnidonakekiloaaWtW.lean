/-
  What is proved here: all is sent in order, each under its number, never more than so many under way.
  Conditions: none.
-/
import Derived.Test.YtnidonakekiloaaWsW
set_option linter.unusedVariables false
set_option linter.unusedSimpArgs false
set_option maxRecDepth 100000
set_option maxHeartbeats 8000000
namespace Go.Proofs.Ytnidonakekiloaa.Pl
open Go Go.Proofs Go.Proofs.Ev Go.Proofs.Dv Cd

theorem qBegun20 (st : Dv.St) : callI Try.prog prims dx tbl 13 [] st = some (.fz (.bool true), st, []) := callI_iff.2 ⟨60, by kernel_rfl⟩
theorem pNewW : pureI Try.prog prims dx tbl 14 [] = some (.agg (encW ⟨1, 1, [], []⟩)) := by
  rw [pureI_of (rfl : tbl 14 = some c14)]
  simp [c14, x_pure, x_skip, x_reg, x_drw, x_seq, x_cond, x_block, x_loop', Tm.keep_nil, x_exit, x_ret, k_seq, k_seq_ret, k_seq_exit, k_seq_none, k_seq_ite, k_cond, k_block, k_block_ret, k_block_exit, k_block_none, k_block_ite, k_iter, k_iter_ret, k_iter_exit, k_iter_none, k_iter_ite, k_reg, k_reg_none, k_reg_ite, x_is_nil, x_is, x_is_g, k_ins, k_ins_none, k_ins_ite, k_grd, x_ord_nil, x_ord, x_ord_g, k_ord, k_ord_none, k_ord_ite, k_ogrd, k_out_ret, k_out, k_out_none, k_out_ite, k_pure, k_pure_none, k_pure_ite, startD, dI, dA, deo, Tm.at, Tm.dst, Tm.set, Tm.put, Tm.keep, dW, dRes, oneOfD, mkTup, mkAgg, mkFn, allF, frL, fr, vD, vD1, vF, vFL, dBin, dEq, dNil, isNilD, dScal, F.cv, eBin, sameKind, eInt, eStr, cellsD, oneD, F.one, dFill, putAtD, chunk, dbnd, dSrc, St.own, St.drop, St.still, St.fresh, chkQ, stillQ, freshQ, lOf, rdOf, rdOK, undefD, F.full, F.fullL, List.mapIdx_cons, strip, allOne_nil, allOne_cons, allOne_append, allLen_nil, allLen_cons, allLen_append, roomOK_small, filterT, y_mv, y_pick, y_new, y_box, y_build, y_bslice, y_ld1, y_ldn, y_nilchk, y_bin, y_not, y_conv, y_bytes, y_string, y_ifc, y_fn, y_cut, y_cuts, y_fa, y_fld, y_ia, y_idx, y_idxs, y_ext, y_len, y_lenstr, y_app, y_grow, y_mks, y_slow, y_call, y_callv, y_inv, y_extc, x_it_st, x_it_clr, x_it_cpy, k_addT, k_addT_none, k_addT_ite, k_orU, k_orU_none, dU, D.turn, turnL, Tm.turn, turnS, St.turn, turnRows_length, encW]
theorem rNewW (ds : List D) (st : Dv.St) : callI Try.prog prims dx tbl 14 ds st = callR Try.prog prims dx tbl 14 ds st (frL (fr st 6) ds) := callRw rfl rfl (rfl : tbl 14 = some c14) rfl ds st
theorem beqB_self (s : List UInt8) : beqB s s = true := by rw [beqB_eq]; simp
/-- The pieces' numbers and texts. -/
def PostL1 (id : Nat) (f0 : F) (d4 : D) (i : Int) (S : List (Bool × List D)) (L : List Nat) (c : Nat) (r : Option DSt) : Prop := ∃ T', r = some (.exit id, T', ⟨S, L, c⟩) ∧ T'.keep [0, 3, 4, 5] = [(0, .fz f0), (3, .ptr 0 0), (4, d4), (5, .fz (.int .i64 i))]
theorem loopL1 (f0 : F) (i : Int) (w : Wd) (all : List (List UInt8)) (B N : Nat) (g : Good w all B N) (hall : all.length < 10000) (t : Nat) (L : List Nat) (c : Nat) (ht : t ∈ L) : ∀ (m k : Nat) (kz : Int), k + m = N - B → kz = k →
    PostL1 2 f0 (.ow t 0 1 (all.map encT)) i [(true, [.fz (.int .i64 w.base), .fz (.int .i64 w.next), .fz (.list (w.L.map encG)), .fz (.list (w.wait.map encT))])] L c
      (iterI (dCw Try.prog (callI Try.prog prims dx tbl) l4_0) [0, 3, 4, 5, 7] [(0, .fz f0), (3, .ptr 0 0), (4, .ow t 0 1 (all.map encT)), (5, .fz (.int .i64 i)), (7, .fz (.int .i64 kz))] ⟨[(true, [.fz (.int .i64 w.base), .fz (.int .i64 w.next), .fz (.list (w.L.map encG)), .fz (.list (w.wait.map encT))])], L, c⟩) := by
  intro m
  induction m with
  | zero =>
    intro k kz hk hz
    subst hz
    have hl : w.L.length = k := by rw [g.L, mkL_len]; omega
    rw [x_iter]
    simp [u4_0, x_pure, x_skip, x_reg, x_drw, x_seq, x_cond, x_block, x_loop', Tm.keep_nil, x_exit, x_ret, k_seq, k_seq_ret, k_seq_exit, k_seq_none, k_seq_ite, k_cond, k_block, k_block_ret, k_block_exit, k_block_none, k_block_ite, k_iter, k_iter_ret, k_iter_exit, k_iter_none, k_iter_ite, k_reg, k_reg_none, k_reg_ite, x_is_nil, x_is, x_is_g, k_ins, k_ins_none, k_ins_ite, k_grd, x_ord_nil, x_ord, x_ord_g, k_ord, k_ord_none, k_ord_ite, k_ogrd, k_out_ret, k_out, k_out_none, k_out_ite, k_pure, k_pure_none, k_pure_ite, startD, dI, dA, deo, Tm.at, Tm.dst, Tm.set, Tm.put, Tm.keep, dW, dRes, oneOfD, mkTup, mkAgg, mkFn, allF, frL, fr, vD, vD1, vF, vFL, dBin, dEq, dNil, isNilD, dScal, F.cv, eBin, sameKind, eInt, eStr, cellsD, oneD, F.one, dFill, putAtD, chunk, dbnd, dSrc, St.own, St.drop, St.still, St.fresh, chkQ, stillQ, freshQ, lOf, rdOf, rdOK, undefD, F.full, F.fullL, List.mapIdx_cons, strip, allOne_nil, allOne_cons, allOne_append, allLen_nil, allLen_cons, allLen_append, roomOK_small, filterT, y_mv, y_pick, y_new, y_box, y_build, y_bslice, y_ld1, y_ldn, y_nilchk, y_bin, y_not, y_conv, y_bytes, y_string, y_ifc, y_fn, y_cut, y_cuts, y_fa, y_fld, y_ia, y_idx, y_idxs, y_ext, y_len, y_lenstr, y_app, y_grow, y_mks, y_slow, y_call, y_callv, y_inv, y_extc, x_it_st, x_it_clr, x_it_cpy, k_addT, k_addT_none, k_addT_ite, k_orU, k_orU_none, dU, D.turn, turnL, Tm.turn, turnS, St.turn, turnRows_length, hl]
    exact ⟨_, rfl, by simp [Tm.keep]⟩
  | succ m ih =>
    intro k kz hk hz
    subst hz
    have hN := g.na
    have hlen : w.L.length = N - B := by rw [g.L, mkL_len]
    have hkl : k < w.L.length := by omega
    have hka : B + k < all.length := by omega
    have hget : w.L[k] = ⟨((B + k : Nat) : Int) + 1, all[B + k]⟩ := by
      have h1 : w.L[k]? = some ⟨((B + k : Nat) : Int) + 1, all.getD (B + k) []⟩ := by rw [g.L]; exact mkL_get all B (N - B) k (by omega)
      rw [List.getElem?_eq_getElem hkl, List.getD_eq_getElem?_getD, List.getElem?_eq_getElem hka] at h1
      exact Option.some.inj h1
    have hb := g.base
    have hk1 : (k : Int) + 1 = ((k + 1 : Nat) : Int) := by omega
    have hkm : (k + 1) + m = N - B := by omega
    have e1 : ((B + k : Nat) : Int) + 1 = w.base + (k : Int) := by omega
    have e2 : ¬ ((B + k : Nat) : Int) + 1 < 1 := by omega
    have e3 : ¬ (all.length : Int) < ((B + k : Nat) : Int) + 1 := by omega
    have e4 : ((B + k : Nat) : Int) + 1 - 1 = ((B + k : Nat) : Int) := by omega
    obtain ⟨n, hn⟩ : ∃ n : Int, n = ((B + k : Nat) : Int) + 1 := ⟨_, rfl⟩
    rw [← hn] at hget e1 e2 e3 e4
    have w1 : wrapF .i64 (w.base + (k : Int)) = w.base + (k : Int) := wrap_id _ (by omega) (by omega)
    have w2 : wrapF .i64 (n - 1) = ((B + k : Nat) : Int) := by rw [e4]; exact wrap_id _ (by omega) (by omega)
    have w3 : wrapF .i64 ((k : Int) + 1) = (k : Int) + 1 := wrap_id _ (by omega) (by omega)
    have hjb : (all.map encT)[B + k]? = some [.str all[B + k]] := by simp [encT, hka]
    have hp := ih (k + 1) _ hkm rfl
    rw [← hk1] at hp
    generalize all[B + k] = tx at hget hjb
    generalize hj : B + k = j at w2 hjb hka
    rw [x_iter]
    simp only [e1] at hget e2 e3 w2
    simp [u4_0, x_pure, x_skip, x_reg, x_drw, x_seq, x_cond, x_block, x_loop', Tm.keep_nil, x_exit, x_ret, k_seq, k_seq_ret, k_seq_exit, k_seq_none, k_seq_ite, k_cond, k_block, k_block_ret, k_block_exit, k_block_none, k_block_ite, k_iter, k_iter_ret, k_iter_exit, k_iter_none, k_iter_ite, k_reg, k_reg_none, k_reg_ite, x_is_nil, x_is, x_is_g, k_ins, k_ins_none, k_ins_ite, k_grd, x_ord_nil, x_ord, x_ord_g, k_ord, k_ord_none, k_ord_ite, k_ogrd, k_out_ret, k_out, k_out_none, k_out_ite, k_pure, k_pure_none, k_pure_ite, startD, dI, dA, deo, Tm.at, Tm.dst, Tm.set, Tm.put, Tm.keep, dW, dRes, oneOfD, mkTup, mkAgg, mkFn, allF, frL, fr, vD, vD1, vF, vFL, dBin, dEq, dNil, isNilD, dScal, F.cv, eBin, sameKind, eInt, eStr, cellsD, oneD, F.one, dFill, putAtD, chunk, dbnd, dSrc, St.own, St.drop, St.still, St.fresh, chkQ, stillQ, freshQ, lOf, rdOf, rdOK, undefD, F.full, F.fullL, List.mapIdx_cons, strip, allOne_nil, allOne_cons, allOne_append, allLen_nil, allLen_cons, allLen_append, roomOK_small, filterT, y_mv, y_pick, y_new, y_box, y_build, y_bslice, y_ld1, y_ldn, y_nilchk, y_bin, y_not, y_conv, y_bytes, y_string, y_ifc, y_fn, y_cut, y_cuts, y_fa, y_fld, y_ia, y_idx, y_idxs, y_ext, y_len, y_lenstr, y_app, y_grow, y_mks, y_slow, y_call, y_callv, y_inv, y_extc, x_it_st, x_it_clr, x_it_cpy, k_addT, k_addT_none, k_addT_ite, k_orU, k_orU_none, dU, D.turn, turnL, Tm.turn, turnS, St.turn, turnRows_length, hkl, hget, encG, ht, w1, w2, e2, e3, hjb, beqB_self, w3]
    exact hp
theorem loopL2 (f0 : F) (i : Int) (w : Wd) (all : List (List UInt8)) (B N : Nat) (g : Good w all B N) (hall : all.length < 10000) (t : Nat) (L : List Nat) (c : Nat) (ht : t ∈ L) : ∀ (m k : Nat) (kz : Int), k + m = all.length - N → kz = k →
    PostL1 4 f0 (.ow t 0 1 (all.map encT)) i [(true, [.fz (.int .i64 w.base), .fz (.int .i64 w.next), .fz (.list (w.L.map encG)), .fz (.list (w.wait.map encT))])] L c
      (iterI (dCw Try.prog (callI Try.prog prims dx tbl) l4_1) [0, 3, 4, 5, 9] [(0, .fz f0), (3, .ptr 0 0), (4, .ow t 0 1 (all.map encT)), (5, .fz (.int .i64 i)), (9, .fz (.int .i64 kz))] ⟨[(true, [.fz (.int .i64 w.base), .fz (.int .i64 w.next), .fz (.list (w.L.map encG)), .fz (.list (w.wait.map encT))])], L, c⟩) := by
  intro m
  induction m with
  | zero =>
    intro k kz hk hz
    subst hz
    have hl : w.wait.length = k := by rw [g.wait]; simp; omega
    rw [x_iter]
    simp [u4_1, x_pure, x_skip, x_reg, x_drw, x_seq, x_cond, x_block, x_loop', Tm.keep_nil, x_exit, x_ret, k_seq, k_seq_ret, k_seq_exit, k_seq_none, k_seq_ite, k_cond, k_block, k_block_ret, k_block_exit, k_block_none, k_block_ite, k_iter, k_iter_ret, k_iter_exit, k_iter_none, k_iter_ite, k_reg, k_reg_none, k_reg_ite, x_is_nil, x_is, x_is_g, k_ins, k_ins_none, k_ins_ite, k_grd, x_ord_nil, x_ord, x_ord_g, k_ord, k_ord_none, k_ord_ite, k_ogrd, k_out_ret, k_out, k_out_none, k_out_ite, k_pure, k_pure_none, k_pure_ite, startD, dI, dA, deo, Tm.at, Tm.dst, Tm.set, Tm.put, Tm.keep, dW, dRes, oneOfD, mkTup, mkAgg, mkFn, allF, frL, fr, vD, vD1, vF, vFL, dBin, dEq, dNil, isNilD, dScal, F.cv, eBin, sameKind, eInt, eStr, cellsD, oneD, F.one, dFill, putAtD, chunk, dbnd, dSrc, St.own, St.drop, St.still, St.fresh, chkQ, stillQ, freshQ, lOf, rdOf, rdOK, undefD, F.full, F.fullL, List.mapIdx_cons, strip, allOne_nil, allOne_cons, allOne_append, allLen_nil, allLen_cons, allLen_append, roomOK_small, filterT, y_mv, y_pick, y_new, y_box, y_build, y_bslice, y_ld1, y_ldn, y_nilchk, y_bin, y_not, y_conv, y_bytes, y_string, y_ifc, y_fn, y_cut, y_cuts, y_fa, y_fld, y_ia, y_idx, y_idxs, y_ext, y_len, y_lenstr, y_app, y_grow, y_mks, y_slow, y_call, y_callv, y_inv, y_extc, x_it_st, x_it_clr, x_it_cpy, k_addT, k_addT_none, k_addT_ite, k_orU, k_orU_none, dU, D.turn, turnL, Tm.turn, turnS, St.turn, turnRows_length, hl]
    exact ⟨_, rfl, by simp [Tm.keep]⟩
  | succ m ih =>
    intro k kz hk hz
    subst hz
    have hN := g.na
    have hlen : w.wait.length = all.length - N := by rw [g.wait]; simp
    have hkl : k < w.wait.length := by omega
    have hka : N + k < all.length := by omega
    have hget : w.wait[k] = all[N + k] := by
      have h1 : w.wait[k]? = all[N + k]? := by rw [g.wait, List.getElem?_drop]
      rw [List.getElem?_eq_getElem hkl, List.getElem?_eq_getElem hka] at h1
      exact Option.some.inj h1
    have hb := g.next
    have hk1 : (k : Int) + 1 = ((k + 1 : Nat) : Int) := by omega
    have hkm : (k + 1) + m = all.length - N := by omega
    have w1 : wrapF .i64 (w.next - 1) = (N : Int) := by
      rw [show w.next - 1 = (N : Int) by omega]
      exact wrap_id _ (by omega) (by omega)
    have w2 : wrapF .i64 ((N : Int) + (k : Int)) = ((N + k : Nat) : Int) := by
      rw [show (N : Int) + (k : Int) = ((N + k : Nat) : Int) by omega]
      exact wrap_id _ (by omega) (by omega)
    have w3 : wrapF .i64 ((k : Int) + 1) = (k : Int) + 1 := wrap_id _ (by omega) (by omega)
    have hjb : all[N + k]? = some all[N + k] := List.getElem?_eq_getElem hka
    have hp := ih (k + 1) _ hkm rfl
    rw [← hk1] at hp
    generalize all[N + k] = tx at hget hjb
    generalize hj : N + k = j at w2 hjb hka
    rw [x_iter]
    simp [u4_1, x_pure, x_skip, x_reg, x_drw, x_seq, x_cond, x_block, x_loop', Tm.keep_nil, x_exit, x_ret, k_seq, k_seq_ret, k_seq_exit, k_seq_none, k_seq_ite, k_cond, k_block, k_block_ret, k_block_exit, k_block_none, k_block_ite, k_iter, k_iter_ret, k_iter_exit, k_iter_none, k_iter_ite, k_reg, k_reg_none, k_reg_ite, x_is_nil, x_is, x_is_g, k_ins, k_ins_none, k_ins_ite, k_grd, x_ord_nil, x_ord, x_ord_g, k_ord, k_ord_none, k_ord_ite, k_ogrd, k_out_ret, k_out, k_out_none, k_out_ite, k_pure, k_pure_none, k_pure_ite, startD, dI, dA, deo, Tm.at, Tm.dst, Tm.set, Tm.put, Tm.keep, dW, dRes, oneOfD, mkTup, mkAgg, mkFn, allF, frL, fr, vD, vD1, vF, vFL, dBin, dEq, dNil, isNilD, dScal, F.cv, eBin, sameKind, eInt, eStr, cellsD, oneD, F.one, dFill, putAtD, chunk, dbnd, dSrc, St.own, St.drop, St.still, St.fresh, chkQ, stillQ, freshQ, lOf, rdOf, rdOK, undefD, F.full, F.fullL, List.mapIdx_cons, strip, allOne_nil, allOne_cons, allOne_append, allLen_nil, allLen_cons, allLen_append, roomOK_small, filterT, y_mv, y_pick, y_new, y_box, y_build, y_bslice, y_ld1, y_ldn, y_nilchk, y_bin, y_not, y_conv, y_bytes, y_string, y_ifc, y_fn, y_cut, y_cuts, y_fa, y_fld, y_ia, y_idx, y_idxs, y_ext, y_len, y_lenstr, y_app, y_grow, y_mks, y_slow, y_call, y_callv, y_inv, y_extc, x_it_st, x_it_clr, x_it_cpy, k_addT, k_addT_none, k_addT_ite, k_orU, k_orU_none, dU, D.turn, turnL, Tm.turn, turnS, St.turn, turnRows_length, hkl, hget, encT, ht, w1, w2, hjb, beqB_self, w3]
    exact hp
theorem loopZ1 (f0 : F) (i : Int) (w : Wd) (h : w.L.length = 0) (d4 : D) (L : List Nat) (c : Nat) :
    PostL1 2 f0 d4 i [(true, [.fz (.int .i64 w.base), .fz (.int .i64 w.next), .fz (.list (w.L.map encG)), .fz (.list (w.wait.map encT))])] L c
      (iterI (dCw Try.prog (callI Try.prog prims dx tbl) l4_0) [0, 3, 4, 5, 7] [(0, .fz f0), (3, .ptr 0 0), (4, d4), (5, .fz (.int .i64 i)), (7, .fz (.int .i64 0))] ⟨[(true, [.fz (.int .i64 w.base), .fz (.int .i64 w.next), .fz (.list (w.L.map encG)), .fz (.list (w.wait.map encT))])], L, c⟩) := by
  rw [x_iter]
  simp [u4_0, x_pure, x_skip, x_reg, x_drw, x_seq, x_cond, x_block, x_loop', Tm.keep_nil, x_exit, x_ret, k_seq, k_seq_ret, k_seq_exit, k_seq_none, k_seq_ite, k_cond, k_block, k_block_ret, k_block_exit, k_block_none, k_block_ite, k_iter, k_iter_ret, k_iter_exit, k_iter_none, k_iter_ite, k_reg, k_reg_none, k_reg_ite, x_is_nil, x_is, x_is_g, k_ins, k_ins_none, k_ins_ite, k_grd, x_ord_nil, x_ord, x_ord_g, k_ord, k_ord_none, k_ord_ite, k_ogrd, k_out_ret, k_out, k_out_none, k_out_ite, k_pure, k_pure_none, k_pure_ite, startD, dI, dA, deo, Tm.at, Tm.dst, Tm.set, Tm.put, Tm.keep, dW, dRes, oneOfD, mkTup, mkAgg, mkFn, allF, frL, fr, vD, vD1, vF, vFL, dBin, dEq, dNil, isNilD, dScal, F.cv, eBin, sameKind, eInt, eStr, cellsD, oneD, F.one, dFill, putAtD, chunk, dbnd, dSrc, St.own, St.drop, St.still, St.fresh, chkQ, stillQ, freshQ, lOf, rdOf, rdOK, undefD, F.full, F.fullL, List.mapIdx_cons, strip, allOne_nil, allOne_cons, allOne_append, allLen_nil, allLen_cons, allLen_append, roomOK_small, filterT, y_mv, y_pick, y_new, y_box, y_build, y_bslice, y_ld1, y_ldn, y_nilchk, y_bin, y_not, y_conv, y_bytes, y_string, y_ifc, y_fn, y_cut, y_cuts, y_fa, y_fld, y_ia, y_idx, y_idxs, y_ext, y_len, y_lenstr, y_app, y_grow, y_mks, y_slow, y_call, y_callv, y_inv, y_extc, x_it_st, x_it_clr, x_it_cpy, k_addT, k_addT_none, k_addT_ite, k_orU, k_orU_none, dU, D.turn, turnL, Tm.turn, turnS, St.turn, turnRows_length, h]
  exact ⟨_, rfl, by simp [Tm.keep]⟩
theorem loopZ2 (f0 : F) (i : Int) (w : Wd) (h : w.wait.length = 0) (d4 : D) (L : List Nat) (c : Nat) :
    PostL1 4 f0 d4 i [(true, [.fz (.int .i64 w.base), .fz (.int .i64 w.next), .fz (.list (w.L.map encG)), .fz (.list (w.wait.map encT))])] L c
      (iterI (dCw Try.prog (callI Try.prog prims dx tbl) l4_1) [0, 3, 4, 5, 9] [(0, .fz f0), (3, .ptr 0 0), (4, d4), (5, .fz (.int .i64 i)), (9, .fz (.int .i64 0))] ⟨[(true, [.fz (.int .i64 w.base), .fz (.int .i64 w.next), .fz (.list (w.L.map encG)), .fz (.list (w.wait.map encT))])], L, c⟩) := by
  rw [x_iter]
  simp [u4_1, x_pure, x_skip, x_reg, x_drw, x_seq, x_cond, x_block, x_loop', Tm.keep_nil, x_exit, x_ret, k_seq, k_seq_ret, k_seq_exit, k_seq_none, k_seq_ite, k_cond, k_block, k_block_ret, k_block_exit, k_block_none, k_block_ite, k_iter, k_iter_ret, k_iter_exit, k_iter_none, k_iter_ite, k_reg, k_reg_none, k_reg_ite, x_is_nil, x_is, x_is_g, k_ins, k_ins_none, k_ins_ite, k_grd, x_ord_nil, x_ord, x_ord_g, k_ord, k_ord_none, k_ord_ite, k_ogrd, k_out_ret, k_out, k_out_none, k_out_ite, k_pure, k_pure_none, k_pure_ite, startD, dI, dA, deo, Tm.at, Tm.dst, Tm.set, Tm.put, Tm.keep, dW, dRes, oneOfD, mkTup, mkAgg, mkFn, allF, frL, fr, vD, vD1, vF, vFL, dBin, dEq, dNil, isNilD, dScal, F.cv, eBin, sameKind, eInt, eStr, cellsD, oneD, F.one, dFill, putAtD, chunk, dbnd, dSrc, St.own, St.drop, St.still, St.fresh, chkQ, stillQ, freshQ, lOf, rdOf, rdOK, undefD, F.full, F.fullL, List.mapIdx_cons, strip, allOne_nil, allOne_cons, allOne_append, allLen_nil, allLen_cons, allLen_append, roomOK_small, filterT, y_mv, y_pick, y_new, y_box, y_build, y_bslice, y_ld1, y_ldn, y_nilchk, y_bin, y_not, y_conv, y_bytes, y_string, y_ifc, y_fn, y_cut, y_cuts, y_fa, y_fld, y_ia, y_idx, y_idxs, y_ext, y_len, y_lenstr, y_app, y_grow, y_mks, y_slow, y_call, y_callv, y_inv, y_extc, x_it_st, x_it_clr, x_it_cpy, k_addT, k_addT_none, k_addT_ite, k_orU, k_orU_none, dU, D.turn, turnL, Tm.turn, turnS, St.turn, turnRows_length, h]
  exact ⟨_, rfl, by simp [Tm.keep]⟩
def PostL3 (r : Option DSt) : Prop := ∃ T' st', r = some (.exit 0, T', st')
def AllD (all : List (List UInt8)) (L : List Nat) (d : D) : Prop := (all = [] ∧ d = .nils) ∨ ∃ t, t ∈ L ∧ d = .ow t 0 1 (all.map encT)
theorem loopL3 (l : List Int) (hl : l.length ≤ 60) (hb : ∀ z ∈ l, 0 ≤ z ∧ z < 256) : ∀ (r : List Int) (i : Nat) (iz : Int) (w : Wd) (all : List (List UInt8)) (B N : Nat) (d : D) (L : List Nat) (c : Nat), iz = i → l.drop i = r → i ≤ l.length → Good w all B N → all.length ≤ i → AllD all L d →
    PostL3 (iterI (dCw Try.prog (callI Try.prog prims dx tbl) l4_2) [0, 3, 4, 5] [(0, .fz (.list (l.map fun z => [.int .u8 z]))), (3, .ptr 0 0), (4, d), (5, .fz (.int .i64 iz))] ⟨[(true, [.fz (.int .i64 w.base), .fz (.int .i64 w.next), .fz (.list (w.L.map encG)), .fz (.list (w.wait.map encT))])], L, c⟩) := by
  intro r
  induction r with
  | nil =>
    intro i iz w all B N d L c hz hd hi g hal ho
    have hi' := drop_nil hd hi
    subst hi' hz
    rw [x_iter]
    simp [u4_2, x_pure, x_skip, x_reg, x_drw, x_seq, x_cond, x_block, x_loop', Tm.keep_nil, x_exit, x_ret, k_seq, k_seq_ret, k_seq_exit, k_seq_none, k_seq_ite, k_cond, k_block, k_block_ret, k_block_exit, k_block_none, k_block_ite, k_iter, k_iter_ret, k_iter_exit, k_iter_none, k_iter_ite, k_reg, k_reg_none, k_reg_ite, x_is_nil, x_is, x_is_g, k_ins, k_ins_none, k_ins_ite, k_grd, x_ord_nil, x_ord, x_ord_g, k_ord, k_ord_none, k_ord_ite, k_ogrd, k_out_ret, k_out, k_out_none, k_out_ite, k_pure, k_pure_none, k_pure_ite, startD, dI, dA, deo, Tm.at, Tm.dst, Tm.set, Tm.put, Tm.keep, dW, dRes, oneOfD, mkTup, mkAgg, mkFn, allF, frL, fr, vD, vD1, vF, vFL, dBin, dEq, dNil, isNilD, dScal, F.cv, eBin, sameKind, eInt, eStr, cellsD, oneD, F.one, dFill, putAtD, chunk, dbnd, dSrc, St.own, St.drop, St.still, St.fresh, chkQ, stillQ, freshQ, lOf, rdOf, rdOK, undefD, F.full, F.fullL, List.mapIdx_cons, strip, allOne_nil, allOne_cons, allOne_append, allLen_nil, allLen_cons, allLen_append, roomOK_small, filterT, y_mv, y_pick, y_new, y_box, y_build, y_bslice, y_ld1, y_ldn, y_nilchk, y_bin, y_not, y_conv, y_bytes, y_string, y_ifc, y_fn, y_cut, y_cuts, y_fa, y_fld, y_ia, y_idx, y_idxs, y_ext, y_len, y_lenstr, y_app, y_grow, y_mks, y_slow, y_call, y_callv, y_inv, y_extc, x_it_st, x_it_clr, x_it_cpy, k_addT, k_addT_none, k_addT_ite, k_orU, k_orU_none, dU, D.turn, turnL, Tm.turn, turnS, St.turn, turnRows_length]
    exact ⟨_, _, rfl⟩
  | cons a r ih =>
    intro i iz w all B N d L c hz hd hi g hal ho
    subst hz
    obtain ⟨hlt, hli, hd'⟩ := drop_cons hd
    have ha := hb a (by rw [← hli]; exact List.getElem_mem hlt)
    have hi1 : (i : Int) + 1 = ((i + 1 : Nat) : Int) := by omega
    -- behind the deed: what is asked
    have ask : ∀ (v : Wd) (all' : List (List UInt8)) (B' N' : Nat), Good v all' B' N' → all'.length ≤ i + 1 → v.L.length = N' - B' ∧ v.wait.length = all'.length - N' ∧ wrapF .i64 (v.next - v.base) = (v.L.length : Nat) ∧ ¬ 4 < v.L.length ∧ wrapF .i64 (wrapF .i64 (v.next - 1) + (v.wait.length : Nat)) = (all'.length : Nat) ∧ (0 < v.wait.length → ¬ v.L.length < 4) := by
      intro v all' B' N' g' h'
      have k1 : v.L.length = N' - B' := by rw [g'.L, mkL_len]
      have k2 : v.wait.length = all'.length - N' := by rw [g'.wait]; simp
      have b1 := g'.base
      have b2 := g'.next
      have b3 := g'.bn
      have b4 := g'.n4
      have b5 := g'.na
      refine ⟨k1, k2, ?_, by omega, ?_, fun h => by have := g'.full (by omega); omega⟩
      · rw [show v.next - v.base = ((v.L.length : Nat) : Int) by omega]
        exact wrap_id _ (by omega) (by omega)
      · rw [show v.next - 1 = (N' : Int) by omega, wrap_id (N' : Int) (by omega) (by omega), show (N' : Int) + (v.wait.length : Nat) = (all'.length : Nat) by omega]
        exact wrap_id _ (by omega) (by omega)
    have w3 : wrapF .i64 ((i : Int) + 1) = (i : Int) + 1 := wrap_id _ (by omega) (by omega)
    by_cases h3 : 0 < a.tmod 3
    · obtain ⟨s, hs⟩ : ∃ s, bytesF [[.int .u8 (wrapF .u8 (97 + a.tmod 26))], [.int .u8 (wrapF .u8 (wrapF .i64 (97 + (i : Int).tmod 26)))]] = some s := ⟨_, rfl⟩
      have hp := pSend w 200 (by omega) (g.ok (by omega) (by omega)) s
      obtain ⟨N', g'⟩ := g.send s
      have hal' : (all ++ [s]).length ≤ i + 1 := by simp; omega
      obtain ⟨k1, k2, k3, k4, k5, k6⟩ := ask (sendW w s) (all ++ [s]) B N' g' hal'
      have o1 := (encT_ok all).1
      have r1 : roomOK 16 (all.length + 1) := roomOK_small (by omega) (by omega)
      have hla : (all ++ [s]).length = all.length + 1 := by simp
      rw [hla] at k5
      generalize hv : sendW w s = v at hp g' k1 k2 k3 k4 k5 k6
      rw [encW, encW] at hp
      rcases ho with ⟨rfl, rfl⟩ | ⟨t, ht, rfl⟩
      · obtain ⟨T1, j1, j2⟩ := loopL1 (.list (l.map fun z => [.int .u8 z])) i v ([] ++ [s]) B N' g' (by simp) (c + 1 + 1) ((c + 1 + 1) :: (c + 1) :: c :: L) (c + 1 + 1 + 1) (by simp) (N' - B) 0 0 (by omega) rfl
        obtain ⟨T2, j3, j4⟩ := loopL2 (.list (l.map fun z => [.int .u8 z])) i v ([] ++ [s]) B N' g' (by simp) (c + 1 + 1) ((c + 1 + 1) :: (c + 1) :: c :: L) (c + 1 + 1 + 1) (by simp) (([] ++ [s]).length - N') 0 0 (by omega) rfl
        have hn := ih (i + 1) _ v ([] ++ [s]) B N' (.ow (c + 1 + 1) 0 1 (([] ++ [s]).map encT)) ((c + 1 + 1) :: (c + 1) :: c :: L) (c + 1 + 1 + 1) rfl hd' hlt g' hal' (.inr ⟨_, by simp, rfl⟩)
        rw [← hi1] at hn
        simp [encT] at j1 j2 j3 j4 hn
        rw [x_iter]
        have k4i : ¬ (4 : Int) < (v.L.length : Int) := by omega
        have k4j : (v.L.length : Int) ≤ 4 := by omega
        by_cases hw : 0 < v.wait.length
        · have k7 := k6 hw
          have k7i : ¬ (v.L.length : Int) < 4 := by omega
          have hwi : (0 : Int) < (v.wait.length : Int) := by omega
          simp [u4_2, x_pure, x_skip, x_reg, x_drw, x_seq, x_cond, x_block, x_loop', Tm.keep_nil, x_exit, x_ret, k_seq, k_seq_ret, k_seq_exit, k_seq_none, k_seq_ite, k_cond, k_block, k_block_ret, k_block_exit, k_block_none, k_block_ite, k_iter, k_iter_ret, k_iter_exit, k_iter_none, k_iter_ite, k_reg, k_reg_none, k_reg_ite, x_is_nil, x_is, x_is_g, k_ins, k_ins_none, k_ins_ite, k_grd, x_ord_nil, x_ord, x_ord_g, k_ord, k_ord_none, k_ord_ite, k_ogrd, k_out_ret, k_out, k_out_none, k_out_ite, k_pure, k_pure_none, k_pure_ite, startD, dI, dA, deo, Tm.at, Tm.dst, Tm.set, Tm.put, Tm.keep, dW, dRes, oneOfD, mkTup, mkAgg, mkFn, allF, frL, fr, vD, vD1, vF, vFL, dBin, dEq, dNil, isNilD, dScal, F.cv, eBin, sameKind, eInt, eStr, cellsD, oneD, F.one, dFill, putAtD, chunk, dbnd, dSrc, St.own, St.drop, St.still, St.fresh, chkQ, stillQ, freshQ, lOf, rdOf, rdOK, undefD, F.full, F.fullL, List.mapIdx_cons, strip, allOne_nil, allOne_cons, allOne_append, allLen_nil, allLen_cons, allLen_append, roomOK_small, filterT, y_mv, y_pick, y_new, y_box, y_build, y_bslice, y_ld1, y_ldn, y_nilchk, y_bin, y_not, y_conv, y_bytes, y_string, y_ifc, y_fn, y_cut, y_cuts, y_fa, y_fld, y_ia, y_idx, y_idxs, y_ext, y_len, y_lenstr, y_app, y_grow, y_mks, y_slow, y_call, y_callv, y_inv, y_extc, x_it_st, x_it_clr, x_it_cpy, k_addT, k_addT_none, k_addT_ite, k_orU, k_orU_none, dU, D.turn, turnL, Tm.turn, turnS, St.turn, turnRows_length, hlt, hli, h3, hs, rSend, callR, hp, encT, k3, k4, k4i, k4j, k5, hw, hwi, k7, k7i, j1, j2, j3, j4, w3]
          exact hn
        · have hwi : ¬ (0 : Int) < (v.wait.length : Int) := by omega
          simp [u4_2, x_pure, x_skip, x_reg, x_drw, x_seq, x_cond, x_block, x_loop', Tm.keep_nil, x_exit, x_ret, k_seq, k_seq_ret, k_seq_exit, k_seq_none, k_seq_ite, k_cond, k_block, k_block_ret, k_block_exit, k_block_none, k_block_ite, k_iter, k_iter_ret, k_iter_exit, k_iter_none, k_iter_ite, k_reg, k_reg_none, k_reg_ite, x_is_nil, x_is, x_is_g, k_ins, k_ins_none, k_ins_ite, k_grd, x_ord_nil, x_ord, x_ord_g, k_ord, k_ord_none, k_ord_ite, k_ogrd, k_out_ret, k_out, k_out_none, k_out_ite, k_pure, k_pure_none, k_pure_ite, startD, dI, dA, deo, Tm.at, Tm.dst, Tm.set, Tm.put, Tm.keep, dW, dRes, oneOfD, mkTup, mkAgg, mkFn, allF, frL, fr, vD, vD1, vF, vFL, dBin, dEq, dNil, isNilD, dScal, F.cv, eBin, sameKind, eInt, eStr, cellsD, oneD, F.one, dFill, putAtD, chunk, dbnd, dSrc, St.own, St.drop, St.still, St.fresh, chkQ, stillQ, freshQ, lOf, rdOf, rdOK, undefD, F.full, F.fullL, List.mapIdx_cons, strip, allOne_nil, allOne_cons, allOne_append, allLen_nil, allLen_cons, allLen_append, roomOK_small, filterT, y_mv, y_pick, y_new, y_box, y_build, y_bslice, y_ld1, y_ldn, y_nilchk, y_bin, y_not, y_conv, y_bytes, y_string, y_ifc, y_fn, y_cut, y_cuts, y_fa, y_fld, y_ia, y_idx, y_idxs, y_ext, y_len, y_lenstr, y_app, y_grow, y_mks, y_slow, y_call, y_callv, y_inv, y_extc, x_it_st, x_it_clr, x_it_cpy, k_addT, k_addT_none, k_addT_ite, k_orU, k_orU_none, dU, D.turn, turnL, Tm.turn, turnS, St.turn, turnRows_length, hlt, hli, h3, hs, rSend, callR, hp, encT, k3, k4, k4i, k4j, k5, hw, hwi, j1, j2, j3, j4, w3]
          exact hn
      · have hmem : (c + 1 + 1) ∈ (c + 1 + 1) :: List.filter (fun q => !decide (q = t)) ((c + 1) :: c :: L) := by simp
        obtain ⟨T1, j1, j2⟩ := loopL1 (.list (l.map fun z => [.int .u8 z])) i v (all ++ [s]) B N' g' (by simp; omega) (c + 1 + 1) _ (c + 1 + 1 + 1) hmem (N' - B) 0 0 (by omega) rfl
        obtain ⟨T2, j3, j4⟩ := loopL2 (.list (l.map fun z => [.int .u8 z])) i v (all ++ [s]) B N' g' (by simp; omega) (c + 1 + 1) _ (c + 1 + 1 + 1) hmem ((all ++ [s]).length - N') 0 0 (by have := g'.na; omega) rfl
        have hn := ih (i + 1) _ v (all ++ [s]) B N' (.ow (c + 1 + 1) 0 1 ((all ++ [s]).map encT)) _ (c + 1 + 1 + 1) rfl hd' hlt g' hal' (.inr ⟨_, hmem, rfl⟩)
        rw [← hi1] at hn
        simp [encT] at j1 j2 j3 j4 hn o1
        rw [x_iter]
        have k4i : ¬ (4 : Int) < (v.L.length : Int) := by omega
        have k4j : (v.L.length : Int) ≤ 4 := by omega
        by_cases hw : 0 < v.wait.length
        · have k7 := k6 hw
          have k7i : ¬ (v.L.length : Int) < 4 := by omega
          have hwi : (0 : Int) < (v.wait.length : Int) := by omega
          simp [u4_2, x_pure, x_skip, x_reg, x_drw, x_seq, x_cond, x_block, x_loop', Tm.keep_nil, x_exit, x_ret, k_seq, k_seq_ret, k_seq_exit, k_seq_none, k_seq_ite, k_cond, k_block, k_block_ret, k_block_exit, k_block_none, k_block_ite, k_iter, k_iter_ret, k_iter_exit, k_iter_none, k_iter_ite, k_reg, k_reg_none, k_reg_ite, x_is_nil, x_is, x_is_g, k_ins, k_ins_none, k_ins_ite, k_grd, x_ord_nil, x_ord, x_ord_g, k_ord, k_ord_none, k_ord_ite, k_ogrd, k_out_ret, k_out, k_out_none, k_out_ite, k_pure, k_pure_none, k_pure_ite, startD, dI, dA, deo, Tm.at, Tm.dst, Tm.set, Tm.put, Tm.keep, dW, dRes, oneOfD, mkTup, mkAgg, mkFn, allF, frL, fr, vD, vD1, vF, vFL, dBin, dEq, dNil, isNilD, dScal, F.cv, eBin, sameKind, eInt, eStr, cellsD, oneD, F.one, dFill, putAtD, chunk, dbnd, dSrc, St.own, St.drop, St.still, St.fresh, chkQ, stillQ, freshQ, lOf, rdOf, rdOK, undefD, F.full, F.fullL, List.mapIdx_cons, strip, allOne_nil, allOne_cons, allOne_append, allLen_nil, allLen_cons, allLen_append, roomOK_small, filterT, y_mv, y_pick, y_new, y_box, y_build, y_bslice, y_ld1, y_ldn, y_nilchk, y_bin, y_not, y_conv, y_bytes, y_string, y_ifc, y_fn, y_cut, y_cuts, y_fa, y_fld, y_ia, y_idx, y_idxs, y_ext, y_len, y_lenstr, y_app, y_grow, y_mks, y_slow, y_call, y_callv, y_inv, y_extc, x_it_st, x_it_clr, x_it_cpy, k_addT, k_addT_none, k_addT_ite, k_orU, k_orU_none, dU, D.turn, turnL, Tm.turn, turnS, St.turn, turnRows_length, hlt, hli, h3, hs, rSend, callR, hp, encT, ht, o1, r1, k3, k4, k4i, k4j, k5, hw, hwi, k7, k7i, j1, j2, j3, j4, w3]
          exact hn
        · have hwi : ¬ (0 : Int) < (v.wait.length : Int) := by omega
          simp [u4_2, x_pure, x_skip, x_reg, x_drw, x_seq, x_cond, x_block, x_loop', Tm.keep_nil, x_exit, x_ret, k_seq, k_seq_ret, k_seq_exit, k_seq_none, k_seq_ite, k_cond, k_block, k_block_ret, k_block_exit, k_block_none, k_block_ite, k_iter, k_iter_ret, k_iter_exit, k_iter_none, k_iter_ite, k_reg, k_reg_none, k_reg_ite, x_is_nil, x_is, x_is_g, k_ins, k_ins_none, k_ins_ite, k_grd, x_ord_nil, x_ord, x_ord_g, k_ord, k_ord_none, k_ord_ite, k_ogrd, k_out_ret, k_out, k_out_none, k_out_ite, k_pure, k_pure_none, k_pure_ite, startD, dI, dA, deo, Tm.at, Tm.dst, Tm.set, Tm.put, Tm.keep, dW, dRes, oneOfD, mkTup, mkAgg, mkFn, allF, frL, fr, vD, vD1, vF, vFL, dBin, dEq, dNil, isNilD, dScal, F.cv, eBin, sameKind, eInt, eStr, cellsD, oneD, F.one, dFill, putAtD, chunk, dbnd, dSrc, St.own, St.drop, St.still, St.fresh, chkQ, stillQ, freshQ, lOf, rdOf, rdOK, undefD, F.full, F.fullL, List.mapIdx_cons, strip, allOne_nil, allOne_cons, allOne_append, allLen_nil, allLen_cons, allLen_append, roomOK_small, filterT, y_mv, y_pick, y_new, y_box, y_build, y_bslice, y_ld1, y_ldn, y_nilchk, y_bin, y_not, y_conv, y_bytes, y_string, y_ifc, y_fn, y_cut, y_cuts, y_fa, y_fld, y_ia, y_idx, y_idxs, y_ext, y_len, y_lenstr, y_app, y_grow, y_mks, y_slow, y_call, y_callv, y_inv, y_extc, x_it_st, x_it_clr, x_it_cpy, k_addT, k_addT_none, k_addT_ite, k_orU, k_orU_none, dU, D.turn, turnL, Tm.turn, turnS, St.turn, turnRows_length, hlt, hli, h3, hs, rSend, callR, hp, encT, ht, o1, r1, k3, k4, k4i, k4j, k5, hw, hwi, j1, j2, j3, j4, w3]
          exact hn
    · obtain ⟨up, hup⟩ : ∃ up, up = wrapF .i64 (wrapF .i64 (w.base - 1) + wrapF .i64 ((wrapF .u8 (a.tdiv 3)).tmod 5)) := ⟨_, rfl⟩
      have hp := pTold w 200 (by omega) (g.ok (by omega) (by omega)) up
      obtain ⟨B', N', g'⟩ := g.told up
      have hal' : all.length ≤ i + 1 := by omega
      obtain ⟨k1, k2, k3, k4, k5, k6⟩ := ask (toldW w up) all B' N' g' hal'
      generalize hv : toldW w up = v at hp g' k1 k2 k3 k4 k5 k6
      rw [encW, encW] at hp
      rcases ho with ⟨rfl, rfl⟩ | ⟨t, ht, rfl⟩
      · have hz1 : v.L.length = 0 := by have := g'.na; simp at this; omega
        have hz2 : v.wait.length = 0 := by simp at k2; simp [k2]
        obtain ⟨T1, j1, j2⟩ := loopZ1 (.list (l.map fun z => [.int .u8 z])) i v hz1 .nils L c
        obtain ⟨T2, j3, j4⟩ := loopZ2 (.list (l.map fun z => [.int .u8 z])) i v hz2 .nils L c
        have hn := ih (i + 1) _ v [] B' N' .nils L c rfl hd' hlt g' hal' (.inl ⟨rfl, rfl⟩)
        rw [← hi1] at hn
        try simp at j1 j2 j3 j4 hn
        rw [x_iter]
        have k4i : ¬ (4 : Int) < (v.L.length : Int) := by omega
        have k4j : (v.L.length : Int) ≤ 4 := by omega
        by_cases hw : 0 < v.wait.length
        · have k7 := k6 hw
          have k7i : ¬ (v.L.length : Int) < 4 := by omega
          have hwi : (0 : Int) < (v.wait.length : Int) := by omega
          simp [u4_2, x_pure, x_skip, x_reg, x_drw, x_seq, x_cond, x_block, x_loop', Tm.keep_nil, x_exit, x_ret, k_seq, k_seq_ret, k_seq_exit, k_seq_none, k_seq_ite, k_cond, k_block, k_block_ret, k_block_exit, k_block_none, k_block_ite, k_iter, k_iter_ret, k_iter_exit, k_iter_none, k_iter_ite, k_reg, k_reg_none, k_reg_ite, x_is_nil, x_is, x_is_g, k_ins, k_ins_none, k_ins_ite, k_grd, x_ord_nil, x_ord, x_ord_g, k_ord, k_ord_none, k_ord_ite, k_ogrd, k_out_ret, k_out, k_out_none, k_out_ite, k_pure, k_pure_none, k_pure_ite, startD, dI, dA, deo, Tm.at, Tm.dst, Tm.set, Tm.put, Tm.keep, dW, dRes, oneOfD, mkTup, mkAgg, mkFn, allF, frL, fr, vD, vD1, vF, vFL, dBin, dEq, dNil, isNilD, dScal, F.cv, eBin, sameKind, eInt, eStr, cellsD, oneD, F.one, dFill, putAtD, chunk, dbnd, dSrc, St.own, St.drop, St.still, St.fresh, chkQ, stillQ, freshQ, lOf, rdOf, rdOK, undefD, F.full, F.fullL, List.mapIdx_cons, strip, allOne_nil, allOne_cons, allOne_append, allLen_nil, allLen_cons, allLen_append, roomOK_small, filterT, y_mv, y_pick, y_new, y_box, y_build, y_bslice, y_ld1, y_ldn, y_nilchk, y_bin, y_not, y_conv, y_bytes, y_string, y_ifc, y_fn, y_cut, y_cuts, y_fa, y_fld, y_ia, y_idx, y_idxs, y_ext, y_len, y_lenstr, y_app, y_grow, y_mks, y_slow, y_call, y_callv, y_inv, y_extc, x_it_st, x_it_clr, x_it_cpy, k_addT, k_addT_none, k_addT_ite, k_orU, k_orU_none, dU, D.turn, turnL, Tm.turn, turnS, St.turn, turnRows_length, hlt, hli, h3, ← hup, rTold, callR, hp, k3, k4, k4i, k4j, k5, hw, hwi, k7, k7i, j1, j2, j3, j4, w3]
          exact hn
        · have hwi : ¬ (0 : Int) < (v.wait.length : Int) := by omega
          simp [u4_2, x_pure, x_skip, x_reg, x_drw, x_seq, x_cond, x_block, x_loop', Tm.keep_nil, x_exit, x_ret, k_seq, k_seq_ret, k_seq_exit, k_seq_none, k_seq_ite, k_cond, k_block, k_block_ret, k_block_exit, k_block_none, k_block_ite, k_iter, k_iter_ret, k_iter_exit, k_iter_none, k_iter_ite, k_reg, k_reg_none, k_reg_ite, x_is_nil, x_is, x_is_g, k_ins, k_ins_none, k_ins_ite, k_grd, x_ord_nil, x_ord, x_ord_g, k_ord, k_ord_none, k_ord_ite, k_ogrd, k_out_ret, k_out, k_out_none, k_out_ite, k_pure, k_pure_none, k_pure_ite, startD, dI, dA, deo, Tm.at, Tm.dst, Tm.set, Tm.put, Tm.keep, dW, dRes, oneOfD, mkTup, mkAgg, mkFn, allF, frL, fr, vD, vD1, vF, vFL, dBin, dEq, dNil, isNilD, dScal, F.cv, eBin, sameKind, eInt, eStr, cellsD, oneD, F.one, dFill, putAtD, chunk, dbnd, dSrc, St.own, St.drop, St.still, St.fresh, chkQ, stillQ, freshQ, lOf, rdOf, rdOK, undefD, F.full, F.fullL, List.mapIdx_cons, strip, allOne_nil, allOne_cons, allOne_append, allLen_nil, allLen_cons, allLen_append, roomOK_small, filterT, y_mv, y_pick, y_new, y_box, y_build, y_bslice, y_ld1, y_ldn, y_nilchk, y_bin, y_not, y_conv, y_bytes, y_string, y_ifc, y_fn, y_cut, y_cuts, y_fa, y_fld, y_ia, y_idx, y_idxs, y_ext, y_len, y_lenstr, y_app, y_grow, y_mks, y_slow, y_call, y_callv, y_inv, y_extc, x_it_st, x_it_clr, x_it_cpy, k_addT, k_addT_none, k_addT_ite, k_orU, k_orU_none, dU, D.turn, turnL, Tm.turn, turnS, St.turn, turnRows_length, hlt, hli, h3, ← hup, rTold, callR, hp, k3, k4, k4i, k4j, k5, hw, hwi, j1, j2, j3, j4, w3]
          exact hn
      · obtain ⟨T1, j1, j2⟩ := loopL1 (.list (l.map fun z => [.int .u8 z])) i v all B' N' g' (by omega) t L c ht (N' - B') 0 0 (by omega) rfl
        obtain ⟨T2, j3, j4⟩ := loopL2 (.list (l.map fun z => [.int .u8 z])) i v all B' N' g' (by omega) t L c ht (all.length - N') 0 0 (by have := g'.na; omega) rfl
        have hn := ih (i + 1) _ v all B' N' (.ow t 0 1 (all.map encT)) L c rfl hd' hlt g' hal' (.inr ⟨t, ht, rfl⟩)
        rw [← hi1] at hn
        try simp at j1 j2 j3 j4 hn
        rw [x_iter]
        have k4i : ¬ (4 : Int) < (v.L.length : Int) := by omega
        have k4j : (v.L.length : Int) ≤ 4 := by omega
        by_cases hw : 0 < v.wait.length
        · have k7 := k6 hw
          have k7i : ¬ (v.L.length : Int) < 4 := by omega
          have hwi : (0 : Int) < (v.wait.length : Int) := by omega
          simp [u4_2, x_pure, x_skip, x_reg, x_drw, x_seq, x_cond, x_block, x_loop', Tm.keep_nil, x_exit, x_ret, k_seq, k_seq_ret, k_seq_exit, k_seq_none, k_seq_ite, k_cond, k_block, k_block_ret, k_block_exit, k_block_none, k_block_ite, k_iter, k_iter_ret, k_iter_exit, k_iter_none, k_iter_ite, k_reg, k_reg_none, k_reg_ite, x_is_nil, x_is, x_is_g, k_ins, k_ins_none, k_ins_ite, k_grd, x_ord_nil, x_ord, x_ord_g, k_ord, k_ord_none, k_ord_ite, k_ogrd, k_out_ret, k_out, k_out_none, k_out_ite, k_pure, k_pure_none, k_pure_ite, startD, dI, dA, deo, Tm.at, Tm.dst, Tm.set, Tm.put, Tm.keep, dW, dRes, oneOfD, mkTup, mkAgg, mkFn, allF, frL, fr, vD, vD1, vF, vFL, dBin, dEq, dNil, isNilD, dScal, F.cv, eBin, sameKind, eInt, eStr, cellsD, oneD, F.one, dFill, putAtD, chunk, dbnd, dSrc, St.own, St.drop, St.still, St.fresh, chkQ, stillQ, freshQ, lOf, rdOf, rdOK, undefD, F.full, F.fullL, List.mapIdx_cons, strip, allOne_nil, allOne_cons, allOne_append, allLen_nil, allLen_cons, allLen_append, roomOK_small, filterT, y_mv, y_pick, y_new, y_box, y_build, y_bslice, y_ld1, y_ldn, y_nilchk, y_bin, y_not, y_conv, y_bytes, y_string, y_ifc, y_fn, y_cut, y_cuts, y_fa, y_fld, y_ia, y_idx, y_idxs, y_ext, y_len, y_lenstr, y_app, y_grow, y_mks, y_slow, y_call, y_callv, y_inv, y_extc, x_it_st, x_it_clr, x_it_cpy, k_addT, k_addT_none, k_addT_ite, k_orU, k_orU_none, dU, D.turn, turnL, Tm.turn, turnS, St.turn, turnRows_length, hlt, hli, h3, ← hup, rTold, callR, hp, ht, k3, k4, k4i, k4j, k5, hw, hwi, k7, k7i, j1, j2, j3, j4, w3]
          exact hn
        · have hwi : ¬ (0 : Int) < (v.wait.length : Int) := by omega
          simp [u4_2, x_pure, x_skip, x_reg, x_drw, x_seq, x_cond, x_block, x_loop', Tm.keep_nil, x_exit, x_ret, k_seq, k_seq_ret, k_seq_exit, k_seq_none, k_seq_ite, k_cond, k_block, k_block_ret, k_block_exit, k_block_none, k_block_ite, k_iter, k_iter_ret, k_iter_exit, k_iter_none, k_iter_ite, k_reg, k_reg_none, k_reg_ite, x_is_nil, x_is, x_is_g, k_ins, k_ins_none, k_ins_ite, k_grd, x_ord_nil, x_ord, x_ord_g, k_ord, k_ord_none, k_ord_ite, k_ogrd, k_out_ret, k_out, k_out_none, k_out_ite, k_pure, k_pure_none, k_pure_ite, startD, dI, dA, deo, Tm.at, Tm.dst, Tm.set, Tm.put, Tm.keep, dW, dRes, oneOfD, mkTup, mkAgg, mkFn, allF, frL, fr, vD, vD1, vF, vFL, dBin, dEq, dNil, isNilD, dScal, F.cv, eBin, sameKind, eInt, eStr, cellsD, oneD, F.one, dFill, putAtD, chunk, dbnd, dSrc, St.own, St.drop, St.still, St.fresh, chkQ, stillQ, freshQ, lOf, rdOf, rdOK, undefD, F.full, F.fullL, List.mapIdx_cons, strip, allOne_nil, allOne_cons, allOne_append, allLen_nil, allLen_cons, allLen_append, roomOK_small, filterT, y_mv, y_pick, y_new, y_box, y_build, y_bslice, y_ld1, y_ldn, y_nilchk, y_bin, y_not, y_conv, y_bytes, y_string, y_ifc, y_fn, y_cut, y_cuts, y_fa, y_fld, y_ia, y_idx, y_idxs, y_ext, y_len, y_lenstr, y_app, y_grow, y_mks, y_slow, y_call, y_callv, y_inv, y_extc, x_it_st, x_it_clr, x_it_cpy, k_addT, k_addT_none, k_addT_ite, k_orU, k_orU_none, dU, D.turn, turnL, Tm.turn, turnS, St.turn, turnRows_length, hlt, hli, h3, ← hup, rTold, callR, hp, ht, k3, k4, k4i, k4j, k5, hw, hwi, j1, j2, j3, j4, w3]
          exact hn
theorem pWindOrder (l : List Int) (h1 : l.length ≤ maxLen) (hb : ∀ z ∈ l, 0 ≤ z ∧ z < 256) : pureI Try.prog prims dx tbl 4 [.list (l.map fun z => [.int .u8 z])] = some (.bool true) := by
  rw [pureI_of (rfl : tbl 4 = some c4)]
  by_cases g1 : 60 < l.length
  · simp [c4, x_pure, x_skip, x_reg, x_drw, x_seq, x_cond, x_block, x_loop', Tm.keep_nil, x_exit, x_ret, k_seq, k_seq_ret, k_seq_exit, k_seq_none, k_seq_ite, k_cond, k_block, k_block_ret, k_block_exit, k_block_none, k_block_ite, k_iter, k_iter_ret, k_iter_exit, k_iter_none, k_iter_ite, k_reg, k_reg_none, k_reg_ite, x_is_nil, x_is, x_is_g, k_ins, k_ins_none, k_ins_ite, k_grd, x_ord_nil, x_ord, x_ord_g, k_ord, k_ord_none, k_ord_ite, k_ogrd, k_out_ret, k_out, k_out_none, k_out_ite, k_pure, k_pure_none, k_pure_ite, startD, dI, dA, deo, Tm.at, Tm.dst, Tm.set, Tm.put, Tm.keep, dW, dRes, oneOfD, mkTup, mkAgg, mkFn, allF, frL, fr, vD, vD1, vF, vFL, dBin, dEq, dNil, isNilD, dScal, F.cv, eBin, sameKind, eInt, eStr, cellsD, oneD, F.one, dFill, putAtD, chunk, dbnd, dSrc, St.own, St.drop, St.still, St.fresh, chkQ, stillQ, freshQ, lOf, rdOf, rdOK, undefD, F.full, F.fullL, List.mapIdx_cons, strip, allOne_nil, allOne_cons, allOne_append, allLen_nil, allLen_cons, allLen_append, roomOK_small, filterT, y_mv, y_pick, y_new, y_box, y_build, y_bslice, y_ld1, y_ldn, y_nilchk, y_bin, y_not, y_conv, y_bytes, y_string, y_ifc, y_fn, y_cut, y_cuts, y_fa, y_fld, y_ia, y_idx, y_idxs, y_ext, y_len, y_lenstr, y_app, y_grow, y_mks, y_slow, y_call, y_callv, y_inv, y_extc, x_it_st, x_it_clr, x_it_cpy, k_addT, k_addT_none, k_addT_ite, k_orU, k_orU_none, dU, D.turn, turnL, Tm.turn, turnS, St.turn, turnRows_length, qBegun20, show (60 : Int) < l.length by omega]
  · have hp := pNewW
    rw [encW] at hp
    have g : Good ⟨1, 1, [], []⟩ [] 0 0 := ⟨rfl, rfl, Nat.le_refl _, by omega, by simp, rfl, rfl, fun h => by simp at h⟩
    obtain ⟨T', st', hT⟩ := loopL3 l (by omega) hb l 0 0 ⟨1, 1, [], []⟩ [] 0 0 .nils [] 0 rfl rfl (Nat.zero_le _) g (by simp) (.inl ⟨rfl, rfl⟩)
    simp at hp hT
    simp [c4, x_pure, x_skip, x_reg, x_drw, x_seq, x_cond, x_block, x_loop', Tm.keep_nil, x_exit, x_ret, k_seq, k_seq_ret, k_seq_exit, k_seq_none, k_seq_ite, k_cond, k_block, k_block_ret, k_block_exit, k_block_none, k_block_ite, k_iter, k_iter_ret, k_iter_exit, k_iter_none, k_iter_ite, k_reg, k_reg_none, k_reg_ite, x_is_nil, x_is, x_is_g, k_ins, k_ins_none, k_ins_ite, k_grd, x_ord_nil, x_ord, x_ord_g, k_ord, k_ord_none, k_ord_ite, k_ogrd, k_out_ret, k_out, k_out_none, k_out_ite, k_pure, k_pure_none, k_pure_ite, startD, dI, dA, deo, Tm.at, Tm.dst, Tm.set, Tm.put, Tm.keep, dW, dRes, oneOfD, mkTup, mkAgg, mkFn, allF, frL, fr, vD, vD1, vF, vFL, dBin, dEq, dNil, isNilD, dScal, F.cv, eBin, sameKind, eInt, eStr, cellsD, oneD, F.one, dFill, putAtD, chunk, dbnd, dSrc, St.own, St.drop, St.still, St.fresh, chkQ, stillQ, freshQ, lOf, rdOf, rdOK, undefD, F.full, F.fullL, List.mapIdx_cons, strip, allOne_nil, allOne_cons, allOne_append, allLen_nil, allLen_cons, allLen_append, roomOK_small, filterT, y_mv, y_pick, y_new, y_box, y_build, y_bslice, y_ld1, y_ldn, y_nilchk, y_bin, y_not, y_conv, y_bytes, y_string, y_ifc, y_fn, y_cut, y_cuts, y_fa, y_fld, y_ia, y_idx, y_idxs, y_ext, y_len, y_lenstr, y_app, y_grow, y_mks, y_slow, y_call, y_callv, y_inv, y_extc, x_it_st, x_it_clr, x_it_cpy, k_addT, k_addT_none, k_addT_ite, k_orU, k_orU_none, dU, D.turn, turnL, Tm.turn, turnS, St.turn, turnRows_length, qBegun20, show ¬ (60 : Int) < l.length by omega, rNewW, callR, hp, hT]
end Go.Proofs.Ytnidonakekiloaa.Pl
