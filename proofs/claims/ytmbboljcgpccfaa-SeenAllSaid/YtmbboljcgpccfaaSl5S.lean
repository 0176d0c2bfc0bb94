/-
  What is proved here: what was seen last, of heads of any kind and of heads that may be, as the document says.
  Conditions: none.
-/
import Derived.Test.YtmbboljcgpccfaaSrS
import Derived.Test.YtmbboljcgpccfaaPs
set_option linter.unusedVariables false
set_option linter.unusedSimpArgs false
set_option maxRecDepth 100000
set_option maxHeartbeats 8000000
namespace Go.Proofs.Ytmbboljcgpccfaa.Pl
open Go Go.Proofs Go.Proofs.Ev Go.Proofs.Dv Cd

theorem four_of (xs : List Int) (h : 4 ≤ xs.length) : xs.take 4 = [xs.getD 0 0, xs.getD 1 0, xs.getD 2 0, xs.getD 3 0] := by
  match xs, h with
  | a :: b :: c :: d :: r, _ => rfl
theorem rows_hd (n : Nat) (zs : List Int) (hl : zs.length = n * 4) : ∃ l : List Hd, l.length = n ∧ rowsOf .i64 4 n zs = l.map encH := by
  refine ⟨(List.range n).map fun q => ⟨(zs.drop (q * 4)).getD 0 0, (zs.drop (q * 4)).getD 1 0, (zs.drop (q * 4)).getD 2 0, (zs.drop (q * 4)).getD 3 0⟩, by simp, ?_⟩
  rw [rowsOf, List.map_map]
  refine List.map_congr_left fun q hq => ?_
  have := List.mem_range.1 hq
  rw [four_of _ (by rw [List.length_drop]; omega)]
  rfl
def PostIn (x y : List Hd) (b : Bool) (d : D) (st : Dv.St) (r : Option DSt) : Prop := ∃ T' : Tm, T'.keep [11, 12, 14, 15] = [(11, .fz (.list (x.map encH))), (12, .fz (.list (y.map encH))), (14, d), (15, .fz (.bool b))] ∧ r = some (.exit 0, T', st)
theorem loopIn (x y : List Hd) (hx : x.length ≤ 100) (hy : y.length ≤ 100) (d : D) (st : Dv.St) : ∀ (r : List Hd) (i : Nat) (iz : Int) (b : Bool), iz = i → x.drop i = r → i ≤ x.length →
    PostIn x y (b && withinH r y) d st (iterI (dCw Try.prog (callI Try.prog prims dx tbl) l7_0) [11, 12, 14, 15, 16] [(11, .fz (.list (x.map encH))), (12, .fz (.list (y.map encH))), (14, d), (15, .fz (.bool b)), (16, .fz (.int .i64 iz))] st) := by
  intro r
  induction r with
  | nil =>
    intro i iz b hz hd hi
    have hi' := drop_nil hd hi
    subst hi' hz
    rw [x_iter]
    simp [u7_0, x_pure, x_skip, x_reg, x_drw, x_seq, x_cond, x_block, x_loop', Tm.keep_nil, x_exit, x_ret, k_seq, k_seq_ret, k_seq_exit, k_seq_none, k_seq_ite, k_cond, k_block, k_block_ret, k_block_exit, k_block_none, k_block_ite, k_iter, k_iter_ret, k_iter_exit, k_iter_none, k_iter_ite, k_reg, k_reg_none, k_reg_ite, x_is_nil, x_is, x_is_g, k_ins, k_ins_none, k_ins_ite, k_grd, x_ord_nil, x_ord, x_ord_g, k_ord, k_ord_none, k_ord_ite, k_ogrd, k_out_ret, k_out, k_out_none, k_out_ite, k_pure, k_pure_none, k_pure_ite, startD, dI, dA, deo, Tm.at, Tm.dst, Tm.set, Tm.put, Tm.keep, dW, dRes, oneOfD, mkTup, mkAgg, mkFn, allF, frL, fr, vD, vD1, vF, vFL, dBin, dEq, dNil, isNilD, dScal, F.cv, eBin, sameKind, eInt, eStr, cellsD, oneD, F.one, dFill, putAtD, chunk, dbnd, dSrc, St.own, St.drop, St.still, St.fresh, chkQ, stillQ, freshQ, lOf, rdOf, rdOK, undefD, F.full, F.fullL, List.mapIdx_cons, strip, allOne_nil, allOne_cons, allOne_append, allLen_nil, allLen_cons, allLen_append, roomOK_small, filterT, y_mv, y_pick, y_new, y_box, y_build, y_bslice, y_ld1, y_ldn, y_nilchk, y_bin, y_not, y_conv, y_bytes, y_string, y_ifc, y_fn, y_cut, y_cuts, y_fa, y_fld, y_ia, y_idx, y_idxs, y_ext, y_len, y_lenstr, y_app, y_grow, y_mks, y_slow, y_call, y_callv, y_inv, y_extc, x_it_st, x_it_clr, x_it_cpy, k_addT, k_addT_none, k_addT_ite, k_orU, k_orU_none, dU, D.turn, turnL, Tm.turn, turnS, St.turn, turnRows_length, withinH]
    exact ⟨_, by simp [Tm.keep], rfl⟩
  | cons a r ih =>
    intro i iz b hz hd hi
    subst hz
    obtain ⟨hlt, hli, hd'⟩ := drop_cons hd
    have hat := pRAt y (by omega) a.item
    rw [encS] at hat
    have hc := pRCmp (atS y a.item).1 (atS y a.item).2.1 (atS y a.item).2.2 a.a a.b a.c
    have e : cmpS ((atS y a.item).1, (atS y a.item).2.1, (atS y a.item).2.2) (a.a, a.b, a.c) = cmpS (atS y a.item) a.s := rfl
    rw [e] at hc
    have hi1 : ((i : Int) + 1) = ((i + 1 : Nat) : Int) := by omega
    have hw : wrapF .i64 ((i : Int) + 1) = (i : Int) + 1 := wrap_id _ (by omega) (by omega)
    have hs : withinH (a :: r) y = (!decide (cmpS (atS y a.item) a.s < 0) && withinH r y) := rfl
    rw [x_iter, hs]
    cases b with
    | false =>
      have := ih (i + 1) _ false hi1 hd' hlt
      simp at this
      simp [u7_0, x_pure, x_skip, x_reg, x_drw, x_seq, x_cond, x_block, x_loop', Tm.keep_nil, x_exit, x_ret, k_seq, k_seq_ret, k_seq_exit, k_seq_none, k_seq_ite, k_cond, k_block, k_block_ret, k_block_exit, k_block_none, k_block_ite, k_iter, k_iter_ret, k_iter_exit, k_iter_none, k_iter_ite, k_reg, k_reg_none, k_reg_ite, x_is_nil, x_is, x_is_g, k_ins, k_ins_none, k_ins_ite, k_grd, x_ord_nil, x_ord, x_ord_g, k_ord, k_ord_none, k_ord_ite, k_ogrd, k_out_ret, k_out, k_out_none, k_out_ite, k_pure, k_pure_none, k_pure_ite, startD, dI, dA, deo, Tm.at, Tm.dst, Tm.set, Tm.put, Tm.keep, dW, dRes, oneOfD, mkTup, mkAgg, mkFn, allF, frL, fr, vD, vD1, vF, vFL, dBin, dEq, dNil, isNilD, dScal, F.cv, eBin, sameKind, eInt, eStr, cellsD, oneD, F.one, dFill, putAtD, chunk, dbnd, dSrc, St.own, St.drop, St.still, St.fresh, chkQ, stillQ, freshQ, lOf, rdOf, rdOK, undefD, F.full, F.fullL, List.mapIdx_cons, strip, allOne_nil, allOne_cons, allOne_append, allLen_nil, allLen_cons, allLen_append, roomOK_small, filterT, y_mv, y_pick, y_new, y_box, y_build, y_bslice, y_ld1, y_ldn, y_nilchk, y_bin, y_not, y_conv, y_bytes, y_string, y_ifc, y_fn, y_cut, y_cuts, y_fa, y_fld, y_ia, y_idx, y_idxs, y_ext, y_len, y_lenstr, y_app, y_grow, y_mks, y_slow, y_call, y_callv, y_inv, y_extc, x_it_st, x_it_clr, x_it_cpy, k_addT, k_addT_none, k_addT_ite, k_orU, k_orU_none, dU, D.turn, turnL, Tm.turn, turnS, St.turn, turnRows_length, hlt, hli, encH, hw]
      exact this
    | true =>
      by_cases hlt' : cmpS (atS y a.item) a.s < 0
      · have h' : ¬ 0 ≤ cmpS (atS y a.item) a.s := by omega
        have := ih (i + 1) _ false hi1 hd' hlt
        simp at this
        simp [u7_0, x_pure, x_skip, x_reg, x_drw, x_seq, x_cond, x_block, x_loop', Tm.keep_nil, x_exit, x_ret, k_seq, k_seq_ret, k_seq_exit, k_seq_none, k_seq_ite, k_cond, k_block, k_block_ret, k_block_exit, k_block_none, k_block_ite, k_iter, k_iter_ret, k_iter_exit, k_iter_none, k_iter_ite, k_reg, k_reg_none, k_reg_ite, x_is_nil, x_is, x_is_g, k_ins, k_ins_none, k_ins_ite, k_grd, x_ord_nil, x_ord, x_ord_g, k_ord, k_ord_none, k_ord_ite, k_ogrd, k_out_ret, k_out, k_out_none, k_out_ite, k_pure, k_pure_none, k_pure_ite, startD, dI, dA, deo, Tm.at, Tm.dst, Tm.set, Tm.put, Tm.keep, dW, dRes, oneOfD, mkTup, mkAgg, mkFn, allF, frL, fr, vD, vD1, vF, vFL, dBin, dEq, dNil, isNilD, dScal, F.cv, eBin, sameKind, eInt, eStr, cellsD, oneD, F.one, dFill, putAtD, chunk, dbnd, dSrc, St.own, St.drop, St.still, St.fresh, chkQ, stillQ, freshQ, lOf, rdOf, rdOK, undefD, F.full, F.fullL, List.mapIdx_cons, strip, allOne_nil, allOne_cons, allOne_append, allLen_nil, allLen_cons, allLen_append, roomOK_small, filterT, y_mv, y_pick, y_new, y_box, y_build, y_bslice, y_ld1, y_ldn, y_nilchk, y_bin, y_not, y_conv, y_bytes, y_string, y_ifc, y_fn, y_cut, y_cuts, y_fa, y_fld, y_ia, y_idx, y_idxs, y_ext, y_len, y_lenstr, y_app, y_grow, y_mks, y_slow, y_call, y_callv, y_inv, y_extc, x_it_st, x_it_clr, x_it_cpy, k_addT, k_addT_none, k_addT_ite, k_orU, k_orU_none, dU, D.turn, turnL, Tm.turn, turnS, St.turn, turnRows_length, hlt, hli, encH, hw, rRAt, callR, hat, rRCmp, hc, hlt', h']
        exact this
      · have h' : 0 ≤ cmpS (atS y a.item) a.s := by omega
        have := ih (i + 1) _ true hi1 hd' hlt
        simp at this
        simp [u7_0, x_pure, x_skip, x_reg, x_drw, x_seq, x_cond, x_block, x_loop', Tm.keep_nil, x_exit, x_ret, k_seq, k_seq_ret, k_seq_exit, k_seq_none, k_seq_ite, k_cond, k_block, k_block_ret, k_block_exit, k_block_none, k_block_ite, k_iter, k_iter_ret, k_iter_exit, k_iter_none, k_iter_ite, k_reg, k_reg_none, k_reg_ite, x_is_nil, x_is, x_is_g, k_ins, k_ins_none, k_ins_ite, k_grd, x_ord_nil, x_ord, x_ord_g, k_ord, k_ord_none, k_ord_ite, k_ogrd, k_out_ret, k_out, k_out_none, k_out_ite, k_pure, k_pure_none, k_pure_ite, startD, dI, dA, deo, Tm.at, Tm.dst, Tm.set, Tm.put, Tm.keep, dW, dRes, oneOfD, mkTup, mkAgg, mkFn, allF, frL, fr, vD, vD1, vF, vFL, dBin, dEq, dNil, isNilD, dScal, F.cv, eBin, sameKind, eInt, eStr, cellsD, oneD, F.one, dFill, putAtD, chunk, dbnd, dSrc, St.own, St.drop, St.still, St.fresh, chkQ, stillQ, freshQ, lOf, rdOf, rdOK, undefD, F.full, F.fullL, List.mapIdx_cons, strip, allOne_nil, allOne_cons, allOne_append, allLen_nil, allLen_cons, allLen_append, roomOK_small, filterT, y_mv, y_pick, y_new, y_box, y_build, y_bslice, y_ld1, y_ldn, y_nilchk, y_bin, y_not, y_conv, y_bytes, y_string, y_ifc, y_fn, y_cut, y_cuts, y_fa, y_fld, y_ia, y_idx, y_idxs, y_ext, y_len, y_lenstr, y_app, y_grow, y_mks, y_slow, y_call, y_callv, y_inv, y_extc, x_it_st, x_it_clr, x_it_cpy, k_addT, k_addT_none, k_addT_ite, k_orU, k_orU_none, dU, D.turn, turnL, Tm.turn, turnS, St.turn, turnRows_length, hlt, hli, encH, hw, rRAt, callR, hat, rRCmp, hc, hlt', h']
        exact this
theorem e57 : eqOStamp (operAt Try.prog 7 57) = some (false, 62, 65) := by kernel_rfl
theorem rowsOf_len (k : IntKind) (m n : Nat) (zs : List Int) : (rowsOf k m n zs).length = n := by simp [rowsOf]
theorem pSeenAll (n : Nat) (zs : List Int) (hn : n ≤ maxLen) (hz : zs.length = n * 4) (hwf : ∀ z ∈ zs, (Lit.int .i64 z).wf = true)
    (l1 : List Int) (h1 : l1.length ≤ maxLen) (hb1 : ∀ z ∈ l1, 0 ≤ z ∧ z < 256) (l2 : List Int) (h2 : l2.length ≤ maxLen) (hb2 : ∀ z ∈ l2, 0 ≤ z ∧ z < 256) (l3 : List Int) (h3 : l3.length ≤ maxLen) (hb3 : ∀ z ∈ l3, 0 ≤ z ∧ z < 256) (t : Int) (ht : (Lit.int .i64 t).wf = true) :
    pureI Try.prog prims dx tbl 7 [.list (rowsOf .i64 4 n zs), .list (l1.map fun z => [.int .u8 z]), .list (l2.map fun z => [.int .u8 z]), .list (l3.map fun z => [.int .u8 z]), .int .i64 t] = some (.bool true) := by
  obtain ⟨w, hwl, hw⟩ := rows_hd n zs hz
  rw [pureI_of (rfl : tbl 7 = some c7), hw]
  by_cases g0 : 10 < w.length
  · simp [c7, x_pure, x_skip, x_reg, x_drw, x_seq, x_cond, x_block, x_loop', Tm.keep_nil, x_exit, x_ret, k_seq, k_seq_ret, k_seq_exit, k_seq_none, k_seq_ite, k_cond, k_block, k_block_ret, k_block_exit, k_block_none, k_block_ite, k_iter, k_iter_ret, k_iter_exit, k_iter_none, k_iter_ite, k_reg, k_reg_none, k_reg_ite, x_is_nil, x_is, x_is_g, k_ins, k_ins_none, k_ins_ite, k_grd, x_ord_nil, x_ord, x_ord_g, k_ord, k_ord_none, k_ord_ite, k_ogrd, k_out_ret, k_out, k_out_none, k_out_ite, k_pure, k_pure_none, k_pure_ite, startD, dI, dA, deo, Tm.at, Tm.dst, Tm.set, Tm.put, Tm.keep, dW, dRes, oneOfD, mkTup, mkAgg, mkFn, allF, frL, fr, vD, vD1, vF, vFL, dBin, dEq, dNil, isNilD, dScal, F.cv, eBin, sameKind, eInt, eStr, cellsD, oneD, F.one, dFill, putAtD, chunk, dbnd, dSrc, St.own, St.drop, St.still, St.fresh, chkQ, stillQ, freshQ, lOf, rdOf, rdOK, undefD, F.full, F.fullL, List.mapIdx_cons, strip, allOne_nil, allOne_cons, allOne_append, allLen_nil, allLen_cons, allLen_append, roomOK_small, filterT, y_mv, y_pick, y_new, y_box, y_build, y_bslice, y_ld1, y_ldn, y_nilchk, y_bin, y_not, y_conv, y_bytes, y_string, y_ifc, y_fn, y_cut, y_cuts, y_fa, y_fld, y_ia, y_idx, y_idxs, y_ext, y_len, y_lenstr, y_app, y_grow, y_mks, y_slow, y_call, y_callv, y_inv, y_extc, x_it_st, x_it_clr, x_it_cpy, k_addT, k_addT_none, k_addT_ite, k_orU, k_orU_none, dU, D.turn, turnL, Tm.turn, turnS, St.turn, turnRows_length, qBegun9, show (10 : Int) < w.length by omega]
  · by_cases g1 : 30 < l1.length
    · simp [c7, x_pure, x_skip, x_reg, x_drw, x_seq, x_cond, x_block, x_loop', Tm.keep_nil, x_exit, x_ret, k_seq, k_seq_ret, k_seq_exit, k_seq_none, k_seq_ite, k_cond, k_block, k_block_ret, k_block_exit, k_block_none, k_block_ite, k_iter, k_iter_ret, k_iter_exit, k_iter_none, k_iter_ite, k_reg, k_reg_none, k_reg_ite, x_is_nil, x_is, x_is_g, k_ins, k_ins_none, k_ins_ite, k_grd, x_ord_nil, x_ord, x_ord_g, k_ord, k_ord_none, k_ord_ite, k_ogrd, k_out_ret, k_out, k_out_none, k_out_ite, k_pure, k_pure_none, k_pure_ite, startD, dI, dA, deo, Tm.at, Tm.dst, Tm.set, Tm.put, Tm.keep, dW, dRes, oneOfD, mkTup, mkAgg, mkFn, allF, frL, fr, vD, vD1, vF, vFL, dBin, dEq, dNil, isNilD, dScal, F.cv, eBin, sameKind, eInt, eStr, cellsD, oneD, F.one, dFill, putAtD, chunk, dbnd, dSrc, St.own, St.drop, St.still, St.fresh, chkQ, stillQ, freshQ, lOf, rdOf, rdOK, undefD, F.full, F.fullL, List.mapIdx_cons, strip, allOne_nil, allOne_cons, allOne_append, allLen_nil, allLen_cons, allLen_append, roomOK_small, filterT, y_mv, y_pick, y_new, y_box, y_build, y_bslice, y_ld1, y_ldn, y_nilchk, y_bin, y_not, y_conv, y_bytes, y_string, y_ifc, y_fn, y_cut, y_cuts, y_fa, y_fld, y_ia, y_idx, y_idxs, y_ext, y_len, y_lenstr, y_app, y_grow, y_mks, y_slow, y_call, y_callv, y_inv, y_extc, x_it_st, x_it_clr, x_it_cpy, k_addT, k_addT_none, k_addT_ite, k_orU, k_orU_none, dU, D.turn, turnL, Tm.turn, turnS, St.turn, turnRows_length, qBegun9, show ¬ (10 : Int) < w.length by omega, show (30 : Int) < l1.length by omega]
    · by_cases g2 : 30 < l2.length
      · simp [c7, x_pure, x_skip, x_reg, x_drw, x_seq, x_cond, x_block, x_loop', Tm.keep_nil, x_exit, x_ret, k_seq, k_seq_ret, k_seq_exit, k_seq_none, k_seq_ite, k_cond, k_block, k_block_ret, k_block_exit, k_block_none, k_block_ite, k_iter, k_iter_ret, k_iter_exit, k_iter_none, k_iter_ite, k_reg, k_reg_none, k_reg_ite, x_is_nil, x_is, x_is_g, k_ins, k_ins_none, k_ins_ite, k_grd, x_ord_nil, x_ord, x_ord_g, k_ord, k_ord_none, k_ord_ite, k_ogrd, k_out_ret, k_out, k_out_none, k_out_ite, k_pure, k_pure_none, k_pure_ite, startD, dI, dA, deo, Tm.at, Tm.dst, Tm.set, Tm.put, Tm.keep, dW, dRes, oneOfD, mkTup, mkAgg, mkFn, allF, frL, fr, vD, vD1, vF, vFL, dBin, dEq, dNil, isNilD, dScal, F.cv, eBin, sameKind, eInt, eStr, cellsD, oneD, F.one, dFill, putAtD, chunk, dbnd, dSrc, St.own, St.drop, St.still, St.fresh, chkQ, stillQ, freshQ, lOf, rdOf, rdOK, undefD, F.full, F.fullL, List.mapIdx_cons, strip, allOne_nil, allOne_cons, allOne_append, allLen_nil, allLen_cons, allLen_append, roomOK_small, filterT, y_mv, y_pick, y_new, y_box, y_build, y_bslice, y_ld1, y_ldn, y_nilchk, y_bin, y_not, y_conv, y_bytes, y_string, y_ifc, y_fn, y_cut, y_cuts, y_fa, y_fld, y_ia, y_idx, y_idxs, y_ext, y_len, y_lenstr, y_app, y_grow, y_mks, y_slow, y_call, y_callv, y_inv, y_extc, x_it_st, x_it_clr, x_it_cpy, k_addT, k_addT_none, k_addT_ite, k_orU, k_orU_none, dU, D.turn, turnL, Tm.turn, turnS, St.turn, turnRows_length, qBegun9, show ¬ (10 : Int) < w.length by omega, show ¬ (30 : Int) < l1.length by omega, show (30 : Int) < l2.length by omega]
      · by_cases g3 : 5 < l3.length
        · simp [c7, x_pure, x_skip, x_reg, x_drw, x_seq, x_cond, x_block, x_loop', Tm.keep_nil, x_exit, x_ret, k_seq, k_seq_ret, k_seq_exit, k_seq_none, k_seq_ite, k_cond, k_block, k_block_ret, k_block_exit, k_block_none, k_block_ite, k_iter, k_iter_ret, k_iter_exit, k_iter_none, k_iter_ite, k_reg, k_reg_none, k_reg_ite, x_is_nil, x_is, x_is_g, k_ins, k_ins_none, k_ins_ite, k_grd, x_ord_nil, x_ord, x_ord_g, k_ord, k_ord_none, k_ord_ite, k_ogrd, k_out_ret, k_out, k_out_none, k_out_ite, k_pure, k_pure_none, k_pure_ite, startD, dI, dA, deo, Tm.at, Tm.dst, Tm.set, Tm.put, Tm.keep, dW, dRes, oneOfD, mkTup, mkAgg, mkFn, allF, frL, fr, vD, vD1, vF, vFL, dBin, dEq, dNil, isNilD, dScal, F.cv, eBin, sameKind, eInt, eStr, cellsD, oneD, F.one, dFill, putAtD, chunk, dbnd, dSrc, St.own, St.drop, St.still, St.fresh, chkQ, stillQ, freshQ, lOf, rdOf, rdOK, undefD, F.full, F.fullL, List.mapIdx_cons, strip, allOne_nil, allOne_cons, allOne_append, allLen_nil, allLen_cons, allLen_append, roomOK_small, filterT, y_mv, y_pick, y_new, y_box, y_build, y_bslice, y_ld1, y_ldn, y_nilchk, y_bin, y_not, y_conv, y_bytes, y_string, y_ifc, y_fn, y_cut, y_cuts, y_fa, y_fld, y_ia, y_idx, y_idxs, y_ext, y_len, y_lenstr, y_app, y_grow, y_mks, y_slow, y_call, y_callv, y_inv, y_extc, x_it_st, x_it_clr, x_it_cpy, k_addT, k_addT_none, k_addT_ite, k_orU, k_orU_none, dU, D.turn, turnL, Tm.turn, turnS, St.turn, turnRows_length, qBegun9, show ¬ (10 : Int) < w.length by omega, show ¬ (30 : Int) < l1.length by omega, show ¬ (30 : Int) < l2.length by omega, show (5 : Int) < l3.length by omega]
        · obtain ⟨x, sx, ox, ex⟩ := pHeads l1 (u8s_of (by omega) hb1)
          obtain ⟨y, sy, oy, ey⟩ := pHeads l2 (u8s_of (by omega) hb2)
          have nx := srt_len ox sx
          have ny := srt_len oy sy
          have m1 := vMade l3
          obtain ⟨n1, i1, b1, k1, _, e1⟩ := vNum l3 (u8s_of (by omega) hb3) 0 (Nat.zero_le _) 6
          have k1 := k1 (by omega)
          obtain ⟨a, b, c', i2, b2, hst, e2⟩ := vStamp l3 (u8s_of (by omega) hb3) i1 b1
          have w1 : wrapF .i64 (1 + n1) = 1 + n1 := wrap_id _ (by omega) (by omega)
          have a1 := pMayH w (by omega)
          have a2 := pRMayH w (by omega)
          have a3 := pMayH x (by omega)
          rw [ox.may sx] at a3
          have a4 := pSAt x (by omega) sx t
          have a5 := pRAt x (by omega) t
          rw [encS] at a4 a5
          have a6 := pWithin x y (by omega) (by omega) sy
          have a7 := pSPut x (by omega) sx ⟨1 + n1, a, b, c'⟩
          have a8 := pPut x (by omega) sx ⟨1 + n1, a, b, c'⟩
          have hlen := putH_len (l := x) (h := ⟨1 + n1, a, b, c'⟩)
          have a9 := pSame (putH x ⟨1 + n1, a, b, c'⟩) (putH x ⟨1 + n1, a, b, c'⟩) (by omega) (by omega)
          have a10 := pMost x y (by omega) (by omega) sx
          have a11 := pRMost x y (by omega) (by omega) sx
          have nm := srt_len (ox.most oy) (mostH_srt y sx)
          have a12 := pSame (mostH x y) (mostH x y) (by omega) (by omega)
          simp [encH] at a7 a8
          simp at a9 a12
          obtain ⟨T', j1, j2⟩ := loopIn x y (by omega) (by omega) (.ptr 1 0) ⟨[(true, [.fz (.list (l3.map fun z => [.int .u8 z])), .fz (.int .i64 i2)]), (true, [.fz (.int .i64 (1 + n1)), .fz (.int .i64 a), .fz (.int .i64 b), .fz (.int .i64 c')])], [], 0⟩ x 0 0 true rfl rfl (Nat.zero_le _)
          simp at j1 j2 e1
          cases hb : mayHs 0 w <;> cases hv : withinH x y <;>
            (rw [hb] at a1 a2; rw [hv] at a6 j1
             simp [c7, x_pure, x_skip, x_reg, x_drw, x_seq, x_cond, x_block, x_loop', Tm.keep_nil, x_exit, x_ret, k_seq, k_seq_ret, k_seq_exit, k_seq_none, k_seq_ite, k_cond, k_block, k_block_ret, k_block_exit, k_block_none, k_block_ite, k_iter, k_iter_ret, k_iter_exit, k_iter_none, k_iter_ite, k_reg, k_reg_none, k_reg_ite, x_is_nil, x_is, x_is_g, k_ins, k_ins_none, k_ins_ite, k_grd, x_ord_nil, x_ord, x_ord_g, k_ord, k_ord_none, k_ord_ite, k_ogrd, k_out_ret, k_out, k_out_none, k_out_ite, k_pure, k_pure_none, k_pure_ite, startD, dI, dA, deo, Tm.at, Tm.dst, Tm.set, Tm.put, Tm.keep, dW, dRes, oneOfD, mkTup, mkAgg, mkFn, allF, frL, fr, vD, vD1, vF, vFL, dBin, dEq, dNil, isNilD, dScal, F.cv, eBin, sameKind, eInt, eStr, cellsD, oneD, F.one, dFill, putAtD, chunk, dbnd, dSrc, St.own, St.drop, St.still, St.fresh, chkQ, stillQ, freshQ, lOf, rdOf, rdOK, undefD, F.full, F.fullL, List.mapIdx_cons, strip, allOne_nil, allOne_cons, allOne_append, allLen_nil, allLen_cons, allLen_append, roomOK_small, filterT, y_mv, y_pick, y_new, y_box, y_build, y_bslice, y_ld1, y_ldn, y_nilchk, y_bin, y_not, y_conv, y_bytes, y_string, y_ifc, y_fn, y_cut, y_cuts, y_fa, y_fld, y_ia, y_idx, y_idxs, y_ext, y_len, y_lenstr, y_app, y_grow, y_mks, y_slow, y_call, y_callv, y_inv, y_extc, x_it_st, x_it_clr, x_it_cpy, k_addT, k_addT_none, k_addT_ite, k_orU, k_orU_none, dU, D.turn, turnL, Tm.turn, turnS, St.turn, turnRows_length, x_vars, varsOf, varsK, varsK_ite, finals, callVars, splitV, contents, updV, orC, qBegun9, show ¬ (10 : Int) < w.length by omega, show ¬ (30 : Int) < l1.length by omega, show ¬ (30 : Int) < l2.length by omega, show ¬ (5 : Int) < l3.length by omega, rHeads, callR, ex, ey, rMade, m1, rNum, e1, rStamp, e2, w1, rMayH, a1, rRMayH, a2, a3, rSAt, a4, rRAt, a5, slow_eqStamp e57, eqDStamp, j1, j2, rWithin, a6, rSPut, a7, rPut, a8, rSame, a9, rMost, a10, rRMost, a11, a12])
end Go.Proofs.Ytmbboljcgpccfaa.Pl
