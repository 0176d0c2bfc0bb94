/-
  What is proved here: what either saw last both have seen, in whichever order, and no more.
  Conditions: none.
-/
import Derived.Test.YtmbboljcgpccfaaSl2S
set_option linter.unusedVariables false
set_option linter.unusedSimpArgs false
set_option maxRecDepth 100000
set_option maxHeartbeats 8000000
namespace Go.Proofs.Ytmbboljcgpccfaa.Pl
open Go Go.Proofs Go.Proofs.Ev Go.Proofs.Dv Cd

theorem set2a {α : Type} (S : List α) (a b x : α) : (S ++ [a, b]).set S.length x = S ++ [x, b] := by
  rw [List.set_append_right _ _ (Nat.le_refl _)]
  simp
theorem set2b {α : Type} (S : List α) (a b x : α) : (S ++ [a, b]).set (S.length + 1) x = S ++ [a, x] := by
  rw [List.set_append_right _ _ (by omega)]
  simp
theorem get2a {α : Type} (S : List α) (a b : α) : (S ++ [a, b])[S.length]? = some a := by
  rw [List.getElem?_append_right (Nat.le_refl _)]
  simp
theorem get2b {α : Type} (S : List α) (a b : α) : (S ++ [a, b])[S.length + 1]? = some b := by
  rw [List.getElem?_append_right (by omega)]
  simp
theorem e54 : eqOStamp (operAt Try.prog 8 54) = some (false, 55, 56) := by kernel_rfl
theorem st_eq (x y : Int × Int × Int) : (x.1 == y.1 && (x.2.1 == y.2.1 && x.2.2 == y.2.2)) = decide (x = y) := by
  obtain ⟨a, b, c⟩ := x
  obtain ⟨a', b', c'⟩ := y
  rw [Bool.eq_iff_iff]
  simp
def PostQ (x y z m : List Hd) (r : Option DSt) : Prop := ∃ T' st', r = some (.exit 0, T', st') ∧ T'.keep [7, 8, 9, 10] = [(7, .fz (.list (x.map encH))), (8, .fz (.list (y.map encH))), (9, .fz (.list (z.map encH))), (10, .fz (.list (m.map encH)))]
theorem loopQ (x y z m : List Hd) (sx : Srt x) (sy : Srt y) (sm : Srt m) (nx : x.length ≤ 6) (ny : y.length ≤ 6) (nm : m.length ≤ 6) (hat : ∀ i, atS m i = maxS (atS x i) (atS y i)) : ∀ (n : Nat) (iz : Int) (S : List (Bool × List D)) (L : List Nat) (c : Nat), iz + n = 7 → 1 ≤ iz →
    PostQ x y z m (iterI (dCw Try.prog (callI Try.prog prims dx tbl) l8_0) [7, 8, 9, 10, 11] [(7, .fz (.list (x.map encH))), (8, .fz (.list (y.map encH))), (9, .fz (.list (z.map encH))), (10, .fz (.list (m.map encH))), (11, .fz (.int .i64 iz))] ⟨S, L, c⟩) := by
  intro n
  induction n with
  | zero =>
    intro iz S L c hz h1
    obtain rfl : iz = 7 := by omega
    rw [x_iter]
    simp [u8_0, x_pure, x_skip, x_reg, x_drw, x_seq, x_cond, x_block, x_loop', Tm.keep_nil, x_exit, x_ret, k_seq, k_seq_ret, k_seq_exit, k_seq_none, k_seq_ite, k_cond, k_block, k_block_ret, k_block_exit, k_block_none, k_block_ite, k_iter, k_iter_ret, k_iter_exit, k_iter_none, k_iter_ite, k_reg, k_reg_none, k_reg_ite, x_is_nil, x_is, x_is_g, k_ins, k_ins_none, k_ins_ite, k_grd, x_ord_nil, x_ord, x_ord_g, k_ord, k_ord_none, k_ord_ite, k_ogrd, k_out_ret, k_out, k_out_none, k_out_ite, k_pure, k_pure_none, k_pure_ite, startD, dI, dA, deo, Tm.at, Tm.dst, Tm.set, Tm.put, Tm.keep, dW, dRes, oneOfD, mkTup, mkAgg, mkFn, allF, frL, fr, vD, vD1, vF, vFL, dBin, dEq, dNil, isNilD, dScal, F.cv, eBin, sameKind, eInt, eStr, cellsD, oneD, F.one, dFill, putAtD, chunk, dbnd, dSrc, St.own, St.drop, St.still, St.fresh, chkQ, stillQ, freshQ, lOf, rdOf, rdOK, undefD, F.full, F.fullL, List.mapIdx_cons, strip, allOne_nil, allOne_cons, allOne_append, allLen_nil, allLen_cons, allLen_append, roomOK_small, filterT, y_mv, y_pick, y_new, y_box, y_build, y_bslice, y_ld1, y_ldn, y_nilchk, y_bin, y_not, y_conv, y_bytes, y_string, y_ifc, y_fn, y_cut, y_cuts, y_fa, y_fld, y_ia, y_idx, y_idxs, y_ext, y_len, y_lenstr, y_app, y_grow, y_mks, y_slow, y_call, y_callv, y_inv, y_extc, x_it_st, x_it_clr, x_it_cpy, k_addT, k_addT_none, k_addT_ite, k_orU, k_orU_none, dU, D.turn, turnL, Tm.turn, turnS, St.turn]
    exact ⟨_, _, rfl, by simp [Tm.keep]⟩
  | succ n ih =>
    intro iz S L c hz h1
    have h6 : iz ≤ 6 := by omega
    have a1 := pSAt x (by omega) sx iz
    have a2 := pSAt y (by omega) sy iz
    have a3 := pSAt m (by omega) sm iz
    have hm := hat iz
    have hc := pRCmp (atS x iz).1 (atS x iz).2.1 (atS x iz).2.2 (atS y iz).1 (atS y iz).2.1 (atS y iz).2.2
    have e : cmpS ((atS x iz).1, (atS x iz).2.1, (atS x iz).2.2) ((atS y iz).1, (atS y iz).2.1, (atS y iz).2.2) = cmpS (atS x iz) (atS y iz) := rfl
    rw [e] at hc
    rw [hm] at a3
    rw [encS] at a1 a2 a3
    have hz1 : iz + 1 + n = 7 := by omega
    have h11 : 1 ≤ iz + 1 := by omega
    have hneg := cmpS_neg (atS x iz) (atS y iz)
    by_cases hlt : cmpS (atS x iz) (atS y iz) < 0
    · have hmx : maxS (atS x iz) (atS y iz) = atS y iz := by
        unfold maxS
        rw [if_neg (by omega)]
      rw [hmx] at a3
      have hw : wrapF .i64 (iz + 1) = iz + 1 := wrap_id _ (by omega) (by omega)
      rw [x_iter]
      simp [u8_0, x_pure, x_skip, x_reg, x_drw, x_seq, x_cond, x_block, x_loop', Tm.keep_nil, x_exit, x_ret, k_seq, k_seq_ret, k_seq_exit, k_seq_none, k_seq_ite, k_cond, k_block, k_block_ret, k_block_exit, k_block_none, k_block_ite, k_iter, k_iter_ret, k_iter_exit, k_iter_none, k_iter_ite, k_reg, k_reg_none, k_reg_ite, x_is_nil, x_is, x_is_g, k_ins, k_ins_none, k_ins_ite, k_grd, x_ord_nil, x_ord, x_ord_g, k_ord, k_ord_none, k_ord_ite, k_ogrd, k_out_ret, k_out, k_out_none, k_out_ite, k_pure, k_pure_none, k_pure_ite, startD, dI, dA, deo, Tm.at, Tm.dst, Tm.set, Tm.put, Tm.keep, dW, dRes, oneOfD, mkTup, mkAgg, mkFn, allF, frL, fr, vD, vD1, vF, vFL, dBin, dEq, dNil, isNilD, dScal, F.cv, eBin, sameKind, eInt, eStr, cellsD, oneD, F.one, dFill, putAtD, chunk, dbnd, dSrc, St.own, St.drop, St.still, St.fresh, chkQ, stillQ, freshQ, lOf, rdOf, rdOK, undefD, F.full, F.fullL, List.mapIdx_cons, strip, allOne_nil, allOne_cons, allOne_append, allLen_nil, allLen_cons, allLen_append, roomOK_small, filterT, y_mv, y_pick, y_new, y_box, y_build, y_bslice, y_ld1, y_ldn, y_nilchk, y_bin, y_not, y_conv, y_bytes, y_string, y_ifc, y_fn, y_cut, y_cuts, y_fa, y_fld, y_ia, y_idx, y_idxs, y_ext, y_len, y_lenstr, y_app, y_grow, y_mks, y_slow, y_call, y_callv, y_inv, y_extc, x_it_st, x_it_clr, x_it_cpy, k_addT, k_addT_none, k_addT_ite, k_orU, k_orU_none, dU, D.turn, turnL, Tm.turn, turnS, St.turn, h6, rSAt, callR, a1, a2, a3, set2a, set2b, get2a, get2b, rRCmp, hc, hlt, slow_eqStamp e54, eqDStamp, hw]
      exact ih _ _ _ _ hz1 h11
    · have hmx : maxS (atS x iz) (atS y iz) = atS x iz := by
        unfold maxS
        rw [if_pos (by omega)]
      rw [hmx] at a3
      have hw : wrapF .i64 (iz + 1) = iz + 1 := wrap_id _ (by omega) (by omega)
      rw [x_iter]
      simp [u8_0, x_pure, x_skip, x_reg, x_drw, x_seq, x_cond, x_block, x_loop', Tm.keep_nil, x_exit, x_ret, k_seq, k_seq_ret, k_seq_exit, k_seq_none, k_seq_ite, k_cond, k_block, k_block_ret, k_block_exit, k_block_none, k_block_ite, k_iter, k_iter_ret, k_iter_exit, k_iter_none, k_iter_ite, k_reg, k_reg_none, k_reg_ite, x_is_nil, x_is, x_is_g, k_ins, k_ins_none, k_ins_ite, k_grd, x_ord_nil, x_ord, x_ord_g, k_ord, k_ord_none, k_ord_ite, k_ogrd, k_out_ret, k_out, k_out_none, k_out_ite, k_pure, k_pure_none, k_pure_ite, startD, dI, dA, deo, Tm.at, Tm.dst, Tm.set, Tm.put, Tm.keep, dW, dRes, oneOfD, mkTup, mkAgg, mkFn, allF, frL, fr, vD, vD1, vF, vFL, dBin, dEq, dNil, isNilD, dScal, F.cv, eBin, sameKind, eInt, eStr, cellsD, oneD, F.one, dFill, putAtD, chunk, dbnd, dSrc, St.own, St.drop, St.still, St.fresh, chkQ, stillQ, freshQ, lOf, rdOf, rdOK, undefD, F.full, F.fullL, List.mapIdx_cons, strip, allOne_nil, allOne_cons, allOne_append, allLen_nil, allLen_cons, allLen_append, roomOK_small, filterT, y_mv, y_pick, y_new, y_box, y_build, y_bslice, y_ld1, y_ldn, y_nilchk, y_bin, y_not, y_conv, y_bytes, y_string, y_ifc, y_fn, y_cut, y_cuts, y_fa, y_fld, y_ia, y_idx, y_idxs, y_ext, y_len, y_lenstr, y_app, y_grow, y_mks, y_slow, y_call, y_callv, y_inv, y_extc, x_it_st, x_it_clr, x_it_cpy, k_addT, k_addT_none, k_addT_ite, k_orU, k_orU_none, dU, D.turn, turnL, Tm.turn, turnS, St.turn, h6, rSAt, callR, a1, a2, a3, set2a, set2b, get2a, get2b, rRCmp, hc, hlt, slow_eqStamp e54, eqDStamp, hw]
      exact ih _ _ _ _ hz1 h11
theorem most_comm {x y : List Hd} (sx : Srt x) (sy : Srt y) (ox : OkHs x) (oy : OkHs y) : mostH x y = mostH y x := ext_at (mostH_srt y sx) (mostH_srt x sy) (ox.most oy).pos (oy.most ox).pos fun i => by
  rw [at_mostH sx sy ox.pos, at_mostH sy sx oy.pos, maxS_comm]
theorem most_assoc {x y z : List Hd} (sx : Srt x) (sy : Srt y) (sz : Srt z) (ox : OkHs x) (oy : OkHs y) (oz : OkHs z) : mostH (mostH x y) z = mostH x (mostH y z) := ext_at (mostH_srt z (mostH_srt y sx)) (mostH_srt _ sx) ((ox.most oy).most oz).pos (ox.most (oy.most oz)).pos fun i => by
  rw [at_mostH (mostH_srt y sx) sz (ox.most oy).pos, at_mostH sx sy ox.pos, at_mostH sx (mostH_srt z sy) ox.pos, at_mostH sy sz oy.pos, maxS_assoc]
theorem most_self {x : List Hd} (sx : Srt x) (ox : OkHs x) : mostH x x = x := ext_at (mostH_srt x sx) sx (ox.most ox).pos ox.pos fun i => by
  rw [at_mostH sx sx ox.pos, maxS_self]
theorem within_most2 {x y : List Hd} (sx : Srt x) (sy : Srt y) (ox : OkHs x) (oy : OkHs y) : withinH y (mostH x y) = true := by
  rw [most_comm sx sy ox oy]
  exact within_most sy sx oy ox
theorem within_of_most {x y : List Hd} (sx : Srt x) (sy : Srt y) (ox : OkHs x) (oy : OkHs y) : withinH (mostH x y) x = withinH y x := by
  rw [Bool.eq_iff_iff, within_iff (mostH_srt y sx) ox.pos, within_iff sy ox.pos]
  constructor
  · intro h i
    have := h i
    rw [at_mostH sx sy ox.pos, maxS_le] at this
    exact this.2
  · intro h i
    rw [at_mostH sx sy ox.pos, maxS_le]
    exact ⟨leS_refl _, h i⟩
theorem pSeenMost (l1 : List Int) (h1 : l1.length ≤ maxLen) (hb1 : ∀ z ∈ l1, 0 ≤ z ∧ z < 256) (l2 : List Int) (h2 : l2.length ≤ maxLen) (hb2 : ∀ z ∈ l2, 0 ≤ z ∧ z < 256) (l3 : List Int) (h3 : l3.length ≤ maxLen) (hb3 : ∀ z ∈ l3, 0 ≤ z ∧ z < 256) :
    pureI Try.prog prims dx tbl 8 [.list (l1.map fun z => [.int .u8 z]), .list (l2.map fun z => [.int .u8 z]), .list (l3.map fun z => [.int .u8 z])] = some (.bool true) := by
  rw [pureI_of (rfl : tbl 8 = some c8)]
  by_cases g1 : 30 < l1.length
  · simp [c8, x_pure, x_skip, x_reg, x_drw, x_seq, x_cond, x_block, x_loop', Tm.keep_nil, x_exit, x_ret, k_seq, k_seq_ret, k_seq_exit, k_seq_none, k_seq_ite, k_cond, k_block, k_block_ret, k_block_exit, k_block_none, k_block_ite, k_iter, k_iter_ret, k_iter_exit, k_iter_none, k_iter_ite, k_reg, k_reg_none, k_reg_ite, x_is_nil, x_is, x_is_g, k_ins, k_ins_none, k_ins_ite, k_grd, x_ord_nil, x_ord, x_ord_g, k_ord, k_ord_none, k_ord_ite, k_ogrd, k_out_ret, k_out, k_out_none, k_out_ite, k_pure, k_pure_none, k_pure_ite, startD, dI, dA, deo, Tm.at, Tm.dst, Tm.set, Tm.put, Tm.keep, dW, dRes, oneOfD, mkTup, mkAgg, mkFn, allF, frL, fr, vD, vD1, vF, vFL, dBin, dEq, dNil, isNilD, dScal, F.cv, eBin, sameKind, eInt, eStr, cellsD, oneD, F.one, dFill, putAtD, chunk, dbnd, dSrc, St.own, St.drop, St.still, St.fresh, chkQ, stillQ, freshQ, lOf, rdOf, rdOK, undefD, F.full, F.fullL, List.mapIdx_cons, strip, allOne_nil, allOne_cons, allOne_append, allLen_nil, allLen_cons, allLen_append, roomOK_small, filterT, y_mv, y_pick, y_new, y_box, y_build, y_bslice, y_ld1, y_ldn, y_nilchk, y_bin, y_not, y_conv, y_bytes, y_string, y_ifc, y_fn, y_cut, y_cuts, y_fa, y_fld, y_ia, y_idx, y_idxs, y_ext, y_len, y_lenstr, y_app, y_grow, y_mks, y_slow, y_call, y_callv, y_inv, y_extc, x_it_st, x_it_clr, x_it_cpy, k_addT, k_addT_none, k_addT_ite, k_orU, k_orU_none, dU, D.turn, turnL, Tm.turn, turnS, St.turn, qBegun9, show (30 : Int) < l1.length by omega]
  · by_cases g2 : 30 < l2.length
    · simp [c8, x_pure, x_skip, x_reg, x_drw, x_seq, x_cond, x_block, x_loop', Tm.keep_nil, x_exit, x_ret, k_seq, k_seq_ret, k_seq_exit, k_seq_none, k_seq_ite, k_cond, k_block, k_block_ret, k_block_exit, k_block_none, k_block_ite, k_iter, k_iter_ret, k_iter_exit, k_iter_none, k_iter_ite, k_reg, k_reg_none, k_reg_ite, x_is_nil, x_is, x_is_g, k_ins, k_ins_none, k_ins_ite, k_grd, x_ord_nil, x_ord, x_ord_g, k_ord, k_ord_none, k_ord_ite, k_ogrd, k_out_ret, k_out, k_out_none, k_out_ite, k_pure, k_pure_none, k_pure_ite, startD, dI, dA, deo, Tm.at, Tm.dst, Tm.set, Tm.put, Tm.keep, dW, dRes, oneOfD, mkTup, mkAgg, mkFn, allF, frL, fr, vD, vD1, vF, vFL, dBin, dEq, dNil, isNilD, dScal, F.cv, eBin, sameKind, eInt, eStr, cellsD, oneD, F.one, dFill, putAtD, chunk, dbnd, dSrc, St.own, St.drop, St.still, St.fresh, chkQ, stillQ, freshQ, lOf, rdOf, rdOK, undefD, F.full, F.fullL, List.mapIdx_cons, strip, allOne_nil, allOne_cons, allOne_append, allLen_nil, allLen_cons, allLen_append, roomOK_small, filterT, y_mv, y_pick, y_new, y_box, y_build, y_bslice, y_ld1, y_ldn, y_nilchk, y_bin, y_not, y_conv, y_bytes, y_string, y_ifc, y_fn, y_cut, y_cuts, y_fa, y_fld, y_ia, y_idx, y_idxs, y_ext, y_len, y_lenstr, y_app, y_grow, y_mks, y_slow, y_call, y_callv, y_inv, y_extc, x_it_st, x_it_clr, x_it_cpy, k_addT, k_addT_none, k_addT_ite, k_orU, k_orU_none, dU, D.turn, turnL, Tm.turn, turnS, St.turn, qBegun9, show ¬ (30 : Int) < l1.length by omega, show (30 : Int) < l2.length by omega]
    · by_cases g3 : 30 < l3.length
      · simp [c8, x_pure, x_skip, x_reg, x_drw, x_seq, x_cond, x_block, x_loop', Tm.keep_nil, x_exit, x_ret, k_seq, k_seq_ret, k_seq_exit, k_seq_none, k_seq_ite, k_cond, k_block, k_block_ret, k_block_exit, k_block_none, k_block_ite, k_iter, k_iter_ret, k_iter_exit, k_iter_none, k_iter_ite, k_reg, k_reg_none, k_reg_ite, x_is_nil, x_is, x_is_g, k_ins, k_ins_none, k_ins_ite, k_grd, x_ord_nil, x_ord, x_ord_g, k_ord, k_ord_none, k_ord_ite, k_ogrd, k_out_ret, k_out, k_out_none, k_out_ite, k_pure, k_pure_none, k_pure_ite, startD, dI, dA, deo, Tm.at, Tm.dst, Tm.set, Tm.put, Tm.keep, dW, dRes, oneOfD, mkTup, mkAgg, mkFn, allF, frL, fr, vD, vD1, vF, vFL, dBin, dEq, dNil, isNilD, dScal, F.cv, eBin, sameKind, eInt, eStr, cellsD, oneD, F.one, dFill, putAtD, chunk, dbnd, dSrc, St.own, St.drop, St.still, St.fresh, chkQ, stillQ, freshQ, lOf, rdOf, rdOK, undefD, F.full, F.fullL, List.mapIdx_cons, strip, allOne_nil, allOne_cons, allOne_append, allLen_nil, allLen_cons, allLen_append, roomOK_small, filterT, y_mv, y_pick, y_new, y_box, y_build, y_bslice, y_ld1, y_ldn, y_nilchk, y_bin, y_not, y_conv, y_bytes, y_string, y_ifc, y_fn, y_cut, y_cuts, y_fa, y_fld, y_ia, y_idx, y_idxs, y_ext, y_len, y_lenstr, y_app, y_grow, y_mks, y_slow, y_call, y_callv, y_inv, y_extc, x_it_st, x_it_clr, x_it_cpy, k_addT, k_addT_none, k_addT_ite, k_orU, k_orU_none, dU, D.turn, turnL, Tm.turn, turnS, St.turn, qBegun9, show ¬ (30 : Int) < l1.length by omega, show ¬ (30 : Int) < l2.length by omega, show (30 : Int) < l3.length by omega]
      · obtain ⟨x, sx, ox, ex⟩ := pHeads l1 (u8s_of (by omega) hb1)
        obtain ⟨y, sy, oy, ey⟩ := pHeads l2 (u8s_of (by omega) hb2)
        obtain ⟨z, sz, oz, ez⟩ := pHeads l3 (u8s_of (by omega) hb3)
        have nx := srt_len ox sx
        have ny := srt_len oy sy
        have nz := srt_len oz sz
        have om := ox.most oy
        have sm := mostH_srt y sx
        have nm := srt_len om sm
        have oyz := oy.most oz
        have syz := mostH_srt z sy
        have nyz := srt_len oyz syz
        have nmz := srt_len (om.most oz) (mostH_srt z sm)
        have a1 := pMost x y (by omega) (by omega) sx
        have a2 := pMost y x (by omega) (by omega) sy
        have a3 := pMost (mostH x y) z (by omega) (by omega) sm
        have a4 := pMost y z (by omega) (by omega) sy
        have a5 := pMost x (mostH y z) (by omega) (by omega) sx
        have a6 := pMost x x (by omega) (by omega) sx
        rw [← most_comm sx sy ox oy] at a2
        rw [← most_assoc sx sy sz ox oy oz] at a5
        rw [most_self sx ox] at a6
        have b1 := pMayH (mostH x y) (by omega)
        rw [om.may sm] at b1
        have b2 := pWithin x (mostH x y) (by omega) (by omega) sm
        rw [within_most sx sy ox oy] at b2
        have b3 := pWithin y (mostH x y) (by omega) (by omega) sm
        rw [within_most2 sx sy ox oy] at b3
        have b4 := pWithin (mostH x y) x (by omega) (by omega) sx
        rw [within_of_most sx sy ox oy] at b4
        have b5 := pWithin y x (by omega) (by omega) sx
        have c1 := pSame (mostH x y) (mostH x y) (by omega) (by omega)
        have c2 := pSame (mostH (mostH x y) z) (mostH (mostH x y) z) (by omega) (by omega)
        have c3 := pSame x x (by omega) (by omega)
        simp at c1 c2 c3
        obtain ⟨T', st', hT, hk⟩ := loopQ x y z (mostH x y) sx sy sm (by omega) (by omega) (by omega) (at_mostH sx sy ox.pos) 6 1 [] [] 0 rfl (by omega)
        simp [c8, x_pure, x_skip, x_reg, x_drw, x_seq, x_cond, x_block, x_loop', Tm.keep_nil, x_exit, x_ret, k_seq, k_seq_ret, k_seq_exit, k_seq_none, k_seq_ite, k_cond, k_block, k_block_ret, k_block_exit, k_block_none, k_block_ite, k_iter, k_iter_ret, k_iter_exit, k_iter_none, k_iter_ite, k_reg, k_reg_none, k_reg_ite, x_is_nil, x_is, x_is_g, k_ins, k_ins_none, k_ins_ite, k_grd, x_ord_nil, x_ord, x_ord_g, k_ord, k_ord_none, k_ord_ite, k_ogrd, k_out_ret, k_out, k_out_none, k_out_ite, k_pure, k_pure_none, k_pure_ite, startD, dI, dA, deo, Tm.at, Tm.dst, Tm.set, Tm.put, Tm.keep, dW, dRes, oneOfD, mkTup, mkAgg, mkFn, allF, frL, fr, vD, vD1, vF, vFL, dBin, dEq, dNil, isNilD, dScal, F.cv, eBin, sameKind, eInt, eStr, cellsD, oneD, F.one, dFill, putAtD, chunk, dbnd, dSrc, St.own, St.drop, St.still, St.fresh, chkQ, stillQ, freshQ, lOf, rdOf, rdOK, undefD, F.full, F.fullL, List.mapIdx_cons, strip, allOne_nil, allOne_cons, allOne_append, allLen_nil, allLen_cons, allLen_append, roomOK_small, filterT, y_mv, y_pick, y_new, y_box, y_build, y_bslice, y_ld1, y_ldn, y_nilchk, y_bin, y_not, y_conv, y_bytes, y_string, y_ifc, y_fn, y_cut, y_cuts, y_fa, y_fld, y_ia, y_idx, y_idxs, y_ext, y_len, y_lenstr, y_app, y_grow, y_mks, y_slow, y_call, y_callv, y_inv, y_extc, x_it_st, x_it_clr, x_it_cpy, k_addT, k_addT_none, k_addT_ite, k_orU, k_orU_none, dU, D.turn, turnL, Tm.turn, turnS, St.turn, qBegun9, show ¬ (30 : Int) < l1.length by omega, show ¬ (30 : Int) < l2.length by omega, show ¬ (30 : Int) < l3.length by omega, rHeads, callR, ex, ey, ez, rMost, a1, hT, hk, a2, a3, a4, a5, a6, rMayH, b1, rWithin, b2, b3, b4, b5, rSame, c1, c2, c3]
end Go.Proofs.Ytmbboljcgpccfaa.Pl
