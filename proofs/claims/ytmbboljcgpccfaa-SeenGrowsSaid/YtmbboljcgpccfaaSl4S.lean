/-
  What is proved here: what was seen only grows, head by head, in whichever order they come.
  Conditions: none.
-/
import Derived.Test.YtmbboljcgpccfaaSl3S
set_option linter.unusedVariables false
set_option linter.unusedSimpArgs false
set_option maxRecDepth 100000
set_option maxHeartbeats 8000000
namespace Go.Proofs.Ytmbboljcgpccfaa.Pl
open Go Go.Proofs Go.Proofs.Ev Go.Proofs.Dv Cd

def sP (p : List Int) (i : Nat) : List (Bool × List D) := [(true, [.fz (.list (p.map fun z => [.int .u8 z])), .fz (.int .i64 i)])]
def PostG (tn : Int) (p : List Int) (r : Option DSt) : Prop := ∃ (rows : List Hd) (d : D) (i : Nat) (L : List Nat) (c : Nat) (T' : Tm), rows.length = 10 ∧ OkHs rows ∧ OwnD 4 (rows.map encH) L d ∧ T'.keep [1, 6] = [(1, .fz (.int .u8 tn)), (6, d)] ∧ r = some (.exit 0, T', ⟨[(true, [.fz (.list (p.map fun z => [.int .u8 z])), .fz (.int .i64 i)])], L, c⟩)
theorem loopG (tn : Int) (p : List Int) (hp : U8s p) : ∀ (m k : Nat) (kz : Int) (rows : List Hd) (R : List (List F)) (d : D) (i : Nat) (L : List Nat) (c : Nat), k + m = 10 → kz = k → rows.length = k → OkHs rows → R = rows.map encH → OwnD 4 R L d → i ≤ p.length →
    PostG tn p (iterI (dCw Try.prog (callI Try.prog prims dx tbl) l9_0) [1, 5, 6, 7] [(1, .fz (.int .u8 tn)), (5, .ptr 0 0), (6, d), (7, .fz (.int .i64 kz))] ⟨[(true, [.fz (.list (p.map fun z => [.int .u8 z])), .fz (.int .i64 i)])], L, c⟩) := by
  intro m
  induction m with
  | zero =>
    intro k kz rows R d i L c hk hz hr ho hR hd hi
    subst hR
    obtain rfl : k = 10 := by omega
    rw [x_iter]
    simp [u9_0, x_pure, x_skip, x_reg, x_drw, x_seq, x_cond, x_block, x_loop', Tm.keep_nil, x_exit, x_ret, k_seq, k_seq_ret, k_seq_exit, k_seq_none, k_seq_ite, k_cond, k_block, k_block_ret, k_block_exit, k_block_none, k_block_ite, k_iter, k_iter_ret, k_iter_exit, k_iter_none, k_iter_ite, k_reg, k_reg_none, k_reg_ite, x_is_nil, x_is, x_is_g, k_ins, k_ins_none, k_ins_ite, k_grd, x_ord_nil, x_ord, x_ord_g, k_ord, k_ord_none, k_ord_ite, k_ogrd, k_out_ret, k_out, k_out_none, k_out_ite, k_pure, k_pure_none, k_pure_ite, startD, dI, dA, deo, Tm.at, Tm.dst, Tm.set, Tm.put, Tm.keep, dW, dRes, oneOfD, mkTup, mkAgg, mkFn, allF, frL, fr, vD, vD1, vF, vFL, dBin, dEq, dNil, isNilD, dScal, F.cv, eBin, sameKind, eInt, eStr, cellsD, oneD, F.one, dFill, putAtD, chunk, dbnd, dSrc, St.own, St.drop, St.still, St.fresh, chkQ, stillQ, freshQ, lOf, rdOf, rdOK, undefD, F.full, F.fullL, List.mapIdx_cons, strip, allOne_nil, allOne_cons, allOne_append, allLen_nil, allLen_cons, allLen_append, roomOK_small, filterT, y_mv, y_pick, y_new, y_box, y_build, y_bslice, y_ld1, y_ldn, y_nilchk, y_bin, y_not, y_conv, y_bytes, y_string, y_ifc, y_fn, y_cut, y_cuts, y_fa, y_fld, y_ia, y_idx, y_idxs, y_ext, y_len, y_lenstr, y_app, y_grow, y_mks, y_slow, y_call, y_callv, y_inv, y_extc, x_it_st, x_it_clr, x_it_cpy, k_addT, k_addT_none, k_addT_ite, k_orU, k_orU_none, dU, D.turn, turnL, Tm.turn, turnS, St.turn, hz]
    exact ⟨rows, d, i, L, c, _, hr, ho, hd, by simp [Tm.keep], rfl⟩
  | succ m ih =>
    intro k kz rows R d i L c hk hz hr ho hR hd hi
    subst hR
    have hk6 : kz < 10 := by omega
    obtain ⟨n1, i1, b1, m1, _, e1⟩ := vNum p hp i hi 6
    have m1 := m1 (by omega)
    obtain ⟨a, b, c', i2, b2, hst, e2⟩ := vStamp p hp i1 b1
    have hok : Hd.ok ⟨1 + n1, a, b, c'⟩ := by unfold Hd.ok; simp only; omega
    have ho' : OkHs (rows ++ [⟨1 + n1, a, b, c'⟩]) := fun h hh => by
      rcases List.mem_append.1 hh with h1 | h1
      · exact ho h h1
      · simp only [List.mem_singleton] at h1; subst h1; exact hok
    have o1 := (encH_ok rows).1
    have r1 : roomOK 32 (rows.length + 1) := roomOK_small (by omega) (by omega)
    have hk1 : kz + 1 = ((k + 1 : Nat) : Int) := by omega
    have hkm : (k + 1) + m = 10 := by omega
    have hr1 : (rows ++ [(⟨1 + n1, a, b, c'⟩ : Hd)]).length = k + 1 := by simp [hr]
    have w1 : wrapF .i64 (1 + n1) = 1 + n1 := wrap_id _ (by omega) (by omega)
    have wk : wrapF .i64 (kz + 1) = kz + 1 := wrap_id _ (by omega) (by omega)
    rw [x_iter]
    rcases hd with ⟨h5, rfl⟩ | ⟨t, ht, rfl⟩
    · have h6 : rows = [] := by simpa using h5
      subst h6
      simp [u9_0, x_pure, x_skip, x_reg, x_drw, x_seq, x_cond, x_block, x_loop', Tm.keep_nil, x_exit, x_ret, k_seq, k_seq_ret, k_seq_exit, k_seq_none, k_seq_ite, k_cond, k_block, k_block_ret, k_block_exit, k_block_none, k_block_ite, k_iter, k_iter_ret, k_iter_exit, k_iter_none, k_iter_ite, k_reg, k_reg_none, k_reg_ite, x_is_nil, x_is, x_is_g, k_ins, k_ins_none, k_ins_ite, k_grd, x_ord_nil, x_ord, x_ord_g, k_ord, k_ord_none, k_ord_ite, k_ogrd, k_out_ret, k_out, k_out_none, k_out_ite, k_pure, k_pure_none, k_pure_ite, startD, dI, dA, deo, Tm.at, Tm.dst, Tm.set, Tm.put, Tm.keep, dW, dRes, oneOfD, mkTup, mkAgg, mkFn, allF, frL, fr, vD, vD1, vF, vFL, dBin, dEq, dNil, isNilD, dScal, F.cv, eBin, sameKind, eInt, eStr, cellsD, oneD, F.one, dFill, putAtD, chunk, dbnd, dSrc, St.own, St.drop, St.still, St.fresh, chkQ, stillQ, freshQ, lOf, rdOf, rdOK, undefD, F.full, F.fullL, List.mapIdx_cons, strip, allOne_nil, allOne_cons, allOne_append, allLen_nil, allLen_cons, allLen_append, roomOK_small, filterT, y_mv, y_pick, y_new, y_box, y_build, y_bslice, y_ld1, y_ldn, y_nilchk, y_bin, y_not, y_conv, y_bytes, y_string, y_ifc, y_fn, y_cut, y_cuts, y_fa, y_fld, y_ia, y_idx, y_idxs, y_ext, y_len, y_lenstr, y_app, y_grow, y_mks, y_slow, y_call, y_callv, y_inv, y_extc, x_it_st, x_it_clr, x_it_cpy, k_addT, k_addT_none, k_addT_ite, k_orU, k_orU_none, dU, D.turn, turnL, Tm.turn, turnS, St.turn, x_vars, varsOf, varsK, varsK_ite, finals, callVars, splitV, contents, updV, orC, hk6, rNum, e1, rStamp, e2, w1, wk]
      refine ih (k + 1) _ _ _ _ _ _ _ hkm hk1 hr1 ho' ?_ (.inr ⟨_, ?_, rfl⟩) b2
      · simp [encH]
      · simp
    · simp [u9_0, x_pure, x_skip, x_reg, x_drw, x_seq, x_cond, x_block, x_loop', Tm.keep_nil, x_exit, x_ret, k_seq, k_seq_ret, k_seq_exit, k_seq_none, k_seq_ite, k_cond, k_block, k_block_ret, k_block_exit, k_block_none, k_block_ite, k_iter, k_iter_ret, k_iter_exit, k_iter_none, k_iter_ite, k_reg, k_reg_none, k_reg_ite, x_is_nil, x_is, x_is_g, k_ins, k_ins_none, k_ins_ite, k_grd, x_ord_nil, x_ord, x_ord_g, k_ord, k_ord_none, k_ord_ite, k_ogrd, k_out_ret, k_out, k_out_none, k_out_ite, k_pure, k_pure_none, k_pure_ite, startD, dI, dA, deo, Tm.at, Tm.dst, Tm.set, Tm.put, Tm.keep, dW, dRes, oneOfD, mkTup, mkAgg, mkFn, allF, frL, fr, vD, vD1, vF, vFL, dBin, dEq, dNil, isNilD, dScal, F.cv, eBin, sameKind, eInt, eStr, cellsD, oneD, F.one, dFill, putAtD, chunk, dbnd, dSrc, St.own, St.drop, St.still, St.fresh, chkQ, stillQ, freshQ, lOf, rdOf, rdOK, undefD, F.full, F.fullL, List.mapIdx_cons, strip, allOne_nil, allOne_cons, allOne_append, allLen_nil, allLen_cons, allLen_append, roomOK_small, filterT, y_mv, y_pick, y_new, y_box, y_build, y_bslice, y_ld1, y_ldn, y_nilchk, y_bin, y_not, y_conv, y_bytes, y_string, y_ifc, y_fn, y_cut, y_cuts, y_fa, y_fld, y_ia, y_idx, y_idxs, y_ext, y_len, y_lenstr, y_app, y_grow, y_mks, y_slow, y_call, y_callv, y_inv, y_extc, x_it_st, x_it_clr, x_it_cpy, k_addT, k_addT_none, k_addT_ite, k_orU, k_orU_none, dU, D.turn, turnL, Tm.turn, turnS, St.turn, x_vars, varsOf, varsK, varsK_ite, finals, callVars, splitV, contents, updV, orC, hk6, rNum, e1, rStamp, e2, w1, wk, ht, o1, r1]
      refine ih (k + 1) _ _ _ _ _ _ _ hkm hk1 hr1 ho' ?_ (.inr ⟨_, ?_, rfl⟩) b2
      · simp [encH]
      · simp

/-- Of the first so many, from a place on, round and round. -/
def rot (rows : List Hd) (tn : Nat) (n : Nat) : List Hd := (List.range n).filterMap fun k => rows[(k + tn) % 10]?
theorem rot_succ (rows : List Hd) (tn n : Nat) (h : Hd) (hh : rows[(n + tn) % 10]? = some h) : rot rows tn (n + 1) = rot rows tn n ++ [h] := by
  unfold rot
  rw [List.range_succ, List.filterMap_append]
  simp [hh]
theorem rot_mem (rows : List Hd) (hr : rows.length = 10) (tn : Nat) (h : Hd) : h ∈ rot rows tn 10 ↔ h ∈ rows := by
  unfold rot
  rw [List.mem_filterMap]
  constructor
  · rintro ⟨k, _, hk⟩
    exact List.mem_of_getElem? hk
  · intro hm
    obtain ⟨j, hj⟩ := List.mem_iff_getElem?.1 hm
    have hjl := lt_of hj
    refine ⟨(j + (10 - tn % 10)) % 10, by simp; omega, ?_⟩
    rw [show ((j + (10 - tn % 10)) % 10 + tn) % 10 = j by omega]
    exact hj
theorem most_snoc (l m : List Hd) (h : Hd) : mostH l (m ++ [h]) = putH (mostH l m) h := by
  simp [mostH, List.foldl_append]
theorem most_same {X Y : List Hd} (hx : OkHs X) (h : ∀ h, h ∈ X ↔ h ∈ Y) : mostH [] X = mostH [] Y := by
  have oy : OkHs Y := fun z hz => hx z ((h z).2 hz)
  have oe : OkHs [] := fun z hz => by cases hz
  refine ext_at (mostH_srt X List.Pairwise.nil) (mostH_srt Y List.Pairwise.nil) (oe.most hx).pos (oe.most oy).pos fun i => ext_le fun z => ?_
  rw [le_mostH X List.Pairwise.nil, le_mostH Y List.Pairwise.nil]
  constructor
  · rintro ⟨h1, h2⟩
    exact ⟨h1, fun w hw => h2 w ((h w).2 hw)⟩
  · rintro ⟨h1, h2⟩
    exact ⟨h1, fun w hw => h2 w ((h w).1 hw)⟩
theorem put_within {l : List Hd} {h : Hd} (hs : Srt l) (ho : OkHs l) (hk : h.ok) : withinH l (putH l h) = true := by
  have op : Pos (putH l h) := fun z hz => by
    rcases putH_mem hz with rfl | h1
    · exact hk.pos
    · exact (ho z h1).pos
  refine (within_iff hs op).2 fun i => ?_
  rw [atS_putH hs]
  split
  · exact le_maxS_left _ _
  · exact leS_refl _
theorem put_at {l : List Hd} {h : Hd} (hs : Srt l) : ¬ cmpS (atS (putH l h) h.item) h.s < 0 := by
  rw [ltS_iff, Classical.not_not, atS_putH hs, if_pos rfl]
  exact le_maxS_right _ _

theorem gr_w (k tn j : Nat) (hk : k < 10) (ht : tn < 256) (hj : j = (k + tn) % 10) : ((k : Int) + (tn : Int)).tmod 10 = (j : Int) ∧ wrapF .i64 (tn : Int) = tn ∧ wrapF .i64 ((k : Int) + (tn : Int)) = (k : Int) + tn ∧ wrapF .i64 (j : Int) = j ∧ wrapF .i64 ((k : Int) + 1) = (k : Int) + 1 := by
  have hjz : ((k : Int) + (tn : Int)).tmod 10 = (j : Int) := by
    rw [Int.tmod_eq_emod_of_nonneg (by omega)]
    omega
  have hj10 : j < 10 := by omega
  exact ⟨hjz, wrap_id _ (by omega) (by omega), wrap_id _ (by omega) (by omega), wrap_id _ (by omega) (by omega), wrap_id _ (by omega) (by omega)⟩
def PostW (rows : List Hd) (tn : Nat) (r : Option DSt) : Prop := ∃ (d e : D) (T' : Tm) (st' : Dv.St), FrzD ((mostH [] rows).map encH) d ∧ FrzD ((mostH [] (rot rows tn 10)).map encH) e ∧ T'.keep [8, 9] = [(8, d), (9, e)] ∧ r = some (.exit 2, T', st')
theorem loopW (rows : List Hd) (hr : rows.length = 10) (ho : OkHs rows) (tn : Nat) (htn : tn < 256) (S : List (Bool × List D)) (hS : ∃ x, S = [x]) (d6 : D) (t : Nat) (L : List Nat) (c : Nat) (hd6 : d6 = .ow t 0 4 (rows.map encH)) (ht : t ∈ L) : ∀ (m k : Nat) (kz : Int) (d e : D), k + m = 10 → kz = k → FrzD ((mostH [] (rows.take k)).map encH) d → FrzD ((mostH [] (rot rows tn k)).map encH) e →
    PostW rows tn (iterI (dCw Try.prog (callI Try.prog prims dx tbl) l9_1) [1, 6, 8, 9, 10] [(1, .fz (.int .u8 tn)), (6, d6), (8, d), (9, e), (10, .fz (.int .i64 kz))] ⟨S, L, c⟩) := by
  subst hd6
  obtain ⟨x0, rfl⟩ := hS
  obtain ⟨w0, ds0⟩ := x0
  intro m
  induction m with
  | zero =>
    intro k kz d e hk hz hd he
    obtain rfl : k = 10 := by omega
    rw [x_iter]
    simp [u9_1, x_pure, x_skip, x_reg, x_drw, x_seq, x_cond, x_block, x_loop', Tm.keep_nil, x_exit, x_ret, k_seq, k_seq_ret, k_seq_exit, k_seq_none, k_seq_ite, k_cond, k_block, k_block_ret, k_block_exit, k_block_none, k_block_ite, k_iter, k_iter_ret, k_iter_exit, k_iter_none, k_iter_ite, k_reg, k_reg_none, k_reg_ite, x_is_nil, x_is, x_is_g, k_ins, k_ins_none, k_ins_ite, k_grd, x_ord_nil, x_ord, x_ord_g, k_ord, k_ord_none, k_ord_ite, k_ogrd, k_out_ret, k_out, k_out_none, k_out_ite, k_pure, k_pure_none, k_pure_ite, startD, dI, dA, deo, Tm.at, Tm.dst, Tm.set, Tm.put, Tm.keep, dW, dRes, oneOfD, mkTup, mkAgg, mkFn, allF, frL, fr, vD, vD1, vF, vFL, dBin, dEq, dNil, isNilD, dScal, F.cv, eBin, sameKind, eInt, eStr, cellsD, oneD, F.one, dFill, putAtD, chunk, dbnd, dSrc, St.own, St.drop, St.still, St.fresh, chkQ, stillQ, freshQ, lOf, rdOf, rdOK, undefD, F.full, F.fullL, List.mapIdx_cons, strip, allOne_nil, allOne_cons, allOne_append, allLen_nil, allLen_cons, allLen_append, roomOK_small, filterT, y_mv, y_pick, y_new, y_box, y_build, y_bslice, y_ld1, y_ldn, y_nilchk, y_bin, y_not, y_conv, y_bytes, y_string, y_ifc, y_fn, y_cut, y_cuts, y_fa, y_fld, y_ia, y_idx, y_idxs, y_ext, y_len, y_lenstr, y_app, y_grow, y_mks, y_slow, y_call, y_callv, y_inv, y_extc, x_it_st, x_it_clr, x_it_cpy, k_addT, k_addT_none, k_addT_ite, k_orU, k_orU_none, dU, D.turn, turnL, Tm.turn, turnS, St.turn, hz]
    rw [List.take_of_length_le (by omega)] at hd
    exact ⟨d, e, _, _, hd, he, by simp [Tm.keep], rfl⟩
  | succ m ih =>
    intro k kz d e hk hz hd he
    subst hz
    have hk10 : k < rows.length := by omega
    obtain ⟨a, ha⟩ : ∃ a, rows[k] = a := ⟨_, rfl⟩
    have hak : rows[k]? = some a := by rw [List.getElem?_eq_getElem hk10, ha]
    obtain ⟨j, hj⟩ : ∃ j, j = (k + tn) % 10 := ⟨_, rfl⟩
    have hj10 : j < rows.length := by omega
    obtain ⟨b, hb⟩ : ∃ b, rows[j] = b := ⟨_, rfl⟩
    have hbj : rows[j]? = some b := by rw [List.getElem?_eq_getElem hj10, hb]
    have oa : a.ok := ho a (List.mem_of_getElem? hak)
    have oe : OkHs [] := fun z hz => by cases hz
    have ok : OkHs (mostH [] (rows.take k)) := oe.most fun z hz => ho z (List.mem_of_mem_take hz)
    have ork : OkHs (mostH [] (rot rows tn k)) := oe.most fun z hz => by
      unfold rot at hz
      obtain ⟨q, _, hq⟩ := List.mem_filterMap.1 hz
      exact ho z (List.mem_of_getElem? hq)
    have sk : Srt (mostH [] (rows.take k)) := mostH_srt _ List.Pairwise.nil
    have srk : Srt (mostH [] (rot rows tn k)) := mostH_srt _ List.Pairwise.nil
    have nk := srt_len ok sk
    have nrk := srt_len ork srk
    have p1 := pSPut (mostH [] (rows.take k)) (by omega) sk a
    have p2 := pSPut (mostH [] (rot rows tn k)) (by omega) srk b
    have e1 : mostH [] (rows.take (k + 1)) = putH (mostH [] (rows.take k)) a := by
      rw [List.take_add_one, hak]
      exact most_snoc _ _ _
    have e2 : mostH [] (rot rows tn (k + 1)) = putH (mostH [] (rot rows tn k)) b := by
      rw [rot_succ rows tn k b (by rw [← hj]; exact hbj)]
      exact most_snoc _ _ _
    have np := putH_len (l := mostH [] (rows.take k)) (h := a)
    have p3 := pWithin (mostH [] (rows.take k)) (putH (mostH [] (rows.take k)) a) (by omega) (by omega) (putH_srt sk)
    rw [put_within sk ok oa] at p3
    have p4 := pSAt (putH (mostH [] (rows.take k)) a) (by omega) (putH_srt sk) a.item
    have p5 := put_at (h := a) sk
    have p6 := pRCmp (atS (putH (mostH [] (rows.take k)) a) a.item).1 (atS (putH (mostH [] (rows.take k)) a) a.item).2.1 (atS (putH (mostH [] (rows.take k)) a) a.item).2.2 a.a a.b a.c
    have ee : cmpS ((atS (putH (mostH [] (rows.take k)) a) a.item).1, (atS (putH (mostH [] (rows.take k)) a) a.item).2.1, (atS (putH (mostH [] (rows.take k)) a) a.item).2.2) (a.a, a.b, a.c) = cmpS (atS (putH (mostH [] (rows.take k)) a) a.item) a.s := rfl
    rw [ee] at p6
    rw [encS] at p4
    rw [encH] at p1 p2
    have hk1 : (k : Int) + 1 = ((k + 1 : Nat) : Int) := by omega
    have hkm : (k + 1) + m = 10 := by omega
    have hkl : (k : Int) < 10 := by omega
    obtain ⟨hjz, w0, w1, w2, w3⟩ := gr_w k tn j (by omega) htn hj
    have goal := ih (k + 1) _ (.fz (.list ((putH (mostH [] (rows.take k)) a).map encH))) (.fz (.list ((putH (mostH [] (rot rows tn k)) b).map encH))) hkm rfl (by rw [e1]; exact .inr rfl) (by rw [e2]; exact .inr rfl)
    rw [← hk1] at goal
    rw [x_iter]
    rcases hd with ⟨h5, rfl⟩ | rfl <;> rcases he with ⟨h6, rfl⟩ | rfl
    · rw [h5] at p1 p3
      rw [h6] at p2
      simp [u9_1, x_pure, x_skip, x_reg, x_drw, x_seq, x_cond, x_block, x_loop', Tm.keep_nil, x_exit, x_ret, k_seq, k_seq_ret, k_seq_exit, k_seq_none, k_seq_ite, k_cond, k_block, k_block_ret, k_block_exit, k_block_none, k_block_ite, k_iter, k_iter_ret, k_iter_exit, k_iter_none, k_iter_ite, k_reg, k_reg_none, k_reg_ite, x_is_nil, x_is, x_is_g, k_ins, k_ins_none, k_ins_ite, k_grd, x_ord_nil, x_ord, x_ord_g, k_ord, k_ord_none, k_ord_ite, k_ogrd, k_out_ret, k_out, k_out_none, k_out_ite, k_pure, k_pure_none, k_pure_ite, startD, dI, dA, deo, Tm.at, Tm.dst, Tm.set, Tm.put, Tm.keep, dW, dRes, oneOfD, mkTup, mkAgg, mkFn, allF, frL, fr, vD, vD1, vF, vFL, dBin, dEq, dNil, isNilD, dScal, F.cv, eBin, sameKind, eInt, eStr, cellsD, oneD, F.one, dFill, putAtD, chunk, dbnd, dSrc, St.own, St.drop, St.still, St.fresh, chkQ, stillQ, freshQ, lOf, rdOf, rdOK, undefD, F.full, F.fullL, List.mapIdx_cons, strip, allOne_nil, allOne_cons, allOne_append, allLen_nil, allLen_cons, allLen_append, roomOK_small, filterT, y_mv, y_pick, y_new, y_box, y_build, y_bslice, y_ld1, y_ldn, y_nilchk, y_bin, y_not, y_conv, y_bytes, y_string, y_ifc, y_fn, y_cut, y_cuts, y_fa, y_fld, y_ia, y_idx, y_idxs, y_ext, y_len, y_lenstr, y_app, y_grow, y_mks, y_slow, y_call, y_callv, y_inv, y_extc, x_it_st, x_it_clr, x_it_cpy, k_addT, k_addT_none, k_addT_ite, k_orU, k_orU_none, dU, D.turn, turnL, Tm.turn, turnS, St.turn, hkl, hk10, hj10, ha, hb, ht, encH_len, encH_take, rSPut, callR, p1, p2, rWithin, p3, rSAt, p4, rRCmp, p6, p5, w0, w1, w2, w3, hjz, encH]
      exact goal
    · rw [h5] at p1 p3
      simp [u9_1, x_pure, x_skip, x_reg, x_drw, x_seq, x_cond, x_block, x_loop', Tm.keep_nil, x_exit, x_ret, k_seq, k_seq_ret, k_seq_exit, k_seq_none, k_seq_ite, k_cond, k_block, k_block_ret, k_block_exit, k_block_none, k_block_ite, k_iter, k_iter_ret, k_iter_exit, k_iter_none, k_iter_ite, k_reg, k_reg_none, k_reg_ite, x_is_nil, x_is, x_is_g, k_ins, k_ins_none, k_ins_ite, k_grd, x_ord_nil, x_ord, x_ord_g, k_ord, k_ord_none, k_ord_ite, k_ogrd, k_out_ret, k_out, k_out_none, k_out_ite, k_pure, k_pure_none, k_pure_ite, startD, dI, dA, deo, Tm.at, Tm.dst, Tm.set, Tm.put, Tm.keep, dW, dRes, oneOfD, mkTup, mkAgg, mkFn, allF, frL, fr, vD, vD1, vF, vFL, dBin, dEq, dNil, isNilD, dScal, F.cv, eBin, sameKind, eInt, eStr, cellsD, oneD, F.one, dFill, putAtD, chunk, dbnd, dSrc, St.own, St.drop, St.still, St.fresh, chkQ, stillQ, freshQ, lOf, rdOf, rdOK, undefD, F.full, F.fullL, List.mapIdx_cons, strip, allOne_nil, allOne_cons, allOne_append, allLen_nil, allLen_cons, allLen_append, roomOK_small, filterT, y_mv, y_pick, y_new, y_box, y_build, y_bslice, y_ld1, y_ldn, y_nilchk, y_bin, y_not, y_conv, y_bytes, y_string, y_ifc, y_fn, y_cut, y_cuts, y_fa, y_fld, y_ia, y_idx, y_idxs, y_ext, y_len, y_lenstr, y_app, y_grow, y_mks, y_slow, y_call, y_callv, y_inv, y_extc, x_it_st, x_it_clr, x_it_cpy, k_addT, k_addT_none, k_addT_ite, k_orU, k_orU_none, dU, D.turn, turnL, Tm.turn, turnS, St.turn, hkl, hk10, hj10, ha, hb, ht, encH_len, encH_take, rSPut, callR, p1, p2, rWithin, p3, rSAt, p4, rRCmp, p6, p5, w0, w1, w2, w3, hjz, encH]
      exact goal
    · rw [h6] at p2
      simp [u9_1, x_pure, x_skip, x_reg, x_drw, x_seq, x_cond, x_block, x_loop', Tm.keep_nil, x_exit, x_ret, k_seq, k_seq_ret, k_seq_exit, k_seq_none, k_seq_ite, k_cond, k_block, k_block_ret, k_block_exit, k_block_none, k_block_ite, k_iter, k_iter_ret, k_iter_exit, k_iter_none, k_iter_ite, k_reg, k_reg_none, k_reg_ite, x_is_nil, x_is, x_is_g, k_ins, k_ins_none, k_ins_ite, k_grd, x_ord_nil, x_ord, x_ord_g, k_ord, k_ord_none, k_ord_ite, k_ogrd, k_out_ret, k_out, k_out_none, k_out_ite, k_pure, k_pure_none, k_pure_ite, startD, dI, dA, deo, Tm.at, Tm.dst, Tm.set, Tm.put, Tm.keep, dW, dRes, oneOfD, mkTup, mkAgg, mkFn, allF, frL, fr, vD, vD1, vF, vFL, dBin, dEq, dNil, isNilD, dScal, F.cv, eBin, sameKind, eInt, eStr, cellsD, oneD, F.one, dFill, putAtD, chunk, dbnd, dSrc, St.own, St.drop, St.still, St.fresh, chkQ, stillQ, freshQ, lOf, rdOf, rdOK, undefD, F.full, F.fullL, List.mapIdx_cons, strip, allOne_nil, allOne_cons, allOne_append, allLen_nil, allLen_cons, allLen_append, roomOK_small, filterT, y_mv, y_pick, y_new, y_box, y_build, y_bslice, y_ld1, y_ldn, y_nilchk, y_bin, y_not, y_conv, y_bytes, y_string, y_ifc, y_fn, y_cut, y_cuts, y_fa, y_fld, y_ia, y_idx, y_idxs, y_ext, y_len, y_lenstr, y_app, y_grow, y_mks, y_slow, y_call, y_callv, y_inv, y_extc, x_it_st, x_it_clr, x_it_cpy, k_addT, k_addT_none, k_addT_ite, k_orU, k_orU_none, dU, D.turn, turnL, Tm.turn, turnS, St.turn, hkl, hk10, hj10, ha, hb, ht, encH_len, encH_take, rSPut, callR, p1, p2, rWithin, p3, rSAt, p4, rRCmp, p6, p5, w0, w1, w2, w3, hjz, encH]
      exact goal
    · simp [u9_1, x_pure, x_skip, x_reg, x_drw, x_seq, x_cond, x_block, x_loop', Tm.keep_nil, x_exit, x_ret, k_seq, k_seq_ret, k_seq_exit, k_seq_none, k_seq_ite, k_cond, k_block, k_block_ret, k_block_exit, k_block_none, k_block_ite, k_iter, k_iter_ret, k_iter_exit, k_iter_none, k_iter_ite, k_reg, k_reg_none, k_reg_ite, x_is_nil, x_is, x_is_g, k_ins, k_ins_none, k_ins_ite, k_grd, x_ord_nil, x_ord, x_ord_g, k_ord, k_ord_none, k_ord_ite, k_ogrd, k_out_ret, k_out, k_out_none, k_out_ite, k_pure, k_pure_none, k_pure_ite, startD, dI, dA, deo, Tm.at, Tm.dst, Tm.set, Tm.put, Tm.keep, dW, dRes, oneOfD, mkTup, mkAgg, mkFn, allF, frL, fr, vD, vD1, vF, vFL, dBin, dEq, dNil, isNilD, dScal, F.cv, eBin, sameKind, eInt, eStr, cellsD, oneD, F.one, dFill, putAtD, chunk, dbnd, dSrc, St.own, St.drop, St.still, St.fresh, chkQ, stillQ, freshQ, lOf, rdOf, rdOK, undefD, F.full, F.fullL, List.mapIdx_cons, strip, allOne_nil, allOne_cons, allOne_append, allLen_nil, allLen_cons, allLen_append, roomOK_small, filterT, y_mv, y_pick, y_new, y_box, y_build, y_bslice, y_ld1, y_ldn, y_nilchk, y_bin, y_not, y_conv, y_bytes, y_string, y_ifc, y_fn, y_cut, y_cuts, y_fa, y_fld, y_ia, y_idx, y_idxs, y_ext, y_len, y_lenstr, y_app, y_grow, y_mks, y_slow, y_call, y_callv, y_inv, y_extc, x_it_st, x_it_clr, x_it_cpy, k_addT, k_addT_none, k_addT_ite, k_orU, k_orU_none, dU, D.turn, turnL, Tm.turn, turnS, St.turn, hkl, hk10, hj10, ha, hb, ht, encH_len, encH_take, rSPut, callR, p1, p2, rWithin, p3, rSAt, p4, rRCmp, p6, p5, w0, w1, w2, w3, hjz, encH]
      exact goal
theorem pSeenGrows (l1 : List Int) (h1 : l1.length ≤ maxLen) (hb1 : ∀ z ∈ l1, 0 ≤ z ∧ z < 256) (tz : Int) (hz : 0 ≤ tz ∧ tz < 256) :
    pureI Try.prog prims dx tbl 9 [.list (l1.map fun z => [.int .u8 z]), .int .u8 tz] = some (.bool true) := by
  rw [pureI_of (rfl : tbl 9 = some c9)]
  by_cases g1 : 40 < l1.length
  · simp [c9, x_pure, x_skip, x_reg, x_drw, x_seq, x_cond, x_block, x_loop', Tm.keep_nil, x_exit, x_ret, k_seq, k_seq_ret, k_seq_exit, k_seq_none, k_seq_ite, k_cond, k_block, k_block_ret, k_block_exit, k_block_none, k_block_ite, k_iter, k_iter_ret, k_iter_exit, k_iter_none, k_iter_ite, k_reg, k_reg_none, k_reg_ite, x_is_nil, x_is, x_is_g, k_ins, k_ins_none, k_ins_ite, k_grd, x_ord_nil, x_ord, x_ord_g, k_ord, k_ord_none, k_ord_ite, k_ogrd, k_out_ret, k_out, k_out_none, k_out_ite, k_pure, k_pure_none, k_pure_ite, startD, dI, dA, deo, Tm.at, Tm.dst, Tm.set, Tm.put, Tm.keep, dW, dRes, oneOfD, mkTup, mkAgg, mkFn, allF, frL, fr, vD, vD1, vF, vFL, dBin, dEq, dNil, isNilD, dScal, F.cv, eBin, sameKind, eInt, eStr, cellsD, oneD, F.one, dFill, putAtD, chunk, dbnd, dSrc, St.own, St.drop, St.still, St.fresh, chkQ, stillQ, freshQ, lOf, rdOf, rdOK, undefD, F.full, F.fullL, List.mapIdx_cons, strip, allOne_nil, allOne_cons, allOne_append, allLen_nil, allLen_cons, allLen_append, roomOK_small, filterT, y_mv, y_pick, y_new, y_box, y_build, y_bslice, y_ld1, y_ldn, y_nilchk, y_bin, y_not, y_conv, y_bytes, y_string, y_ifc, y_fn, y_cut, y_cuts, y_fa, y_fld, y_ia, y_idx, y_idxs, y_ext, y_len, y_lenstr, y_app, y_grow, y_mks, y_slow, y_call, y_callv, y_inv, y_extc, x_it_st, x_it_clr, x_it_cpy, k_addT, k_addT_none, k_addT_ite, k_orU, k_orU_none, dU, D.turn, turnL, Tm.turn, turnS, St.turn, qBegun9, show (40 : Int) < l1.length by omega]
  · obtain ⟨tn, rfl⟩ : ∃ tn : Nat, tz = tn := ⟨tz.toNat, by omega⟩
    have m1 := vMade l1
    obtain ⟨rows, d, i, L, c, T', hr, ho, hd, hk, hT⟩ := loopG tn l1 (u8s_of (by omega) hb1) 10 0 0 [] [] .nils 0 [] 0 rfl rfl rfl (fun h hh => by cases hh) rfl (.inl ⟨rfl, rfl⟩) (Nat.zero_le _)
    rcases hd with ⟨h5, rfl⟩ | ⟨t, ht, rfl⟩
    · have : rows = [] := by simpa using h5
      subst this
      simp at hr
    · obtain ⟨d, e, T2, st2, hd2, he2, hk2, hT2⟩ := loopW rows hr ho tn (by omega) [(true, [.fz (.list (l1.map fun z => [.int .u8 z])), .fz (.int .i64 i)])] ⟨_, rfl⟩ _ t L c rfl ht 10 0 0 .nils .nils rfl rfl (.inl ⟨rfl, rfl⟩) (.inl ⟨rfl, rfl⟩)
      have oe : OkHs [] := fun z hz => by cases hz
      have nm := srt_len (oe.most ho) (mostH_srt rows List.Pairwise.nil)
      have es := most_same ho fun h => (rot_mem rows hr tn h).symm
      rw [← es] at he2
      have c1 := pSame (mostH [] rows) (mostH [] rows) (by omega) (by omega)
      simp at c1
      simp at hT hT2
      rcases hd2 with ⟨h6, rfl⟩ | rfl <;> rcases he2 with ⟨h7, rfl⟩ | rfl
      · rw [h6] at c1
        simp [c9, x_pure, x_skip, x_reg, x_drw, x_seq, x_cond, x_block, x_loop', Tm.keep_nil, x_exit, x_ret, k_seq, k_seq_ret, k_seq_exit, k_seq_none, k_seq_ite, k_cond, k_block, k_block_ret, k_block_exit, k_block_none, k_block_ite, k_iter, k_iter_ret, k_iter_exit, k_iter_none, k_iter_ite, k_reg, k_reg_none, k_reg_ite, x_is_nil, x_is, x_is_g, k_ins, k_ins_none, k_ins_ite, k_grd, x_ord_nil, x_ord, x_ord_g, k_ord, k_ord_none, k_ord_ite, k_ogrd, k_out_ret, k_out, k_out_none, k_out_ite, k_pure, k_pure_none, k_pure_ite, startD, dI, dA, deo, Tm.at, Tm.dst, Tm.set, Tm.put, Tm.keep, dW, dRes, oneOfD, mkTup, mkAgg, mkFn, allF, frL, fr, vD, vD1, vF, vFL, dBin, dEq, dNil, isNilD, dScal, F.cv, eBin, sameKind, eInt, eStr, cellsD, oneD, F.one, dFill, putAtD, chunk, dbnd, dSrc, St.own, St.drop, St.still, St.fresh, chkQ, stillQ, freshQ, lOf, rdOf, rdOK, undefD, F.full, F.fullL, List.mapIdx_cons, strip, allOne_nil, allOne_cons, allOne_append, allLen_nil, allLen_cons, allLen_append, roomOK_small, filterT, y_mv, y_pick, y_new, y_box, y_build, y_bslice, y_ld1, y_ldn, y_nilchk, y_bin, y_not, y_conv, y_bytes, y_string, y_ifc, y_fn, y_cut, y_cuts, y_fa, y_fld, y_ia, y_idx, y_idxs, y_ext, y_len, y_lenstr, y_app, y_grow, y_mks, y_slow, y_call, y_callv, y_inv, y_extc, x_it_st, x_it_clr, x_it_cpy, k_addT, k_addT_none, k_addT_ite, k_orU, k_orU_none, dU, D.turn, turnL, Tm.turn, turnS, St.turn, x_vars, varsOf, varsK, varsK_ite, finals, callVars, splitV, contents, updV, orC, qBegun9, show ¬ (40 : Int) < l1.length by omega, rMade, m1, hT, hk, hT2, hk2, rSame, callR, c1]
      · rw [h6] at c1
        simp [c9, x_pure, x_skip, x_reg, x_drw, x_seq, x_cond, x_block, x_loop', Tm.keep_nil, x_exit, x_ret, k_seq, k_seq_ret, k_seq_exit, k_seq_none, k_seq_ite, k_cond, k_block, k_block_ret, k_block_exit, k_block_none, k_block_ite, k_iter, k_iter_ret, k_iter_exit, k_iter_none, k_iter_ite, k_reg, k_reg_none, k_reg_ite, x_is_nil, x_is, x_is_g, k_ins, k_ins_none, k_ins_ite, k_grd, x_ord_nil, x_ord, x_ord_g, k_ord, k_ord_none, k_ord_ite, k_ogrd, k_out_ret, k_out, k_out_none, k_out_ite, k_pure, k_pure_none, k_pure_ite, startD, dI, dA, deo, Tm.at, Tm.dst, Tm.set, Tm.put, Tm.keep, dW, dRes, oneOfD, mkTup, mkAgg, mkFn, allF, frL, fr, vD, vD1, vF, vFL, dBin, dEq, dNil, isNilD, dScal, F.cv, eBin, sameKind, eInt, eStr, cellsD, oneD, F.one, dFill, putAtD, chunk, dbnd, dSrc, St.own, St.drop, St.still, St.fresh, chkQ, stillQ, freshQ, lOf, rdOf, rdOK, undefD, F.full, F.fullL, List.mapIdx_cons, strip, allOne_nil, allOne_cons, allOne_append, allLen_nil, allLen_cons, allLen_append, roomOK_small, filterT, y_mv, y_pick, y_new, y_box, y_build, y_bslice, y_ld1, y_ldn, y_nilchk, y_bin, y_not, y_conv, y_bytes, y_string, y_ifc, y_fn, y_cut, y_cuts, y_fa, y_fld, y_ia, y_idx, y_idxs, y_ext, y_len, y_lenstr, y_app, y_grow, y_mks, y_slow, y_call, y_callv, y_inv, y_extc, x_it_st, x_it_clr, x_it_cpy, k_addT, k_addT_none, k_addT_ite, k_orU, k_orU_none, dU, D.turn, turnL, Tm.turn, turnS, St.turn, x_vars, varsOf, varsK, varsK_ite, finals, callVars, splitV, contents, updV, orC, qBegun9, show ¬ (40 : Int) < l1.length by omega, rMade, m1, hT, hk, hT2, hk2, rSame, callR, c1, h6]
      · rw [h7] at c1
        simp [c9, x_pure, x_skip, x_reg, x_drw, x_seq, x_cond, x_block, x_loop', Tm.keep_nil, x_exit, x_ret, k_seq, k_seq_ret, k_seq_exit, k_seq_none, k_seq_ite, k_cond, k_block, k_block_ret, k_block_exit, k_block_none, k_block_ite, k_iter, k_iter_ret, k_iter_exit, k_iter_none, k_iter_ite, k_reg, k_reg_none, k_reg_ite, x_is_nil, x_is, x_is_g, k_ins, k_ins_none, k_ins_ite, k_grd, x_ord_nil, x_ord, x_ord_g, k_ord, k_ord_none, k_ord_ite, k_ogrd, k_out_ret, k_out, k_out_none, k_out_ite, k_pure, k_pure_none, k_pure_ite, startD, dI, dA, deo, Tm.at, Tm.dst, Tm.set, Tm.put, Tm.keep, dW, dRes, oneOfD, mkTup, mkAgg, mkFn, allF, frL, fr, vD, vD1, vF, vFL, dBin, dEq, dNil, isNilD, dScal, F.cv, eBin, sameKind, eInt, eStr, cellsD, oneD, F.one, dFill, putAtD, chunk, dbnd, dSrc, St.own, St.drop, St.still, St.fresh, chkQ, stillQ, freshQ, lOf, rdOf, rdOK, undefD, F.full, F.fullL, List.mapIdx_cons, strip, allOne_nil, allOne_cons, allOne_append, allLen_nil, allLen_cons, allLen_append, roomOK_small, filterT, y_mv, y_pick, y_new, y_box, y_build, y_bslice, y_ld1, y_ldn, y_nilchk, y_bin, y_not, y_conv, y_bytes, y_string, y_ifc, y_fn, y_cut, y_cuts, y_fa, y_fld, y_ia, y_idx, y_idxs, y_ext, y_len, y_lenstr, y_app, y_grow, y_mks, y_slow, y_call, y_callv, y_inv, y_extc, x_it_st, x_it_clr, x_it_cpy, k_addT, k_addT_none, k_addT_ite, k_orU, k_orU_none, dU, D.turn, turnL, Tm.turn, turnS, St.turn, x_vars, varsOf, varsK, varsK_ite, finals, callVars, splitV, contents, updV, orC, qBegun9, show ¬ (40 : Int) < l1.length by omega, rMade, m1, hT, hk, hT2, hk2, rSame, callR, c1, h7]
      · simp [c9, x_pure, x_skip, x_reg, x_drw, x_seq, x_cond, x_block, x_loop', Tm.keep_nil, x_exit, x_ret, k_seq, k_seq_ret, k_seq_exit, k_seq_none, k_seq_ite, k_cond, k_block, k_block_ret, k_block_exit, k_block_none, k_block_ite, k_iter, k_iter_ret, k_iter_exit, k_iter_none, k_iter_ite, k_reg, k_reg_none, k_reg_ite, x_is_nil, x_is, x_is_g, k_ins, k_ins_none, k_ins_ite, k_grd, x_ord_nil, x_ord, x_ord_g, k_ord, k_ord_none, k_ord_ite, k_ogrd, k_out_ret, k_out, k_out_none, k_out_ite, k_pure, k_pure_none, k_pure_ite, startD, dI, dA, deo, Tm.at, Tm.dst, Tm.set, Tm.put, Tm.keep, dW, dRes, oneOfD, mkTup, mkAgg, mkFn, allF, frL, fr, vD, vD1, vF, vFL, dBin, dEq, dNil, isNilD, dScal, F.cv, eBin, sameKind, eInt, eStr, cellsD, oneD, F.one, dFill, putAtD, chunk, dbnd, dSrc, St.own, St.drop, St.still, St.fresh, chkQ, stillQ, freshQ, lOf, rdOf, rdOK, undefD, F.full, F.fullL, List.mapIdx_cons, strip, allOne_nil, allOne_cons, allOne_append, allLen_nil, allLen_cons, allLen_append, roomOK_small, filterT, y_mv, y_pick, y_new, y_box, y_build, y_bslice, y_ld1, y_ldn, y_nilchk, y_bin, y_not, y_conv, y_bytes, y_string, y_ifc, y_fn, y_cut, y_cuts, y_fa, y_fld, y_ia, y_idx, y_idxs, y_ext, y_len, y_lenstr, y_app, y_grow, y_mks, y_slow, y_call, y_callv, y_inv, y_extc, x_it_st, x_it_clr, x_it_cpy, k_addT, k_addT_none, k_addT_ite, k_orU, k_orU_none, dU, D.turn, turnL, Tm.turn, turnS, St.turn, x_vars, varsOf, varsK, varsK_ite, finals, callVars, splitV, contents, updV, orC, qBegun9, show ¬ (40 : Int) < l1.length by omega, rMade, m1, hT, hk, hT2, hk2, rSame, callR, c1]
end Go.Proofs.Ytmbboljcgpccfaa.Pl
