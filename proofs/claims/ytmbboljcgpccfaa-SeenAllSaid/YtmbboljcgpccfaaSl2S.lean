/-
  What is proved here: what either saw last both have seen, in whichever order, and no more; what was seen only grows; of two of which each has seen what the other one has both have seen the same.
  Conditions: none.
-/
import Derived.Test.YtmbboljcgpccfaaSqS
set_option linter.unusedVariables false
set_option linter.unusedSimpArgs false
set_option maxRecDepth 100000
set_option maxHeartbeats 8000000
namespace Go.Proofs.Ytmbboljcgpccfaa.Pl
open Go Go.Proofs Go.Proofs.Ev Go.Proofs.Dv Cd

theorem u8s_of {l : List Int} (h : l.length ≤ 1000) (hb : ∀ z ∈ l, 0 ≤ z ∧ z < 256) : U8s l := ⟨by omega, hb⟩
theorem qBegun9 (st : Dv.St) : callI Try.prog prims dx tbl 37 [] st = some (.fz (.bool true), st, []) := callI_iff.2 ⟨60, by kernel_rfl⟩
def Hd.ok (h : Hd) : Prop := 1 ≤ h.item ∧ h.item ≤ 6 ∧ 1 ≤ h.a ∧ h.a ≤ 9 ∧ 1 ≤ h.b ∧ h.b ≤ 3 ∧ 1 ≤ h.c ∧ h.c ≤ h.a
def OkHs (l : List Hd) : Prop := ∀ h ∈ l, h.ok
theorem Hd.ok.pos {h : Hd} (k : h.ok) : 0 < cmpS h.s (0, 0, 0) := by
  have := (cmpS_gt h.a h.b h.c 0 0 0).2 (by have := k; unfold Hd.ok at this; omega)
  show 0 < cmpS (h.a, h.b, h.c) (0, 0, 0)
  omega
theorem OkHs.pos {l : List Hd} (k : OkHs l) : Pos l := fun h hh => (k h hh).pos
theorem Hd.ok.may {h : Hd} (k : h.ok) : mayB h.a h.b h.c = true := by
  unfold Hd.ok at k
  have : h.c ≤ (if 1000 < h.a then 1000 else h.a) := by split <;> omega
  simp [mayB, this]
  omega
theorem mayHs_ok : ∀ {l : List Hd} (last : Int), OkHs l → Srt l → (∀ h ∈ l, last < h.item) → mayHs last l = true
  | [], _, _, _, _ => rfl
  | x :: r, last, k, hs, hl => by
    obtain ⟨h1, h2⟩ := List.pairwise_cons.1 hs
    have hx := k x (by simp)
    have hm := hx.may
    have h3 := hl x (by simp)
    unfold Hd.ok at hx
    simp only [mayHs]
    rw [if_neg (by rw [hm]; simp; omega)]
    exact mayHs_ok x.item (fun h hh => k h (List.mem_cons_of_mem _ hh)) h2 h1
theorem OkHs.may {l : List Hd} (k : OkHs l) (hs : Srt l) : mayHs 0 l = true := mayHs_ok 0 k hs fun h hh => by have := k h hh; unfold Hd.ok at this; omega
theorem OkHs.most {l m : List Hd} (k : OkHs l) (k' : OkHs m) : OkHs (mostH l m) := fun h hh => by
  rcases mostH_mem m hh with h1 | h1
  · exact k h h1
  · exact k' h h1
theorem srt_len {l : List Hd} (k : OkHs l) (hs : Srt l) : l.length ≤ 6 := by
  have : ∀ (l : List Hd) (n : Int), Srt l → (∀ h ∈ l, n < h.item ∧ h.item ≤ 6) → n ≤ 6 → (l.length : Int) ≤ 6 - n := by
    intro l
    induction l with
    | nil => intro n _ _ hn; simp; omega
    | cons x r ih =>
      intro n hs hb hn
      obtain ⟨h1, h2⟩ := List.pairwise_cons.1 hs
      have hx := hb x (by simp)
      have := ih x.item h2 (fun h hh => ⟨h1 h hh, (hb h (List.mem_cons_of_mem _ hh)).2⟩) hx.2
      simp only [List.length_cons]
      omega
  have := this l 0 hs (fun h hh => by have := k h hh; unfold Hd.ok at this; omega) (by omega)
  omega

/-! ### Heads by numbers -/
theorem vOver (l : List Int) (hl : U8s l) (i : Nat) (hi : i ≤ l.length) : varsI Try.prog prims dx tbl 68 [.ptr 0 0] [[.list (l.map fun z => [.int .u8 z]), .int .i64 i]] = some (.val (.bool (decide (l.length ≤ i))), [[.list (l.map fun z => [.int .u8 z]), .int .i64 i]]) := by
  rw [varsI_of (rfl : tbl 68 = some c68)]
  simp [c68, x_pure, x_skip, x_reg, x_drw, x_seq, x_cond, x_block, x_loop', Tm.keep_nil, x_exit, x_ret, k_seq, k_seq_ret, k_seq_exit, k_seq_none, k_seq_ite, k_cond, k_block, k_block_ret, k_block_exit, k_block_none, k_block_ite, k_iter, k_iter_ret, k_iter_exit, k_iter_none, k_iter_ite, k_reg, k_reg_none, k_reg_ite, x_is_nil, x_is, x_is_g, k_ins, k_ins_none, k_ins_ite, k_grd, x_ord_nil, x_ord, x_ord_g, k_ord, k_ord_none, k_ord_ite, k_ogrd, k_out_ret, k_out, k_out_none, k_out_ite, k_pure, k_pure_none, k_pure_ite, startD, dI, dA, deo, Tm.at, Tm.dst, Tm.set, Tm.put, Tm.keep, dW, dRes, oneOfD, mkTup, mkAgg, mkFn, allF, frL, fr, vD, vD1, vF, vFL, dBin, dEq, dNil, isNilD, dScal, F.cv, eBin, sameKind, eInt, eStr, cellsD, oneD, F.one, dFill, putAtD, chunk, dbnd, dSrc, St.own, St.drop, St.still, St.fresh, chkQ, stillQ, freshQ, lOf, rdOf, rdOK, undefD, F.full, F.fullL, List.mapIdx_cons, strip, allOne_nil, allOne_cons, allOne_append, allLen_nil, allLen_cons, allLen_append, roomOK_small, filterT, y_mv, y_pick, y_new, y_box, y_build, y_bslice, y_ld1, y_ldn, y_nilchk, y_bin, y_not, y_conv, y_bytes, y_string, y_ifc, y_fn, y_cut, y_cuts, y_fa, y_fld, y_ia, y_idx, y_idxs, y_ext, y_len, y_lenstr, y_app, y_grow, y_mks, y_slow, y_call, y_callv, y_inv, y_extc, x_it_st, x_it_clr, x_it_cpy, k_addT, k_addT_none, k_addT_ite, k_orU, k_orU_none, dU, D.turn, turnL, Tm.turn, turnS, St.turn, x_vars, varsOf, varsK, varsK_ite, finals, callVars, splitV, contents, updV, orC]
theorem rOver (ds : List D) (st : Dv.St) : callI Try.prog prims dx tbl 68 ds st = orC (callVars (varsI Try.prog prims dx tbl 68) ds st) (callI0 Try.prog prims dx tbl 68 ds st) := callRwV rfl rfl (rfl : tbl 68 = some c68) rfl ds st
def FrzD (rows : List (List F)) (d : D) : Prop := (rows = [] ∧ d = .nils) ∨ d = .fz (.list rows)
def PostHs (r : Option DSt) : Prop := ∃ (l : List Hd) (d : D) (st' : Dv.St) (T' : Tm), Srt l ∧ OkHs l ∧ FrzD (l.map encH) d ∧ T'.keep [4] = [(4, d)] ∧ r = some (.exit 0, T', st')
theorem loopHs (p : List Int) (hp : U8s p) : ∀ (m k : Nat) (kz : Int) (l : List Hd) (d : D) (i : Nat) (L : List Nat) (c : Nat), k + m = 6 → kz = k → Srt l → OkHs l → FrzD (l.map encH) d → i ≤ p.length →
    PostHs (iterI (dCw Try.prog (callI Try.prog prims dx tbl) l38_0) [3, 4, 5] [(3, .ptr 0 0), (4, d), (5, .fz (.int .i64 kz))] ⟨[(true, [.fz (.list (p.map fun z => [.int .u8 z])), .fz (.int .i64 i)])], L, c⟩) := by
  intro m
  induction m with
  | zero =>
    intro k kz l d i L c hk hz hs ho hd hi
    obtain rfl : k = 6 := by omega
    rw [x_iter]
    simp [u38_0, x_pure, x_skip, x_reg, x_drw, x_seq, x_cond, x_block, x_loop', Tm.keep_nil, x_exit, x_ret, k_seq, k_seq_ret, k_seq_exit, k_seq_none, k_seq_ite, k_cond, k_block, k_block_ret, k_block_exit, k_block_none, k_block_ite, k_iter, k_iter_ret, k_iter_exit, k_iter_none, k_iter_ite, k_reg, k_reg_none, k_reg_ite, x_is_nil, x_is, x_is_g, k_ins, k_ins_none, k_ins_ite, k_grd, x_ord_nil, x_ord, x_ord_g, k_ord, k_ord_none, k_ord_ite, k_ogrd, k_out_ret, k_out, k_out_none, k_out_ite, k_pure, k_pure_none, k_pure_ite, startD, dI, dA, deo, Tm.at, Tm.dst, Tm.set, Tm.put, Tm.keep, dW, dRes, oneOfD, mkTup, mkAgg, mkFn, allF, frL, fr, vD, vD1, vF, vFL, dBin, dEq, dNil, isNilD, dScal, F.cv, eBin, sameKind, eInt, eStr, cellsD, oneD, F.one, dFill, putAtD, chunk, dbnd, dSrc, St.own, St.drop, St.still, St.fresh, chkQ, stillQ, freshQ, lOf, rdOf, rdOK, undefD, F.full, F.fullL, List.mapIdx_cons, strip, allOne_nil, allOne_cons, allOne_append, allLen_nil, allLen_cons, allLen_append, roomOK_small, filterT, y_mv, y_pick, y_new, y_box, y_build, y_bslice, y_ld1, y_ldn, y_nilchk, y_bin, y_not, y_conv, y_bytes, y_string, y_ifc, y_fn, y_cut, y_cuts, y_fa, y_fld, y_ia, y_idx, y_idxs, y_ext, y_len, y_lenstr, y_app, y_grow, y_mks, y_slow, y_call, y_callv, y_inv, y_extc, x_it_st, x_it_clr, x_it_cpy, k_addT, k_addT_none, k_addT_ite, k_orU, k_orU_none, dU, D.turn, turnL, Tm.turn, turnS, St.turn, hz]
    exact ⟨l, d, _, _, hs, ho, hd, by simp [Tm.keep], rfl⟩
  | succ m ih =>
    intro k kz l d i L c hk hz hs ho hd hi
    have hk6 : kz < 6 := by omega
    have e0 := vOver p hp i hi
    have wk : wrapF .i64 (kz + 1) = kz + 1 := wrap_id _ (by omega) (by omega)
    by_cases hov : p.length ≤ i
    · simp [hov] at e0
      rw [x_iter]
      simp [u38_0, x_pure, x_skip, x_reg, x_drw, x_seq, x_cond, x_block, x_loop', Tm.keep_nil, x_exit, x_ret, k_seq, k_seq_ret, k_seq_exit, k_seq_none, k_seq_ite, k_cond, k_block, k_block_ret, k_block_exit, k_block_none, k_block_ite, k_iter, k_iter_ret, k_iter_exit, k_iter_none, k_iter_ite, k_reg, k_reg_none, k_reg_ite, x_is_nil, x_is, x_is_g, k_ins, k_ins_none, k_ins_ite, k_grd, x_ord_nil, x_ord, x_ord_g, k_ord, k_ord_none, k_ord_ite, k_ogrd, k_out_ret, k_out, k_out_none, k_out_ite, k_pure, k_pure_none, k_pure_ite, startD, dI, dA, deo, Tm.at, Tm.dst, Tm.set, Tm.put, Tm.keep, dW, dRes, oneOfD, mkTup, mkAgg, mkFn, allF, frL, fr, vD, vD1, vF, vFL, dBin, dEq, dNil, isNilD, dScal, F.cv, eBin, sameKind, eInt, eStr, cellsD, oneD, F.one, dFill, putAtD, chunk, dbnd, dSrc, St.own, St.drop, St.still, St.fresh, chkQ, stillQ, freshQ, lOf, rdOf, rdOK, undefD, F.full, F.fullL, List.mapIdx_cons, strip, allOne_nil, allOne_cons, allOne_append, allLen_nil, allLen_cons, allLen_append, roomOK_small, filterT, y_mv, y_pick, y_new, y_box, y_build, y_bslice, y_ld1, y_ldn, y_nilchk, y_bin, y_not, y_conv, y_bytes, y_string, y_ifc, y_fn, y_cut, y_cuts, y_fa, y_fld, y_ia, y_idx, y_idxs, y_ext, y_len, y_lenstr, y_app, y_grow, y_mks, y_slow, y_call, y_callv, y_inv, y_extc, x_it_st, x_it_clr, x_it_cpy, k_addT, k_addT_none, k_addT_ite, k_orU, k_orU_none, dU, D.turn, turnL, Tm.turn, turnS, St.turn, x_vars, varsOf, varsK, varsK_ite, finals, callVars, splitV, contents, updV, orC, hk6, rOver, e0]
      exact ⟨l, d, _, _, hs, ho, hd, by simp [Tm.keep], rfl⟩
    · simp [hov] at e0
      obtain ⟨n1, i1, b1, m1, _, e1⟩ := vNum p hp i hi 6
      have m1 := m1 (by omega)
      obtain ⟨a, b, c', i2, b2, hst, e2⟩ := vStamp p hp i1 b1
      have w1 : wrapF .i64 (1 + n1) = 1 + n1 := wrap_id _ (by omega) (by omega)
      have hok : Hd.ok ⟨1 + n1, a, b, c'⟩ := by unfold Hd.ok; simp only; omega
      have hpt := pPut l (by have := srt_len ho hs; omega) hs ⟨1 + n1, a, b, c'⟩
      have hs' : Srt (putH l ⟨1 + n1, a, b, c'⟩) := putH_srt hs
      have ho' : OkHs (putH l ⟨1 + n1, a, b, c'⟩) := fun h hh => by
        rcases putH_mem hh with rfl | h1
        · exact hok
        · exact ho h h1
      have hk1 : kz + 1 = ((k + 1 : Nat) : Int) := by omega
      have hkm : (k + 1) + m = 6 := by omega
      rw [encH] at hpt
      rw [x_iter]
      rcases hd with ⟨h5, rfl⟩ | rfl
      · have h6 : l = [] := by simpa using h5
        subst h6
        simp at hpt
        simp [u38_0, x_pure, x_skip, x_reg, x_drw, x_seq, x_cond, x_block, x_loop', Tm.keep_nil, x_exit, x_ret, k_seq, k_seq_ret, k_seq_exit, k_seq_none, k_seq_ite, k_cond, k_block, k_block_ret, k_block_exit, k_block_none, k_block_ite, k_iter, k_iter_ret, k_iter_exit, k_iter_none, k_iter_ite, k_reg, k_reg_none, k_reg_ite, x_is_nil, x_is, x_is_g, k_ins, k_ins_none, k_ins_ite, k_grd, x_ord_nil, x_ord, x_ord_g, k_ord, k_ord_none, k_ord_ite, k_ogrd, k_out_ret, k_out, k_out_none, k_out_ite, k_pure, k_pure_none, k_pure_ite, startD, dI, dA, deo, Tm.at, Tm.dst, Tm.set, Tm.put, Tm.keep, dW, dRes, oneOfD, mkTup, mkAgg, mkFn, allF, frL, fr, vD, vD1, vF, vFL, dBin, dEq, dNil, isNilD, dScal, F.cv, eBin, sameKind, eInt, eStr, cellsD, oneD, F.one, dFill, putAtD, chunk, dbnd, dSrc, St.own, St.drop, St.still, St.fresh, chkQ, stillQ, freshQ, lOf, rdOf, rdOK, undefD, F.full, F.fullL, List.mapIdx_cons, strip, allOne_nil, allOne_cons, allOne_append, allLen_nil, allLen_cons, allLen_append, roomOK_small, filterT, y_mv, y_pick, y_new, y_box, y_build, y_bslice, y_ld1, y_ldn, y_nilchk, y_bin, y_not, y_conv, y_bytes, y_string, y_ifc, y_fn, y_cut, y_cuts, y_fa, y_fld, y_ia, y_idx, y_idxs, y_ext, y_len, y_lenstr, y_app, y_grow, y_mks, y_slow, y_call, y_callv, y_inv, y_extc, x_it_st, x_it_clr, x_it_cpy, k_addT, k_addT_none, k_addT_ite, k_orU, k_orU_none, dU, D.turn, turnL, Tm.turn, turnS, St.turn, x_vars, varsOf, varsK, varsK_ite, finals, callVars, splitV, contents, updV, orC, hk6, rOver, e0, rNum, e1, rStamp, e2, w1, rPut, callR, hpt, wk]
        exact ih (k + 1) _ _ _ _ _ _ hkm hk1 hs' ho' (.inr rfl) b2
      · simp [u38_0, x_pure, x_skip, x_reg, x_drw, x_seq, x_cond, x_block, x_loop', Tm.keep_nil, x_exit, x_ret, k_seq, k_seq_ret, k_seq_exit, k_seq_none, k_seq_ite, k_cond, k_block, k_block_ret, k_block_exit, k_block_none, k_block_ite, k_iter, k_iter_ret, k_iter_exit, k_iter_none, k_iter_ite, k_reg, k_reg_none, k_reg_ite, x_is_nil, x_is, x_is_g, k_ins, k_ins_none, k_ins_ite, k_grd, x_ord_nil, x_ord, x_ord_g, k_ord, k_ord_none, k_ord_ite, k_ogrd, k_out_ret, k_out, k_out_none, k_out_ite, k_pure, k_pure_none, k_pure_ite, startD, dI, dA, deo, Tm.at, Tm.dst, Tm.set, Tm.put, Tm.keep, dW, dRes, oneOfD, mkTup, mkAgg, mkFn, allF, frL, fr, vD, vD1, vF, vFL, dBin, dEq, dNil, isNilD, dScal, F.cv, eBin, sameKind, eInt, eStr, cellsD, oneD, F.one, dFill, putAtD, chunk, dbnd, dSrc, St.own, St.drop, St.still, St.fresh, chkQ, stillQ, freshQ, lOf, rdOf, rdOK, undefD, F.full, F.fullL, List.mapIdx_cons, strip, allOne_nil, allOne_cons, allOne_append, allLen_nil, allLen_cons, allLen_append, roomOK_small, filterT, y_mv, y_pick, y_new, y_box, y_build, y_bslice, y_ld1, y_ldn, y_nilchk, y_bin, y_not, y_conv, y_bytes, y_string, y_ifc, y_fn, y_cut, y_cuts, y_fa, y_fld, y_ia, y_idx, y_idxs, y_ext, y_len, y_lenstr, y_app, y_grow, y_mks, y_slow, y_call, y_callv, y_inv, y_extc, x_it_st, x_it_clr, x_it_cpy, k_addT, k_addT_none, k_addT_ite, k_orU, k_orU_none, dU, D.turn, turnL, Tm.turn, turnS, St.turn, x_vars, varsOf, varsK, varsK_ite, finals, callVars, splitV, contents, updV, orC, hk6, rOver, e0, rNum, e1, rStamp, e2, w1, rPut, callR, hpt, wk]
        exact ih (k + 1) _ _ _ _ _ _ hkm hk1 hs' ho' (.inr rfl) b2
theorem pHeads (p : List Int) (hp : U8s p) : ∃ l : List Hd, Srt l ∧ OkHs l ∧ pureI Try.prog prims dx tbl 38 [.list (p.map fun z => [.int .u8 z])] = some (.list (l.map encH)) := by
  obtain ⟨l, d, st', T', hs, ho, hd, hk, hT⟩ := loopHs p hp 6 0 0 [] .nils 0 [] 0 rfl rfl List.Pairwise.nil (fun h hh => by cases hh) (.inl ⟨rfl, rfl⟩) (Nat.zero_le _)
  refine ⟨l, hs, ho, ?_⟩
  have m1 := vMade p
  rw [pureI_of (rfl : tbl 38 = some c38)]
  simp at hT
  rcases hd with ⟨h5, rfl⟩ | rfl
  · simp [c38, x_pure, x_skip, x_reg, x_drw, x_seq, x_cond, x_block, x_loop', Tm.keep_nil, x_exit, x_ret, k_seq, k_seq_ret, k_seq_exit, k_seq_none, k_seq_ite, k_cond, k_block, k_block_ret, k_block_exit, k_block_none, k_block_ite, k_iter, k_iter_ret, k_iter_exit, k_iter_none, k_iter_ite, k_reg, k_reg_none, k_reg_ite, x_is_nil, x_is, x_is_g, k_ins, k_ins_none, k_ins_ite, k_grd, x_ord_nil, x_ord, x_ord_g, k_ord, k_ord_none, k_ord_ite, k_ogrd, k_out_ret, k_out, k_out_none, k_out_ite, k_pure, k_pure_none, k_pure_ite, startD, dI, dA, deo, Tm.at, Tm.dst, Tm.set, Tm.put, Tm.keep, dW, dRes, oneOfD, mkTup, mkAgg, mkFn, allF, frL, fr, vD, vD1, vF, vFL, dBin, dEq, dNil, isNilD, dScal, F.cv, eBin, sameKind, eInt, eStr, cellsD, oneD, F.one, dFill, putAtD, chunk, dbnd, dSrc, St.own, St.drop, St.still, St.fresh, chkQ, stillQ, freshQ, lOf, rdOf, rdOK, undefD, F.full, F.fullL, List.mapIdx_cons, strip, allOne_nil, allOne_cons, allOne_append, allLen_nil, allLen_cons, allLen_append, roomOK_small, filterT, y_mv, y_pick, y_new, y_box, y_build, y_bslice, y_ld1, y_ldn, y_nilchk, y_bin, y_not, y_conv, y_bytes, y_string, y_ifc, y_fn, y_cut, y_cuts, y_fa, y_fld, y_ia, y_idx, y_idxs, y_ext, y_len, y_lenstr, y_app, y_grow, y_mks, y_slow, y_call, y_callv, y_inv, y_extc, x_it_st, x_it_clr, x_it_cpy, k_addT, k_addT_none, k_addT_ite, k_orU, k_orU_none, dU, D.turn, turnL, Tm.turn, turnS, St.turn, x_vars, varsOf, varsK, varsK_ite, finals, callVars, splitV, contents, updV, orC, rMade, m1, hT, hk, h5]
  · simp [c38, x_pure, x_skip, x_reg, x_drw, x_seq, x_cond, x_block, x_loop', Tm.keep_nil, x_exit, x_ret, k_seq, k_seq_ret, k_seq_exit, k_seq_none, k_seq_ite, k_cond, k_block, k_block_ret, k_block_exit, k_block_none, k_block_ite, k_iter, k_iter_ret, k_iter_exit, k_iter_none, k_iter_ite, k_reg, k_reg_none, k_reg_ite, x_is_nil, x_is, x_is_g, k_ins, k_ins_none, k_ins_ite, k_grd, x_ord_nil, x_ord, x_ord_g, k_ord, k_ord_none, k_ord_ite, k_ogrd, k_out_ret, k_out, k_out_none, k_out_ite, k_pure, k_pure_none, k_pure_ite, startD, dI, dA, deo, Tm.at, Tm.dst, Tm.set, Tm.put, Tm.keep, dW, dRes, oneOfD, mkTup, mkAgg, mkFn, allF, frL, fr, vD, vD1, vF, vFL, dBin, dEq, dNil, isNilD, dScal, F.cv, eBin, sameKind, eInt, eStr, cellsD, oneD, F.one, dFill, putAtD, chunk, dbnd, dSrc, St.own, St.drop, St.still, St.fresh, chkQ, stillQ, freshQ, lOf, rdOf, rdOK, undefD, F.full, F.fullL, List.mapIdx_cons, strip, allOne_nil, allOne_cons, allOne_append, allLen_nil, allLen_cons, allLen_append, roomOK_small, filterT, y_mv, y_pick, y_new, y_box, y_build, y_bslice, y_ld1, y_ldn, y_nilchk, y_bin, y_not, y_conv, y_bytes, y_string, y_ifc, y_fn, y_cut, y_cuts, y_fa, y_fld, y_ia, y_idx, y_idxs, y_ext, y_len, y_lenstr, y_app, y_grow, y_mks, y_slow, y_call, y_callv, y_inv, y_extc, x_it_st, x_it_clr, x_it_cpy, k_addT, k_addT_none, k_addT_ite, k_orU, k_orU_none, dU, D.turn, turnL, Tm.turn, turnS, St.turn, x_vars, varsOf, varsK, varsK_ite, finals, callVars, splitV, contents, updV, orC, rMade, m1, hT, hk]
theorem rHeads (ds : List D) (st : Dv.St) : callI Try.prog prims dx tbl 38 ds st = callR Try.prog prims dx tbl 38 ds st (frL (fr st 6) ds) := callRw rfl rfl (rfl : tbl 38 = some c38) rfl ds st

/-! ### SeenBoth -/
theorem within_self {l : List Hd} (hs : Srt l) (ho : OkHs l) : withinH l l = true := (within_iff hs ho.pos).2 fun i => leS_refl _
theorem within_trans {x y z : List Hd} (hx : Srt x) (hy : Srt y) (oy : OkHs y) (oz : OkHs z) (h1 : withinH x y = true) (h2 : withinH y z = true) : withinH x z = true := (within_iff hx oz.pos).2 fun i => leS_trans ((within_iff hx oy.pos).1 h1 i) ((within_iff hy oz.pos).1 h2 i)
theorem within_both {x y : List Hd} (hx : Srt x) (hy : Srt y) (ox : OkHs x) (oy : OkHs y) : (withinH x y && withinH y x) = decide (x = y) := by
  rw [Bool.eq_iff_iff]
  simp only [Bool.and_eq_true, decide_eq_true_eq]
  constructor
  · rintro ⟨h1, h2⟩
    exact ext_at hx hy ox.pos oy.pos fun i => leS_anti ((within_iff hx oy.pos).1 h1 i) ((within_iff hy ox.pos).1 h2 i)
  · rintro rfl
    exact ⟨within_self hx ox, within_self hx ox⟩
theorem within_most {x z : List Hd} (hx : Srt x) (hz : Srt z) (ox : OkHs x) (oz : OkHs z) : withinH x (mostH x z) = true := (within_iff hx (ox.most oz).pos).2 fun i => by
  rw [at_mostH hx hz ox.pos]
  exact le_maxS_left _ _
theorem pSeenBoth (l1 : List Int) (h1 : l1.length ≤ maxLen) (hb1 : ∀ z ∈ l1, 0 ≤ z ∧ z < 256) (l2 : List Int) (h2 : l2.length ≤ maxLen) (hb2 : ∀ z ∈ l2, 0 ≤ z ∧ z < 256) (l3 : List Int) (h3 : l3.length ≤ maxLen) (hb3 : ∀ z ∈ l3, 0 ≤ z ∧ z < 256) :
    pureI Try.prog prims dx tbl 11 [.list (l1.map fun z => [.int .u8 z]), .list (l2.map fun z => [.int .u8 z]), .list (l3.map fun z => [.int .u8 z])] = some (.bool true) := by
  rw [pureI_of (rfl : tbl 11 = some c11)]
  by_cases g1 : 30 < l1.length
  · simp [c11, x_pure, x_skip, x_reg, x_drw, x_seq, x_cond, x_block, x_loop', Tm.keep_nil, x_exit, x_ret, k_seq, k_seq_ret, k_seq_exit, k_seq_none, k_seq_ite, k_cond, k_block, k_block_ret, k_block_exit, k_block_none, k_block_ite, k_iter, k_iter_ret, k_iter_exit, k_iter_none, k_iter_ite, k_reg, k_reg_none, k_reg_ite, x_is_nil, x_is, x_is_g, k_ins, k_ins_none, k_ins_ite, k_grd, x_ord_nil, x_ord, x_ord_g, k_ord, k_ord_none, k_ord_ite, k_ogrd, k_out_ret, k_out, k_out_none, k_out_ite, k_pure, k_pure_none, k_pure_ite, startD, dI, dA, deo, Tm.at, Tm.dst, Tm.set, Tm.put, Tm.keep, dW, dRes, oneOfD, mkTup, mkAgg, mkFn, allF, frL, fr, vD, vD1, vF, vFL, dBin, dEq, dNil, isNilD, dScal, F.cv, eBin, sameKind, eInt, eStr, cellsD, oneD, F.one, dFill, putAtD, chunk, dbnd, dSrc, St.own, St.drop, St.still, St.fresh, chkQ, stillQ, freshQ, lOf, rdOf, rdOK, undefD, F.full, F.fullL, List.mapIdx_cons, strip, allOne_nil, allOne_cons, allOne_append, allLen_nil, allLen_cons, allLen_append, roomOK_small, filterT, y_mv, y_pick, y_new, y_box, y_build, y_bslice, y_ld1, y_ldn, y_nilchk, y_bin, y_not, y_conv, y_bytes, y_string, y_ifc, y_fn, y_cut, y_cuts, y_fa, y_fld, y_ia, y_idx, y_idxs, y_ext, y_len, y_lenstr, y_app, y_grow, y_mks, y_slow, y_call, y_callv, y_inv, y_extc, x_it_st, x_it_clr, x_it_cpy, k_addT, k_addT_none, k_addT_ite, k_orU, k_orU_none, dU, D.turn, turnL, Tm.turn, turnS, St.turn, qBegun9, show (30 : Int) < l1.length by omega]
  · by_cases g2 : 30 < l2.length
    · simp [c11, x_pure, x_skip, x_reg, x_drw, x_seq, x_cond, x_block, x_loop', Tm.keep_nil, x_exit, x_ret, k_seq, k_seq_ret, k_seq_exit, k_seq_none, k_seq_ite, k_cond, k_block, k_block_ret, k_block_exit, k_block_none, k_block_ite, k_iter, k_iter_ret, k_iter_exit, k_iter_none, k_iter_ite, k_reg, k_reg_none, k_reg_ite, x_is_nil, x_is, x_is_g, k_ins, k_ins_none, k_ins_ite, k_grd, x_ord_nil, x_ord, x_ord_g, k_ord, k_ord_none, k_ord_ite, k_ogrd, k_out_ret, k_out, k_out_none, k_out_ite, k_pure, k_pure_none, k_pure_ite, startD, dI, dA, deo, Tm.at, Tm.dst, Tm.set, Tm.put, Tm.keep, dW, dRes, oneOfD, mkTup, mkAgg, mkFn, allF, frL, fr, vD, vD1, vF, vFL, dBin, dEq, dNil, isNilD, dScal, F.cv, eBin, sameKind, eInt, eStr, cellsD, oneD, F.one, dFill, putAtD, chunk, dbnd, dSrc, St.own, St.drop, St.still, St.fresh, chkQ, stillQ, freshQ, lOf, rdOf, rdOK, undefD, F.full, F.fullL, List.mapIdx_cons, strip, allOne_nil, allOne_cons, allOne_append, allLen_nil, allLen_cons, allLen_append, roomOK_small, filterT, y_mv, y_pick, y_new, y_box, y_build, y_bslice, y_ld1, y_ldn, y_nilchk, y_bin, y_not, y_conv, y_bytes, y_string, y_ifc, y_fn, y_cut, y_cuts, y_fa, y_fld, y_ia, y_idx, y_idxs, y_ext, y_len, y_lenstr, y_app, y_grow, y_mks, y_slow, y_call, y_callv, y_inv, y_extc, x_it_st, x_it_clr, x_it_cpy, k_addT, k_addT_none, k_addT_ite, k_orU, k_orU_none, dU, D.turn, turnL, Tm.turn, turnS, St.turn, qBegun9, show ¬ (30 : Int) < l1.length by omega, show (30 : Int) < l2.length by omega]
    · by_cases g3 : 30 < l3.length
      · simp [c11, x_pure, x_skip, x_reg, x_drw, x_seq, x_cond, x_block, x_loop', Tm.keep_nil, x_exit, x_ret, k_seq, k_seq_ret, k_seq_exit, k_seq_none, k_seq_ite, k_cond, k_block, k_block_ret, k_block_exit, k_block_none, k_block_ite, k_iter, k_iter_ret, k_iter_exit, k_iter_none, k_iter_ite, k_reg, k_reg_none, k_reg_ite, x_is_nil, x_is, x_is_g, k_ins, k_ins_none, k_ins_ite, k_grd, x_ord_nil, x_ord, x_ord_g, k_ord, k_ord_none, k_ord_ite, k_ogrd, k_out_ret, k_out, k_out_none, k_out_ite, k_pure, k_pure_none, k_pure_ite, startD, dI, dA, deo, Tm.at, Tm.dst, Tm.set, Tm.put, Tm.keep, dW, dRes, oneOfD, mkTup, mkAgg, mkFn, allF, frL, fr, vD, vD1, vF, vFL, dBin, dEq, dNil, isNilD, dScal, F.cv, eBin, sameKind, eInt, eStr, cellsD, oneD, F.one, dFill, putAtD, chunk, dbnd, dSrc, St.own, St.drop, St.still, St.fresh, chkQ, stillQ, freshQ, lOf, rdOf, rdOK, undefD, F.full, F.fullL, List.mapIdx_cons, strip, allOne_nil, allOne_cons, allOne_append, allLen_nil, allLen_cons, allLen_append, roomOK_small, filterT, y_mv, y_pick, y_new, y_box, y_build, y_bslice, y_ld1, y_ldn, y_nilchk, y_bin, y_not, y_conv, y_bytes, y_string, y_ifc, y_fn, y_cut, y_cuts, y_fa, y_fld, y_ia, y_idx, y_idxs, y_ext, y_len, y_lenstr, y_app, y_grow, y_mks, y_slow, y_call, y_callv, y_inv, y_extc, x_it_st, x_it_clr, x_it_cpy, k_addT, k_addT_none, k_addT_ite, k_orU, k_orU_none, dU, D.turn, turnL, Tm.turn, turnS, St.turn, qBegun9, show ¬ (30 : Int) < l1.length by omega, show ¬ (30 : Int) < l2.length by omega, show (30 : Int) < l3.length by omega]
      · obtain ⟨x, sx, ox, ex⟩ := pHeads l1 (u8s_of (by omega) hb1)
        obtain ⟨y, sy, oy, ey⟩ := pHeads l2 (u8s_of (by omega) hb2)
        obtain ⟨z, sz, oz, ez⟩ := pHeads l3 (u8s_of (by omega) hb3)
        have nx := srt_len ox sx
        have ny := srt_len oy sy
        have nz := srt_len oz sz
        have a1 := pWithin x y (by omega) (by omega) sy
        have a2 := pWithin y x (by omega) (by omega) sx
        have a3 := pWithin y z (by omega) (by omega) sz
        have a4 := pWithin x z (by omega) (by omega) sz
        have a5 := pWithin x x (by omega) (by omega) sx
        have a6 := pMost x z (by omega) (by omega) sx
        have nm := srt_len (ox.most oz) (mostH_srt z sx)
        have a7 := pWithin x (mostH x z) (by omega) (by omega) (mostH_srt z sx)
        have a8 := pSame x y (by omega) (by omega)
        have f1 := within_both sx sy ox oy
        have f2 : withinH x y = true → withinH y z = true → withinH x z = true := fun h k => within_trans sx sy oy oz h k
        rw [within_self sx ox] at a5
        rw [within_most sx sz ox oz] at a7
        rw [← f1] at a8
        cases p : withinH x y <;> cases q : withinH y x <;> cases r : withinH y z <;> cases s : withinH x z <;>
          first
          | (exfalso; rw [p, r, s] at f2; exact Bool.false_ne_true (f2 rfl rfl))
          | (rw [p] at a1; rw [q] at a2; rw [r] at a3; rw [s] at a4; rw [p, q] at a8; simp at a8
             simp [c11, x_pure, x_skip, x_reg, x_drw, x_seq, x_cond, x_block, x_loop', Tm.keep_nil, x_exit, x_ret, k_seq, k_seq_ret, k_seq_exit, k_seq_none, k_seq_ite, k_cond, k_block, k_block_ret, k_block_exit, k_block_none, k_block_ite, k_iter, k_iter_ret, k_iter_exit, k_iter_none, k_iter_ite, k_reg, k_reg_none, k_reg_ite, x_is_nil, x_is, x_is_g, k_ins, k_ins_none, k_ins_ite, k_grd, x_ord_nil, x_ord, x_ord_g, k_ord, k_ord_none, k_ord_ite, k_ogrd, k_out_ret, k_out, k_out_none, k_out_ite, k_pure, k_pure_none, k_pure_ite, startD, dI, dA, deo, Tm.at, Tm.dst, Tm.set, Tm.put, Tm.keep, dW, dRes, oneOfD, mkTup, mkAgg, mkFn, allF, frL, fr, vD, vD1, vF, vFL, dBin, dEq, dNil, isNilD, dScal, F.cv, eBin, sameKind, eInt, eStr, cellsD, oneD, F.one, dFill, putAtD, chunk, dbnd, dSrc, St.own, St.drop, St.still, St.fresh, chkQ, stillQ, freshQ, lOf, rdOf, rdOK, undefD, F.full, F.fullL, List.mapIdx_cons, strip, allOne_nil, allOne_cons, allOne_append, allLen_nil, allLen_cons, allLen_append, roomOK_small, filterT, y_mv, y_pick, y_new, y_box, y_build, y_bslice, y_ld1, y_ldn, y_nilchk, y_bin, y_not, y_conv, y_bytes, y_string, y_ifc, y_fn, y_cut, y_cuts, y_fa, y_fld, y_ia, y_idx, y_idxs, y_ext, y_len, y_lenstr, y_app, y_grow, y_mks, y_slow, y_call, y_callv, y_inv, y_extc, x_it_st, x_it_clr, x_it_cpy, k_addT, k_addT_none, k_addT_ite, k_orU, k_orU_none, dU, D.turn, turnL, Tm.turn, turnS, St.turn, qBegun9, show ¬ (30 : Int) < l1.length by omega, show ¬ (30 : Int) < l2.length by omega, show ¬ (30 : Int) < l3.length by omega, rHeads, callR, ex, ey, ez, rWithin, rSame, rMost, a1, a2, a3, a4, a5, a6, a7, a8])
end Go.Proofs.Ytmbboljcgpccfaa.Pl
