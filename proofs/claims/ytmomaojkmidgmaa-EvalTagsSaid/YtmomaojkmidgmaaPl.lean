/-
  What is proved here: what filters let through, by what is kept: a range.
  Conditions: none.
-/
import Derived.Test.YtmomaojkmidgmaaCd
set_option linter.unusedVariables false
set_option linter.unusedSimpArgs false
set_option maxRecDepth 100000
set_option maxHeartbeats 2000000
namespace Go.Proofs.Ytmomaojkmidgmaa.Pl
open Go Go.Proofs Go.Proofs.Ev Go.Proofs.Dv Cd

def encA (a : Int × Int) : List F := [.int .i64 a.1, .int .i64 a.2]
theorem encA_len (a : Int × Int) : (encA a).length = 2 := rfl
theorem encA_take (a : Int × Int) : List.take 2 (encA a) = [.int .i64 a.1, .int .i64 a.2] := rfl
def idxF (p : Int × Int → Bool) : List (Int × Int) → Nat → Int
  | [], _ => -1
  | a :: r, n => if p a = true then n else idxF p r (n + 1)

theorem p49 (k v key : Int) : pureI Try.prog noPrims dx tbl 49 [.agg [.int .i64 k, .int .i64 v], .fp [.int .i64 key]] = some (.bool (decide (k = key))) := by
  rw [pureI_of (rfl : tbl 49 = some c49)]
  simp [c49, x_pure, x_skip, x_reg, x_drw, x_seq, x_cond, x_block, x_loop', Tm.keep_nil, x_exit, x_ret, k_seq, k_seq_ret, k_seq_exit, k_seq_none, k_seq_ite, k_cond, k_block, k_block_ret, k_block_exit, k_block_none, k_block_ite, k_iter, k_iter_ret, k_iter_exit, k_iter_none, k_iter_ite, k_reg, k_reg_none, k_reg_ite, x_is_nil, x_is, x_is_g, k_ins, k_ins_none, k_ins_ite, k_grd, x_ord_nil, x_ord, x_ord_g, k_ord, k_ord_none, k_ord_ite, k_ogrd, k_out_ret, k_out, k_out_none, k_out_ite, k_pure, k_pure_none, k_pure_ite, startD, dI, dA, deo, Tm.at, Tm.dst, Tm.set, Tm.put, Tm.keep, dW, dRes, oneOfD, mkTup, mkAgg, mkFn, allF, frL, fr, vD, vD1, vF, vFL, dBin, dEq, dNil, isNilD, dScal, F.cv, eBin, sameKind, eInt, eStr, cellsD, oneD, F.one, dFill, putAtD, chunk, dbnd, allLen, allOne, dSrc, roomOK, St.own, St.drop, St.still, St.fresh, chkQ, stillQ, freshQ, lOf, rdOf, rdOK, undefD, F.full, F.fullL, List.mapIdx_cons, strip, encA]
theorem q49 (k v key : Int) (st : Dv.St) : callI Try.prog noPrims dx tbl 49 [.fz (.agg [.int .i64 k, .int .i64 v]), .fz (.fp [.int .i64 key])] st = some (.fz (.bool (decide (k = key))), st, []) := by
  rw [callP (xs := [.agg [.int .i64 k, .int .i64 v], .fp [.int .i64 key]]) (ts := []) (is := []) rfl rfl (rfl : tbl 49 = some c49) rfl rfl (p49 k v key)]
  simp [F.full]

theorem wrap_small (n : Int) (h1 : -9223372036854775808 ≤ n) (h2 : n < 9223372036854775808) : wrapF .i64 n = n := by simp [wrapF, h1, h2]

theorem loop48 (key : Int) (l : List (Int × Int)) (hl : l.length < 1000000) : ∀ (r : List (Int × Int)) (i : Nat), l.drop i = r → i ≤ l.length →
    ∃ T', iterI (dCw Try.prog (callI Try.prog noPrims dx tbl) l48_0) [0, 1, 7, 8] [(0, .fz (.list (l.map encA))), (1, .fz (.fn 49 [.fp [.int .i64 key]])), (7, .fz (.int .i64 l.length)), (8, .fz (.int .i64 i))] ⟨[], [], 0⟩ =
      some (if idxF (fun a => decide (a.1 = key)) r i < 0 then .exit 0 else .ret, T', ⟨[], [], 0⟩) ∧ (0 ≤ idxF (fun a => decide (a.1 = key)) r i → T'.at 4 = .fz (.int .i64 (idxF (fun a => decide (a.1 = key)) r i))) := by
  intro r
  induction r with
  | nil =>
    intro i hd hi
    have hi' : i = l.length := by
      have := congrArg List.length hd
      simp at this
      omega
    rw [x_iter]
    simp [u48_0, x_pure, x_skip, x_reg, x_drw, x_seq, x_cond, x_block, x_loop', Tm.keep_nil, x_exit, x_ret, k_seq, k_seq_ret, k_seq_exit, k_seq_none, k_seq_ite, k_cond, k_block, k_block_ret, k_block_exit, k_block_none, k_block_ite, k_iter, k_iter_ret, k_iter_exit, k_iter_none, k_iter_ite, k_reg, k_reg_none, k_reg_ite, x_is_nil, x_is, x_is_g, k_ins, k_ins_none, k_ins_ite, k_grd, x_ord_nil, x_ord, x_ord_g, k_ord, k_ord_none, k_ord_ite, k_ogrd, k_out_ret, k_out, k_out_none, k_out_ite, k_pure, k_pure_none, k_pure_ite, startD, dI, dA, deo, Tm.at, Tm.dst, Tm.set, Tm.put, Tm.keep, dW, dRes, oneOfD, mkTup, mkAgg, mkFn, allF, frL, fr, vD, vD1, vF, vFL, dBin, dEq, dNil, isNilD, dScal, F.cv, eBin, sameKind, eInt, eStr, cellsD, oneD, F.one, dFill, putAtD, chunk, dbnd, allLen, allOne, dSrc, roomOK, St.own, St.drop, St.still, St.fresh, chkQ, stillQ, freshQ, lOf, rdOf, rdOK, undefD, F.full, F.fullL, List.mapIdx_cons, strip, hi', idxF]
  | cons a r ih =>
    intro i hd hi
    have hget : l[i]? = some a := by
      have := congrArg (·[0]?) hd
      simpa [List.getElem?_drop] using this
    have hlt := lt_of hget
    have hd' : l.drop (i + 1) = r := by
      have := congrArg (List.drop 1) hd
      simpa [List.drop_drop, Nat.add_comm] using this
    have hli : l[i]'hlt = a := by
      rw [List.getElem?_eq_getElem hlt] at hget
      exact Option.some.inj hget
    have hw : wrapF .i64 ((i : Int) + 1) = (i : Int) + 1 := wrap_small _ (by omega) (by omega)
    rw [x_iter]
    by_cases hk : a.1 = key
    · simp [u48_0, x_pure, x_skip, x_reg, x_drw, x_seq, x_cond, x_block, x_loop', Tm.keep_nil, x_exit, x_ret, k_seq, k_seq_ret, k_seq_exit, k_seq_none, k_seq_ite, k_cond, k_block, k_block_ret, k_block_exit, k_block_none, k_block_ite, k_iter, k_iter_ret, k_iter_exit, k_iter_none, k_iter_ite, k_reg, k_reg_none, k_reg_ite, x_is_nil, x_is, x_is_g, k_ins, k_ins_none, k_ins_ite, k_grd, x_ord_nil, x_ord, x_ord_g, k_ord, k_ord_none, k_ord_ite, k_ogrd, k_out_ret, k_out, k_out_none, k_out_ite, k_pure, k_pure_none, k_pure_ite, startD, dI, dA, deo, Tm.at, Tm.dst, Tm.set, Tm.put, Tm.keep, dW, dRes, oneOfD, mkTup, mkAgg, mkFn, allF, frL, fr, vD, vD1, vF, vFL, dBin, dEq, dNil, isNilD, dScal, F.cv, eBin, sameKind, eInt, eStr, cellsD, oneD, F.one, dFill, putAtD, chunk, dbnd, allLen, allOne, dSrc, roomOK, St.own, St.drop, St.still, St.fresh, chkQ, stillQ, freshQ, lOf, rdOf, rdOK, undefD, F.full, F.fullL, List.mapIdx_cons, strip, hlt, encA_len, encA_take, q49, hli, hk, idxF]
    · simp [u48_0, x_pure, x_skip, x_reg, x_drw, x_seq, x_cond, x_block, x_loop', Tm.keep_nil, x_exit, x_ret, k_seq, k_seq_ret, k_seq_exit, k_seq_none, k_seq_ite, k_cond, k_block, k_block_ret, k_block_exit, k_block_none, k_block_ite, k_iter, k_iter_ret, k_iter_exit, k_iter_none, k_iter_ite, k_reg, k_reg_none, k_reg_ite, x_is_nil, x_is, x_is_g, k_ins, k_ins_none, k_ins_ite, k_grd, x_ord_nil, x_ord, x_ord_g, k_ord, k_ord_none, k_ord_ite, k_ogrd, k_out_ret, k_out, k_out_none, k_out_ite, k_pure, k_pure_none, k_pure_ite, startD, dI, dA, deo, Tm.at, Tm.dst, Tm.set, Tm.put, Tm.keep, dW, dRes, oneOfD, mkTup, mkAgg, mkFn, allF, frL, fr, vD, vD1, vF, vFL, dBin, dEq, dNil, isNilD, dScal, F.cv, eBin, sameKind, eInt, eStr, cellsD, oneD, F.one, dFill, putAtD, chunk, dbnd, allLen, allOne, dSrc, roomOK, St.own, St.drop, St.still, St.fresh, chkQ, stillQ, freshQ, lOf, rdOf, rdOK, undefD, F.full, F.fullL, List.mapIdx_cons, strip, hlt, encA_len, encA_take, q49, hli, hk, idxF, hw]
      obtain ⟨T', h1, h2⟩ := ih (i + 1) hd' hlt
      exact ⟨T', by simpa using h1, h2⟩
theorem idxF_ge (p : Int × Int → Bool) : ∀ (l : List (Int × Int)) (n : Nat), idxF p l n = -1 ∨ 0 ≤ idxF p l n
  | [], n => .inl rfl
  | a :: r, n => by
    simp only [idxF]
    split
    · right; omega
    · exact idxF_ge p r (n + 1)
theorem p48 (key : Int) (l : List (Int × Int)) (hl : l.length < 1000000) : pureI Try.prog noPrims dx tbl 48 [.list (l.map encA), .fn 49 [.fp [.int .i64 key]]] = some (.int .i64 (idxF (fun a => decide (a.1 = key)) l 0)) := by
  rw [pureI_of (rfl : tbl 48 = some c48)]
  obtain ⟨T', h1, h2⟩ := loop48 key l hl l 0 rfl (Nat.zero_le _)
  simp at h1
  rcases idxF_ge (fun a => decide (a.1 = key)) l 0 with h | h
  · simp [c48, x_pure, x_skip, x_reg, x_drw, x_seq, x_cond, x_block, x_loop', Tm.keep_nil, x_exit, x_ret, k_seq, k_seq_ret, k_seq_exit, k_seq_none, k_seq_ite, k_cond, k_block, k_block_ret, k_block_exit, k_block_none, k_block_ite, k_iter, k_iter_ret, k_iter_exit, k_iter_none, k_iter_ite, k_reg, k_reg_none, k_reg_ite, x_is_nil, x_is, x_is_g, k_ins, k_ins_none, k_ins_ite, k_grd, x_ord_nil, x_ord, x_ord_g, k_ord, k_ord_none, k_ord_ite, k_ogrd, k_out_ret, k_out, k_out_none, k_out_ite, k_pure, k_pure_none, k_pure_ite, startD, dI, dA, deo, Tm.at, Tm.dst, Tm.set, Tm.put, Tm.keep, dW, dRes, oneOfD, mkTup, mkAgg, mkFn, allF, frL, fr, vD, vD1, vF, vFL, dBin, dEq, dNil, isNilD, dScal, F.cv, eBin, sameKind, eInt, eStr, cellsD, oneD, F.one, dFill, putAtD, chunk, dbnd, allLen, allOne, dSrc, roomOK, St.own, St.drop, St.still, St.fresh, chkQ, stillQ, freshQ, lOf, rdOf, rdOK, undefD, F.full, F.fullL, List.mapIdx_cons, strip, h1, h]
  · simp [c48, x_pure, x_skip, x_reg, x_drw, x_seq, x_cond, x_block, x_loop', Tm.keep_nil, x_exit, x_ret, k_seq, k_seq_ret, k_seq_exit, k_seq_none, k_seq_ite, k_cond, k_block, k_block_ret, k_block_exit, k_block_none, k_block_ite, k_iter, k_iter_ret, k_iter_exit, k_iter_none, k_iter_ite, k_reg, k_reg_none, k_reg_ite, x_is_nil, x_is, x_is_g, k_ins, k_ins_none, k_ins_ite, k_grd, x_ord_nil, x_ord, x_ord_g, k_ord, k_ord_none, k_ord_ite, k_ogrd, k_out_ret, k_out, k_out_none, k_out_ite, k_pure, k_pure_none, k_pure_ite, startD, dI, dA, deo, Tm.at, Tm.dst, Tm.set, Tm.put, Tm.keep, dW, dRes, oneOfD, mkTup, mkAgg, mkFn, allF, frL, fr, vD, vD1, vF, vFL, dBin, dEq, dNil, isNilD, dScal, F.cv, eBin, sameKind, eInt, eStr, cellsD, oneD, F.one, dFill, putAtD, chunk, dbnd, allLen, allOne, dSrc, roomOK, St.own, St.drop, St.still, St.fresh, chkQ, stillQ, freshQ, lOf, rdOf, rdOK, undefD, F.full, F.fullL, List.mapIdx_cons, strip, h1, show ¬ idxF (fun a => decide (a.1 = key)) l 0 < 0 by omega, h2 h]
theorem q48 (key : Int) (l : List (Int × Int)) (hl : l.length < 1000000) (st : Dv.St) (i : Nat) (w : Bool) (hi : st.S[i]? = some (w, [.fz (.int .i64 key)])) : callI Try.prog noPrims dx tbl 48 [.fz (.list (l.map encA)), .fn 49 [.ptr i 0]] st = some (.fz (.int .i64 (idxF (fun a => decide (a.1 = key)) l 0)), st, []) := by
  rw [callP (xs := [.list (l.map encA), .fn 49 [.fp [.int .i64 key]]]) (ts := []) (is := [i]) rfl rfl (rfl : tbl 48 = some c48) rfl (by simp [frL, fr, hi]) (p48 key l hl)]
  simp [F.full]
/-- A key's value. -/
def attr : List (Int × Int) → Int → Option Int
  | [], _ => none
  | a :: r, k => if a.1 = k then some a.2 else attr r k
theorem idx_attr (key : Int) : ∀ (l m : List (Int × Int)) (n : Nat), l.drop n = m → (idxF (fun a => decide (a.1 = key)) m n = -1 ∧ attr m key = none) ∨ ∃ (i : Nat) (a : Int × Int), idxF (fun a => decide (a.1 = key)) m n = i ∧ l[i]? = some a ∧ attr m key = some a.2
  | l, [], n, _ => .inl ⟨rfl, rfl⟩
  | l, a :: m, n, h => by
    have hget : l[n]? = some a := by
      have := congrArg (·[0]?) h
      simpa [List.getElem?_drop] using this
    have hd' : l.drop (n + 1) = m := by
      have := congrArg (List.drop 1) h
      simpa [List.drop_drop, Nat.add_comm] using this
    by_cases hk : a.1 = key
    · exact .inr ⟨n, a, by simp [idxF, hk], hget, by simp [attr, hk]⟩
    · rcases idx_attr key l m (n + 1) hd' with ⟨h1, h2⟩ | ⟨i, b, h1, h2, h3⟩
      · exact .inl ⟨by simp [idxF, hk, h1], by simp [attr, hk, h2]⟩
      · exact .inr ⟨i, b, by simp [idxF, hk, h1], h2, by simp [attr, hk, h3]⟩

def encV (i0 i1 i2 i3 : Int) (d : Bool) (l : List (Int × Int)) (tag body : List UInt8) : List F := [.int .i64 i0, .int .i64 i1, .int .i64 i2, .int .i64 i3, .bool d, .list (l.map encA), .str tag, .str body]
theorem p38 (i0 i1 i2 i3 : Int) (d : Bool) (l : List (Int × Int)) (tag body : List UInt8) (key : Int) (hl : l.length < 1000000) : pureI Try.prog noPrims dx tbl 38 [.agg (encV i0 i1 i2 i3 d l tag body), .int .i64 key] =
    some (.tup [.int .i64 ((attr l key).getD 0), .bool (attr l key).isSome]) := by
  rw [pureI_of (rfl : tbl 38 = some c38)]
  rcases idx_attr key l l 0 rfl with ⟨h1, h2⟩ | ⟨i, a, h1, h2, h3⟩
  · simp [c38, x_pure, x_skip, x_reg, x_drw, x_seq, x_cond, x_block, x_loop', Tm.keep_nil, x_exit, x_ret, k_seq, k_seq_ret, k_seq_exit, k_seq_none, k_seq_ite, k_cond, k_block, k_block_ret, k_block_exit, k_block_none, k_block_ite, k_iter, k_iter_ret, k_iter_exit, k_iter_none, k_iter_ite, k_reg, k_reg_none, k_reg_ite, x_is_nil, x_is, x_is_g, k_ins, k_ins_none, k_ins_ite, k_grd, x_ord_nil, x_ord, x_ord_g, k_ord, k_ord_none, k_ord_ite, k_ogrd, k_out_ret, k_out, k_out_none, k_out_ite, k_pure, k_pure_none, k_pure_ite, startD, dI, dA, deo, Tm.at, Tm.dst, Tm.set, Tm.put, Tm.keep, dW, dRes, oneOfD, mkTup, mkAgg, mkFn, allF, frL, fr, vD, vD1, vF, vFL, dBin, dEq, dNil, isNilD, dScal, F.cv, eBin, sameKind, eInt, eStr, cellsD, oneD, F.one, dFill, putAtD, chunk, dbnd, allLen, allOne, dSrc, roomOK, St.own, St.drop, St.still, St.fresh, chkQ, stillQ, freshQ, lOf, rdOf, rdOK, undefD, F.full, F.fullL, List.mapIdx_cons, strip, encV, q48 key l hl, h1, h2]
  · have hlt := lt_of h2
    have hli : l[i]'hlt = a := by
      rw [List.getElem?_eq_getElem hlt] at h2
      exact Option.some.inj h2
    simp [c38, x_pure, x_skip, x_reg, x_drw, x_seq, x_cond, x_block, x_loop', Tm.keep_nil, x_exit, x_ret, k_seq, k_seq_ret, k_seq_exit, k_seq_none, k_seq_ite, k_cond, k_block, k_block_ret, k_block_exit, k_block_none, k_block_ite, k_iter, k_iter_ret, k_iter_exit, k_iter_none, k_iter_ite, k_reg, k_reg_none, k_reg_ite, x_is_nil, x_is, x_is_g, k_ins, k_ins_none, k_ins_ite, k_grd, x_ord_nil, x_ord, x_ord_g, k_ord, k_ord_none, k_ord_ite, k_ogrd, k_out_ret, k_out, k_out_none, k_out_ite, k_pure, k_pure_none, k_pure_ite, startD, dI, dA, deo, Tm.at, Tm.dst, Tm.set, Tm.put, Tm.keep, dW, dRes, oneOfD, mkTup, mkAgg, mkFn, allF, frL, fr, vD, vD1, vF, vFL, dBin, dEq, dNil, isNilD, dScal, F.cv, eBin, sameKind, eInt, eStr, cellsD, oneD, F.one, dFill, putAtD, chunk, dbnd, allLen, allOne, dSrc, roomOK, St.own, St.drop, St.still, St.fresh, chkQ, stillQ, freshQ, lOf, rdOf, rdOK, undefD, F.full, F.fullL, List.mapIdx_cons, strip, encV, q48 key l hl, h1, h3, hlt, hli, encA_len, encA]
theorem q38 (i0 i1 i2 i3 : Int) (d : Bool) (l : List (Int × Int)) (tag body : List UInt8) (key : Int) (hl : l.length < 1000000) (st : Dv.St) : callI Try.prog noPrims dx tbl 38 [.fz (.agg [.int .i64 i0, .int .i64 i1, .int .i64 i2, .int .i64 i3, .bool d, .list (l.map encA), .str tag, .str body]), .fz (.int .i64 key)] st =
    some (.fz (.tup [.int .i64 ((attr l key).getD 0), .bool (attr l key).isSome]), st, []) := by
  rw [callP (xs := [.agg (encV i0 i1 i2 i3 d l tag body), .int .i64 key]) (ts := []) (is := []) rfl rfl (rfl : tbl 38 = some c38) rfl rfl (p38 i0 i1 i2 i3 d l tag body key hl)]
  simp [F.full, F.fullL]
/-- A filter of numbers. -/
theorem p30_range (op key lo hi : Int) (ftag : List UInt8) (args : List (List F)) (i0 i1 i2 i3 : Int) (d : Bool) (l : List (Int × Int)) (tag body : List UInt8) (hl : l.length < 1000000) (hop : op = 2 ∨ op = 3) :
    pureI Try.prog noPrims dx tbl 30 [.agg [.int .i64 op, .int .i64 key, .int .i64 lo, .int .i64 hi, .str ftag, .list args], .agg [.int .i64 i0, .int .i64 i1, .int .i64 i2, .int .i64 i3, .bool d, .list (l.map encA), .str tag, .str body]] =
    some (.bool (match attr l key with | some n => decide (lo ≤ n) && decide (n ≤ hi) | none => false)) := by
  rw [pureI_of (rfl : tbl 30 = some c30)]
  rcases hop with rfl | rfl
  · cases h : attr l key with
    | none => simp [c30, x_pure, x_skip, x_reg, x_drw, x_seq, x_cond, x_block, x_loop', Tm.keep_nil, x_exit, x_ret, k_seq, k_seq_ret, k_seq_exit, k_seq_none, k_seq_ite, k_cond, k_block, k_block_ret, k_block_exit, k_block_none, k_block_ite, k_iter, k_iter_ret, k_iter_exit, k_iter_none, k_iter_ite, k_reg, k_reg_none, k_reg_ite, x_is_nil, x_is, x_is_g, k_ins, k_ins_none, k_ins_ite, k_grd, x_ord_nil, x_ord, x_ord_g, k_ord, k_ord_none, k_ord_ite, k_ogrd, k_out_ret, k_out, k_out_none, k_out_ite, k_pure, k_pure_none, k_pure_ite, startD, dI, dA, deo, Tm.at, Tm.dst, Tm.set, Tm.put, Tm.keep, dW, dRes, oneOfD, mkTup, mkAgg, mkFn, allF, frL, fr, vD, vD1, vF, vFL, dBin, dEq, dNil, isNilD, dScal, F.cv, eBin, sameKind, eInt, eStr, cellsD, oneD, F.one, dFill, putAtD, chunk, dbnd, allLen, allOne, dSrc, roomOK, St.own, St.drop, St.still, St.fresh, chkQ, stillQ, freshQ, lOf, rdOf, rdOK, undefD, F.full, F.fullL, List.mapIdx_cons, strip, q38, hl, h]
    | some n =>
      by_cases h1 : lo ≤ n <;> by_cases h2 : n ≤ hi <;> simp [c30, x_pure, x_skip, x_reg, x_drw, x_seq, x_cond, x_block, x_loop', Tm.keep_nil, x_exit, x_ret, k_seq, k_seq_ret, k_seq_exit, k_seq_none, k_seq_ite, k_cond, k_block, k_block_ret, k_block_exit, k_block_none, k_block_ite, k_iter, k_iter_ret, k_iter_exit, k_iter_none, k_iter_ite, k_reg, k_reg_none, k_reg_ite, x_is_nil, x_is, x_is_g, k_ins, k_ins_none, k_ins_ite, k_grd, x_ord_nil, x_ord, x_ord_g, k_ord, k_ord_none, k_ord_ite, k_ogrd, k_out_ret, k_out, k_out_none, k_out_ite, k_pure, k_pure_none, k_pure_ite, startD, dI, dA, deo, Tm.at, Tm.dst, Tm.set, Tm.put, Tm.keep, dW, dRes, oneOfD, mkTup, mkAgg, mkFn, allF, frL, fr, vD, vD1, vF, vFL, dBin, dEq, dNil, isNilD, dScal, F.cv, eBin, sameKind, eInt, eStr, cellsD, oneD, F.one, dFill, putAtD, chunk, dbnd, allLen, allOne, dSrc, roomOK, St.own, St.drop, St.still, St.fresh, chkQ, stillQ, freshQ, lOf, rdOf, rdOK, undefD, F.full, F.fullL, List.mapIdx_cons, strip, q38, hl, h, h1, h2]
  · cases h : attr l key with
    | none => simp [c30, x_pure, x_skip, x_reg, x_drw, x_seq, x_cond, x_block, x_loop', Tm.keep_nil, x_exit, x_ret, k_seq, k_seq_ret, k_seq_exit, k_seq_none, k_seq_ite, k_cond, k_block, k_block_ret, k_block_exit, k_block_none, k_block_ite, k_iter, k_iter_ret, k_iter_exit, k_iter_none, k_iter_ite, k_reg, k_reg_none, k_reg_ite, x_is_nil, x_is, x_is_g, k_ins, k_ins_none, k_ins_ite, k_grd, x_ord_nil, x_ord, x_ord_g, k_ord, k_ord_none, k_ord_ite, k_ogrd, k_out_ret, k_out, k_out_none, k_out_ite, k_pure, k_pure_none, k_pure_ite, startD, dI, dA, deo, Tm.at, Tm.dst, Tm.set, Tm.put, Tm.keep, dW, dRes, oneOfD, mkTup, mkAgg, mkFn, allF, frL, fr, vD, vD1, vF, vFL, dBin, dEq, dNil, isNilD, dScal, F.cv, eBin, sameKind, eInt, eStr, cellsD, oneD, F.one, dFill, putAtD, chunk, dbnd, allLen, allOne, dSrc, roomOK, St.own, St.drop, St.still, St.fresh, chkQ, stillQ, freshQ, lOf, rdOf, rdOK, undefD, F.full, F.fullL, List.mapIdx_cons, strip, q38, hl, h]
    | some n =>
      by_cases h1 : lo ≤ n <;> by_cases h2 : n ≤ hi <;> simp [c30, x_pure, x_skip, x_reg, x_drw, x_seq, x_cond, x_block, x_loop', Tm.keep_nil, x_exit, x_ret, k_seq, k_seq_ret, k_seq_exit, k_seq_none, k_seq_ite, k_cond, k_block, k_block_ret, k_block_exit, k_block_none, k_block_ite, k_iter, k_iter_ret, k_iter_exit, k_iter_none, k_iter_ite, k_reg, k_reg_none, k_reg_ite, x_is_nil, x_is, x_is_g, k_ins, k_ins_none, k_ins_ite, k_grd, x_ord_nil, x_ord, x_ord_g, k_ord, k_ord_none, k_ord_ite, k_ogrd, k_out_ret, k_out, k_out_none, k_out_ite, k_pure, k_pure_none, k_pure_ite, startD, dI, dA, deo, Tm.at, Tm.dst, Tm.set, Tm.put, Tm.keep, dW, dRes, oneOfD, mkTup, mkAgg, mkFn, allF, frL, fr, vD, vD1, vF, vFL, dBin, dEq, dNil, isNilD, dScal, F.cv, eBin, sameKind, eInt, eStr, cellsD, oneD, F.one, dFill, putAtD, chunk, dbnd, allLen, allOne, dSrc, roomOK, St.own, St.drop, St.still, St.fresh, chkQ, stillQ, freshQ, lOf, rdOf, rdOK, undefD, F.full, F.fullL, List.mapIdx_cons, strip, q38, hl, h, h1, h2]
theorem p30_range1 (key lo hi : Int) (i0 i1 i2 i3 : Int) (d : Bool) (k v : Int) (tag body : List UInt8) :
    pureI Try.prog noPrims dx tbl 30 [.agg [.int .i64 3, .int .i64 key, .int .i64 lo, .int .i64 hi, .str [], .list []], .agg [.int .i64 i0, .int .i64 i1, .int .i64 i2, .int .i64 i3, .bool d, .list [[.int .i64 k, .int .i64 v]], .str tag, .str body]] =
    some (.bool (if k = key then decide (lo ≤ v) && decide (v ≤ hi) else false)) := by
  have := p30_range 3 key lo hi [] [] i0 i1 i2 i3 d [(k, v)] tag body (by simp) (.inr rfl)
  simp only [List.map_cons, List.map_nil, encA] at this
  rw [this]
  by_cases h : k = key <;> simp [attr, h]
theorem r30 (ds : List D) (st : Dv.St) : callI Try.prog noPrims dx tbl 30 ds st = callR Try.prog noPrims dx tbl 30 ds st (frL (fr st 6) ds) := callRw rfl rfl (rfl : tbl 30 = some c30) rfl ds st
theorem q26 (st : Dv.St) : callI Try.prog noPrims dx tbl 26 [] st = some (.fz (.bool true), st, []) := callI_iff.2 ⟨40, by kernel_rfl⟩
theorem mm10 : minmax (operAt Try.prog 14 10) = some (false, 21, 24) := by kernel_rfl
theorem mm17 : minmax (operAt Try.prog 14 17) = some (true, 28, 31) := by kernel_rfl
theorem p14 (key : Int) (h0 : 0 ≤ key ∧ key < 256) (lo : Int) (h1 : 0 ≤ lo ∧ lo < 256) (hi : Int) (h2 : 0 ≤ hi ∧ hi < 256) (val : Int) (h3 : 0 ≤ val ∧ val < 256) (there : Bool) :
    pureI Try.prog noPrims dx tbl 14 [.int .u8 key, .int .u8 lo, .int .u8 hi, .int .u8 val, .bool there] = some (.bool true) := by
  rw [pureI_of (rfl : tbl 14 = some c14)]
  have wk : wrapF .i64 (key % 4 + 1) = key % 4 + 1 := wrap_id _ (by omega) (by omega)
  have wq : (key % 4 + 1).tmod 4 = (key % 4 + 1) % 4 := Int.tmod_eq_emod_of_nonneg (by omega)
  have ne : ¬ (key % 4 + 1) % 4 = key % 4 := by omega
  cases there
  · simp [c14, x_pure, x_skip, x_reg, x_drw, x_seq, x_cond, x_block, x_loop', Tm.keep_nil, x_exit, x_ret, k_seq, k_seq_ret, k_seq_exit, k_seq_none, k_seq_ite, k_cond, k_block, k_block_ret, k_block_exit, k_block_none, k_block_ite, k_iter, k_iter_ret, k_iter_exit, k_iter_none, k_iter_ite, k_reg, k_reg_none, k_reg_ite, x_is_nil, x_is, x_is_g, k_ins, k_ins_none, k_ins_ite, k_grd, x_ord_nil, x_ord, x_ord_g, k_ord, k_ord_none, k_ord_ite, k_ogrd, k_out_ret, k_out, k_out_none, k_out_ite, k_pure, k_pure_none, k_pure_ite, startD, dI, dA, deo, Tm.at, Tm.dst, Tm.set, Tm.put, Tm.keep, dW, dRes, oneOfD, mkTup, mkAgg, mkFn, allF, frL, fr, vD, vD1, vF, vFL, dBin, dEq, dNil, isNilD, dScal, F.cv, eBin, sameKind, eInt, eStr, cellsD, oneD, F.one, dFill, putAtD, chunk, dbnd, allLen, allOne, dSrc, roomOK, St.own, St.drop, St.still, St.fresh, chkQ, stillQ, freshQ, lOf, rdOf, rdOK, undefD, F.full, F.fullL, List.mapIdx_cons, strip, q26, r30, callR, p30_range1, slow_mm mm10, slow_mm mm17, mmD, wrap_rem, h0, h1, h2, h3, wk, wq, ne]
    left
    omega
  · by_cases h4 : (if hi % 100 < lo % 100 then hi % 100 else lo % 100) ≤ val % 100 <;> by_cases h5 : val % 100 ≤ (if lo % 100 < hi % 100 then hi % 100 else lo % 100) <;>
      simp [c14, x_pure, x_skip, x_reg, x_drw, x_seq, x_cond, x_block, x_loop', Tm.keep_nil, x_exit, x_ret, k_seq, k_seq_ret, k_seq_exit, k_seq_none, k_seq_ite, k_cond, k_block, k_block_ret, k_block_exit, k_block_none, k_block_ite, k_iter, k_iter_ret, k_iter_exit, k_iter_none, k_iter_ite, k_reg, k_reg_none, k_reg_ite, x_is_nil, x_is, x_is_g, k_ins, k_ins_none, k_ins_ite, k_grd, x_ord_nil, x_ord, x_ord_g, k_ord, k_ord_none, k_ord_ite, k_ogrd, k_out_ret, k_out, k_out_none, k_out_ite, k_pure, k_pure_none, k_pure_ite, startD, dI, dA, deo, Tm.at, Tm.dst, Tm.set, Tm.put, Tm.keep, dW, dRes, oneOfD, mkTup, mkAgg, mkFn, allF, frL, fr, vD, vD1, vF, vFL, dBin, dEq, dNil, isNilD, dScal, F.cv, eBin, sameKind, eInt, eStr, cellsD, oneD, F.one, dFill, putAtD, chunk, dbnd, allLen, allOne, dSrc, roomOK, St.own, St.drop, St.still, St.fresh, chkQ, stillQ, freshQ, lOf, rdOf, rdOK, undefD, F.full, F.fullL, List.mapIdx_cons, strip, q26, r30, callR, p30_range1, slow_mm mm10, slow_mm mm17, mmD, wrap_rem, h0, h1, h2, h3, wk, wq, ne, h4, h5]
end Go.Proofs.Ytmomaojkmidgmaa.Pl
