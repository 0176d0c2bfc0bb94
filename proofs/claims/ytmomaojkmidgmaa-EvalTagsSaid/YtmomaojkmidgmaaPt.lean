/-
  What is proved here: what filters let through, by what is kept: a tag.
  Conditions: none.
-/
import Derived.Test.YtmomaojkmidgmaaPl
set_option linter.unusedVariables false
set_option linter.unusedSimpArgs false
set_option maxRecDepth 100000
set_option maxHeartbeats 2000000
namespace Go.Proofs.Ytmomaojkmidgmaa.Pl
open Go Go.Proofs Go.Proofs.Ev Go.Proofs.Dv Cd
theorem p50 (s p : List UInt8) : pureI Try.prog noPrims dx tbl 50 [.str s, .str p] = some (.bool (decide (p.length ≤ s.length ∧ s.take p.length = p))) := by
  rw [pureI_of (rfl : tbl 50 = some c50)]
  by_cases h : p.length ≤ s.length
  · simp [c50, x_pure, x_skip, x_reg, x_drw, x_seq, x_cond, x_block, x_loop', Tm.keep_nil, x_exit, x_ret, k_seq, k_seq_ret, k_seq_exit, k_seq_none, k_seq_ite, k_cond, k_block, k_block_ret, k_block_exit, k_block_none, k_block_ite, k_iter, k_iter_ret, k_iter_exit, k_iter_none, k_iter_ite, k_reg, k_reg_none, k_reg_ite, x_is_nil, x_is, x_is_g, k_ins, k_ins_none, k_ins_ite, k_grd, x_ord_nil, x_ord, x_ord_g, k_ord, k_ord_none, k_ord_ite, k_ogrd, k_out_ret, k_out, k_out_none, k_out_ite, k_pure, k_pure_none, k_pure_ite, startD, dI, dA, deo, Tm.at, Tm.dst, Tm.set, Tm.put, Tm.keep, dW, dRes, oneOfD, mkTup, mkAgg, mkFn, allF, frL, fr, vD, vD1, vF, vFL, dBin, dEq, dNil, isNilD, dScal, F.cv, eBin, sameKind, eInt, eStr, cellsD, oneD, F.one, dFill, putAtD, chunk, dbnd, allLen, allOne, dSrc, roomOK, St.own, St.drop, St.still, St.fresh, chkQ, stillQ, freshQ, lOf, rdOf, rdOK, undefD, F.full, F.fullL, List.mapIdx_cons, strip, h, Int.ofNat_le]
    rw [beqB_eq, Bool.eq_iff_iff]
    simp
  · simp [c50, x_pure, x_skip, x_reg, x_drw, x_seq, x_cond, x_block, x_loop', Tm.keep_nil, x_exit, x_ret, k_seq, k_seq_ret, k_seq_exit, k_seq_none, k_seq_ite, k_cond, k_block, k_block_ret, k_block_exit, k_block_none, k_block_ite, k_iter, k_iter_ret, k_iter_exit, k_iter_none, k_iter_ite, k_reg, k_reg_none, k_reg_ite, x_is_nil, x_is, x_is_g, k_ins, k_ins_none, k_ins_ite, k_grd, x_ord_nil, x_ord, x_ord_g, k_ord, k_ord_none, k_ord_ite, k_ogrd, k_out_ret, k_out, k_out_none, k_out_ite, k_pure, k_pure_none, k_pure_ite, startD, dI, dA, deo, Tm.at, Tm.dst, Tm.set, Tm.put, Tm.keep, dW, dRes, oneOfD, mkTup, mkAgg, mkFn, allF, frL, fr, vD, vD1, vF, vFL, dBin, dEq, dNil, isNilD, dScal, F.cv, eBin, sameKind, eInt, eStr, cellsD, oneD, F.one, dFill, putAtD, chunk, dbnd, allLen, allOne, dSrc, roomOK, St.own, St.drop, St.still, St.fresh, chkQ, stillQ, freshQ, lOf, rdOf, rdOK, undefD, F.full, F.fullL, List.mapIdx_cons, strip, h, Int.ofNat_le]
theorem r50 (ds : List D) (st : Dv.St) : callI Try.prog noPrims dx tbl 50 ds st = callR Try.prog noPrims dx tbl 50 ds st (frL (fr st 6) ds) := callRw rfl rfl (rfl : tbl 50 = some c50) rfl ds st
theorem r39 (ds : List D) (st : Dv.St) : callI Try.prog noPrims dx tbl 39 ds st = callR Try.prog noPrims dx tbl 39 ds st (frL (fr st 6) ds) := callRw rfl rfl (rfl : tbl 39 = some c39) rfl ds st
theorem p39 (s p : List UInt8) : pureI Try.prog noPrims dx tbl 39 [.str s, .str p] = some (.bool (decide (p.length ≤ s.length ∧ s.take p.length = p))) := by
  rw [pureI_of (rfl : tbl 39 = some c39)]
  simp [c39, x_pure, x_skip, x_reg, x_drw, x_seq, x_cond, x_block, x_loop', Tm.keep_nil, x_exit, x_ret, k_seq, k_seq_ret, k_seq_exit, k_seq_none, k_seq_ite, k_cond, k_block, k_block_ret, k_block_exit, k_block_none, k_block_ite, k_iter, k_iter_ret, k_iter_exit, k_iter_none, k_iter_ite, k_reg, k_reg_none, k_reg_ite, x_is_nil, x_is, x_is_g, k_ins, k_ins_none, k_ins_ite, k_grd, x_ord_nil, x_ord, x_ord_g, k_ord, k_ord_none, k_ord_ite, k_ogrd, k_out_ret, k_out, k_out_none, k_out_ite, k_pure, k_pure_none, k_pure_ite, startD, dI, dA, deo, Tm.at, Tm.dst, Tm.set, Tm.put, Tm.keep, dW, dRes, oneOfD, mkTup, mkAgg, mkFn, allF, frL, fr, vD, vD1, vF, vFL, dBin, dEq, dNil, isNilD, dScal, F.cv, eBin, sameKind, eInt, eStr, cellsD, oneD, F.one, dFill, putAtD, chunk, dbnd, allLen, allOne, dSrc, roomOK, St.own, St.drop, St.still, St.fresh, chkQ, stillQ, freshQ, lOf, rdOf, rdOK, undefD, F.full, F.fullL, List.mapIdx_cons, strip, r50, callR, p50]
theorem p30_tag (key lo hi : Int) (ftag : List UInt8) (i0 i1 i2 i3 : Int) (d : Bool) (l : List (Int × Int)) (tag body : List UInt8) :
    pureI Try.prog noPrims dx tbl 30 [.agg [.int .i64 4, .int .i64 key, .int .i64 lo, .int .i64 hi, .str ftag, .list []], .agg [.int .i64 i0, .int .i64 i1, .int .i64 i2, .int .i64 i3, .bool d, .list (l.map encA), .str tag, .str body]] =
    some (.bool (decide (ftag.length ≤ tag.length ∧ tag.take ftag.length = ftag))) := by
  rw [pureI_of (rfl : tbl 30 = some c30)]
  simp [c30, x_pure, x_skip, x_reg, x_drw, x_seq, x_cond, x_block, x_loop', Tm.keep_nil, x_exit, x_ret, k_seq, k_seq_ret, k_seq_exit, k_seq_none, k_seq_ite, k_cond, k_block, k_block_ret, k_block_exit, k_block_none, k_block_ite, k_iter, k_iter_ret, k_iter_exit, k_iter_none, k_iter_ite, k_reg, k_reg_none, k_reg_ite, x_is_nil, x_is, x_is_g, k_ins, k_ins_none, k_ins_ite, k_grd, x_ord_nil, x_ord, x_ord_g, k_ord, k_ord_none, k_ord_ite, k_ogrd, k_out_ret, k_out, k_out_none, k_out_ite, k_pure, k_pure_none, k_pure_ite, startD, dI, dA, deo, Tm.at, Tm.dst, Tm.set, Tm.put, Tm.keep, dW, dRes, oneOfD, mkTup, mkAgg, mkFn, allF, frL, fr, vD, vD1, vF, vFL, dBin, dEq, dNil, isNilD, dScal, F.cv, eBin, sameKind, eInt, eStr, cellsD, oneD, F.one, dFill, putAtD, chunk, dbnd, allLen, allOne, dSrc, roomOK, St.own, St.drop, St.still, St.fresh, chkQ, stillQ, freshQ, lOf, rdOf, rdOK, undefD, F.full, F.fullL, List.mapIdx_cons, strip, r39, callR, p39]
theorem p30_tag0 (ftag : List UInt8) (i0 i1 i2 i3 : Int) (d : Bool) (tag body : List UInt8) :
    pureI Try.prog noPrims dx tbl 30 [.agg [.int .i64 4, .int .i64 0, .int .i64 0, .int .i64 0, .str ftag, .list []], .agg [.int .i64 i0, .int .i64 i1, .int .i64 i2, .int .i64 i3, .bool d, .list [], .str tag, .str body]] =
    some (.bool (decide (ftag.length ≤ tag.length ∧ tag.take ftag.length = ftag))) := by simpa using p30_tag 0 0 0 ftag i0 i1 i2 i3 d [] tag body
def letter (z : Int) : UInt8 := UInt8.ofNat (97 + z % 26).toNat
theorem bytes1 (z : Int) (h : 0 ≤ z ∧ z < 256) : bytesF [[.int .u8 (wrapF .u8 (97 + z.tmod 26))]] = some [letter z] := by
  have e : z.tmod 26 = z % 26 := Int.tmod_eq_emod_of_nonneg h.1
  have w : wrapF .u8 (97 + z % 26) = 97 + z % 26 := by
    simp [wrapF, show 97 + z % 26 < 256 by omega, show 0 ≤ 97 + z % 26 by omega]
  rw [e, w]
  simp [bytesF, letter, show 97 + z % 26 < 256 by omega, show 0 ≤ 97 + z % 26 by omega]
theorem loop16 (l : List Int) (n : Int) (hl : l.length ≤ 6) (hb : ∀ z ∈ l, 0 ≤ z ∧ z < 256) : ∀ (r : List Int) (i : Nat) (L : List Nat) (c : Nat), l.drop i = r → i ≤ l.length → ∃ L' c',
    iterI (dCw Try.prog (callI Try.prog noPrims dx tbl) l16_0) [0, 1, 5, 6, 77, 78, 79, 80, 83, 84, 85, 86] [(0, .fz (.list (l.map fun z => [.int .u8 z]))), (1, .fz (.int .u8 n)), (5, .fz (.str ((l.take i).map letter))), (6, .fz (.int .i64 i))] ⟨[], L, c⟩ =
      some (.exit 0, [(0, .fz (.list (l.map fun z => [.int .u8 z]))), (1, .fz (.int .u8 n)), (5, .fz (.str (l.map letter))), (6, .fz (.int .i64 l.length)), (25, .fz (.bool false))], ⟨[], L', c'⟩) := by
  intro r
  induction r with
  | nil =>
    intro i L c hd hi
    have hi' : i = l.length := by
      have := congrArg List.length hd
      simp at this
      omega
    refine ⟨L, c, ?_⟩
    rw [x_iter]
    simp [u16_0, x_pure, x_skip, x_reg, x_drw, x_seq, x_cond, x_block, x_loop', Tm.keep_nil, x_exit, x_ret, k_seq, k_seq_ret, k_seq_exit, k_seq_none, k_seq_ite, k_cond, k_block, k_block_ret, k_block_exit, k_block_none, k_block_ite, k_iter, k_iter_ret, k_iter_exit, k_iter_none, k_iter_ite, k_reg, k_reg_none, k_reg_ite, x_is_nil, x_is, x_is_g, k_ins, k_ins_none, k_ins_ite, k_grd, x_ord_nil, x_ord, x_ord_g, k_ord, k_ord_none, k_ord_ite, k_ogrd, k_out_ret, k_out, k_out_none, k_out_ite, k_pure, k_pure_none, k_pure_ite, startD, dI, dA, deo, Tm.at, Tm.dst, Tm.set, Tm.put, Tm.keep, dW, dRes, oneOfD, mkTup, mkAgg, mkFn, allF, frL, fr, vD, vD1, vF, vFL, dBin, dEq, dNil, isNilD, dScal, F.cv, eBin, sameKind, eInt, eStr, cellsD, oneD, F.one, dFill, putAtD, chunk, dbnd, allLen, allOne, dSrc, roomOK, St.own, St.drop, St.still, St.fresh, chkQ, stillQ, freshQ, lOf, rdOf, rdOK, undefD, F.full, F.fullL, List.mapIdx_cons, strip, hi']
    try trace_state
  | cons a r ih =>
    intro i L c hd hi
    have hget : l[i]? = some a := by
      have := congrArg (·[0]?) hd
      simpa [List.getElem?_drop] using this
    have hlt := lt_of hget
    have hd' : l.drop (i + 1) = r := by
      have := congrArg (List.drop 1) hd
      simpa [List.drop_drop, Nat.add_comm] using this
    have hli : l[i]'hlt = a := by
      rw [List.getElem?_eq_getElem hlt] at hget
      exact Option.some.inj hget
    have hw : wrapF .i64 ((i : Int) + 1) = (i : Int) + 1 := wrap_small _ (by omega) (by omega)
    have ha := hb a (List.mem_of_getElem? hget)
    obtain ⟨L', c', h⟩ := ih (i + 1) (c :: L) (c + 1) hd' hlt
    refine ⟨L', c', ?_⟩
    rw [x_iter]
    have ht : List.take (i + 1) l = List.take i l ++ [a] := by rw [List.take_add_one, hget]; rfl
    rw [ht] at h
    have hf : List.filter (fun _ : Nat => true) L = L := List.filter_eq_self.2 (fun _ _ => rfl)
    have hm : min i l.length + 1 < 9223372036854775807 := by omega
    simp at h
    simp [u16_0, x_pure, x_skip, x_reg, x_drw, x_seq, x_cond, x_block, x_loop', Tm.keep_nil, x_exit, x_ret, k_seq, k_seq_ret, k_seq_exit, k_seq_none, k_seq_ite, k_cond, k_block, k_block_ret, k_block_exit, k_block_none, k_block_ite, k_iter, k_iter_ret, k_iter_exit, k_iter_none, k_iter_ite, k_reg, k_reg_none, k_reg_ite, x_is_nil, x_is, x_is_g, k_ins, k_ins_none, k_ins_ite, k_grd, x_ord_nil, x_ord, x_ord_g, k_ord, k_ord_none, k_ord_ite, k_ogrd, k_out_ret, k_out, k_out_none, k_out_ite, k_pure, k_pure_none, k_pure_ite, startD, dI, dA, deo, Tm.at, Tm.dst, Tm.set, Tm.put, Tm.keep, dW, dRes, oneOfD, mkTup, mkAgg, mkFn, allF, frL, fr, vD, vD1, vF, vFL, dBin, dEq, dNil, isNilD, dScal, F.cv, eBin, sameKind, eInt, eStr, cellsD, oneD, F.one, dFill, putAtD, chunk, dbnd, allLen, allOne, dSrc, roomOK, St.own, St.drop, St.still, St.fresh, chkQ, stillQ, freshQ, lOf, rdOf, rdOK, undefD, F.full, F.fullL, List.mapIdx_cons, strip, hlt, hli, hw, bytes1 a ha, hf, hm, h]
theorem letter_nat (z : Int) : ((letter z).toNat : Int) = 97 + z % 26 := by
  have : (97 + z % 26).toNat % 256 = (97 + z % 26).toNat := Nat.mod_eq_of_lt (by omega)
  simp only [letter, UInt8.toNat_ofNat', Nat.reducePow, this]
  omega
theorem wrap_u8 (x : Int) (h0 : 0 ≤ x) (h1 : x < 256) : wrapF .u8 x = x := by simp [wrapF, h0, h1]
theorem next1 (z : Int) : ∃ b, b ≠ letter z ∧ bytesF [[.int .u8 (wrapF .u8 (97 + (wrapF .u8 (wrapF .u8 (((letter z).toNat : Int) - 97) + 1)).tmod 26))]] = some [b] := by
  have e := letter_nat z
  have b1 : 0 ≤ z % 26 := by omega
  have b2 : z % 26 < 26 := by omega
  rw [e, show 97 + z % 26 - 97 = z % 26 by omega, wrap_u8 _ b1 (by omega), wrap_u8 (z % 26 + 1) (by omega) (by omega), Int.tmod_eq_emod_of_nonneg (by omega), wrap_u8 _ (by omega) (by omega)]
  refine ⟨UInt8.ofNat (97 + (z % 26 + 1) % 26).toNat, fun h => ?_, by simp [bytesF]⟩
  have h2 := congrArg UInt8.toNat h
  have h3 := letter_nat z
  have : (97 + (z % 26 + 1) % 26).toNat % 256 = (97 + (z % 26 + 1) % 26).toNat := Nat.mod_eq_of_lt (by omega)
  simp only [UInt8.toNat_ofNat', Nat.reducePow, this] at h2
  omega
theorem p16 (l : List Int) (hl : l.length ≤ maxLen) (hb : ∀ z ∈ l, 0 ≤ z ∧ z < 256) (n : Int) (hn : 0 ≤ n ∧ n < 256) : pureI Try.prog noPrims dx tbl 16 [.list (l.map fun z => [.int .u8 z]), .int .u8 n] = some (.bool true) := by
  rw [pureI_of (rfl : tbl 16 = some c16)]
  have hm : l.length < 9223372036854775808 := by simp [maxLen] at hl; omega
  by_cases h6 : 6 < l.length
  · simp [c16, x_pure, x_skip, x_reg, x_drw, x_seq, x_cond, x_block, x_loop', Tm.keep_nil, x_exit, x_ret, k_seq, k_seq_ret, k_seq_exit, k_seq_none, k_seq_ite, k_cond, k_block, k_block_ret, k_block_exit, k_block_none, k_block_ite, k_iter, k_iter_ret, k_iter_exit, k_iter_none, k_iter_ite, k_reg, k_reg_none, k_reg_ite, x_is_nil, x_is, x_is_g, k_ins, k_ins_none, k_ins_ite, k_grd, x_ord_nil, x_ord, x_ord_g, k_ord, k_ord_none, k_ord_ite, k_ogrd, k_out_ret, k_out, k_out_none, k_out_ite, k_pure, k_pure_none, k_pure_ite, startD, dI, dA, deo, Tm.at, Tm.dst, Tm.set, Tm.put, Tm.keep, dW, dRes, oneOfD, mkTup, mkAgg, mkFn, allF, frL, fr, vD, vD1, vF, vFL, dBin, dEq, dNil, isNilD, dScal, F.cv, eBin, sameKind, eInt, eStr, cellsD, oneD, F.one, dFill, putAtD, chunk, dbnd, allLen, allOne, dSrc, roomOK, St.own, St.drop, St.still, St.fresh, chkQ, stillQ, freshQ, lOf, rdOf, rdOK, undefD, F.full, F.fullL, List.mapIdx_cons, strip, q26, h6, show (6 : Int) < l.length by omega]
  · by_cases h0 : l = []
    · subst h0
      simp [c16, x_pure, x_skip, x_reg, x_drw, x_seq, x_cond, x_block, x_loop', Tm.keep_nil, x_exit, x_ret, k_seq, k_seq_ret, k_seq_exit, k_seq_none, k_seq_ite, k_cond, k_block, k_block_ret, k_block_exit, k_block_none, k_block_ite, k_iter, k_iter_ret, k_iter_exit, k_iter_none, k_iter_ite, k_reg, k_reg_none, k_reg_ite, x_is_nil, x_is, x_is_g, k_ins, k_ins_none, k_ins_ite, k_grd, x_ord_nil, x_ord, x_ord_g, k_ord, k_ord_none, k_ord_ite, k_ogrd, k_out_ret, k_out, k_out_none, k_out_ite, k_pure, k_pure_none, k_pure_ite, startD, dI, dA, deo, Tm.at, Tm.dst, Tm.set, Tm.put, Tm.keep, dW, dRes, oneOfD, mkTup, mkAgg, mkFn, allF, frL, fr, vD, vD1, vF, vFL, dBin, dEq, dNil, isNilD, dScal, F.cv, eBin, sameKind, eInt, eStr, cellsD, oneD, F.one, dFill, putAtD, chunk, dbnd, allLen, allOne, dSrc, roomOK, St.own, St.drop, St.still, St.fresh, chkQ, stillQ, freshQ, lOf, rdOf, rdOK, undefD, F.full, F.fullL, List.mapIdx_cons, strip, q26]
    · have h1 : ¬ (l.length : Int) = 0 := by simpa using h0
      obtain ⟨L', c', hloop⟩ := loop16 l n (by omega) hb l 0 [] 0 rfl (Nat.zero_le _)
      simp at hloop
      obtain ⟨m, hk, hml⟩ : ∃ m : Nat, wrapF .i64 (1 + (wrapF .i64 n).tmod l.length) = (m : Int) + 1 ∧ m < l.length := by
        have hp : 0 < l.length := by omega
        have e1 : wrapF .i64 n = n := wrap_id n (by omega) (by omega)
        have e2 : n.tmod l.length = n % l.length := Int.tmod_eq_emod_of_nonneg hn.1
        have b1 := Int.emod_nonneg n h1
        have b2 := Int.emod_lt_of_pos n (show (0 : Int) < l.length by omega)
        refine ⟨(n % l.length).toNat, ?_, by omega⟩
        rw [e1, e2, wrap_id _ (by omega) (by omega)]
        omega
      have hk2 : wrapF .i64 (m : Int) = m := wrap_id _ (by omega) (by omega)
      have hm0 : (0 : Int) ≤ (m : Int) + 1 := by omega
      have hmt : ((m : Int) + 1).toNat = m + 1 := by omega
      obtain ⟨b, hb1, hb2⟩ := next1 (l[m]'hml)
      have hne : ¬ (List.take (m + 1) (List.map letter l) = List.take m (List.map letter l) ++ [b]) := by
        intro h
        rw [List.take_add_one, List.getElem?_map, List.getElem?_eq_getElem hml] at h
        have := List.append_cancel_left h
        simp at this
        exact hb1 this.symm
      have hf : List.filter (fun _ : Nat => true) L' = L' := List.filter_eq_self.2 (fun _ _ => rfl)
      have hmm : min m l.length + 1 < 9223372036854775807 := by omega
      simp [c16, x_pure, x_skip, x_reg, x_drw, x_seq, x_cond, x_block, x_loop', Tm.keep_nil, x_exit, x_ret, k_seq, k_seq_ret, k_seq_exit, k_seq_none, k_seq_ite, k_cond, k_block, k_block_ret, k_block_exit, k_block_none, k_block_ite, k_iter, k_iter_ret, k_iter_exit, k_iter_none, k_iter_ite, k_reg, k_reg_none, k_reg_ite, x_is_nil, x_is, x_is_g, k_ins, k_ins_none, k_ins_ite, k_grd, x_ord_nil, x_ord, x_ord_g, k_ord, k_ord_none, k_ord_ite, k_ogrd, k_out_ret, k_out, k_out_none, k_out_ite, k_pure, k_pure_none, k_pure_ite, startD, dI, dA, deo, Tm.at, Tm.dst, Tm.set, Tm.put, Tm.keep, dW, dRes, oneOfD, mkTup, mkAgg, mkFn, allF, frL, fr, vD, vD1, vF, vFL, dBin, dEq, dNil, isNilD, dScal, F.cv, eBin, sameKind, eInt, eStr, cellsD, oneD, F.one, dFill, putAtD, chunk, dbnd, allLen, allOne, dSrc, roomOK, St.own, St.drop, St.still, St.fresh, chkQ, stillQ, freshQ, lOf, rdOf, rdOK, undefD, F.full, F.fullL, List.mapIdx_cons, strip, q26, r30, callR, p30_tag0, show ¬ (6 : Int) < l.length by omega, h0, h1, hloop, hk, hk2, hm0, hmt, hml, Nat.succ_le_of_lt hml, Nat.le_of_lt hml, hb2, hf, hmm, show m + 1 < 9223372036854775807 by omega, hne]
end Go.Proofs.Ytmomaojkmidgmaa.Pl
