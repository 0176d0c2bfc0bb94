/-
  What is proved here: sums of bytes of one length go together.
  Conditions: none.
-/
import Derived.Test.YtakajpdnbgaahaaCdX
import Derived.Test.YtakajpdnbgaahaaCp
import Derived.WideShapes
set_option linter.unusedVariables false
set_option linter.unusedSimpArgs false
set_option maxRecDepth 100000
set_option maxHeartbeats 4000000
namespace Go.Proofs.Ytakajpdnbgaahaa.Pl
open Go Go.Proofs Go.Proofs.Ev Go.Proofs.Dv Cd Go.WideShapes Go.RowKit
attribute [local simp] x_pure x_skip x_reg x_drw x_seq x_cond x_block x_loop' Tm.keep_nil x_exit x_ret k_seq k_seq_ret k_seq_exit k_seq_none k_seq_ite k_cond k_block k_block_ret k_block_exit k_block_none k_block_ite k_iter k_iter_ret k_iter_exit k_iter_none k_iter_ite k_reg k_reg_none k_reg_ite x_is_nil x_is x_is_g k_ins k_ins_none k_ins_ite k_grd x_ord_nil x_ord x_ord_g k_ord k_ord_none k_ord_ite k_ogrd k_out_ret k_out k_out_none k_out_ite k_pure k_pure_none k_pure_ite startD dI dA deo Tm.at Tm.dst Tm.set Tm.put Tm.keep dW dRes oneOfD mkTup mkAgg mkFn allF frL fr vD vD1 vF vFL dBin dEq dNil isNilD dScal F.cv eBin sameKind eInt eStr cellsD oneD F.one dFill putAtD chunk dbnd dSrc St.own St.drop St.still St.fresh chkQ stillQ freshQ lOf rdOf rdOK undefD F.full F.fullL List.mapIdx_cons strip allOne_nil allOne_cons allOne_append allLen_nil allLen_cons allLen_append roomOK_small filterT y_mv y_pick y_new y_box y_build y_bslice y_ld1 y_ldn y_nilchk y_bin y_not y_conv y_bytes y_string y_ifc y_fn y_cut y_cuts y_fa y_fld y_ia y_idx y_idxs y_ext y_len y_lenstr y_app y_grow y_mks y_slow y_call y_callv y_inv y_extc x_it_st x_it_clr x_it_cpy k_addT k_addT_none k_addT_ite k_orU k_orU_none dU D.turn turnL Tm.turn turnS St.turn turnRows_length

theorem b12 : bitOp (operAt Try.prog 6 12) = some (.shl, .t 15, .c .u64 8) := by kernel_rfl
theorem b13 : bitOp (operAt Try.prog 6 13) = some (.xor, .t 13, .t 16) := by kernel_rfl
theorem b18 : bitOp (operAt Try.prog 6 18) = some (.and, .t 20, .c .u16 32768) := by kernel_rfl
theorem b21 : bitOp (operAt Try.prog 6 21) = some (.shl, .t 22, .c .u64 1) := by kernel_rfl
theorem b26 : bitOp (operAt Try.prog 6 26) = some (.xor, .t 26, .c .u16 4129) := by kernel_rfl

def w16 (x : BitVec 16) : Int := x.toNat
theorem v_top (x : BitVec 16) (k : IntKind) (h : k = .u16) : bitV .and .u16 (w16 x) k 32768 = some (if x.msb then 32768 else 0) := by
  subst h
  unfold w16
  rw [← and_top]
  rfl
theorem v_twice (x : BitVec 16) : bitV .shl .u16 (w16 x) .u64 1 = some (w16 (x <<< 1)) := by
  unfold w16
  rw [← twice]
  rfl
theorem v_poly (x : BitVec 16) : bitV .xor .u16 (w16 x) .u16 4129 = some (w16 (x ^^^ 0x1021#16)) := by
  unfold w16
  rw [← xor_poly]
  rfl
theorem v_byte (b : Nat) (hb : b < 256) : bitV .shl .u16 (b : Int) .u64 8 = some ((b * 256 : Nat) : Int) := by
  have : IntKind.u16.wrap ((b : Int) * 256) = ((b * 256 : Nat) : Int) := by rw [wrap_u16]; omega
  rw [← this]
  rfl
theorem v_xbyte (x : BitVec 16) (b : Nat) (hb : b < 256) : bitV .xor .u16 (w16 x) .u16 ((b * 256 : Nat) : Int) = some (w16 (x ^^^ B b)) := by
  have e : IntKind.u16.wrap ((IntKind.u16.wrap (b : Int)) * 256) = ((b * 256 : Nat) : Int) := by
    rw [wrap_u16, wrap_u16]
    omega
  unfold w16
  rw [← xor_byte x b hb, e]
  rfl

def PostC (y : BitVec 16) (l : F) (n i : Int) (st : Dv.St) (r : Option DSt) : Prop := ∃ T', r = some (.exit 2, T', st) ∧ T'.keep [3, 7, 8, 9] = [(3, .fz (.int .u16 (w16 y))), (7, .fz l), (8, .fz (.int .i64 n)), (9, .fz (.int .i64 i))]
theorem loopBits (l : F) (n i : Int) (st : Dv.St) : ∀ (m : Nat) (j : Int) (x : BitVec 16), j + m = 8 → 0 ≤ j →
    PostC (Tn m x) l n i st (iterI (dCw Try.prog (callI Try.prog prims dx tbl) l6_0) [3, 7, 8, 9, 18] [(3, .fz (.int .u16 (w16 x))), (7, .fz l), (8, .fz (.int .i64 n)), (9, .fz (.int .i64 i)), (18, .fz (.int .i64 j))] st) := by
  intro m
  induction m with
  | zero =>
    intro j x hj h0
    obtain rfl : j = 8 := by omega
    rw [x_iter]
    simp [u6_0, Tn]
    exact ⟨_, rfl, by simp [Tm.keep]⟩
  | succ m ih =>
    intro j x hj h0
    have hj8 : j < 8 := by omega
    have w1 : wrapF .i64 (j + 1) = j + 1 := wrap_id _ (by omega) (by omega)
    rw [x_iter]
    have e := v_top x .u16 rfl
    cases hm : x.msb with
    | true =>
      rw [hm] at e
      simp at e
      simp [u6_0, hj8, slow_bit b18, slow_bit b21, slow_bit b26, bitD, sD, e, v_twice, v_poly, w1]
      have := ih (j + 1) (T x) (by omega) (by omega)
      simp only [Tn]
      rw [show T x = (x <<< 1) ^^^ 4129#16 by simp [T, hm]] at this ⊢
      exact this
    | false =>
      rw [hm] at e
      simp at e
      simp [u6_0, hj8, slow_bit b18, slow_bit b21, slow_bit b26, bitD, sD, e, v_twice, v_poly, w1]
      have := ih (j + 1) (T x) (by omega) (by omega)
      simp only [Tn]
      rw [show T x = (x <<< 1) by simp [T, hm]] at this ⊢
      exact this
def PostD (y : BitVec 16) (r : Option DSt) : Prop := ∃ T' st', r = some (.exit 0, T', st') ∧ T'.keep [3] = [(3, .fz (.int .u16 (w16 y)))]
theorem loopSum (l : List Nat) (hl : l.length < 1000000) (hb : ∀ b ∈ l, b < 256) : ∀ (r : List Nat) (i : Nat) (iz : Int) (x : BitVec 16), iz = i → l.drop i = r → i ≤ l.length →
    PostD (sumFrom x r) (iterI (dCw Try.prog (callI Try.prog prims dx tbl) l6_1) [3, 7, 8, 9] [(3, .fz (.int .u16 (w16 x))), (7, .fz (.list (l.map fun (b : Nat) => [.int .u8 (b : Int)]))), (8, .fz (.int .i64 l.length)), (9, .fz (.int .i64 iz))] ⟨[], [], 0⟩) := by
  intro r
  induction r with
  | nil =>
    intro i iz x hz hd hi
    have hi' := drop_nil hd hi
    subst hi' hz
    rw [x_iter]
    simp [u6_1]
    exact ⟨_, _, rfl, by simp [Tm.keep, sumFrom]⟩
  | cons b r ih =>
    intro i iz x hz hd hi
    subst hz
    obtain ⟨hlt, hli, hd'⟩ := drop_cons hd
    have hb8 := hb b (by rw [← hli]; exact List.getElem_mem hlt)
    have hw : wrapF .i64 ((i : Int) + 1) = (i : Int) + 1 := wrap_id _ (by omega) (by omega)
    have hwb : wrapF .u16 (b : Int) = b := by rw [wrapF_eq, wrap_u16]; omega
    obtain ⟨T', h1, h2⟩ := loopBits (.list (l.map fun (b : Nat) => [.int .u8 (b : Int)])) l.length i ⟨[], [], 0⟩ 8 0 (x ^^^ B b) rfl (by omega)
    have e1 := v_byte b hb8
    have e2 := v_xbyte x b hb8
    simp at e1 e2
    rw [x_iter]
    simp [u6_1, hlt, hli, hwb, slow_bit b12, slow_bit b13, bitD, sD, e1, e2, h1, h2, hw]
    have := ih (i + 1) _ (step x b) rfl hd' hlt
    simp [step] at this
    exact this
theorem pSum (l : List Nat) (hl : l.length < 1000000) (hb : ∀ b ∈ l, b < 256) : pureI Try.prog prims dx tbl 6 [.list (l.map fun (b : Nat) => [.int .u8 (b : Int)])] = some (.int .u16 (w16 (sumFrom 65535#16 l))) := by
  rw [pureI_of (rfl : tbl 6 = some c6)]
  obtain ⟨T', st', h1, h2⟩ := loopSum l hl hb l 0 0 65535#16 rfl rfl (Nat.zero_le _)
  have e0 : w16 65535#16 = 65535 := rfl
  rw [e0] at h1
  simp [c6, h1, h2]
theorem rSum (ds : List D) (st : Dv.St) : callI Try.prog prims dx tbl 6 ds st = callR Try.prog prims dx tbl 6 ds st (frL (fr st 6) ds) := callRw rfl rfl (rfl : tbl 6 = some c6) rfl ds st

theorem b9a : bitOp (operAt Try.prog 3 18) = some (.xor, .t 18, .t 21) := by kernel_rfl
theorem b9b : bitOp (operAt Try.prog 3 22) = some (.xor, .t 22, .t 25) := by kernel_rfl
theorem b9c : bitOp (operAt Try.prog 3 34) = some (.xor, .t 31, .t 33) := by kernel_rfl
theorem b9d : bitOp (operAt Try.prog 3 37) = some (.xor, .t 34, .t 36) := by kernel_rfl
theorem qBegun16 (st : Dv.St) : callI Try.prog prims dx tbl 5 [] st = some (.fz (.bool true), st, []) := callI_prim (p := .yes) rfl rfl
theorem v_xor8 (a b : Nat) (ha : a < 256) (hb : b < 256) : bitV .xor .u8 (a : Int) .u8 (b : Int) = some ((a ^^^ b : Nat) : Int) := by
  have h : bits .xor .u8 (a : Int) (b : Int) = ((a ^^^ b : Nat) : Int) := by
    unfold bits
    simp only [BitVec.toNat_xor, BitVec.toNat_ofInt]
    have e1 : ((a : Int) % ((2 ^ IntKind.u8.bits : Nat) : Int)).toNat = a := by simp [IntKind.bits]; omega
    have e2 : ((b : Int) % ((2 ^ IntKind.u8.bits : Nat) : Int)).toNat = b := by simp [IntKind.bits]; omega
    rw [e1, e2]
    have hx : a ^^^ b < 256 := Nat.xor_lt_two_pow (n := 8) ha hb
    simp [IntKind.wrap, IntKind.bits, IntKind.signed]
    omega
  rw [← h]
  rfl
theorem v_xor16 (x y : BitVec 16) : bitV .xor .u16 (w16 x) .u16 (w16 y) = some (w16 (x ^^^ y)) := by
  unfold w16
  have h := u16_xor_nat x.toNat y.toNat x.isLt y.isLt
  rw [BitVec.toNat_xor, ← h]
  rfl
def b8 (l : List Nat) : List F := l.map fun (b : Nat) => .int .u8 (b : Int)
def PostJ (A B C X : List Nat) (r : Option DSt) : Prop := ∃ T' st', r = some (.exit 0, T', st') ∧ T'.keep [3, 4, 5, 7] = [(3, .ptr 0 0), (4, .ptr 1 0), (5, .ptr 2 0), (7, .ptr 3 0)] ∧ st' = ⟨[(true, (b8 A).map .fz), (true, (b8 B).map .fz), (true, (b8 C).map .fz), (true, (b8 X).map .fz)], [], 0⟩
def x3 (A B C : List Nat) : List Nat := (A.zip (B.zip C)).map fun p => p.1 ^^^ p.2.1 ^^^ p.2.2
theorem x3_get {A B C : List Nat} {k : Nat} (h1 : k < A.length) (h2 : k < B.length) (h3 : k < C.length) : (x3 A B C)[k]? = some (A[k] ^^^ B[k] ^^^ C[k]) := by
  simp [x3, List.getElem?_map, List.getElem?_zip_eq_some, h1, h2, h3]
  exact ⟨A[k], B[k], C[k], ⟨rfl, rfl, rfl⟩, rfl⟩
theorem loopJoin (A B C : List Nat) (hA : A.length = 20) (hB : B.length = 20) (hC : C.length = 20) (bA : ∀ b ∈ A, b < 256) (bB : ∀ b ∈ B, b < 256) (bC : ∀ b ∈ C, b < 256) : ∀ (m k : Nat) (kz : Int), k + m = 20 → kz = k →
    PostJ A B C (x3 A B C) (iterI (dCw Try.prog (callI Try.prog prims dx tbl) l3_0) [3, 4, 5, 7, 8] [(3, .ptr 0 0), (4, .ptr 1 0), (5, .ptr 2 0), (7, .ptr 3 0), (8, .fz (.int .i64 kz))]
      ⟨[(true, (b8 A).map .fz), (true, (b8 B).map .fz), (true, (b8 C).map .fz), (true, (b8 ((x3 A B C).take k ++ List.replicate (20 - k) 0)).map .fz)], [], 0⟩) := by
  have hX : (x3 A B C).length = 20 := by simp [x3, hA, hB, hC]
  intro m
  induction m with
  | zero =>
    intro k kz hk hz
    obtain rfl : k = 20 := by omega
    rw [x_iter]
    simp [u3_0, hz]
    refine ⟨_, _, rfl, by simp [Tm.keep], ?_⟩
    rw [List.take_of_length_le (by omega)]
    try simp
  | succ m ih =>
    intro k kz hk hz
    subst hz
    have hk20 : k < 20 := by omega
    have hk20' : (k : Int) < 20 := by omega
    have hk19 : k ≤ 19 := by omega
    have w1 : wrapF .i64 ((k : Int) + 1) = (k : Int) + 1 := wrap_id _ (by omega) (by omega)
    have gA : (List.map D.fz (b8 A))[k]? = some (.fz (.int .u8 (A[k] : Nat))) := by simp [b8, hA, hk20]
    have gB : (List.map D.fz (b8 B))[k]? = some (.fz (.int .u8 (B[k] : Nat))) := by simp [b8, hB, hk20]
    have gC : (List.map D.fz (b8 C))[k]? = some (.fz (.int .u8 (C[k] : Nat))) := by simp [b8, hC, hk20]
    have xA := bA A[k] (List.getElem_mem _)
    have xB := bB B[k] (List.getElem_mem _)
    have xC := bC C[k] (List.getElem_mem _)
    have e1 := v_xor8 A[k] B[k] xA xB
    have e2 := v_xor8 (A[k] ^^^ B[k]) C[k] (Nat.xor_lt_two_pow (n := 8) xA xB) xC
    have hlen : (List.map D.fz (b8 ((x3 A B C).take k ++ List.replicate (20 - k) 0))).length = 20 := by simp [b8, hX]; omega
    have hset : (List.map D.fz (b8 ((x3 A B C).take k ++ List.replicate (20 - k) 0))).take k ++ [D.fz (.int .u8 ((A[k] ^^^ B[k] ^^^ C[k] : Nat) : Int))] ++ (List.map D.fz (b8 ((x3 A B C).take k ++ List.replicate (20 - k) 0))).drop (k + 1) =
        List.map D.fz (b8 ((x3 A B C).take (k + 1) ++ List.replicate (20 - (k + 1)) 0)) := by
      have hg := x3_get (A := A) (B := B) (C := C) (k := k) (by omega) (by omega) (by omega)
      have hr : List.replicate (20 - k) 0 = 0 :: List.replicate (20 - (k + 1)) 0 := by
        rw [show 20 - k = (20 - (k + 1)) + 1 by omega]
        rfl
      have ht : (x3 A B C).take (k + 1) = (x3 A B C).take k ++ [A[k] ^^^ B[k] ^^^ C[k]] := by
        rw [List.take_add_one, hg]
        rfl
      have hl : ((x3 A B C).take k).length = k := by simp [hX]; omega
      rw [hr, ht]
      simp only [b8, List.map_append, List.map_cons, List.map_nil]
      rw [List.take_append_of_le_length (by simp [hX]; omega), List.take_of_length_le (by simp [hX]; omega)]
      rw [List.drop_append]
      simp [hX, Nat.min_eq_left (show k ≤ 20 by omega)]
      try exact Nat.min_le_left _ _
    rw [x_iter]
    generalize hcon : List.map D.fz (b8 ((x3 A B C).take k ++ List.replicate (20 - k) 0)) = con at hlen hset
    simp [u3_0, hk20, hk20', hk19, gA, gB, gC, slow_bit b9a, slow_bit b9b, bitD, sD, e1, e2, w1, hlen]
    have := ih (k + 1) _ (by omega) rfl
    rw [← hset] at this
    simp at this
    exact this
theorem twenty (A : List Nat) (h : A.length = 20) : ∃ a0 a1 a2 a3 a4 a5 a6 a7 a8 a9 a10 a11 a12 a13 a14 a15 a16 a17 a18 a19 : Nat, A = [a0, a1, a2, a3, a4, a5, a6, a7, a8, a9, a10, a11, a12, a13, a14, a15, a16, a17, a18, a19] := by
  match A, h with
  | [a0, a1, a2, a3, a4, a5, a6, a7, a8, a9, a10, a11, a12, a13, a14, a15, a16, a17, a18, a19], _ => exact ⟨a0, a1, a2, a3, a4, a5, a6, a7, a8, a9, a10, a11, a12, a13, a14, a15, a16, a17, a18, a19, rfl⟩
theorem pCrcJoin (A B C : List Nat) (hA : A.length = 20) (hB : B.length = 20) (hC : C.length = 20) (bA : ∀ b ∈ A, b < 256) (bB : ∀ b ∈ B, b < 256) (bC : ∀ b ∈ C, b < 256) :
    pureI Try.prog prims dx tbl 3 [.agg (b8 A), .agg (b8 B), .agg (b8 C)] = some (.bool true) := by
  rw [pureI_of (rfl : tbl 3 = some c3)]
  obtain ⟨T', st', h1, h2, rfl⟩ := loopJoin A B C hA hB hC bA bB bC 20 0 0 rfl rfl
  have hX : (x3 A B C).length = 20 := by simp [x3, hA, hB, hC]
  have bX : ∀ b ∈ x3 A B C, b < 256 := by
    intro b hb
    obtain ⟨⟨p, q, r⟩, hp, rfl⟩ := List.mem_map.1 hb
    have m1 := List.of_mem_zip hp
    have m2 := List.of_mem_zip m1.2
    exact Nat.xor_lt_two_pow (n := 8) (Nat.xor_lt_two_pow (n := 8) (bA _ m1.1) (bB _ m2.1)) (bC _ m2.2)
  have sA := pSum A (by omega) bA
  have sB := pSum B (by omega) bB
  have sC := pSum C (by omega) bC
  have sX := pSum (x3 A B C) (by omega) bX
  have fin : sumFrom 65535#16 (x3 A B C) = sumFrom 65535#16 A ^^^ sumFrom 65535#16 B ^^^ sumFrom 65535#16 C := by
    have := sumFrom_three A B C 65535#16 65535#16 65535#16 (by omega) (by omega)
    rw [← this]
    rfl
  rw [fin] at sX
  generalize sumFrom 65535#16 A = yA at sA sX
  generalize sumFrom 65535#16 B = yB at sB sX
  generalize sumFrom 65535#16 C = yC at sC sX
  have e0 : b8 ((x3 A B C).take 0 ++ List.replicate (20 - 0) 0) = [.int .u8 0, .int .u8 0, .int .u8 0, .int .u8 0, .int .u8 0, .int .u8 0, .int .u8 0, .int .u8 0, .int .u8 0, .int .u8 0, .int .u8 0, .int .u8 0, .int .u8 0, .int .u8 0, .int .u8 0, .int .u8 0, .int .u8 0, .int .u8 0, .int .u8 0, .int .u8 0] := rfl
  rw [e0] at h1
  generalize x3 A B C = X at *
  obtain ⟨va0, va1, va2, va3, va4, va5, va6, va7, va8, va9, va10, va11, va12, va13, va14, va15, va16, va17, va18, va19, rfl⟩ := twenty A hA
  obtain ⟨vb0, vb1, vb2, vb3, vb4, vb5, vb6, vb7, vb8, vb9, vb10, vb11, vb12, vb13, vb14, vb15, vb16, vb17, vb18, vb19, rfl⟩ := twenty B hB
  obtain ⟨vc0, vc1, vc2, vc3, vc4, vc5, vc6, vc7, vc8, vc9, vc10, vc11, vc12, vc13, vc14, vc15, vc16, vc17, vc18, vc19, rfl⟩ := twenty C hC
  obtain ⟨vx0, vx1, vx2, vx3, vx4, vx5, vx6, vx7, vx8, vx9, vx10, vx11, vx12, vx13, vx14, vx15, vx16, vx17, vx18, vx19, rfl⟩ := twenty X hX
  clear bA bB bC bX hA hB hC hX e0
  simp [b8] at h1 sA sB sC sX
  simp [c3, qBegun16, b8, h1, h2, rSum, callR, sA, sB, sC, sX, slow_bit b9c, slow_bit b9d, bitD, sD, v_xor16]
theorem cell_int8 {P : Program} {w : World} {base : Nat} {e : TypeId} {k : IntKind} {v : Value} (he : P.underlying e = some (.int k)) (h : Cell.okWide P w .any base e v) : ∃ n, v = .int k n ∧ k.has n := by
  simp only [Cell.okWide, he] at h
  cases v <;> simp_all [Cell.ok]
/-- An array of bytes, as it comes in. -/
theorem in_arr {P : Program} {w : World} {base : Nat} {t e : TypeId} {m : Nat} {n : Nat} {v : Value} (hu : P.underlying t = some (.array m e)) (hct : P.cellTypes P.depth t = some (List.replicate n e)) (hc : P.cellsOf t = n) (he : P.underlying e = some (.int .u8))
    (hok : Value.okWide P w .any base t v) : ∃ A : List Nat, A.length = n ∧ (∀ b ∈ A, b < 256) ∧ In1 w v (.agg (b8 A)) := by
  simp only [Value.okWide, hu] at hok
  obtain ⟨cs, rfl, hsz, ts, hts, _, hall⟩ := hok
  rw [hct] at hts
  cases hts
  have each : ∀ v ∈ cs.toList, ∃ z : Nat, v = .int .u8 (z : Int) ∧ z < 256 := by
    intro v hv
    obtain ⟨i, hi⟩ := List.mem_iff_getElem?.1 hv
    obtain ⟨u, hu', hok⟩ := hall i v (by simpa using hi)
    have hm := List.mem_of_getElem? hu'
    rw [List.mem_replicate] at hm
    rw [hm.2] at hok
    obtain ⟨z, rfl, hw⟩ := cell_int8 he hok
    have hb : 0 ≤ z ∧ z < 256 := by
      simp [IntKind.has, IntKind.min, IntKind.max, IntKind.bits, IntKind.signed] at hw
      omega
    exact ⟨z.toNat, by rw [Int.toNat_of_nonneg hb.1], by omega⟩
  refine ⟨cs.toList.map fun v => match v with | .int _ z => z.toNat | _ => 0, by simp [hsz, hc], ?_, ?_⟩
  · intro b hb
    obtain ⟨v, hv, rfl⟩ := List.mem_map.1 hb
    obtain ⟨z, rfl, hz⟩ := each v hv
    simpa using hz
  · have h := In1.ints (w := w) (cs := cs) (ks := cs.toList.map fun v => (IntKind.u8, (((match v with | .int _ z => z.toNat | _ => 0) : Nat) : Int))) (by
      rw [List.map_map]
      symm
      rw [List.map_congr_left (g := id), List.map_id]
      intro v hv
      obtain ⟨z, rfl, hz⟩ := each v hv
      simp)
    rw [List.map_map] at h
    unfold b8
    rw [List.map_map]
    exact h
theorem pCrcJoinA (A : List Nat) (hA : A.length = 20) (bA : ∀ b ∈ A, b < 256) (B : List Nat) (hB : B.length = 20) (bB : ∀ b ∈ B, b < 256) (C : List Nat) (hC : C.length = 20) (bC : ∀ b ∈ C, b < 256) :
    pureI Try.prog prims dx tbl 3 [.agg (b8 A), .agg (b8 B), .agg (b8 C)] = some (.bool true) := pCrcJoin A B C hA hB hC bA bB bC
end Go.Proofs.Ytakajpdnbgaahaa.Pl
