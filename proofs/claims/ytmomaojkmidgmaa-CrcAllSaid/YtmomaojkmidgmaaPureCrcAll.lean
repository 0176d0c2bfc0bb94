/- CrcAll: the program's sum of bytes is the document's, which goes bit by bit (at most 300 bytes; more are let through). -/
import Derived.Test.YtmomaojkmidgmaaPAllx14
import Derived.Test.YtmomaojkmidgmaaCrcPlain
namespace Go.Proofs.Ytmomaojkmidgmaa.Pure
open Go.RowKit Go.Proofs.Ytmomaojkmidgmaa.PAll Go.Proofs.YtmomaojkmidgmaaW.PrintWords Go.Proofs.YtmomaojkmidgmaaW.PrintLast Go.Proofs.YtmomaojkmidgmaaW.PrintMore

/-- One bit of the document's sum. -/
def U (c : BitVec 16) (b : Bool) : BitVec 16 := if c.msb = b then c <<< 1 else (c <<< 1) ^^^ 0x1021#16
theorem U_T (c : BitVec 16) (b : Bool) : U c b = T (c ^^^ (if b then 0x8000#16 else 0#16)) := by
  cases b with
  | false =>
    rw [if_neg (by decide), BitVec.xor_zero]
    unfold U T
    cases c.msb with
    | true => rw [if_neg (by decide), if_pos rfl]
    | false => rw [if_pos rfl, if_neg (by decide)]
  | true =>
    unfold U T
    have h : (c ^^^ 0x8000#16) <<< 1 = c <<< 1 := by
      rw [BitVec.shiftLeft_xor_distrib]
      have : (0x8000#16 : BitVec 16) <<< 1 = 0#16 := by decide
      rw [this, BitVec.xor_zero]
    have hm : (c ^^^ 0x8000#16).msb = !c.msb := by
      rw [BitVec.msb_xor]
      have : (0x8000#16 : BitVec 16).msb = true := by decide
      rw [this]
      simp
    simp only [if_true]
    rw [h, hm]
    cases c.msb <;> simp
/-- Bits j, j - 1, .., 0 of a byte. -/
def bitsOn : Nat → BitVec 16 → Nat → BitVec 16
  | 0, c, _ => c
  | j + 1, c, b => bitsOn j (U c (b.testBit j)) b
theorem bitsOn_xor (j : Nat) (c d : BitVec 16) (b : Nat) : bitsOn j (c ^^^ d) b = Tn j c ^^^ bitsOn j d b := by
  induction j generalizing c d with
  | zero => rfl
  | succ j ih =>
    show bitsOn j (U (c ^^^ d) (b.testBit j)) b = Tn j (T c) ^^^ bitsOn j (U d (b.testBit j)) b
    rw [U_T, U_T, BitVec.xor_assoc, T_xor, ih]
theorem bitsOn_zero : ∀ b : Fin 256, bitsOn 8 0#16 b.val = Tn 8 (B b.val) := by decide +kernel
theorem bitsOn_step (c : BitVec 16) (b : Nat) (hb : b < 256) : bitsOn 8 c b = step c b := by
  have h := bitsOn_xor 8 c 0#16 b
  rw [BitVec.xor_zero] at h
  rw [h, bitsOn_zero ⟨b, hb⟩, ← Tn_xor]
  rfl

theorem and_one (n : Nat) (h : n < 4294967296) : Go.bits .and .u32 (n : Int) 1 = ((n % 2 : Nat) : Int) := by
  have h1 := u32_and_nat n 1 h (by omega)
  have e : ((1 : Nat) : Int) = 1 := rfl
  rw [e] at h1
  rw [h1, Nat.and_one_is_mod]
theorem and_low (n : Nat) (h : n < 4294967296) : Go.bits .and .u32 (n : Int) 65535 = ((n % 65536 : Nat) : Int) := by
  have h1 := u32_and_nat n 65535 h (by omega)
  have e : ((65535 : Nat) : Int) = 65535 := rfl
  rw [e] at h1
  rw [h1, show (65535 : Nat) = 2 ^ 16 - 1 from rfl, Nat.and_two_pow_sub_one_eq_mod]
theorem top_bit (c : BitVec 16) : Go.bits .and .u32 ((c.toNat : Int) / 32768) 1 = if c.msb then 1 else 0 := by
  have hlt := c.isLt
  have e : (c.toNat : Int) / 32768 = ((c.toNat / 32768 : Nat) : Int) := by omega
  rw [e, and_one _ (by omega), BitVec.msb_eq_decide]
  by_cases h : 2 ^ (16 - 1) ≤ c.toNat
  · have h' : 32768 ≤ c.toNat := h
    simp [h]
    omega
  · have h' : ¬ 32768 ≤ c.toNat := h
    simp [h]
    omega
theorem shr_bit (b j : Nat) (hb : b < 256) (hj : j < 8) : Go.bits .and .u32 ((shr .u8 (b : Int) (j : Int)) % 4294967296) 1 = if b.testBit j then 1 else 0 := by
  have e : (shr .u8 (b : Int) (j : Int)) % 4294967296 = ((b / 2 ^ j : Nat) : Int) := by
    unfold shr
    have : min ((j : Int)).toNat (IntKind.u8).bits = j := by
      have : (IntKind.u8).bits = 8 := rfl
      omega
    rw [this]
    have h1 : ((b / 2 ^ j : Nat) : Int) = (b : Int) / (2 : Int) ^ j := by
      rw [Int.natCast_ediv, Int.natCast_pow]
      rfl
    rw [← h1]
    have h2 : b / 2 ^ j ≤ b := Nat.div_le_self _ _
    clear h1
    generalize b / 2 ^ j = q at *
    omega
  have h2 : b / 2 ^ j ≤ b := Nat.div_le_self _ _
  rw [e, and_one _ (by omega), Nat.testBit_eq_decide_div_mod_eq]
  rcases Nat.mod_two_eq_zero_or_one (b / 2 ^ j) with h | h <;> simp [h]
theorem twice32 (c : BitVec 16) : Go.bits .and .u32 (((c.toNat : Int) * 2) % 4294967296) 65535 = ((c <<< 1).toNat : Int) := by
  have hlt := c.isLt
  have e : ((c.toNat : Int) * 2) % 4294967296 = ((c.toNat * 2 : Nat) : Int) := by omega
  rw [e, and_low _ (by omega), BitVec.toNat_shiftLeft, Nat.shiftLeft_eq]
theorem xor_poly32 (x : BitVec 16) : Go.bits .xor .u32 (x.toNat : Int) 4129 = ((x ^^^ 0x1021#16).toNat : Int) := by
  have hlt := x.isLt
  have h := u32_xor_nat x.toNat 4129 (by omega) (by omega)
  have e : ((4129 : Nat) : Int) = 4129 := rfl
  rw [e] at h
  rw [h, BitVec.toNat_xor]
  rfl

theorem ref_bits (l : List Int) (i : Nat) (b : Nat) (hi : i < l.length) (hr : rd l (i : Int) = (b : Int)) (hb : b < 256) (hl : l.length ≤ 1000000) (d : Nat) : ∀ (k : Nat) (c : BitVec 16), d ≤ 8 →
    cardamomref16_Sum.l1 (k + d + 1) l (c.toNat : Int) (i : Int) ((d : Int) - 1) = cardamomref16_Sum.l0 k l ((bitsOn d c b).toNat : Int) ((i : Int) + 1) := by
  induction d with
  | zero =>
    intro k c _
    simp only [cardamomref16_Sum.l1]
    rw [if_neg (by omega), w64_in (i := (i : Int) + 1) (by omega) (by omega)]
    rfl
  | succ d ih =>
    intro k c hd
    rw [show k + (d + 1) + 1 = (k + d + 1) + 1 from by omega]
    have ihk := fun c h => ih k c h
    clear ih
    generalize k + d + 1 = m at *
    simp only [cardamomref16_Sum.l1]
    rw [if_pos (by omega), if_pos (by omega), if_pos (by omega), if_pos (by omega), hr, show (((d + 1 : Nat) : Int) - 1) = (d : Int) from by omega, shr_bit b d hb (by omega), top_bit, twice32, xor_poly32,
      w64_in (i := (d : Int) - 1) (by omega) (by omega)]
    have hn : bitsOn (d + 1) c b = bitsOn d (U c (b.testBit d)) b := rfl
    rw [hn]
    unfold U
    cases c.msb <;> cases b.testBit d
    · rw [if_pos rfl, if_pos rfl]; exact ihk _ (by omega)
    · rw [if_neg (by decide), if_neg (by decide)]; exact ihk _ (by omega)
    · rw [if_neg (by decide), if_neg (by decide)]; exact ihk _ (by omega)
    · rw [if_pos rfl, if_pos rfl]; exact ihk _ (by omega)

theorem ref_loop (l : List Int) (hb : ∀ x ∈ l, 0 ≤ x ∧ x < 256) (hl : l.length ≤ 1000000) (d : Nat) : ∀ (j k : Nat) (c : BitVec 16), j + d = l.length → 10 * d < k →
    cardamomref16_Sum.l0 k l (c.toNat : Int) (j : Int) = some ((sumFrom c ((l.drop j).map Int.toNat)).toNat : Int) := by
  induction d with
  | zero =>
    intro j k c hj hk
    obtain ⟨k, rfl⟩ : ∃ m, k = m + 1 := ⟨k - 1, by omega⟩
    simp only [cardamomref16_Sum.l0]
    have hlt := c.isLt
    rw [if_neg (by omega), List.drop_of_length_le (by omega), wrap_u16]
    show some ((c.toNat : Int) % 65536) = some (c.toNat : Int)
    congr 1
    omega
  | succ d ih =>
    intro j k c hj hk
    obtain ⟨k, rfl⟩ : ∃ m, k = m + 10 := ⟨k - 10, by omega⟩
    have hlt : j < l.length := by omega
    have hx := hb l[j] (List.getElem_mem hlt)
    have hr : rd l (j : Int) = ((l[j].toNat : Nat) : Int) := by
      unfold rd
      rw [Int.toNat_natCast, List.getD_eq_getElem?_getD, List.getElem?_eq_getElem hlt]
      simp
      omega
    simp only [cardamomref16_Sum.l0]
    rw [if_pos (by omega)]
    have h8 := ref_bits l j l[j].toNat hlt hr (by omega) hl 8 k c (by omega)
    rw [show k + 8 + 1 = k + 9 from rfl, show (((8 : Nat) : Int) - 1) = 7 from rfl] at h8
    rw [h8, bitsOn_step _ _ (by omega)]
    have e : (j : Int) + 1 = ((j + 1 : Nat) : Int) := by omega
    rw [e, ih (j + 1) k _ (by omega) (by omega), List.drop_eq_getElem_cons hlt, List.map_cons]
    rfl

theorem CrcAll : cardamomlaw16_CrcAll.Pure := by
  intro l hm _ hb
  by_cases hl : (l.length : Int) > 300
  · refine ⟨0, ?_⟩
    unfold cardamomlaw16_CrcAll.f cardamomlaw16_begun.f
    simp only [Option.bind_some, if_true]
    rw [if_pos hl]
  · have hb' : ∀ x ∈ l, 0 ≤ x ∧ x < 256 := fun x hx => byte_wf (hb x hx)
    refine ⟨4000, ?_⟩
    unfold cardamomlaw16_CrcAll.f cardamomlaw16_begun.f
    simp only [Option.bind_some, if_true]
    have h2 := ref_loop l hb' (by omega) l.length 0 4000 0xffff#16 (by omega) (by omega)
    rw [List.drop_zero] at h2
    rw [if_neg hl, sum_tells l hb' (by omega) 4000 (by omega)]
    unfold cardamomref16_Sum.f
    have e : ((0xffff#16 : BitVec 16).toNat : Int) = 65535 := rfl
    rw [e] at h2
    have e0 : ((0 : Nat) : Int) = 0 := rfl
    rw [e0] at h2
    rw [h2]
    simp

end Go.Proofs.Ytmomaojkmidgmaa.Pure
