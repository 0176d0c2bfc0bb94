/- The sum of bytes as steps on 16 bits: one step is linear and loses nothing; crc_Sum is these steps byte by byte. -/
import Derived.Test.YtmomaojkmidgmaaPAllx11
import Derived.Laws.BitsAllLaws
namespace Go.Proofs.Ytmomaojkmidgmaa.Pure
open Go.RowKit Go.Proofs.Ytmomaojkmidgmaa.PAll Go.Proofs.YtmomaojkmidgmaaW.PrintWords Go.Proofs.YtmomaojkmidgmaaW.PrintLast Go.Proofs.YtmomaojkmidgmaaW.PrintMore

/-- One bit's step. -/
def T (c : BitVec 16) : BitVec 16 := if c.msb then (c <<< 1) ^^^ 0x1021#16 else c <<< 1
def Tn : Nat → BitVec 16 → BitVec 16
  | 0, c => c
  | n + 1, c => Tn n (T c)

theorem T_xor (a b : BitVec 16) : T (a ^^^ b) = T a ^^^ T b := by
  unfold T
  rw [BitVec.msb_xor]
  cases a.msb <;> cases b.msb <;> simp [BitVec.shiftLeft_xor_distrib]
  · rw [BitVec.xor_assoc]
  · rw [BitVec.xor_assoc, BitVec.xor_assoc]
    congr 1
    exact BitVec.xor_comm _ _
  · rw [BitVec.xor_assoc, ← BitVec.xor_assoc (4129#16), BitVec.xor_comm (4129#16), BitVec.xor_assoc, BitVec.xor_self, BitVec.xor_zero]

theorem T_zero : T 0#16 = 0#16 := by decide

theorem T_inj (a : BitVec 16) (h : T a = 0#16) : a = 0#16 := by
  unfold T at h
  split at h
  · have h0 : ((a <<< 1) ^^^ 0x1021#16).getLsbD 0 = (0#16).getLsbD 0 := by rw [h]
    simp at h0
  · rename_i hm
    apply BitVec.eq_of_getLsbD_eq
    intro i hi
    rw [BitVec.getLsbD_zero]
    by_cases h15 : i = 15
    · subst h15
      rw [BitVec.msb_eq_getLsbD_last] at hm
      simpa using hm
    · have h1 : (a <<< 1).getLsbD (i + 1) = (0#16).getLsbD (i + 1) := by rw [h]
      rw [BitVec.getLsbD_shiftLeft, BitVec.getLsbD_zero] at h1
      have : i + 1 < 16 := by omega
      simpa [this] using h1

theorem Tn_xor (n : Nat) (a b : BitVec 16) : Tn n (a ^^^ b) = Tn n a ^^^ Tn n b := by
  induction n generalizing a b with
  | zero => rfl
  | succ n ih => unfold Tn; rw [T_xor, ih]
theorem Tn_zero (n : Nat) : Tn n 0#16 = 0#16 := by
  induction n with
  | zero => rfl
  | succ n ih => unfold Tn; rw [T_zero, ih]
theorem Tn_inj (n : Nat) (a : BitVec 16) (h : Tn n a = 0#16) : a = 0#16 := by
  induction n generalizing a with
  | zero => exact h
  | succ n ih => exact T_inj _ (ih _ h)
theorem Tn_add (m n : Nat) (a : BitVec 16) : Tn (m + n) a = Tn n (Tn m a) := by
  induction m generalizing a with
  | zero => rw [Nat.zero_add]; rfl
  | succ m ih => rw [Nat.succ_add]; show Tn (m + n) (T a) = Tn n (Tn m (T a)); exact ih _
theorem T_small (x : Nat) (h : x < 32768) : T (BitVec.ofNat 16 x) = BitVec.ofNat 16 (x * 2) := by
  unfold T
  have hm : (BitVec.ofNat 16 x).msb = false := by
    rw [BitVec.msb_eq_decide]
    simp
    omega
  rw [hm]
  apply BitVec.eq_of_toNat_eq
  simp [Nat.shiftLeft_eq]
theorem Tn_small (n x : Nat) (h : x * 2 ^ n < 65536) : Tn n (BitVec.ofNat 16 x) = BitVec.ofNat 16 (x * 2 ^ n) := by
  induction n generalizing x with
  | zero => simp [Tn]
  | succ n ih =>
    have h2 : x * 2 ^ (n + 1) = x * 2 * 2 ^ n := by rw [Nat.pow_succ]; rw [Nat.mul_assoc, Nat.mul_comm 2]
    rw [h2] at h ⊢
    have hx : x * 2 < 65536 := Nat.lt_of_le_of_lt (Nat.le_mul_of_pos_right _ (Nat.two_pow_pos n)) h
    unfold Tn
    rw [T_small x (by omega), ih _ h]

/-- A byte ahead of eight more bits. -/
def B (b : Nat) : BitVec 16 := BitVec.ofNat 16 (b * 256)
def step (c : BitVec 16) (b : Nat) : BitVec 16 := Tn 8 (c ^^^ B b)
def sumFrom (c : BitVec 16) (l : List Nat) : BitVec 16 := l.foldl step c

theorem B_xor (a b : Nat) : B (a ^^^ b) = B a ^^^ B b := by
  unfold B
  apply BitVec.eq_of_toNat_eq
  simp only [BitVec.toNat_ofNat, BitVec.toNat_xor]
  rw [← Nat.shiftLeft_eq _ 8, ← Nat.shiftLeft_eq _ 8, ← Nat.shiftLeft_eq _ 8, Nat.shiftLeft_xor_distrib]
  exact Nat.xor_mod_two_pow (n := 16)

/-- What differs goes on by itself. -/
theorem sumFrom_xor (l : List Nat) (c d : BitVec 16) : sumFrom (c ^^^ d) l = sumFrom c l ^^^ Tn (8 * l.length) d := by
  induction l generalizing c d with
  | nil => rfl
  | cons x l ih =>
    have h : step (c ^^^ d) x = step c x ^^^ Tn 8 d := by
      unfold step
      rw [← Tn_xor, BitVec.xor_assoc, BitVec.xor_comm d, ← BitVec.xor_assoc]
    show sumFrom (step (c ^^^ d) x) l = sumFrom (step c x) l ^^^ Tn (8 * (l.length + 1)) d
    rw [h, ih, ← Tn_add, show 8 + 8 * l.length = 8 * (l.length + 1) from by omega]

/-! The printed loops. -/
theorem w64_in {i : Int} (h0 : -9223372036854775808 ≤ i) (h1 : i ≤ 9223372036854775807) : wrap64 i = i := by
  unfold wrap64
  omega
theorem wrap_u16 (n : Int) : IntKind.u16.wrap n = n % 65536 := by simp [IntKind.wrap, IntKind.bits, IntKind.signed]

theorem and_top (x : BitVec 16) : Go.bits .and .u16 (x.toNat : Int) 32768 = if x.msb then 32768 else 0 := by
  have h := u16_and_nat x.toNat 32768 x.isLt (by omega)
  have e : ((32768 : Nat) : Int) = 32768 := rfl
  rw [e] at h
  rw [h, BitVec.msb_eq_getLsbD_last]
  show ((x.toNat &&& 2 ^ 15 : Nat) : Int) = if x.toNat.testBit 15 = true then _ else _
  have h2 : x.toNat &&& 2 ^ 15 = if x.toNat.testBit 15 = true then 2 ^ 15 else 0 := by
    apply Nat.eq_of_testBit_eq
    intro i
    rw [Nat.testBit_and, Nat.testBit_two_pow]
    by_cases hi : 15 = i
    · subst hi
      cases x.toNat.testBit 15 with
      | true => rw [if_pos rfl, Nat.testBit_two_pow]; rfl
      | false => rw [if_neg (by decide)]; rfl
    · cases x.toNat.testBit i with
      | true => cases x.toNat.testBit 15 with
        | true => rw [if_pos rfl, Nat.testBit_two_pow]; rfl
        | false => rw [if_neg (by decide), Nat.zero_testBit]; simp [hi]
      | false => cases x.toNat.testBit 15 with
        | true => rw [if_pos rfl, Nat.testBit_two_pow]; simp [hi]
        | false => rw [if_neg (by decide), Nat.zero_testBit]; rfl
  rw [h2]
  cases x.toNat.testBit 15 <;> rfl
theorem twice (x : BitVec 16) : IntKind.u16.wrap ((x.toNat : Int) * 2) = ((x <<< 1).toNat : Int) := by
  rw [wrap_u16, BitVec.toNat_shiftLeft, Nat.shiftLeft_eq]
  omega
theorem xor_poly (x : BitVec 16) : Go.bits .xor .u16 (x.toNat : Int) 4129 = ((x ^^^ 0x1021#16).toNat : Int) := by
  have h := u16_xor_nat x.toNat 4129 x.isLt (by omega)
  have e : ((4129 : Nat) : Int) = 4129 := rfl
  rw [e] at h
  rw [h, BitVec.toNat_xor]
  rfl
theorem xor_byte (x : BitVec 16) (b : Nat) (hb : b < 256) : Go.bits .xor .u16 (x.toNat : Int) (IntKind.u16.wrap ((IntKind.u16.wrap (b : Int)) * 256)) = ((x ^^^ B b).toNat : Int) := by
  have e : IntKind.u16.wrap ((IntKind.u16.wrap (b : Int)) * 256) = ((b * 256 : Nat) : Int) := by
    rw [wrap_u16, wrap_u16]
    omega
  rw [e, u16_xor_nat x.toNat _ x.isLt (by omega), BitVec.toNat_xor]
  unfold B
  rw [BitVec.toNat_ofNat, Nat.mod_eq_of_lt (by omega)]

theorem l1_one (k : Nat) (x : BitVec 16) (l : List Int) (n i j : Int) (h0 : 0 ≤ j) (h1 : j < 8) :
    crc_Sum.l1 (k + 1) (x.toNat : Int) l n i j = crc_Sum.l1 k ((T x).toNat : Int) l n i (j + 1) := by
  simp only [crc_Sum.l1]
  rw [if_pos h1, and_top, twice, w64_in (i := j + 1) (by omega) (by omega)]
  unfold T
  cases x.msb with
  | true => rw [if_pos rfl, if_neg (by decide), xor_poly, if_pos rfl]
  | false => rw [if_pos (by decide), if_neg (by decide)]
theorem l1_all (k : Nat) (x : BitVec 16) (l : List Int) (n i : Int) (hi : 0 ≤ i) (hi' : i ≤ 9223372036854775806) :
    crc_Sum.l1 (k + 9) (x.toNat : Int) l n i 0 = crc_Sum.l0 k ((Tn 8 x).toNat : Int) l n (i + 1) := by
  rw [l1_one (k + 8) x l n i 0 (by omega) (by omega), l1_one (k + 7) _ l n i _ (by omega) (by omega), l1_one (k + 6) _ l n i _ (by omega) (by omega), l1_one (k + 5) _ l n i _ (by omega) (by omega), l1_one (k + 4) _ l n i _ (by omega) (by omega), l1_one (k + 3) _ l n i _ (by omega) (by omega), l1_one (k + 2) _ l n i _ (by omega) (by omega), l1_one (k + 1) _ l n i _ (by omega) (by omega)]
  simp only [crc_Sum.l1]
  rw [if_neg (by omega), w64_in (i := i + 1) (by omega) (by omega)]
  rfl

theorem sum_loop (l : List Int) (hb : ∀ x ∈ l, 0 ≤ x ∧ x < 256) (hl : l.length ≤ 1000000) (d : Nat) : ∀ (j k : Nat) (c : BitVec 16), j + d = l.length → 10 * d < k →
    crc_Sum.l0 k (c.toNat : Int) l (l.length : Int) (j : Int) = some ((sumFrom c ((l.drop j).map Int.toNat)).toNat : Int) := by
  induction d with
  | zero =>
    intro j k c hj hk
    obtain ⟨k, rfl⟩ : ∃ m, k = m + 1 := ⟨k - 1, by omega⟩
    simp only [crc_Sum.l0]
    rw [if_neg (by omega), List.drop_of_length_le (by omega)]
    rfl
  | succ d ih =>
    intro j k c hj hk
    obtain ⟨k, rfl⟩ : ∃ m, k = m + 10 := ⟨k - 10, by omega⟩
    have hlt : j < l.length := by omega
    have hx := hb l[j] (List.getElem_mem hlt)
    have hr : rd l (j : Int) = ((l[j].toNat : Nat) : Int) := by
      unfold rd
      rw [Int.toNat_natCast, List.getD_eq_getElem?_getD, List.getElem?_eq_getElem hlt]
      simp
      omega
    simp only [crc_Sum.l0]
    rw [if_pos (by omega), if_pos (by omega), if_pos (by omega), hr, xor_byte _ _ (by omega), l1_all k _ _ _ _ (by omega) (by omega)]
    have e : (j : Int) + 1 = ((j + 1 : Nat) : Int) := by omega
    rw [e, ih (j + 1) k _ (by omega) (by omega), List.drop_eq_getElem_cons hlt, List.map_cons]
    rfl

/-- crc_Sum is the steps, byte by byte. -/
theorem sum_tells (l : List Int) (hb : ∀ x ∈ l, 0 ≤ x ∧ x < 256) (hl : l.length ≤ 1000000) (k : Nat) (hk : 10 * l.length < k) :
    crc_Sum.f k l = some ((sumFrom 0xffff#16 (l.map Int.toNat)).toNat : Int) := by
  have h := sum_loop l hb hl l.length 0 k 0xffff#16 (by omega) hk
  rw [List.drop_zero] at h
  exact h

theorem byte_wf {x : Int} (h : (Lit.int .u8 x).wf = true) : 0 ≤ x ∧ x < 256 := by
  simp [Lit.wf, IntKind.min, IntKind.max, IntKind.bits, IntKind.signed] at h
  omega

/-- Sums of rows of one length go together. -/
theorem sumFrom_three (a b c : List Nat) (s t u : BitVec 16) (hab : a.length = b.length) (hac : a.length = c.length) :
    sumFrom (s ^^^ t ^^^ u) ((a.zip (b.zip c)).map fun p => p.1 ^^^ p.2.1 ^^^ p.2.2) = sumFrom s a ^^^ sumFrom t b ^^^ sumFrom u c := by
  induction a generalizing b c s t u with
  | nil =>
    obtain rfl : b = [] := List.eq_nil_of_length_eq_zero hab.symm
    obtain rfl : c = [] := List.eq_nil_of_length_eq_zero hac.symm
    rfl
  | cons x a ih =>
    obtain ⟨y, b, rfl⟩ : ∃ y b', b = y :: b' := by cases b with | nil => simp at hab | cons y b => exact ⟨y, b, rfl⟩
    obtain ⟨z, c, rfl⟩ : ∃ z c', c = z :: c' := by cases c with | nil => simp at hac | cons z c => exact ⟨z, c, rfl⟩
    have h : step (s ^^^ t ^^^ u) (x ^^^ y ^^^ z) = step s x ^^^ step t y ^^^ step u z := by
      unfold step
      rw [← Tn_xor, ← Tn_xor, B_xor, B_xor]
      congr 1
      ac_rfl
    show sumFrom (step (s ^^^ t ^^^ u) (x ^^^ y ^^^ z)) _ = sumFrom (step s x) a ^^^ sumFrom (step t y) b ^^^ sumFrom (step u z) c
    rw [h]
    exact ih b c _ _ _ (by simpa using hab) (by simpa using hac)

end Go.Proofs.Ytmomaojkmidgmaa.Pure
