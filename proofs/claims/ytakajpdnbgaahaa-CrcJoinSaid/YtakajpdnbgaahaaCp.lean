/-
  What is proved here: the sum of bytes, as steps on 16 bits that go together.
  Conditions: none.
-/
import Derived.Test.YtakajpdnbgaahaaDv3
import Derived.Laws.BitsAllLaws
set_option linter.unusedVariables false
set_option linter.unusedSimpArgs false
namespace Go.Proofs.Ytakajpdnbgaahaa.Pl
open Go Go.Proofs Go.Proofs.Ev Go.Proofs.Dv
/-- One bit's step. -/
def T (c : BitVec 16) : BitVec 16 := if c.msb then (c <<< 1) ^^^ 0x1021#16 else c <<< 1
def Tn : Nat → BitVec 16 → BitVec 16
  | 0, c => c
  | n + 1, c => Tn n (T c)

theorem T_xor (a b : BitVec 16) : T (a ^^^ b) = T a ^^^ T b := by
  unfold T
  rw [BitVec.msb_xor]
  cases a.msb <;> cases b.msb <;> simp [BitVec.shiftLeft_xor_distrib]
  · rw [BitVec.xor_assoc]
  · rw [BitVec.xor_assoc, BitVec.xor_assoc]
    congr 1
    exact BitVec.xor_comm _ _
  · rw [BitVec.xor_assoc, ← BitVec.xor_assoc (4129#16), BitVec.xor_comm (4129#16), BitVec.xor_assoc, BitVec.xor_self, BitVec.xor_zero]

theorem Tn_xor (n : Nat) (a b : BitVec 16) : Tn n (a ^^^ b) = Tn n a ^^^ Tn n b := by
  induction n generalizing a b with
  | zero => rfl
  | succ n ih => unfold Tn; rw [T_xor, ih]
theorem Tn_add (m n : Nat) (a : BitVec 16) : Tn (m + n) a = Tn n (Tn m a) := by
  induction m generalizing a with
  | zero => rw [Nat.zero_add]; rfl
  | succ m ih => rw [Nat.succ_add]; show Tn (m + n) (T a) = Tn n (Tn m (T a)); exact ih _
def B (b : Nat) : BitVec 16 := BitVec.ofNat 16 (b * 256)
def step (c : BitVec 16) (b : Nat) : BitVec 16 := Tn 8 (c ^^^ B b)
def sumFrom (c : BitVec 16) (l : List Nat) : BitVec 16 := l.foldl step c

theorem B_xor (a b : Nat) : B (a ^^^ b) = B a ^^^ B b := by
  unfold B
  apply BitVec.eq_of_toNat_eq
  simp only [BitVec.toNat_ofNat, BitVec.toNat_xor]
  rw [← Nat.shiftLeft_eq _ 8, ← Nat.shiftLeft_eq _ 8, ← Nat.shiftLeft_eq _ 8, Nat.shiftLeft_xor_distrib]
  exact Nat.xor_mod_two_pow (n := 16)

/-- What differs goes on by itself. -/
theorem sumFrom_xor (l : List Nat) (c d : BitVec 16) : sumFrom (c ^^^ d) l = sumFrom c l ^^^ Tn (8 * l.length) d := by
  induction l generalizing c d with
  | nil => rfl
  | cons x l ih =>
    have h : step (c ^^^ d) x = step c x ^^^ Tn 8 d := by
      unfold step
      rw [← Tn_xor, BitVec.xor_assoc, BitVec.xor_comm d, ← BitVec.xor_assoc]
    show sumFrom (step (c ^^^ d) x) l = sumFrom (step c x) l ^^^ Tn (8 * (l.length + 1)) d
    rw [h, ih, ← Tn_add, show 8 + 8 * l.length = 8 * (l.length + 1) from by omega]

theorem wrap_u16 (n : Int) : IntKind.u16.wrap n = n % 65536 := by simp [IntKind.wrap, IntKind.bits, IntKind.signed]

theorem and_top (x : BitVec 16) : bits .and .u16 (x.toNat : Int) 32768 = if x.msb then 32768 else 0 := by
  have h := u16_and_nat x.toNat 32768 x.isLt (by omega)
  have e : ((32768 : Nat) : Int) = 32768 := rfl
  rw [e] at h
  rw [h, BitVec.msb_eq_getLsbD_last]
  show ((x.toNat &&& 2 ^ 15 : Nat) : Int) = if x.toNat.testBit 15 = true then _ else _
  have h2 : x.toNat &&& 2 ^ 15 = if x.toNat.testBit 15 = true then 2 ^ 15 else 0 := by
    apply Nat.eq_of_testBit_eq
    intro i
    rw [Nat.testBit_and, Nat.testBit_two_pow]
    by_cases hi : 15 = i
    · subst hi
      cases x.toNat.testBit 15 with
      | true => rw [if_pos rfl, Nat.testBit_two_pow]; rfl
      | false => rw [if_neg (by decide)]; rfl
    · cases x.toNat.testBit i with
      | true => cases x.toNat.testBit 15 with
        | true => rw [if_pos rfl, Nat.testBit_two_pow]; rfl
        | false => rw [if_neg (by decide), Nat.zero_testBit]; simp [hi]
      | false => cases x.toNat.testBit 15 with
        | true => rw [if_pos rfl, Nat.testBit_two_pow]; simp [hi]
        | false => rw [if_neg (by decide), Nat.zero_testBit]; rfl
  rw [h2]
  cases x.toNat.testBit 15 <;> rfl
theorem twice (x : BitVec 16) : IntKind.u16.wrap ((x.toNat : Int) * 2) = ((x <<< 1).toNat : Int) := by
  rw [wrap_u16, BitVec.toNat_shiftLeft, Nat.shiftLeft_eq]
  omega
theorem xor_poly (x : BitVec 16) : bits .xor .u16 (x.toNat : Int) 4129 = ((x ^^^ 0x1021#16).toNat : Int) := by
  have h := u16_xor_nat x.toNat 4129 x.isLt (by omega)
  have e : ((4129 : Nat) : Int) = 4129 := rfl
  rw [e] at h
  rw [h, BitVec.toNat_xor]
  rfl
theorem xor_byte (x : BitVec 16) (b : Nat) (hb : b < 256) : bits .xor .u16 (x.toNat : Int) (IntKind.u16.wrap ((IntKind.u16.wrap (b : Int)) * 256)) = ((x ^^^ B b).toNat : Int) := by
  have e : IntKind.u16.wrap ((IntKind.u16.wrap (b : Int)) * 256) = ((b * 256 : Nat) : Int) := by
    rw [wrap_u16, wrap_u16]
    omega
  rw [e, u16_xor_nat x.toNat _ x.isLt (by omega), BitVec.toNat_xor]
  unfold B
  rw [BitVec.toNat_ofNat, Nat.mod_eq_of_lt (by omega)]

/-- Sums of rows of one length go together. -/
theorem sumFrom_three (a b c : List Nat) (s t u : BitVec 16) (hab : a.length = b.length) (hac : a.length = c.length) :
    sumFrom (s ^^^ t ^^^ u) ((a.zip (b.zip c)).map fun p => p.1 ^^^ p.2.1 ^^^ p.2.2) = sumFrom s a ^^^ sumFrom t b ^^^ sumFrom u c := by
  induction a generalizing b c s t u with
  | nil =>
    obtain rfl : b = [] := List.eq_nil_of_length_eq_zero hab.symm
    obtain rfl : c = [] := List.eq_nil_of_length_eq_zero hac.symm
    rfl
  | cons x a ih =>
    obtain ⟨y, b, rfl⟩ : ∃ y b', b = y :: b' := by cases b with | nil => simp at hab | cons y b => exact ⟨y, b, rfl⟩
    obtain ⟨z, c, rfl⟩ : ∃ z c', c = z :: c' := by cases c with | nil => simp at hac | cons z c => exact ⟨z, c, rfl⟩
    have h : step (s ^^^ t ^^^ u) (x ^^^ y ^^^ z) = step s x ^^^ step t y ^^^ step u z := by
      unfold step
      rw [← Tn_xor, ← Tn_xor, B_xor, B_xor]
      congr 1
      ac_rfl
    show sumFrom (step (s ^^^ t ^^^ u) (x ^^^ y ^^^ z)) _ = sumFrom (step s x) a ^^^ sumFrom (step t y) b ^^^ sumFrom (step u z) c
    rw [h]
    exact ih b c _ _ _ (by simpa using hab) (by simpa using hac)

end Go.Proofs.Ytakajpdnbgaahaa.Pl
