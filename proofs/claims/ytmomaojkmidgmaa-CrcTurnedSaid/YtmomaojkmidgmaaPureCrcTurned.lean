/- CrcTurned: bytes of which some within 16 bits are turned have another sum (3 to 200 bytes; others, and nothing turned, are let through). -/
import Derived.Test.YtmomaojkmidgmaaPAllx15
import Derived.Test.YtmomaojkmidgmaaCrcPlain
namespace Go.Proofs.Ytmomaojkmidgmaa.Pure
open Go.RowKit Go.Proofs.Ytmomaojkmidgmaa.PAll Go.Proofs.YtmomaojkmidgmaaW.PrintWords Go.Proofs.YtmomaojkmidgmaaW.PrintLast Go.Proofs.YtmomaojkmidgmaaW.PrintMore

def V (n : Nat) : BitVec 16 := BitVec.ofNat 16 n

theorem xor_eq_zero {a b : BitVec 16} (h : a ^^^ b = 0#16) : a = b := by
  have : a ^^^ b ^^^ b = 0#16 ^^^ b := by rw [h]
  rw [BitVec.xor_assoc, BitVec.xor_self, BitVec.xor_zero, BitVec.zero_xor] at this
  exact this
theorem V_inj {a b : Nat} (ha : a < 65536) (hb : b < 65536) (h : V a = V b) : a = b := by
  have : (V a).toNat = (V b).toNat := by rw [h]
  unfold V at this
  rw [BitVec.toNat_ofNat, BitVec.toNat_ofNat, Nat.mod_eq_of_lt (by omega), Nat.mod_eq_of_lt (by omega)] at this
  exact this

theorem halves (n : Nat) : (n / 256 * 256) ^^^ (n % 256) = n := by
  have e1 : n / 256 * 256 = 2 ^ 8 * (n / 256) := by rw [Nat.mul_comm]
  rw [e1]
  apply Nat.eq_of_testBit_eq
  intro i
  rw [Nat.testBit_xor, Nat.testBit_two_pow_mul, show (256 : Nat) = 2 ^ 8 from rfl, Nat.testBit_mod_two_pow, Nat.testBit_div_two_pow]
  by_cases hi : i < 8
  · have : ¬ i ≥ 8 := by omega
    simp [hi, this]
  · have h2 : i ≥ 8 := by omega
    have h3 : 8 + (i - 8) = i := by omega
    simp [hi, h2, h3, Nat.add_comm]

theorem word_of (n : Nat) (hn : n < 65536) : B (n / 256) ^^^ V (n % 256) = V n := by
  apply BitVec.eq_of_toNat_eq
  unfold B V
  rw [BitVec.toNat_xor, BitVec.toNat_ofNat, BitVec.toNat_ofNat, BitVec.toNat_ofNat, Nat.mod_eq_of_lt (a := n / 256 * 256) (by omega), Nat.mod_eq_of_lt (a := n % 256) (by omega), Nat.mod_eq_of_lt (a := n) (b := 2 ^ 16) (by omega)]
  exact halves n

theorem step_xor (c d : BitVec 16) (x v : Nat) : step (c ^^^ d) (x ^^^ v) = step c x ^^^ Tn 8 (d ^^^ B v) := by
  unfold step
  rw [← Tn_xor, B_xor]
  congr 1
  ac_rfl

/-- What three bytes' turning leaves. -/
def left3 (v2 v1 v0 : Nat) : BitVec 16 := Tn 8 (Tn 8 (Tn 8 (B v2) ^^^ B v1) ^^^ B v0)

theorem left3_zero (n v0 : Nat) (hn : n < 65536) (h0 : v0 < 256) (h : left3 (n / 256) (n % 256) v0 = 0#16) : Tn 8 (V n) = V v0 := by
  unfold left3 at h
  have e1 : B (n % 256) = Tn 8 (V (n % 256)) := (Tn_small 8 _ (by omega)).symm
  have e0 : B v0 = Tn 8 (V v0) := (Tn_small 8 _ (by omega)).symm
  rw [e1, ← Tn_xor, word_of n hn, e0, ← Tn_xor] at h
  exact xor_eq_zero (Tn_inj 8 _ (Tn_inj 8 _ h))

theorem split_zero (s m h r : Nat) (hs : m + s = 8) (hh : h * 2 ^ m < 65536) (hr : r < 2 ^ m) (hr2 : r * 2 ^ s < 65536) (hr3 : r < 65536) (e : Tn 8 (V h) = V (r * 2 ^ s)) : h = 0 ∧ r = 0 := by
  have a1 : Tn 8 (V h) = Tn s (V (h * 2 ^ m)) := by
    rw [← hs, Tn_add]
    congr 1
    exact Tn_small m h hh
  have a2 : V (r * 2 ^ s) = Tn s (V r) := (Tn_small s r hr2).symm
  rw [a1, a2] at e
  have e2 : Tn s (V (h * 2 ^ m) ^^^ V r) = 0#16 := by rw [Tn_xor, e, BitVec.xor_self]
  have e3 := V_inj hh hr3 (xor_eq_zero (Tn_inj s _ e2))
  rcases Nat.eq_zero_or_pos h with h0 | h0
  · subst h0
    exact ⟨rfl, by omega⟩
  · have : 2 ^ m ≤ h * 2 ^ m := Nat.le_mul_of_pos_left _ h0
    omega

theorem burst (y s : Nat) (hy : y < 65536) (h0 : 0 < y) (h1 : 1 ≤ s) (h8 : s ≤ 8) : left3 (y * 2 ^ s / 65536) (y * 2 ^ s / 256 % 256) (y * 2 ^ s % 256) ≠ 0#16 := by
  intro h
  have hd : y * 2 ^ s / 65536 = y * 2 ^ s / 256 / 256 := by omega
  rw [hd] at h
  have hn : y * 2 ^ s / 256 < 65536 := by
    have : s = 1 ∨ s = 2 ∨ s = 3 ∨ s = 4 ∨ s = 5 ∨ s = 6 ∨ s = 7 ∨ s = 8 := by omega
    rcases this with rfl | rfl | rfl | rfl | rfl | rfl | rfl | rfl <;> omega
  have e := left3_zero _ _ hn (Nat.mod_lt _ (by omega)) h
  have key : ∀ m r : Nat, m + s = 8 → y * 2 ^ s % 256 = r * 2 ^ s → y * 2 ^ s / 256 * 2 ^ m < 65536 → r < 2 ^ m → r * 2 ^ s < 65536 → r < 65536 → (y * 2 ^ s / 256 = 0 ∧ r = 0) := fun m r a b c d f g => split_zero s m _ r a c d f g (by rw [e, b])
  have : s = 1 ∨ s = 2 ∨ s = 3 ∨ s = 4 ∨ s = 5 ∨ s = 6 ∨ s = 7 ∨ s = 8 := by omega
  rcases this with rfl | rfl | rfl | rfl | rfl | rfl | rfl | rfl
  · have := key 7 (y % 128) (by omega) (by omega) (by omega) (by omega) (by omega) (by omega); omega
  · have := key 6 (y % 64) (by omega) (by omega) (by omega) (by omega) (by omega) (by omega); omega
  · have := key 5 (y % 32) (by omega) (by omega) (by omega) (by omega) (by omega) (by omega); omega
  · have := key 4 (y % 16) (by omega) (by omega) (by omega) (by omega) (by omega) (by omega); omega
  · have := key 3 (y % 8) (by omega) (by omega) (by omega) (by omega) (by omega) (by omega); omega
  · have := key 2 (y % 4) (by omega) (by omega) (by omega) (by omega) (by omega) (by omega); omega
  · have := key 1 (y % 2) (by omega) (by omega) (by omega) (by omega) (by omega) (by omega); omega
  · have := key 0 0 rfl (by rw [Nat.zero_mul]; exact Nat.mul_mod_left y 256) (by rw [show (2 : Nat) ^ 8 = 256 from rfl, Nat.mul_div_cancel _ (by decide)]; omega) (by decide) (by decide) (by decide)
    rw [show (2 : Nat) ^ 8 = 256 from rfl, Nat.mul_div_cancel _ (by decide)] at this
    omega

theorem sumFrom_app (c : BitVec 16) (l m : List Nat) : sumFrom c (l ++ m) = sumFrom (sumFrom c l) m := List.foldl_append

theorem turned_sum (c : BitVec 16) (A C : List Nat) (x y z v2 v1 v0 : Nat) :
    sumFrom c (A ++ (x ^^^ v2) :: (y ^^^ v1) :: (z ^^^ v0) :: C) = sumFrom c (A ++ x :: y :: z :: C) ^^^ Tn (8 * C.length) (left3 v2 v1 v0) := by
  rw [sumFrom_app, sumFrom_app]
  generalize sumFrom c A = S
  show sumFrom (step (step (step S (x ^^^ v2)) (y ^^^ v1)) (z ^^^ v0)) C = sumFrom (step (step (step S x) y) z) C ^^^ _
  have h1 := step_xor S 0#16 x v2
  rw [BitVec.xor_zero, BitVec.zero_xor] at h1
  rw [h1, step_xor, step_xor, sumFrom_xor]
  rfl

theorem xor8 (a b : Nat) (ha : a < 256) (hb : b < 256) : Go.bits .xor .u8 (a : Int) (b : Int) = ((a ^^^ b : Nat) : Int) := u8_xor_nat a b ha hb

theorem rd_at (A C : List Int) (x : Int) (n : Nat) (i : Int) (hn : A.length = n) (hi : i = (n : Int)) : rd (A ++ x :: C) i = x := by
  subst hn hi
  unfold rd
  rw [Int.toNat_natCast, List.getD_eq_getElem?_getD, List.getElem?_append_right (by omega)]
  simp
theorem set_at (A C : List Int) (x u : Int) (n : Nat) (i : Int) (hn : A.length = n) (hi : i = (n : Int)) : (A ++ x :: C).set i.toNat u = A ++ u :: C := by
  subst hn hi
  rw [Int.toNat_natCast, List.set_append_right _ _ (Nat.le_refl _)]
  simp

theorem three_at (l : List Int) (p : Nat) (h : p + 2 < l.length) : ∃ A x y z C, l = A ++ x :: y :: z :: C ∧ A.length = p := by
  refine ⟨l.take p, l[p], l[p + 1], l[p + 2], l.drop (p + 3), ?_, by simp; omega⟩
  rw [← List.drop_eq_getElem_cons, ← List.drop_eq_getElem_cons, ← List.drop_eq_getElem_cons, List.take_append_drop]

theorem CrcTurned : cardamomlaw16_CrcTurned.Pure := by
  intro l at_ by_ hm _ hb hat hby
  have hb' : ∀ x ∈ l, 0 ≤ x ∧ x < 256 := fun x hx => byte_wf (hb x hx)
  have ha : 0 ≤ at_ ∧ at_ < 65536 := by
    simp [Lit.wf, IntKind.min, IntKind.max, IntKind.bits, IntKind.signed] at hat
    omega
  have hy : 0 ≤ by_ ∧ by_ < 65536 := by
    simp [Lit.wf, IntKind.min, IntKind.max, IntKind.bits, IntKind.signed] at hby
    omega
  refine ⟨3000, ?_⟩
  unfold cardamomlaw16_CrcTurned.f cardamomlaw16_begun.f
  simp only [Option.bind_some, if_true]
  by_cases hl : (l.length : Int) > 200
  · rw [if_pos hl, cardamomlaw16_CrcTurned.j0, if_pos rfl]
  rw [if_neg hl]
  by_cases hl3 : (l.length : Int) < 3
  · rw [if_pos hl3, cardamomlaw16_CrcTurned.j0, if_pos rfl]
  rw [if_neg hl3, cardamomlaw16_CrcTurned.j0]
  by_cases hz : by_ = 0
  · rw [if_pos (by simp [hz])]
  rw [if_neg (by simpa using hz)]
  simp only [Option.bind_some, List.nil_append, List.length_nil]
  rw [if_pos (by omega)]
  -- the numbers
  obtain ⟨a, rfl⟩ := Int.eq_ofNat_of_zero_le ha.1
  obtain ⟨y, rfl⟩ := Int.eq_ofNat_of_zero_le hy.1
  have hlen : 3 ≤ l.length ∧ l.length ≤ 200 := by omega
  have hw2 : wrap64 ((l.length : Int) - 2) = ((l.length - 2 : Nat) : Int) := by rw [w64_in (by omega) (by omega)]; omega
  have hwa : wrap64 (a : Int) = (a : Int) := w64_in (by omega) (by omega)
  have htm : Int.tmod (a : Int) ((l.length - 2 : Nat) : Int) = ((a % (l.length - 2) : Nat) : Int) := by
    rw [Int.tmod_eq_emod_of_nonneg (by omega)]
    exact (Int.natCast_emod _ _).symm
  have htm8 : Int.tmod (a : Int) 8 = ((a % 8 : Nat) : Int) := by
    rw [Int.tmod_eq_emod_of_nonneg (by omega)]
    omega
  have hs8 : IntKind.u16.wrap (8 - ((a % 8 : Nat) : Int)) = ((8 - a % 8 : Nat) : Int) := by
    rw [wrap_u16]
    omega
  rw [hw2, hwa, htm, htm8, hs8]
  have hp : a % (l.length - 2) < l.length - 2 := Nat.mod_lt _ (by omega)
  have hs : 1 ≤ 8 - a % 8 ∧ 8 - a % 8 ≤ 8 := by omega
  generalize 8 - a % 8 = s at hs
  generalize a % (l.length - 2) = p at hp
  have hsh : shl .u32 ((y : Int) % 4294967296) (s : Int) = ((y * 2 ^ s : Nat) : Int) := by
    unfold shl
    have e1 : min ((s : Int)).toNat (IntKind.u32).bits = s := by
      have : (IntKind.u32).bits = 32 := rfl
      omega
    rw [e1]
    have : s = 1 ∨ s = 2 ∨ s = 3 ∨ s = 4 ∨ s = 5 ∨ s = 6 ∨ s = 7 ∨ s = 8 := by omega
    rcases this with rfl | rfl | rfl | rfl | rfl | rfl | rfl | rfl <;> simp [IntKind.wrap, IntKind.bits, IntKind.signed] <;> omega
  rw [hsh]
  have hv : y * 2 ^ s < 16777216 := by
    have : s = 1 ∨ s = 2 ∨ s = 3 ∨ s = 4 ∨ s = 5 ∨ s = 6 ∨ s = 7 ∨ s = 8 := by omega
    rcases this with rfl | rfl | rfl | rfl | rfl | rfl | rfl | rfl <;> omega
  have hne := burst y s (by omega) (by omega) hs.1 hs.2
  generalize y * 2 ^ s = v at hv hne
  have e2 : ((v : Int) / 65536) % 256 = ((v / 65536 : Nat) : Int) := by omega
  have e1 : ((v : Int) / 256) % 256 = ((v / 256 % 256 : Nat) : Int) := by omega
  have e0 : (v : Int) % 256 = ((v % 256 : Nat) : Int) := by omega
  rw [e2, e1, e0, if_neg (by omega), if_pos (by omega), if_pos (by omega), if_pos (by omega)]
  rw [w64_in (i := (p : Int) + 1) (by omega) (by omega), w64_in (i := (p : Int) + 2) (by omega) (by omega)]
  rw [if_pos (by omega), if_pos (by omega), if_pos (by omega), if_pos (by omega)]
  -- the three bytes
  obtain ⟨A, x2, x1, x0, C, hl', hA⟩ := three_at l p (by omega)
  have hx2 : 0 ≤ x2 ∧ x2 < 256 := hb' x2 (by rw [hl']; simp)
  have hx1 : 0 ≤ x1 ∧ x1 < 256 := hb' x1 (by rw [hl']; simp)
  have hx0 : 0 ≤ x0 ∧ x0 < 256 := hb' x0 (by rw [hl']; simp)
  obtain ⟨b2, rfl⟩ := Int.eq_ofNat_of_zero_le hx2.1
  obtain ⟨b1, rfl⟩ := Int.eq_ofNat_of_zero_le hx1.1
  obtain ⟨b0, rfl⟩ := Int.eq_ofNat_of_zero_le hx0.1
  have r2 : rd l (p : Int) = (b2 : Int) := by rw [hl']; exact rd_at A _ _ p _ hA rfl
  have r1 : rd l ((p : Int) + 1) = (b1 : Int) := by
    rw [hl', show A ++ (b2 : Int) :: (b1 : Int) :: (b0 : Int) :: C = (A ++ [(b2 : Int)]) ++ (b1 : Int) :: (b0 : Int) :: C from by simp]
    exact rd_at _ _ _ (p + 1) _ (by simp [hA]) (by omega)
  have r0 : rd l ((p : Int) + 2) = (b0 : Int) := by
    rw [hl', show A ++ (b2 : Int) :: (b1 : Int) :: (b0 : Int) :: C = (A ++ [(b2 : Int), (b1 : Int)]) ++ (b0 : Int) :: C from by simp]
    exact rd_at _ _ _ (p + 2) _ (by simp [hA]) (by omega)
  rw [r2, r1, r0, xor8 b2 _ (by omega) (by omega), xor8 b1 _ (by omega) (by omega), xor8 b0 _ (by omega) (by omega)]
  have hset : ((l.set ((p : Int)).toNat ((b2 ^^^ v / 65536 : Nat) : Int)).set ((p : Int) + 1).toNat ((b1 ^^^ v / 256 % 256 : Nat) : Int)).set ((p : Int) + 2).toNat ((b0 ^^^ v % 256 : Nat) : Int) = A ++ ((b2 ^^^ v / 65536 : Nat) : Int) :: ((b1 ^^^ v / 256 % 256 : Nat) : Int) :: ((b0 ^^^ v % 256 : Nat) : Int) :: C := by
    generalize ((b2 ^^^ v / 65536 : Nat) : Int) = u2
    generalize ((b1 ^^^ v / 256 % 256 : Nat) : Int) = u1
    generalize ((b0 ^^^ v % 256 : Nat) : Int) = u0
    rw [hl', set_at A _ _ _ p _ hA rfl]
    rw [show A ++ u2 :: (b1 : Int) :: (b0 : Int) :: C = (A ++ [u2]) ++ (b1 : Int) :: (b0 : Int) :: C from by simp, set_at _ _ _ _ (p + 1) _ (by simp [hA]) (by omega)]
    rw [show (A ++ [u2]) ++ u1 :: (b0 : Int) :: C = (A ++ [u2, u1]) ++ (b0 : Int) :: C from by simp, set_at _ _ _ _ (p + 2) _ (by simp [hA]) (by omega)]
    simp
  rw [hset]
  have hA' : ∀ x ∈ A, 0 ≤ x ∧ x < 256 := fun x hx => hb' x (by rw [hl']; simp [hx])
  have hC' : ∀ x ∈ C, 0 ≤ x ∧ x < 256 := fun x hx => hb' x (by rw [hl']; simp [hx])
  have q2 : b2 ^^^ v / 65536 < 256 := Nat.xor_lt_two_pow (n := 8) (by omega) (by omega)
  have q1 : b1 ^^^ v / 256 % 256 < 256 := Nat.xor_lt_two_pow (n := 8) (by omega) (by omega)
  have q0 : b0 ^^^ v % 256 < 256 := Nat.xor_lt_two_pow (n := 8) (by omega) (by omega)
  have hall : ∀ x ∈ A ++ ((b2 ^^^ v / 65536 : Nat) : Int) :: ((b1 ^^^ v / 256 % 256 : Nat) : Int) :: ((b0 ^^^ v % 256 : Nat) : Int) :: C, 0 ≤ x ∧ x < 256 := by
    intro x hx
    simp only [List.mem_append, List.mem_cons] at hx
    rcases hx with hx | rfl | rfl | rfl | hx
    · exact hA' x hx
    · omega
    · omega
    · omega
    · exact hC' x hx
  have hlc : (A ++ ((b2 ^^^ v / 65536 : Nat) : Int) :: ((b1 ^^^ v / 256 % 256 : Nat) : Int) :: ((b0 ^^^ v % 256 : Nat) : Int) :: C).length = l.length := by
    rw [hl']
    simp
  rw [sum_tells _ hall (by omega) 2999 (by omega)]
  simp only [Option.bind_some]
  rw [sum_tells l hb' (by omega) 2999 (by omega)]
  simp only [Option.bind_some]
  have m1 : (A ++ ((b2 ^^^ v / 65536 : Nat) : Int) :: ((b1 ^^^ v / 256 % 256 : Nat) : Int) :: ((b0 ^^^ v % 256 : Nat) : Int) :: C).map Int.toNat = A.map Int.toNat ++ (b2 ^^^ v / 65536) :: (b1 ^^^ v / 256 % 256) :: (b0 ^^^ v % 256) :: C.map Int.toNat := by simp
  have m2 : l.map Int.toNat = A.map Int.toNat ++ b2 :: b1 :: b0 :: C.map Int.toNat := by rw [hl']; simp
  rw [m1, m2, turned_sum]
  generalize sumFrom 0xffff#16 (A.map Int.toNat ++ b2 :: b1 :: b0 :: C.map Int.toNat) = c
  have hd : Tn (8 * (C.map Int.toNat).length) (left3 (v / 65536) (v / 256 % 256) (v % 256)) ≠ 0#16 := fun h => hne (Tn_inj _ _ h)
  generalize Tn (8 * (C.map Int.toNat).length) (left3 (v / 65536) (v / 256 % 256) (v % 256)) = d at hd
  congr 1
  rw [bne_iff_ne]
  intro h
  have h' : c ^^^ d = c := by
    apply BitVec.eq_of_toNat_eq
    omega
  apply hd
  have : c ^^^ (c ^^^ d) = c ^^^ c := by rw [h']
  rw [← BitVec.xor_assoc, BitVec.xor_self, BitVec.zero_xor] at this
  exact this

end Go.Proofs.Ytmomaojkmidgmaa.Pure
