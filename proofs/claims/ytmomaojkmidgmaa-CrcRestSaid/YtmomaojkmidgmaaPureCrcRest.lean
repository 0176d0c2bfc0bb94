/- CrcRest: bytes with their own sum behind them have the sum 0 (at most 300 bytes; more are let through). -/
import Derived.Test.YtmomaojkmidgmaaPAllx16
import Derived.Test.YtmomaojkmidgmaaCrcPlain
namespace Go.Proofs.Ytmomaojkmidgmaa.Pure
open Go.RowKit Go.Proofs.Ytmomaojkmidgmaa.PAll Go.Proofs.YtmomaojkmidgmaaW.PrintWords Go.Proofs.YtmomaojkmidgmaaW.PrintLast

theorem sumFrom_append (c : BitVec 16) (l m : List Nat) : sumFrom c (l ++ m) = sumFrom (sumFrom c l) m := List.foldl_append

/-- A number of 16 bits is its two bytes. -/
theorem two_bytes (n : Nat) : n ^^^ (n / 256 * 256) = n % 256 := by
  have e1 : n / 256 * 256 = 2 ^ 8 * (n / 256) := by rw [Nat.mul_comm]
  rw [e1]
  apply Nat.eq_of_testBit_eq
  intro i
  rw [Nat.testBit_xor, Nat.testBit_two_pow_mul, show (256 : Nat) = 2 ^ 8 from rfl, Nat.testBit_mod_two_pow, Nat.testBit_div_two_pow]
  by_cases hi : i < 8
  · have : ¬ i ≥ 8 := by omega
    simp [hi, this]
  · have h2 : i ≥ 8 := by omega
    have h3 : 8 + (i - 8) = i := by omega
    simp [hi, h2, h3, Nat.add_comm]

theorem own_sum (c : BitVec 16) : sumFrom c [c.toNat / 256, c.toNat % 256] = 0#16 := by
  have hlt := c.isLt
  show step (step c (c.toNat / 256)) (c.toNat % 256) = 0#16
  have h1 : c ^^^ B (c.toNat / 256) = BitVec.ofNat 16 (c.toNat % 256) := by
    apply BitVec.eq_of_toNat_eq
    unfold B
    rw [BitVec.toNat_xor, BitVec.toNat_ofNat, BitVec.toNat_ofNat, Nat.mod_eq_of_lt (by omega), Nat.mod_eq_of_lt (by omega)]
    exact two_bytes _
  unfold step
  rw [h1, Tn_small 8 _ (by omega)]
  have h2 : BitVec.ofNat 16 (c.toNat % 256 * 2 ^ 8) = B (c.toNat % 256) := rfl
  rw [h2, BitVec.xor_self, Tn_zero]

theorem CrcRest : cardamomlaw16_CrcRest.Pure := by
  intro l hm _ hb
  by_cases hl : (l.length : Int) > 300
  · refine ⟨0, ?_⟩
    unfold cardamomlaw16_CrcRest.f cardamomlaw16_begun.f
    simp only [Option.bind_some, if_true]
    rw [if_pos hl]
  · have hb' : ∀ x ∈ l, 0 ≤ x ∧ x < 256 := fun x hx => byte_wf (hb x hx)
    refine ⟨4000, ?_⟩
    unfold cardamomlaw16_CrcRest.f cardamomlaw16_begun.f
    simp only [Option.bind_some, if_true]
    rw [if_neg hl, sum_tells l hb' (by omega) 4000 (by omega)]
    simp only [Option.bind_some, List.nil_append, List.length_nil]
    rw [if_pos (by omega)]
    generalize hc : sumFrom 0xffff#16 (l.map Int.toNat) = c
    have hlt := c.isLt
    rw [if_pos (by simp; omega)]
    have hall : ∀ x ∈ l ++ [(c.toNat : Int) / 256 % 256, (c.toNat : Int) % 256], 0 ≤ x ∧ x < 256 := by
      intro x hx
      rcases List.mem_append.1 hx with hx | hx
      · exact hb' x hx
      · simp at hx
        omega
    rw [sum_tells _ hall (by simp; omega) 4000 (by simp; omega)]
    have e : (l ++ [(c.toNat : Int) / 256 % 256, (c.toNat : Int) % 256]).map Int.toNat = l.map Int.toNat ++ [c.toNat / 256, c.toNat % 256] := by
      rw [List.map_append]
      congr 1
      simp
      omega
    rw [e, sumFrom_append, hc, own_sum]
    rfl

end Go.Proofs.Ytmomaojkmidgmaa.Pure
