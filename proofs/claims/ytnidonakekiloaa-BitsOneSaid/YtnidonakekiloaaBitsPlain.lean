/- Numbers of seven bits a byte: what the program writes and reads is what the document says. -/
import Derived.Test.YtnidonakekiloaaPAllx46
import Derived.Test.YtnidonakekiloaaPAllx40
import Derived.Test.YtnidonakekiloaaPAllx49
import Derived.Test.YtnidonakekiloaaPAllx51
namespace Go.Proofs.Ytnidonakekiloaa.Pure
open Go.RowKit Go.Proofs.Ytnidonakekiloaa.PAll Go.Proofs.YtnidonakekiloaaW.PrintWords Go.Proofs.YtnidonakekiloaaW.PrintLast Go.Proofs.YtnidonakekiloaaW.PrintMore

theorem w64v {i : Int} (h0 : -9223372036854775808 ≤ i) (h1 : i ≤ 9223372036854775807) : wrap64 i = i := by
  unfold wrap64
  omega
theorem or_all : ∀ c : Fin 256, Go.bits .or .u8 (c.val : Int) 128 = (c.val : Int) % 128 + 128 := by decide +kernel
theorem and_all : ∀ c : Fin 256, Go.bits .and .u8 (c.val : Int) 127 = (c.val : Int) % 128 := by decide +kernel
theorem or_byte (c : Int) (h0 : 0 ≤ c) (h1 : c ≤ 255) : Go.bits .or .u8 c 128 = c % 128 + 128 := by
  obtain ⟨n, rfl⟩ := Int.eq_ofNat_of_zero_le h0
  exact or_all ⟨n, by omega⟩
theorem and_byte (c : Int) (h0 : 0 ≤ c) (h1 : c ≤ 255) : Go.bits .and .u8 c 127 = c % 128 := by
  obtain ⟨n, rfl⟩ := Int.eq_ofNat_of_zero_le h0
  exact and_all ⟨n, by omega⟩
theorem i64_wrap {n : Int} (h0 : 0 ≤ n) (h1 : n ≤ 9223372036854775807) : IntKind.i64.wrap n = n := by
  simp [IntKind.wrap, IntKind.bits, IntKind.signed]
  omega
theorem u64_wrap {n : Int} (h0 : 0 ≤ n) (h1 : n ≤ 9223372036854775807) : IntKind.u64.wrap n = n := by
  simp [IntKind.wrap, IntKind.bits, IntKind.signed]
  omega
theorem or_parts (a x p : Nat) (ha : a < 2 ^ p) (hp : p ≤ 28) (hx : x ≤ 255) : Go.bits .or .i64 (a : Int) ((x * 2 ^ p : Nat) : Int) = ((a + x * 2 ^ p : Nat) : Int) := by
  have h28 : (2 : Nat) ^ p ≤ 2 ^ 28 := Nat.pow_le_pow_right (by decide) hp
  have hm : x * 2 ^ p ≤ 255 * 2 ^ 28 := Nat.mul_le_mul hx h28
  have e : Go.bits .or .i64 (a : Int) ((x * 2 ^ p : Nat) : Int) = IntKind.i64.wrap ((BitVec.ofInt 64 (a : Int) ||| BitVec.ofInt 64 ((x * 2 ^ p : Nat) : Int)).toNat : Int) := rfl
  have q := Nat.two_pow_add_eq_or_of_lt ha x
  have c1 : 2 ^ p * x = x * 2 ^ p := Nat.mul_comm _ _
  rw [e, BitVec.ofInt_natCast, BitVec.ofInt_natCast, BitVec.toNat_or, BitVec.toNat_ofNat, BitVec.toNat_ofNat, Nat.mod_eq_of_lt (by omega), Nat.mod_eq_of_lt (by omega), Nat.or_comm, ← c1, ← q, i64_wrap (by omega) (by omega), Nat.add_comm]

/-- What the byte at place i weighs. -/
def M : Nat → Int
  | 0 => 1
  | i + 1 => 128 * M i
theorem M_pow (i : Nat) : M i = ((2 ^ (7 * i) : Nat) : Int) := by
  induction i with
  | zero => rfl
  | succ i ih =>
    rw [M, ih, show 7 * (i + 1) = 7 * i + 7 from by omega, Nat.pow_add]
    omega
theorem M_le (i : Nat) (h : i ≤ 4) : 1 ≤ M i ∧ M i ≤ 268435456 := by
  have : i = 0 ∨ i = 1 ∨ i = 2 ∨ i = 3 ∨ i = 4 := by omega
  rcases this with rfl | rfl | rfl | rfl | rfl <;> decide
theorem part_le (i : Nat) (h : i ≤ 4) (x : Int) (h0 : 0 ≤ x) (h1 : x ≤ 127) : 0 ≤ x * M i ∧ x * M i ≤ 127 * M i := by
  have := M_le i h
  exact ⟨Int.mul_nonneg h0 (by omega), Int.mul_le_mul_of_nonneg_right h1 (by omega)⟩

theorem or_step (i : Nat) (hi : i ≤ 4) (acc b : Int) (h0 : 0 ≤ acc) (h1 : acc < M i) (b0 : 0 ≤ b) (b1 : b ≤ 255) :
    Go.bits .or .i64 acc (shl .i64 (wrap64 (Go.bits .and .u8 b 127)) (wrap64 (7 * (i : Int)))) = acc + (b % 128) * M i := by
  rw [and_byte b b0 b1, w64v (by omega) (by omega), w64v (by omega) (by omega)]
  have hM := M_pow i
  have hl := M_le i hi
  have hp := part_le i hi (b % 128) (by omega) (by omega)
  have es : shl .i64 (b % 128) (7 * (i : Int)) = (b % 128) * M i := by
    unfold shl
    have e1 : min (7 * (i : Int)).toNat IntKind.i64.bits = 7 * i := by
      have : IntKind.i64.bits = 64 := rfl
      omega
    rw [e1]
    have e2 : ((2 : Int) ^ (7 * i)) = M i := by rw [hM]; exact (Int.natCast_pow 2 (7 * i)).symm
    rw [e2, i64_wrap (by omega) (by omega)]
  rw [es]
  obtain ⟨a, rfl⟩ := Int.eq_ofNat_of_zero_le h0
  obtain ⟨x, hx⟩ := Int.eq_ofNat_of_zero_le (show 0 ≤ b % 128 by omega)
  rw [hx, hM]
  have := or_parts a x (7 * i) (by omega) (by omega) (by omega)
  rw [← Int.natCast_mul, ← Int.natCast_add]
  exact this

/-- What a number's first bytes say: the number and how many bytes it took. -/
def D : Nat → List Int → Bool → Option (Int × Nat)
  | 0, _, _ => none
  | _ + 1, [], _ => none
  | d + 1, b :: r, first => if b < 128 then (if first = false ∧ b = 0 then none else some (b, 1)) else (D d r false).map fun x => (b - 128 + 128 * x.1, x.2 + 1)

theorem rd_byte (l : List Int) (hb : ∀ x ∈ l, 0 ≤ x ∧ x ≤ 255) (i : Nat) (hi : i < l.length) : 0 ≤ rd l (i : Int) ∧ rd l (i : Int) ≤ 255 := by
  unfold rd
  rw [Int.toNat_natCast, List.getD_eq_getElem?_getD, List.getElem?_eq_getElem hi]
  exact hb _ (List.getElem_mem _)
theorem drop_rd (l : List Int) (i : Nat) (hi : i < l.length) : l.drop i = rd l (i : Int) :: l.drop (i + 1) := by
  unfold rd
  rw [Int.toNat_natCast, List.getD_eq_getElem?_getD, List.getElem?_eq_getElem hi, List.drop_eq_getElem_cons hi]
  rfl

set_option maxHeartbeats 2000000 in
theorem take_l0 (l : List Int) (_hl : l.length ≤ 100000) (hb : ∀ x ∈ l, 0 ≤ x ∧ x ≤ 255) (d : Nat) : ∀ (i : Nat) (acc : Int), i + d = 5 → 0 ≤ acc → acc < M i → i ≤ l.length →
    (D d (l.drop i) (i == 0) = none → (∃ e : Int, (e = 86000076 ∨ e = 86000077) ∧ ∀ k, d + 2 ≤ k → bits_take.l0 k l acc (i : Int) = some (0, 0, some e)) ∧ ∀ k, 2 * d + 4 ≤ k → cardamomref16_TakeNum.l0 k l acc (M i) (i : Int) = some (0, 0, false)) ∧
    (∀ v n, D d (l.drop i) (i == 0) = some (v, n) → (∀ k, d + 2 ≤ k → bits_take.l0 k l acc (i : Int) = some (acc + v * M i, ((i + n : Nat) : Int), none)) ∧ ∀ k, 2 * d + 4 ≤ k → cardamomref16_TakeNum.l0 k l acc (M i) (i : Int) = some (acc + v * M i, ((i + n : Nat) : Int), true)) := by
  induction d with
  | zero =>
    intro i acc hi h0 h1 hil
    refine ⟨fun _ => ⟨⟨86000077, Or.inr rfl, fun k hk => ?_⟩, fun k hk => ?_⟩, fun v n h => by simp [D] at h⟩
    · obtain ⟨k, rfl⟩ : ∃ m, k = m + 1 := ⟨k - 1, by omega⟩
      rw [bits_take.l0, if_neg (by omega)]
    · obtain ⟨k, rfl⟩ : ∃ m, k = m + 1 + 1 := ⟨k - 2, by omega⟩
      rw [cardamomref16_TakeNum.l0]
      by_cases hs : (i : Int) < (l.length : Int)
      · rw [if_pos hs, decide_eq_false (by omega), cardamomref16_TakeNum.j1, if_neg (by decide)]
      · rw [if_neg hs, cardamomref16_TakeNum.j1, if_neg (by decide)]
  | succ d ih =>
    intro i acc hi h0 h1 hil
    by_cases hs : i < l.length
    · have hr := rd_byte l hb i hs
      have hl4 := M_le i (by omega)
      have hp := part_le i (by omega) (rd l (i : Int) % 128) (by omega) (by omega)
      have hw1 := Aside0.mk (show wrap64 ((i : Int) + 1) = ((i + 1 : Nat) : Int) from by rw [w64v (by omega) (by omega)]; omega)
      have hw7 := Aside0.mk (show 0 ≤ wrap64 (7 * (i : Int)) from by rw [w64v (by omega) (by omega)]; omega)
      have hwM := Aside0.mk (show wrap64 (M i * 128) = M (i + 1) from by rw [w64v (by omega) (by omega), M]; omega)
      have hsum := Aside0.mk (show wrap64 (acc + wrap64 (wrap64 (rd l (i : Int) % 128) * M i)) = acc + (rd l (i : Int) % 128) * M i from by
        rw [w64v (i := rd l (i : Int) % 128) (by omega) (by omega), w64v (i := rd l (i : Int) % 128 * M i) (by omega) (by omega), w64v (by omega) (by omega)])
      have htm := Aside0.mk (show Int.tmod (rd l (i : Int)) 128 = rd l (i : Int) % 128 from Int.tmod_eq_emod_of_nonneg hr.1)
      have hor := Aside0.mk (or_step i (by omega) acc (rd l (i : Int)) h0 h1 hr.1 hr.2)
      rw [drop_rd l i hs]
      have hb1 : ∀ k, bits_take.l0 (k + 1) l acc (i : Int) = (if (rd l (i : Int)) ≥ 128 then (bits_take.l0 k l (acc + (rd l (i : Int) % 128) * M i) ((i + 1 : Nat) : Int)) else (if (i : Int) > 0 then (if (rd l (i : Int)) = 0 then (some (0, 0, some 86000077)) else (some (acc + (rd l (i : Int) % 128) * M i, ((i + 1 : Nat) : Int), none))) else (some (acc + (rd l (i : Int) % 128) * M i, ((i + 1 : Nat) : Int), none)))) := fun k => by
        rw [bits_take.l0, if_pos (by omega), if_neg (by omega), if_pos (by omega), if_pos (by omega), if_pos hw7.out, hor.out, hw1.out]
      have hr1 : ∀ k, cardamomref16_TakeNum.l0 (k + 2) l acc (M i) (i : Int) = (if (rd l (i : Int)) < 128 then (if (i : Int) > 0 then (if (rd l (i : Int)) = 0 then (some (0, 0, false)) else (some (acc + (rd l (i : Int) % 128) * M i, ((i + 1 : Nat) : Int), true))) else (some (acc + (rd l (i : Int) % 128) * M i, ((i + 1 : Nat) : Int), true))) else (cardamomref16_TakeNum.l0 k l (acc + (rd l (i : Int) % 128) * M i) (M (i + 1)) ((i + 1 : Nat) : Int))) := fun k => by
        rw [cardamomref16_TakeNum.l0, if_pos (by omega), decide_eq_true (by omega), cardamomref16_TakeNum.j1, if_pos rfl, if_pos (by omega), if_pos (by omega), htm.out, hsum.out, hw1.out, hwM.out]
      clear hw1 hw7 hwM hsum htm hor
      generalize rd l (i : Int) = b at *
      by_cases h128 : b < 128
      · have eb : b % 128 = b := by omega
        rw [eb] at hb1 hr1
        rw [D, if_pos h128]
        by_cases hz : (i == 0) = false ∧ b = 0
        · have hi0 : i ≠ 0 := by have := hz.1; simpa using this
          rw [if_pos hz]
          refine ⟨fun _ => ⟨⟨86000077, Or.inr rfl, fun k hk => ?_⟩, fun k hk => ?_⟩, fun v n h => by simp at h⟩
          · obtain ⟨k, rfl⟩ : ∃ m, k = m + 1 := ⟨k - 1, by omega⟩
            rw [hb1, if_neg (by omega), if_pos (by omega), if_pos hz.2]
          · obtain ⟨k, rfl⟩ : ∃ m, k = m + 2 := ⟨k - 2, by omega⟩
            rw [hr1, if_pos h128, if_pos (by omega), if_pos hz.2]
        · rw [if_neg hz]
          have hz2 : (i : Int) > 0 → b ≠ 0 := fun hi0 hb0 => hz ⟨by simp; omega, hb0⟩
          refine ⟨fun h => by simp at h, fun v n h => ?_⟩
          simp only [Option.some.injEq, Prod.mk.injEq] at h
          obtain ⟨rfl, rfl⟩ := h
          refine ⟨fun k hk => ?_, fun k hk => ?_⟩
          · obtain ⟨k, rfl⟩ : ∃ m, k = m + 1 := ⟨k - 1, by omega⟩
            rw [hb1, if_neg (by omega)]
            by_cases hi0 : (i : Int) > 0
            · rw [if_pos hi0, if_neg (hz2 hi0)]
            · rw [if_neg hi0]
          · obtain ⟨k, rfl⟩ : ∃ m, k = m + 2 := ⟨k - 2, by omega⟩
            rw [hr1, if_pos h128]
            by_cases hi0 : (i : Int) > 0
            · rw [if_pos hi0, if_neg (hz2 hi0)]
            · rw [if_neg hi0]
      · have eb : b % 128 = b - 128 := by omega
        rw [eb] at hb1 hr1 hp
        have hI := ih (i + 1) (acc + (b - 128) * M i) (by omega) (by omega) (by rw [M]; omega) (by omega)
        have ef : ((i + 1) == 0) = false := by simp
        rw [ef] at hI
        rw [D, if_neg h128]
        cases hD : D d (l.drop (i + 1)) false with
        | none =>
          obtain ⟨⟨e, he, hk1⟩, hk2⟩ := hI.1 hD
          refine ⟨fun _ => ⟨⟨e, he, fun k hk => ?_⟩, fun k hk => ?_⟩, fun v n h => by simp at h⟩
          · obtain ⟨k, rfl⟩ : ∃ m, k = m + 1 := ⟨k - 1, by omega⟩
            rw [hb1, if_pos (by omega)]
            exact hk1 k (by omega)
          · obtain ⟨k, rfl⟩ : ∃ m, k = m + 2 := ⟨k - 2, by omega⟩
            rw [hr1, if_neg h128]
            exact hk2 k (by omega)
        | some x =>
          obtain ⟨v', n'⟩ := x
          obtain ⟨hk1, hk2⟩ := hI.2 v' n' hD
          refine ⟨fun h => by simp at h, fun v n h => ?_⟩
          simp only [Option.map_some, Option.some.injEq, Prod.mk.injEq] at h
          obtain ⟨rfl, rfl⟩ := h
          have ev : acc + (b - 128) * M i + v' * M (i + 1) = acc + (b - 128 + 128 * v') * M i := by
            rw [M, Int.add_mul, Int.mul_left_comm, Int.mul_assoc]
            omega
          have en : ((i + 1 + n' : Nat) : Int) = ((i + (n' + 1) : Nat) : Int) := by omega
          rw [ev, en] at hk1 hk2
          refine ⟨fun k hk => ?_, fun k hk => ?_⟩
          · obtain ⟨k, rfl⟩ : ∃ m, k = m + 1 := ⟨k - 1, by omega⟩
            rw [hb1, if_pos (by omega)]
            exact hk1 k (by omega)
          · obtain ⟨k, rfl⟩ : ∃ m, k = m + 2 := ⟨k - 2, by omega⟩
            rw [hr1, if_neg h128]
            exact hk2 k (by omega)
    · have he : l.drop i = [] := List.drop_eq_nil_of_le (by omega)
      rw [he]
      refine ⟨fun _ => ⟨⟨86000076, Or.inl rfl, fun k hk => ?_⟩, fun k hk => ?_⟩, fun v n h => by simp [D] at h⟩
      · obtain ⟨k, rfl⟩ : ∃ m, k = m + 1 := ⟨k - 1, by omega⟩
        rw [bits_take.l0, if_pos (by omega), if_pos (by omega)]
      · obtain ⟨k, rfl⟩ : ∃ m, k = m + 1 + 1 := ⟨k - 2, by omega⟩
        rw [cardamomref16_TakeNum.l0, if_neg (by omega), cardamomref16_TakeNum.j1, if_neg (by decide)]

/-- What is told of a number: the number, its bytes, whether it stands. -/
def numOf (l : List Int) : Int × Int × Bool := match D 5 l true with
  | none => (0, 0, false)
  | some (v, n) => (v, (n : Int), true)

theorem num_f (l : List Int) (hl : l.length ≤ 100000) (hb : ∀ x ∈ l, 0 ≤ x ∧ x ≤ 255) (k : Nat) (hk : 20 ≤ k) : bits_TakeNum.f k l = some (numOf l) ∧ cardamomref16_TakeNum.f k l = some (numOf l) := by
  have h := take_l0 l hl hb 5 0 0 rfl (by omega) (by decide) (by omega)
  rw [show l.drop 0 = l from rfl, show ((0 : Nat) == 0) = true from rfl] at h
  unfold numOf
  cases hD : D 5 l true with
  | none =>
    obtain ⟨⟨e, he, h1⟩, h2⟩ := h.1 hD
    have h1' : bits_take.l0 k l 0 0 = some (0, 0, some e) := h1 k (by omega)
    have h2' : cardamomref16_TakeNum.l0 k l 0 1 0 = some (0, 0, false) := h2 k (by omega)
    unfold bits_TakeNum.f bits_take.f cardamomref16_TakeNum.f
    rw [h1', h2']
    rcases he with rfl | rfl
    · exact ⟨by simp [errors_Is.f], rfl⟩
    · exact ⟨by simp [errors_Is.f], rfl⟩
  | some x =>
    obtain ⟨v, n⟩ := x
    obtain ⟨h1, h2⟩ := h.2 v n hD
    have h1' : bits_take.l0 k l 0 0 = some (0 + v * M 0, ((0 + n : Nat) : Int), none) := h1 k (by omega)
    have h2' : cardamomref16_TakeNum.l0 k l 0 1 0 = some (0 + v * M 0, ((0 + n : Nat) : Int), true) := h2 k (by omega)
    have e1 : 0 + v * M 0 = v := by rw [M]; omega
    rw [e1, Nat.zero_add] at h1' h2'
    unfold bits_TakeNum.f bits_take.f cardamomref16_TakeNum.f
    rw [h1', h2']
    exact ⟨by simp [errors_Is.f], rfl⟩

theorem D_in (d : Nat) : ∀ (l : List Int) (first : Bool) (v : Int) (n : Nat), (∀ x ∈ l, 0 ≤ x ∧ x ≤ 255) → D d l first = some (v, n) → 0 ≤ v ∧ v < M d ∧ 1 ≤ n ∧ n ≤ l.length ∧ n ≤ d ∧ (first = false → 0 < v) := by
  induction d with
  | zero => intro l first v n _ h; simp [D] at h
  | succ d ih =>
    intro l first v n hb h
    cases l with
    | nil => simp [D] at h
    | cons b r =>
      have hb0 := hb b (by simp)
      have hM : 1 ≤ M d := by rw [M_pow]; have := Nat.two_pow_pos (7 * d); omega
      rw [D] at h
      by_cases h128 : b < 128
      · rw [if_pos h128] at h
        by_cases hz : first = false ∧ b = 0
        · rw [if_pos hz] at h; cases h
        · rw [if_neg hz] at h
          simp only [Option.some.injEq, Prod.mk.injEq] at h
          obtain ⟨rfl, rfl⟩ := h
          refine ⟨by omega, by rw [M]; omega, by omega, by simp, by omega, fun hf => ?_⟩
          have : b ≠ 0 := fun h => hz ⟨hf, h⟩
          omega
      · rw [if_neg h128] at h
        cases hD : D d r false with
        | none => rw [hD] at h; cases h
        | some x =>
          obtain ⟨v', n'⟩ := x
          rw [hD] at h
          simp only [Option.map_some, Option.some.injEq, Prod.mk.injEq] at h
          obtain ⟨rfl, rfl⟩ := h
          obtain ⟨a1, a2, a3, a4, a5, a6⟩ := ih r false v' n' (fun x hx => hb x (by simp [hx])) hD
          have a7 := a6 rfl
          refine ⟨by omega, by rw [M]; omega, by omega, by simp; omega, by omega, fun _ => by omega⟩

/-- How a number is written. -/
def enc : Nat → Int → List Int
  | 0, v => [v]
  | d + 1, v => if v ≥ 128 then (v % 128 + 128) :: enc d (v / 128) else [v]
theorem enc_small (d : Nat) (v : Int) (h : v < 128) : enc d v = [v] := by
  cases d with
  | zero => rfl
  | succ d => rw [enc, if_neg (by omega)]
theorem enc_length (d : Nat) : ∀ v, 1 ≤ (enc d v).length ∧ (enc d v).length ≤ d + 1 := by
  induction d with
  | zero => intro v; simp [enc]
  | succ d ih =>
    intro v
    rw [enc]
    split
    · have := ih (v / 128)
      simp
      omega
    · simp
theorem enc_bytes (d : Nat) : ∀ v, 0 ≤ v → v < M (d + 1) → ∀ x ∈ enc d v, 0 ≤ x ∧ x ≤ 255 := by
  induction d with
  | zero =>
    intro v h0 h1 x hx
    simp [enc] at hx
    subst hx
    have : M (0 + 1) = 128 := rfl
    omega
  | succ d ih =>
    intro v h0 h1 x hx
    rw [enc] at hx
    split at hx
    · rcases List.mem_cons.1 hx with rfl | hx
      · omega
      · rw [M] at h1
        exact ih (v / 128) (by omega) (by omega) x hx
    · simp at hx
      omega
theorem D_enc_back (d : Nat) : ∀ (l : List Int) (first : Bool) (v : Int) (n : Nat), (∀ x ∈ l, 0 ≤ x ∧ x ≤ 255) → D (d + 1) l first = some (v, n) → enc d v = l.take n := by
  induction d with
  | zero =>
    intro l first v n hb h
    cases l with
    | nil => simp [D] at h
    | cons b r =>
      rw [D] at h
      by_cases h128 : b < 128
      · rw [if_pos h128] at h
        by_cases hz : first = false ∧ b = 0
        · rw [if_pos hz] at h; cases h
        · rw [if_neg hz] at h
          simp only [Option.some.injEq, Prod.mk.injEq] at h
          obtain ⟨rfl, rfl⟩ := h
          rfl
      · rw [if_neg h128] at h
        simp [D] at h
  | succ d ih =>
    intro l first v n hb h
    cases l with
    | nil => simp [D] at h
    | cons b r =>
      have hb0 := hb b (by simp)
      rw [D] at h
      by_cases h128 : b < 128
      · rw [if_pos h128] at h
        by_cases hz : first = false ∧ b = 0
        · rw [if_pos hz] at h; cases h
        · rw [if_neg hz] at h
          simp only [Option.some.injEq, Prod.mk.injEq] at h
          obtain ⟨rfl, rfl⟩ := h
          rw [enc_small _ _ h128]
          rfl
      · rw [if_neg h128] at h
        cases hD : D (d + 1) r false with
        | none => rw [hD] at h; cases h
        | some x =>
          obtain ⟨v', n'⟩ := x
          rw [hD] at h
          simp only [Option.map_some, Option.some.injEq, Prod.mk.injEq] at h
          obtain ⟨rfl, rfl⟩ := h
          have hbr : ∀ x ∈ r, 0 ≤ x ∧ x ≤ 255 := fun x hx => hb x (by simp [hx])
          have a := D_in (d + 1) r false v' n' hbr hD
          have a6 := a.2.2.2.2.2 rfl
          have := ih r false v' n' hbr hD
          rw [enc, if_pos (by omega), show (b - 128 + 128 * v') % 128 + 128 = b from by omega, show (b - 128 + 128 * v') / 128 = v' from by omega, this]
          rfl
theorem D_enc (d : Nat) : ∀ (v : Int) (first : Bool) (r : List Int), 0 ≤ v → v < M (d + 1) → (first = false → 0 < v) → D (d + 1) (enc d v ++ r) first = some (v, (enc d v).length) := by
  induction d with
  | zero =>
    intro v first r h0 h1 hf
    have : M (0 + 1) = 128 := rfl
    rw [enc, List.singleton_append, D, if_pos (by omega), if_neg (fun h => by have := hf h.1; omega)]
    rfl
  | succ d ih =>
    intro v first r h0 h1 hf
    rw [M] at h1
    by_cases h : v ≥ 128
    · rw [enc, if_pos h, List.cons_append, D, if_neg (by omega), ih (v / 128) false r (by omega) (by omega) (fun _ => by omega)]
      simp only [Option.map_some, Option.some.injEq, Prod.mk.injEq, List.length_cons, and_true]
      omega
    · rw [enc, if_neg h, List.singleton_append, D, if_pos (by omega), if_neg (fun h => by have := hf h.1; omega)]
      rfl
theorem D_cut (d : Nat) : ∀ (v : Int) (first : Bool) (m : Nat), 0 ≤ v → v < M (d + 1) → m < (enc d v).length → D (d + 1) ((enc d v).take m) first = none := by
  induction d with
  | zero =>
    intro v first m h0 h1 hm
    have : m = 0 := by simp [enc] at hm; omega
    subst this
    rfl
  | succ d ih =>
    intro v first m h0 h1 hm
    rw [M] at h1
    cases m with
    | zero => rfl
    | succ m =>
      by_cases h : v ≥ 128
      · rw [enc, if_pos h] at hm ⊢
        rw [List.take_succ_cons, D, if_neg (by omega), ih (v / 128) false m (by omega) (by omega) (by simp at hm; omega)]
        rfl
      · rw [enc, if_neg h] at hm
        simp at hm

theorem put_l0 (d : Nat) : ∀ (v : Int) (x : List Int) (k : Nat), 0 ≤ v → v < M (d + 1) → d ≤ 4 → x.length + d ≤ 200000 → d + 1 ≤ k → bits_PutNum.l0 k x v = some (x ++ enc d v) ∧ cardamomref16_PutNum.l0 k v x = some (x ++ enc d v) := by
  induction d with
  | zero =>
    intro v x k h0 h1 _ hx hk
    have : M (0 + 1) = 128 := rfl
    obtain ⟨k, rfl⟩ : ∃ m, k = m + 1 := ⟨k - 1, by omega⟩
    rw [bits_PutNum.l0, cardamomref16_PutNum.l0, if_neg (by omega), if_pos (by omega), if_neg (by omega), show v % 256 = v from by omega]
    exact ⟨rfl, rfl⟩
  | succ d ih =>
    intro v x k h0 h1 hd hx hk
    obtain ⟨k, rfl⟩ : ∃ m, k = m + 1 := ⟨k - 1, by omega⟩
    have hM := M_le (d + 1) hd
    rw [M] at h1
    rw [bits_PutNum.l0, cardamomref16_PutNum.l0, enc]
    by_cases h : v ≥ 128
    · have e1 : Int.tdiv v 128 = v / 128 := Int.tdiv_eq_ediv_of_nonneg h0
      have e2 : Int.tmod v 128 = v % 128 := Int.tmod_eq_emod_of_nonneg h0
      simp only [if_pos h, if_pos (show x.length < 140737488355328 by omega)]
      rw [or_byte _ (by omega) (by omega), e1, e2, w64v (by omega) (by omega), w64v (by omega) (by omega), show v % 256 % 128 + 128 = v % 128 + 128 from by omega, show (v % 128 + 128) % 256 = v % 128 + 128 from by omega]
      have := ih (v / 128) (x ++ [v % 128 + 128]) k (by omega) (by omega) (by omega) (by simp; omega) (by omega)
      rw [List.append_assoc] at this
      exact this
    · simp only [if_neg h, if_pos (show x.length < 140737488355328 by omega)]
      rw [show v % 256 = v from by omega]
      exact ⟨rfl, rfl⟩
theorem put_f (v : Int) (x : List Int) (k : Nat) (h0 : 0 ≤ v) (h1 : v < 34359738368) (hx : x.length ≤ 100000) (hk : 5 ≤ k) : bits_PutNum.f k x v = some (x ++ enc 4 v) ∧ cardamomref16_PutNum.f k x v = some (x ++ enc 4 v) := by
  have := put_l0 4 v x k h0 h1 (by omega) (by omega) (by omega)
  unfold bits_PutNum.f cardamomref16_PutNum.f slices_Clone_byte_byte.f
  rw [if_pos (by omega), u64_wrap h0 (by omega)]
  simp only [Option.bind_some, List.length_nil, List.nil_append]
  rw [if_pos (by omega)]
  exact this
theorem putText_f (t : ByteArray) (x : List Int) (k : Nat) (ht : t.size ≤ 100000) (hx : x.length ≤ 100000) (hk : 5 ≤ k) : bits_PutText.f k x t = some (x ++ enc 4 (t.size : Int) ++ bytesOf t) ∧ cardamomref16_PutText.f k x t = some (x ++ enc 4 (t.size : Int) ++ bytesOf t) := by
  have := put_f (t.size : Int) x k (by omega) (by omega) hx hk
  have hl := enc_length 4 (t.size : Int)
  unfold bits_PutText.f cardamomref16_PutText.f
  rw [this.1, this.2]
  simp only [Option.bind_some]
  rw [if_pos (by rw [List.length_append]; omega)]
  exact ⟨rfl, rfl⟩

/-- What is told of a text: the text, its bytes, whether it stands. -/
def textOf (l : List Int) : ByteArray × Int × Bool := match D 5 l true with
  | none => ((⟨#[]⟩ : ByteArray), 0, false)
  | some (v, n) => if v > (l.length : Int) - n then ((⟨#[]⟩ : ByteArray), 0, false) else (strOfNums ((l.take (n + v.toNat)).drop n), ((n + v.toNat : Nat) : Int), true)
theorem text_f (l : List Int) (hl : l.length ≤ 100000) (hb : ∀ x ∈ l, 0 ≤ x ∧ x ≤ 255) (k : Nat) (hk : 20 ≤ k) : bits_TakeText.f k l = some (textOf l) ∧ cardamomref16_TakeText.f k l = some (textOf l) := by
  have h := num_f l hl hb k hk
  unfold bits_TakeText.f cardamomref16_TakeText.f
  rw [h.1, h.2]
  unfold numOf textOf
  cases hD : D 5 l true with
  | none => exact ⟨rfl, rfl⟩
  | some x =>
    obtain ⟨v, n⟩ := x
    have a := D_in 5 l true v n hb hD
    have hM5 : M 5 = 34359738368 := rfl
    simp only [Option.bind_some, if_true]
    rw [w64v (i := (l.length : Int) - (n : Int)) (by omega) (by omega), w64v (i := (n : Int) + v) (by omega) (by omega)]
    by_cases hv : v > (l.length : Int) - n
    · rw [if_pos hv, if_pos hv]
      exact ⟨rfl, rfl⟩
    · rw [if_neg hv, if_neg hv, if_pos (by omega), if_pos (by omega), if_pos (by omega), show ((n : Int) + v).toNat = n + v.toNat from by omega, Int.toNat_natCast, show (n : Int) + v = ((n + v.toNat : Nat) : Int) from by omega]
      exact ⟨rfl, rfl⟩

end Go.Proofs.Ytnidonakekiloaa.Pure
