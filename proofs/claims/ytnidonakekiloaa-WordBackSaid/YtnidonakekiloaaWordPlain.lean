/- Words of a text: what the program reads as a text's next word is what the document reads. -/
import Derived.Test.YtnidonakekiloaaPAllx27
import Derived.Test.YtnidonakekiloaaPAllx32
namespace Go.Proofs.Ytnidonakekiloaa.Pure
open Go.RowKit Go.Proofs.Ytnidonakekiloaa.PAll Go.Proofs.YtnidonakekiloaaW.PrintWords Go.Proofs.YtnidonakekiloaaW.PrintLast Go.Proofs.YtnidonakekiloaaW.PrintMore

theorem w64w {i : Int} (h0 : -9223372036854775808 ≤ i) (h1 : i ≤ 9223372036854775807) : wrap64 i = i := by
  unfold wrap64
  omega

/-- Of which kind a byte begins a word. -/
def K (c : Int) : Int := if 97 ≤ c ∧ c ≤ 122 then 1 else if 48 ≤ c ∧ c ≤ 57 then 2 else if c ∈ ([40, 41, 33, 38, 124, 42, 61, 58, 45, 64, 94] : List Int) then 3 else 0

set_option maxRecDepth 100000 in
theorem kind_all : ∀ c : Fin 256, word_kind.f 3 (c.val : Int) = some (K (c.val : Int)) := by decide +kernel
theorem kind_K (c : Int) (h0 : 0 ≤ c) (h1 : c ≤ 255) (k : Nat) (hk : 3 ≤ k) : word_kind.f k c = some (K c) := by
  obtain ⟨n, rfl⟩ := Int.eq_ofNat_of_zero_le h0
  have h := kind_all ⟨n, by omega⟩
  exact at_rounds (word_kind.mono (n : Int)) hk h

/-- Where bytes of one kind end, from i on, d at the most. -/
def spn (p : Int → Bool) (s : ByteArray) : Nat → Nat → Nat
  | 0, i => i
  | d + 1, i => if p (bt s (i : Int)) then spn p s d (i + 1) else i
theorem spn_in (p : Int → Bool) (s : ByteArray) (d i : Nat) : i ≤ spn p s d i ∧ spn p s d i ≤ i + d := by
  induction d generalizing i with
  | zero => exact ⟨Nat.le_refl _, Nat.le_refl _⟩
  | succ d ih =>
    unfold spn
    split
    · have := ih (i + 1)
      omega
    · omega

theorem span_tells (s : ByteArray) (hs : s.size ≤ 100000) (q : Int) (d : Nat) : ∀ (i k : Nat), i + d = s.size → d + 4 ≤ k →
    word_span.l0 k s q (i : Int) = some ((spn (fun c => K c == q) s d i : Nat) : Int) := by
  induction d with
  | zero =>
    intro i k hi hk
    obtain ⟨k, rfl⟩ : ∃ m, k = m + 1 := ⟨k - 1, by omega⟩
    rw [word_span.l0, if_neg (by omega)]
    rfl
  | succ d ih =>
    intro i k hi hk
    obtain ⟨k, rfl⟩ : ∃ m, k = m + 1 := ⟨k - 1, by omega⟩
    have hb := bt_range s (i : Int)
    rw [word_span.l0, if_pos (by omega), if_pos (by omega), kind_K _ hb.1 hb.2 k (by omega)]
    simp only [Option.bind_some]
    unfold spn
    by_cases hq : K (bt s (i : Int)) = q
    · rw [if_pos hq, if_pos (by simpa using hq), w64w (by omega) (by omega)]
      have e : (i : Int) + 1 = ((i + 1 : Nat) : Int) := by omega
      rw [e]
      exact ih (i + 1) k (by omega) (by omega)
    · rw [if_neg hq, if_neg (by simpa using hq)]

theorem letter_K (c : Int) : cardamomref4_letter.f c = some (K c == 1) := by
  unfold cardamomref4_letter.f K
  by_cases h : 97 ≤ c
  · rw [if_pos h]
    by_cases h2 : c ≤ 122
    · simp [h, h2]
    · have : ¬ (97 ≤ c ∧ c ≤ 122) := by omega
      have h3 : ¬ (48 ≤ c ∧ c ≤ 57) := by omega
      rw [if_neg this, if_neg h3]
      simp only [h2, decide_false]
      split <;> rfl
  · rw [if_neg (by omega)]
    have : ¬ (97 ≤ c ∧ c ≤ 122) := by omega
    rw [if_neg this]
    split
    · rfl
    · split <;> rfl
theorem digit_K (c : Int) : cardamomref4_digit.f c = some (K c == 2) := by
  unfold cardamomref4_digit.f K
  by_cases h : 48 ≤ c
  · rw [if_pos h]
    by_cases h2 : c ≤ 57
    · have : ¬ (97 ≤ c ∧ c ≤ 122) := by omega
      simp [h, h2, this]
    · have h3 : ¬ (48 ≤ c ∧ c ≤ 57) := by omega
      rw [if_neg h3]
      simp only [h2, decide_false]
      split
      · rfl
      · split <;> rfl
  · rw [if_neg (by omega)]
    have h3 : ¬ (48 ≤ c ∧ c ≤ 57) := by omega
    rw [if_neg h3]
    split
    · rfl
    · split <;> rfl

def none5 : Int × ByteArray × Int × Int × Int := (0, (⟨#[]⟩ : ByteArray), 0, 0, 0)

theorem letters_tells (s : ByteArray) (hs : s.size ≤ 100000) (d : Nat) : ∀ (i k : Nat), i + d = s.size → d + 1 ≤ k →
    cardamomref4_one.l0 k s (i : Int) = some (if spn (fun c => K c == 1) s d i > 6 then none5 else (1, s.extract 0 (spn (fun c => K c == 1) s d i), 0, 0, ((spn (fun c => K c == 1) s d i : Nat) : Int))) := by
  induction d with
  | zero =>
    intro i k hi hk
    obtain ⟨k, rfl⟩ : ∃ m, k = m + 1 := ⟨k - 1, by omega⟩
    rw [cardamomref4_one.l0, if_neg (by omega)]
    unfold spn
    by_cases h6 : i > 6
    · rw [if_pos (by omega), if_pos h6]; rfl
    · rw [if_neg (by omega), if_neg h6, if_pos (by omega), if_pos (by omega), Int.toNat_natCast]
  | succ d ih =>
    intro i k hi hk
    obtain ⟨k, rfl⟩ : ∃ m, k = m + 1 := ⟨k - 1, by omega⟩
    rw [cardamomref4_one.l0, if_pos (by omega), if_pos (by omega), letter_K]
    simp only [Option.bind_some]
    unfold spn
    by_cases hq : (K (bt s (i : Int)) == 1) = true
    · rw [if_pos hq, if_pos hq, w64w (by omega) (by omega)]
      have e : (i : Int) + 1 = ((i + 1 : Nat) : Int) := by omega
      rw [e]
      exact ih (i + 1) k (by omega) (by omega)
    · rw [if_neg hq, if_neg hq]
      by_cases h6 : i > 6
      · rw [if_pos (by omega), if_pos h6]; rfl
      · rw [if_neg (by omega), if_neg h6, if_pos (by omega), Int.toNat_natCast]

/-- Digits from place 2 on count no more. -/
theorem digits_rest (s : ByteArray) (hs : s.size ≤ 100000) (v : Int) (d : Nat) : ∀ (i k : Nat), 2 ≤ i → i + d = s.size → 2 * d + 2 ≤ k →
    cardamomref4_one.l1 k s (i : Int) v = some (if spn (fun c => K c == 2) s d i > 2 then none5 else (2, (⟨#[]⟩ : ByteArray), v, 0, ((spn (fun c => K c == 2) s d i : Nat) : Int))) := by
  induction d with
  | zero =>
    intro i k h2 hi hk
    obtain ⟨k, rfl⟩ : ∃ m, k = m + 1 + 1 := ⟨k - 2, by omega⟩
    rw [cardamomref4_one.l1, if_neg (by omega), cardamomref4_one.j2, if_neg (by decide)]
    unfold spn
    by_cases h : i > 2
    · rw [if_pos (by omega), if_pos h]; rfl
    · rw [if_neg (by omega), if_neg h]
  | succ d ih =>
    intro i k h2 hi hk
    obtain ⟨k, rfl⟩ : ∃ m, k = m + 1 + 1 := ⟨k - 2, by omega⟩
    rw [cardamomref4_one.l1, if_pos (by omega), if_pos (by omega), digit_K]
    simp only [Option.bind_some]
    rw [cardamomref4_one.j2]
    unfold spn
    by_cases hq : (K (bt s (i : Int)) == 2) = true
    · rw [if_pos hq, if_pos hq, if_neg (by omega), w64w (by omega) (by omega)]
      have e : (i : Int) + 1 = ((i + 1 : Nat) : Int) := by omega
      rw [e]
      exact ih (i + 1) k (by omega) (by omega) (by omega)
    · rw [if_neg hq, if_neg hq]
      by_cases h : i > 2
      · rw [if_pos (by omega), if_pos h]; rfl
      · rw [if_neg (by omega), if_neg h]

theorem size_front (s : ByteArray) (n : Nat) (h : n ≤ s.size) : (s.extract 0 n).size = n := by
  rw [ByteArray.size_extract]
  omega
theorem bt_front (s : ByteArray) (n i : Nat) (hi : i < n) (h : n ≤ s.size) : bt (s.extract 0 n) (i : Int) = bt s (i : Int) := by
  unfold bt
  have h1 : ((i : Int)).toNat < (s.extract 0 n).size := by rw [size_front s n h]; omega
  have h2 : ((i : Int)).toNat < s.size := by omega
  rw [dif_pos h1, dif_pos h2]
  congr 1
  simp [ByteArray.getElem_extract]

theorem digit_at (c : Int) (h : K c = 2) : 48 ≤ c ∧ c ≤ 57 := by
  unfold K at h
  split at h
  · omega
  · split at h
    · assumption
    · split at h <;> omega

/-- Is a byte among some, from place i on? -/
def hitF (ms : ByteArray) (c : Int) : Nat → Nat → Bool
  | 0, _ => false
  | d + 1, i => bt ms (i : Int) == c || hitF ms c d (i + 1)
def marksB : ByteArray := ⟨#[40, 41, 33, 38, 124, 42, 61, 58, 45, 64, 94]⟩
theorem hit_all : ∀ c : Fin 256, hitF marksB (c.val : Int) 11 0 = (K (c.val : Int) == 3) := by decide +kernel
theorem marks_tells (s ms : ByteArray) (h0 : 0 < s.size) (hm : ms.size ≤ 1000) (d : Nat) : ∀ (j k : Nat), j + d = ms.size → d + 1 ≤ k →
    cardamomref4_one.l2 k s ms (j : Int) = some (if hitF ms (bt s 0) d j then (3, s.extract 0 1, 0, 0, 1) else none5) := by
  induction d with
  | zero =>
    intro j k hj hk
    obtain ⟨k, rfl⟩ : ∃ m, k = m + 1 := ⟨k - 1, by omega⟩
    rw [cardamomref4_one.l2, if_neg (by omega)]
    rfl
  | succ d ih =>
    intro j k hj hk
    obtain ⟨k, rfl⟩ : ∃ m, k = m + 1 := ⟨k - 1, by omega⟩
    rw [cardamomref4_one.l2, if_pos (by omega), if_pos (by omega), if_pos (by omega)]
    unfold hitF
    by_cases hq : bt ms (j : Int) = bt s 0
    · rw [if_pos hq, if_pos (by omega), if_pos (by omega), if_pos (by simp [hq])]
    · rw [if_neg hq, w64w (by omega) (by omega)]
      have e : (j : Int) + 1 = ((j + 1 : Nat) : Int) := by omega
      have hb : (bt ms (j : Int) == bt s 0) = false := by simpa using hq
      rw [e, hb, Bool.false_or]
      exact ih (j + 1) k (by omega) (by omega)

theorem value_one (t : ByteArray) (h : t.size = 1) (hd : 48 ≤ bt t 0 ∧ bt t 0 ≤ 57) (k : Nat) (hk : 3 ≤ k) : word_value.f k t = some (bt t 0 - 48) := by
  obtain ⟨k, rfl⟩ : ∃ m, k = m + 1 + 1 := ⟨k - 2, by omega⟩
  unfold word_value.f
  rw [word_value.l0, if_pos (by omega), if_pos (by omega), if_pos (by omega), word_value.l0]
  have e : wrap64 ((0 : Int) + 1) = 1 := by decide +kernel
  rw [e, if_neg (by omega)]
  have e2 : wrap64 (10 * 0) = 0 := by decide +kernel
  rw [e2, w64w (by omega) (by omega)]
  congr 1
  omega
theorem value_two (t : ByteArray) (h : t.size = 2) (hd : 48 ≤ bt t 0 ∧ bt t 0 ≤ 57) (hd2 : 48 ≤ bt t 1 ∧ bt t 1 ≤ 57) (k : Nat) (hk : 4 ≤ k) : word_value.f k t = some (10 * (bt t 0 - 48) + (bt t 1 - 48)) := by
  obtain ⟨k, rfl⟩ : ∃ m, k = m + 1 + 1 + 1 := ⟨k - 3, by omega⟩
  unfold word_value.f
  rw [word_value.l0, if_pos (by omega), if_pos (by omega), if_pos (by omega), word_value.l0]
  have e : wrap64 ((0 : Int) + 1) = 1 := by decide +kernel
  have e3 : wrap64 ((1 : Int) + 1) = 2 := by decide +kernel
  have e2 : wrap64 (10 * 0) = 0 := by decide +kernel
  rw [e, if_pos (by omega), if_pos (by omega), if_pos (by omega), word_value.l0, e3, if_neg (by omega), e2]
  rw [w64w (i := 0 + (bt t 0 - 48) % 256) (by omega) (by omega), w64w (i := 10 * (0 + (bt t 0 - 48) % 256)) (by omega) (by omega), w64w (by omega) (by omega)]
  congr 1
  omega

theorem K_cases (c : Int) : K c = 0 ∨ K c = 1 ∨ K c = 2 ∨ K c = 3 := by
  unfold K
  split
  · omega
  · split
    · omega
    · split <;> omega

/-- What a text's first word is, for both. -/
theorem one_tells (s : ByteArray) (h0 : 0 < s.size) (hs : s.size ≤ 100) : ∃ (kd : Int) (st : ByteArray) (v : Int) (n : Nat) (ok : Bool),
    (∀ k, 110 ≤ k → word_one.f k s = some (kd, st, v, 0, (n : Int), ok)) ∧ (∀ k, 220 ≤ k → cardamomref4_one.f k s = some (if ok then (kd, st, v, 0, (n : Int)) else none5)) ∧ (ok = true → 1 ≤ n ∧ n ≤ s.size) := by
  have hb := bt_range s 0
  obtain ⟨d, hd⟩ : ∃ d, s.size = d + 1 := ⟨s.size - 1, by omega⟩
  have hspan : ∀ k, 110 ≤ k → word_span.f k s (K (bt s 0)) = some ((spn (fun c => K c == K (bt s 0)) s (d + 1) 0 : Nat) : Int) := fun k hk => by
    have := span_tells s (by omega) (K (bt s 0)) (d + 1) 0 k (by omega) (by omega)
    exact this
  have hone : spn (fun c => K c == K (bt s 0)) s (d + 1) 0 = spn (fun c => K c == K (bt s 0)) s d 1 := by
    rw [spn, if_pos (by simp)]
  have hin := spn_in (fun c => K c == K (bt s 0)) s d 1
  rcases K_cases (bt s 0) with hK | hK | hK | hK
  · -- none
    rw [hK] at hspan
    refine ⟨0, ⟨#[]⟩, 0, spn (fun c => K c == 0) s (d + 1) 0, false, fun k hk => ?_, fun k hk => ?_, fun h => by cases h⟩
    · unfold word_one.f
      rw [if_pos (by omega), kind_K _ hb.1 hb.2 k (by omega), hK]
      simp only [Option.bind_some]
      rw [hspan k hk]
      simp only [Option.bind_some]
      rw [if_neg (by decide), if_neg (by decide), if_neg (by decide)]
    · unfold cardamomref4_one.f
      rw [if_pos (by omega), letter_K, hK]
      simp only [Option.bind_some]
      rw [if_neg (by decide), digit_K, hK]
      simp only [Option.bind_some]
      rw [if_neg (by decide)]
      have hm := marks_tells s marksB h0 (by decide) 11 0 k (by decide) (by omega)
      have hh := hit_all ⟨(bt s 0).toNat, by omega⟩
      have e : (((bt s 0).toNat : Nat) : Int) = bt s 0 := by omega
      rw [e, hK] at hh
      rw [hh] at hm
      exact hm
  · -- a name
    rw [hK] at hspan hone hin
    refine ⟨1, s.extract 0 (spn (fun c => K c == 1) s (d + 1) 0), 0, spn (fun c => K c == 1) s (d + 1) 0, decide (spn (fun c => K c == 1) s (d + 1) 0 ≤ 6), fun k hk => ?_, fun k hk => ?_, fun _ => by rw [hone]; omega⟩
    · unfold word_one.f
      rw [if_pos (by omega), kind_K _ hb.1 hb.2 k (by omega), hK]
      simp only [Option.bind_some]
      rw [hspan k hk]
      simp only [Option.bind_some]
      rw [hone]
      rw [if_neg (by decide), if_pos trivial, if_pos (by omega), if_pos (by omega), Int.toNat_natCast]
      congr 6
      apply decide_eq_decide.2
      omega
    · unfold cardamomref4_one.f
      rw [if_pos (by omega), letter_K, hK]
      simp only [Option.bind_some]
      have hm := letters_tells s (by omega) (d + 1) 0 k (by omega) (by omega)
      rw [if_pos (by decide)]
      rw [show ((0 : Nat) : Int) = 0 from rfl] at hm
      rw [hm]
      by_cases h6 : spn (fun c => K c == 1) s (d + 1) 0 ≤ 6
      · rw [if_neg (by omega), if_pos (by simpa using h6)]
      · rw [if_pos (by omega), if_neg (by simpa using h6)]
  · -- a number
    have hd0 := digit_at _ hK
    rw [hK] at hspan hone hin
    have hw : ∀ k, 110 ≤ k → word_one.f k s = (if ((spn (fun c => K c == 2) s d 1 : Nat) : Int) ≤ 2 then ((word_value.f k (s.extract 0 (spn (fun c => K c == 2) s d 1))).bind fun t => some (2, (⟨#[]⟩ : ByteArray), t, 0, ((spn (fun c => K c == 2) s d 1 : Nat) : Int), true)) else some (2, (⟨#[]⟩ : ByteArray), 0, 0, ((spn (fun c => K c == 2) s d 1 : Nat) : Int), false)) := fun k hk => by
      unfold word_one.f
      rw [if_pos (by omega), kind_K _ hb.1 hb.2 k (by omega), hK]
      simp only [Option.bind_some]
      rw [hspan k hk]
      simp only [Option.bind_some]
      rw [hone, if_neg (by decide), if_neg (by decide), if_pos trivial]
      by_cases h2 : ((spn (fun c => K c == 2) s d 1 : Nat) : Int) ≤ 2
      · rw [if_pos h2, if_pos h2, if_pos (by omega), if_pos (by omega), Int.toNat_natCast]
        simp [h2]
      · rw [if_neg h2, if_neg h2]
        simp [h2]
    have hr : ∀ k, 200 ≤ k → cardamomref4_one.f (k + 2) s = cardamomref4_one.l1 k s 1 (bt s 0 - 48) := fun k hk => by
      unfold cardamomref4_one.f
      rw [if_pos (by omega), letter_K, hK]
      simp only [Option.bind_some]
      rw [if_neg (by decide), digit_K, hK]
      simp only [Option.bind_some]
      rw [if_pos (by decide), cardamomref4_one.l1, if_pos (by omega), if_pos (by omega), digit_K, hK]
      simp only [Option.bind_some]
      rw [cardamomref4_one.j2, if_pos (by decide), if_pos (by omega), if_pos (by omega), if_pos (by omega)]
      have e1 : wrap64 ((0 : Int) + 1) = 1 := by decide +kernel
      have e2 : wrap64 (0 * 10) = 0 := by decide +kernel
      rw [e1, e2, w64w (by omega) (by omega)]
      congr 1
      omega
    by_cases hsz : d = 0
    · -- one digit, at the end
      subst hsz
      have hs1 : spn (fun c => K c == 2) s 0 1 = 1 := rfl
      refine ⟨2, ⟨#[]⟩, bt s 0 - 48, 1, true, fun k hk => ?_, fun k hk => ?_, fun _ => by omega⟩
      · rw [hw k hk, hs1, if_pos (by omega), value_one _ (size_front s 1 (by omega)) (by rw [show (0 : Int) = ((0 : Nat) : Int) from rfl, bt_front s 1 0 (by omega) (by omega)]; exact hd0) k (by omega)]
        rw [show (0 : Int) = ((0 : Nat) : Int) from rfl, bt_front s 1 0 (by omega) (by omega)]
        rfl
      · obtain ⟨k, rfl⟩ : ∃ m, k = m + 1 + 1 + 2 := ⟨k - 4, by omega⟩
        rw [hr _ (by omega), cardamomref4_one.l1, if_neg (by omega), cardamomref4_one.j2, if_neg (by decide), if_neg (by omega)]
        rfl
    · obtain ⟨d', rfl⟩ : ∃ d', d = d' + 1 := ⟨d - 1, by omega⟩
      by_cases hK1 : K (bt s 1) = 2
      · have hd1 := digit_at _ hK1
        have hs2 : spn (fun c => K c == 2) s (d' + 1) 1 = spn (fun c => K c == 2) s d' 2 := by
          rw [spn, if_pos (by rw [show ((1 : Nat) : Int) = 1 from rfl, hK1]; rfl)]
        have hin2 := spn_in (fun c => K c == 2) s d' 2
        have hr2 : ∀ k, 200 ≤ k → cardamomref4_one.f (k + 2 + 2) s = cardamomref4_one.l1 k s 2 (wrap64 ((bt s 0 - 48) * 10) + (bt s 1 - 48) % 256) := fun k hk => by
          have hr' : cardamomref4_one.f (k + 2 + 2) s = cardamomref4_one.l1 (k + 1 + 1) s 1 (bt s 0 - 48) := by
            exact hr (k + 2) (by omega)
          rw [hr', cardamomref4_one.l1, if_pos (by omega), if_pos (by omega), digit_K, hK1]
          simp only [Option.bind_some]
          rw [cardamomref4_one.j2, if_pos (by decide), if_pos (by omega), if_pos (by omega), if_pos (by omega)]
          have e1 : wrap64 ((1 : Int) + 1) = 2 := by decide +kernel
          rw [e1, w64w (i := (bt s 0 - 48) * 10) (by omega) (by omega), w64w (by omega) (by omega)]
        by_cases h2 : spn (fun c => K c == 2) s d' 2 = 2
        · refine ⟨2, ⟨#[]⟩, 10 * (bt s 0 - 48) + (bt s 1 - 48), 2, true, fun k hk => ?_, fun k hk => ?_, fun _ => by omega⟩
          · have f0 : bt (s.extract 0 2) 0 = bt s 0 := bt_front s 2 0 (by omega) (by omega)
            have f1 : bt (s.extract 0 2) 1 = bt s 1 := bt_front s 2 1 (by omega) (by omega)
            rw [hw k hk, hs2, h2, if_pos (by omega), value_two _ (size_front s 2 (by omega)) (by rw [f0]; exact hd0) (by rw [f1]; exact hd1) k (by omega), f0, f1]
            rfl
          · obtain ⟨k, rfl⟩ : ∃ m, k = m + 2 + 2 := ⟨k - 4, by omega⟩
            have hm := digits_rest s (by omega) (wrap64 ((bt s 0 - 48) * 10) + (bt s 1 - 48) % 256) d' 2 k (by omega) (by omega) (by omega)
            rw [hr2 k (by omega)]
            rw [show ((2 : Nat) : Int) = 2 from rfl] at hm
            rw [hm, h2, if_neg (by omega), w64w (by omega) (by omega)]
            simp
            omega
        · refine ⟨2, ⟨#[]⟩, 0, spn (fun c => K c == 2) s d' 2, false, fun k hk => ?_, fun k hk => ?_, fun h => by cases h⟩
          · rw [hw k hk, hs2, if_neg (by omega)]
          · obtain ⟨k, rfl⟩ : ∃ m, k = m + 2 + 2 := ⟨k - 4, by omega⟩
            have hm := digits_rest s (by omega) (wrap64 ((bt s 0 - 48) * 10) + (bt s 1 - 48) % 256) d' 2 k (by omega) (by omega) (by omega)
            rw [hr2 k (by omega)]
            rw [show ((2 : Nat) : Int) = 2 from rfl] at hm
            rw [hm, if_pos (by omega)]
            rfl
      · have hs1 : spn (fun c => K c == 2) s (d' + 1) 1 = 1 := by
          rw [spn, if_neg (by rw [show ((1 : Nat) : Int) = 1 from rfl]; simpa using hK1)]
        refine ⟨2, ⟨#[]⟩, bt s 0 - 48, 1, true, fun k hk => ?_, fun k hk => ?_, fun _ => by omega⟩
        · have f0 : bt (s.extract 0 1) 0 = bt s 0 := bt_front s 1 0 (by omega) (by omega)
          rw [hw k hk, hs1, if_pos (by omega), value_one _ (size_front s 1 (by omega)) (by rw [f0]; exact hd0) k (by omega), f0]
          rfl
        · obtain ⟨k, rfl⟩ : ∃ m, k = m + 1 + 1 + 2 := ⟨k - 4, by omega⟩
          rw [hr _ (by omega), cardamomref4_one.l1, if_pos (by omega), if_pos (by omega), digit_K]
          simp only [Option.bind_some]
          have hf : (K (bt s 1) == 2) = false := by simpa using hK1
          rw [hf, cardamomref4_one.j2, if_neg (by decide), if_neg (by omega)]
          rfl
  · -- a mark
    rw [hK] at hspan
    refine ⟨3, s.extract 0 1, 0, 1, true, fun k hk => ?_, fun k hk => ?_, fun _ => by omega⟩
    · unfold word_one.f
      rw [if_pos (by omega), kind_K _ hb.1 hb.2 k (by omega), hK]
      simp only [Option.bind_some]
      rw [hspan k hk]
      simp only [Option.bind_some]
      rw [if_pos trivial, if_pos (by omega), if_pos (by omega)]
      rfl
    · unfold cardamomref4_one.f
      rw [if_pos (by omega), letter_K, hK]
      simp only [Option.bind_some]
      rw [if_neg (by decide), digit_K, hK]
      simp only [Option.bind_some]
      rw [if_neg (by decide)]
      have hm := marks_tells s marksB h0 (by decide) 11 0 k (by decide) (by omega)
      have hh := hit_all ⟨(bt s 0).toNat, by omega⟩
      have e : (((bt s 0).toNat : Nat) : Int) = bt s 0 := by omega
      rw [e, hK] at hh
      rw [hh] at hm
      exact hm

end Go.Proofs.Ytnidonakekiloaa.Pure
