/-
  What is proved here: numbers that are known, as sets: what both know, what is within, as a plain law of lists.
  Conditions: none.
-/
import Derived.Test.YtoojkgoljghddaaKpM
set_option linter.unusedVariables false
set_option linter.unusedSimpArgs false
namespace Go.Proofs.Ytoojkgoljghddaa.Pl
open Go Go.Proofs Go.Proofs.Ev Go.Proofs.Dv Cd

theorem hasK_iff (k : Kn) (n : Int) : hasK k n = true ↔ (1 ≤ n ∧ n ≤ k.up) ∨ n ∈ k.more := by
  simp [hasK]
/-- Two that know the same are one. -/
theorem KOk.ext {k m : Kn} (hk : KOk k) (hm : KOk m) (h : ∀ n, 1 ≤ n → (hasK k n = true ↔ hasK m n = true)) : k = m := by
  have hk0 := hk.up
  have hm0 := hm.up
  have hup : k.up = m.up := by
    rcases Int.lt_trichotomy k.up m.up with h1 | h1 | h1
    · have := (h (k.up + 1) (by omega)).2 ((hasK_iff _ _).2 (.inl (by omega)))
      rcases (hasK_iff _ _).1 this with h2 | h2
      · omega
      · have := hk.more _ h2; omega
    · exact h1
    · have := (h (m.up + 1) (by omega)).1 ((hasK_iff _ _).2 (.inl (by omega)))
      rcases (hasK_iff _ _).1 this with h2 | h2
      · omega
      · have := hm.more _ h2; omega
  have hmore : k.more = m.more := rise_ext hk.rise hm.rise fun x => by
    constructor
    · intro hx
      have h1 := hk.more x hx
      rcases (hasK_iff _ _).1 ((h x (by omega)).1 ((hasK_iff _ _).2 (.inr hx))) with h2 | h2
      · omega
      · exact h2
    · intro hx
      have h1 := hm.more x hx
      rcases (hasK_iff _ _).1 ((h x (by omega)).2 ((hasK_iff _ _).2 (.inr hx))) with h2 | h2
      · omega
      · exact h2
  obtain ⟨a, b⟩ := k
  obtain ⟨a', b'⟩ := m
  simp only at hup hmore
  rw [hup, hmore]
/-- Whole, of any that rise. -/
theorem whole_has : ∀ (l : List Int) (u : Int), 0 ≤ u → Rise idI l → (∀ m ∈ l, 1 ≤ m) → KOk (wholeK u l) ∧ ∀ n, 1 ≤ n → (hasK (wholeK u l) n = true ↔ n ≤ u ∨ n ∈ l)
  | [], u, h0, _, _ => ⟨⟨h0, List.Pairwise.nil, fun m hm => by cases hm⟩, fun n hn => by simp [hasK, wholeK, hn]⟩
  | m :: r, u, h0, hs, h1 => by
    obtain ⟨s1, s2⟩ := List.pairwise_cons.1 hs
    have s1 : ∀ z ∈ r, m < z := s1
    have hm1 := h1 m (by simp)
    simp only [wholeK]
    by_cases hc : m ≤ u + 1
    · rw [if_pos hc]
      obtain ⟨a1, a2⟩ := whole_has r (if u < m then m else u) (by split <;> omega) s2 fun z hz => h1 z (by simp [hz])
      refine ⟨a1, fun n hn => ?_⟩
      rw [a2 n hn, List.mem_cons]
      constructor
      · rintro (h | h)
        · split at h
          · by_cases hnm : n = m
            · exact .inr (.inl hnm)
            · exact .inl (by omega)
          · exact .inl h
        · exact .inr (.inr h)
      · rintro (h | rfl | h)
        · exact .inl (by split <;> omega)
        · exact .inl (by split <;> omega)
        · exact .inr h
    · rw [if_neg hc]
      refine ⟨⟨h0, hs, fun z hz => ?_⟩, fun n hn => ?_⟩
      · simp only at hz ⊢
        rcases List.mem_cons.1 hz with rfl | hz
        · omega
        · have := s1 z hz; omega
      · rw [hasK_iff]
        constructor
        · rintro (h | h)
          · exact .inl h.2
          · exact .inr h
        · rintro (h | h)
          · exact .inl ⟨hn, h⟩
          · exact .inr h
/-! ### Each run of equal ones cut to one -/
def goC (p : Int) : List Int → List Int
  | [] => []
  | y :: r => if y = p then goC p r else y :: goC y r
def cmpc : List Int → List Int
  | [] => []
  | x :: r => x :: goC x r
theorem goC_mem : ∀ (l : List Int) (p x : Int), x ∈ p :: goC p l ↔ x ∈ p :: l
  | [], p, x => by simp [goC]
  | y :: r, p, x => by
    simp only [goC]
    split
    · rename_i h
      subst h
      rw [goC_mem r y x]
      simp
    · have := goC_mem r y x
      rw [List.mem_cons, this, List.mem_cons (a := x) (b := p)]
theorem cmpc_mem : ∀ (l : List Int) (x : Int), x ∈ cmpc l ↔ x ∈ l
  | [], x => by simp [cmpc]
  | a :: r, x => goC_mem r a x
theorem goC_rise : ∀ (l : List Int) (p : Int), ((p :: l).Pairwise fun x y => leI x y = true) → Rise idI (p :: goC p l)
  | [], p, _ => by simp [goC, Rise]
  | y :: r, p, h => by
    obtain ⟨h1, h2⟩ := List.pairwise_cons.1 h
    simp only [goC]
    split
    · rename_i hy
      subst hy
      exact goC_rise r y h2
    · rename_i hy
      have hp := of_decide_eq_true (h1 y (by simp))
      refine List.pairwise_cons.2 ⟨fun z hz => ?_, goC_rise r y h2⟩
      have hz' := (goC_mem r y z).1 hz
      show p < z
      rcases List.mem_cons.1 hz' with rfl | hz'
      · omega
      · have := of_decide_eq_true ((List.pairwise_cons.1 h2).1 z hz')
        omega
theorem cmpc_rise : ∀ (l : List Int), (l.Pairwise fun x y => leI x y = true) → Rise idI (cmpc l)
  | [], _ => List.Pairwise.nil
  | a :: r, h => goC_rise r a h
theorem goC_len : ∀ (l : List Int) (p : Int), (goC p l).length ≤ l.length
  | [], p => Nat.le_refl _
  | y :: r, p => by
    simp only [goC]
    split
    · have := goC_len r p; simp; omega
    · have := goC_len r y; simp; omega
theorem cmpc_len : ∀ (l : List Int), (cmpc l).length ≤ l.length
  | [] => Nat.le_refl _
  | a :: r => by have := goC_len r a; simp [cmpc]; omega
theorem sortI_mem (l : List Int) (x : Int) : x ∈ sortB leI l ↔ x ∈ l := (sortB_perm l).mem_iff
theorem sortI_up (l : List Int) : (sortB leI l).Pairwise fun x y => leI x y = true := sortB_sorted (fun a b c h1 h2 => by
  simp only [leI, decide_eq_true_eq] at *; omega) (fun a b => by simp only [leI, decide_eq_true_eq]; omega) l
/-- What either has. -/
def bothK (a b : Kn) : Kn := wholeK (if a.up < b.up then b.up else a.up) (cmpc (sortB leI (a.more ++ b.more)))
/-- Numbers that may be, up to 50. -/
structure K50 (k : Kn) : Prop where
  ok : KOk k
  top : ∀ n, 1 ≤ n → hasK k n = true → n ≤ 50
theorem K50.up {k : Kn} (h : K50 k) : 0 ≤ k.up ∧ k.up ≤ 50 := by
  have h0 := h.ok.up
  refine ⟨h0, ?_⟩
  by_cases h1 : 1 ≤ k.up
  · exact h.top k.up h1 ((hasK_iff _ _).2 (.inl ⟨h1, Int.le_refl _⟩))
  · omega
theorem K50.more {k : Kn} (h : K50 k) : ∀ m ∈ k.more, k.up + 1 < m ∧ m ≤ 50 := fun m hm => by
  have h1 := h.ok.more m hm
  have h2 := h.ok.up
  exact ⟨h1, h.top m (by omega) ((hasK_iff _ _).2 (.inr hm))⟩
theorem rise_len50 : ∀ {l : List Int} {a : Int}, Rise idI l → (∀ x ∈ l, a < x ∧ x ≤ 50) → a ≤ 50 → (l.length : Int) ≤ 50 - a
  | [], a, _, _, ha => by simp; omega
  | x :: r, a, hs, h, ha => by
    obtain ⟨s1, s2⟩ := List.pairwise_cons.1 hs
    have s1 : ∀ z ∈ r, x < z := s1
    have hx := h x (by simp)
    have := rise_len50 (a := x) s2 (fun z hz => ⟨s1 z hz, (h z (by simp [hz])).2⟩) hx.2
    simp
    omega
theorem K50.len {k : Kn} (h : K50 k) : k.more.length ≤ 50 := by
  have h1 := h.up
  have := rise_len50 h.ok.rise (fun x hx => ⟨by have := h.more x hx; omega, (h.more x hx).2⟩) (a := k.up) h1.2
  omega
theorem both_has {a b : Kn} (ha : KOk a) (hb : KOk b) : KOk (bothK a b) ∧ ∀ n, 1 ≤ n → (hasK (bothK a b) n = true ↔ hasK a n = true ∨ hasK b n = true) := by
  have ha0 := ha.up
  have hb0 := hb.up
  obtain ⟨h1, h2⟩ := whole_has (cmpc (sortB leI (a.more ++ b.more))) (if a.up < b.up then b.up else a.up) (by split <;> omega) (cmpc_rise _ (sortI_up _)) fun m hm => by
    rw [cmpc_mem, sortI_mem, List.mem_append] at hm
    rcases hm with hm | hm
    · have := ha.more m hm; omega
    · have := hb.more m hm; omega
  refine ⟨h1, fun n hn => ?_⟩
  rw [bothK, h2 n hn, cmpc_mem, sortI_mem, List.mem_append, hasK_iff, hasK_iff]
  constructor
  · rintro (h | h | h)
    · split at h
      · exact .inr (.inl ⟨hn, h⟩)
      · exact .inl (.inl ⟨hn, h⟩)
    · exact .inl (.inr h)
    · exact .inr (.inr h)
  · rintro ((h | h) | (h | h))
    · exact .inl (by split <;> omega)
    · exact .inr (.inl h)
    · exact .inl (by split <;> omega)
    · exact .inr (.inr h)
theorem K50.both {a b : Kn} (ha : K50 a) (hb : K50 b) : K50 (bothK a b) := by
  obtain ⟨h1, h2⟩ := both_has ha.ok hb.ok
  refine ⟨h1, fun n hn h => ?_⟩
  rcases (h2 n hn).1 h with h | h
  · exact ha.top n hn h
  · exact hb.top n hn h
def withinK (a b : Kn) : Bool := decide (a.up ≤ b.up) && a.more.all fun n => hasK b n
theorem within_iff {a b : Kn} (ha : KOk a) (hb : KOk b) : withinK a b = true ↔ ∀ n, 1 ≤ n → hasK a n = true → hasK b n = true := by
  have ha0 := ha.up
  have hb0 := hb.up
  simp only [withinK, Bool.and_eq_true, decide_eq_true_eq, List.all_eq_true]
  constructor
  · rintro ⟨h1, h2⟩ n hn h
    rcases (hasK_iff _ _).1 h with h | h
    · exact (hasK_iff _ _).2 (.inl ⟨hn, by omega⟩)
    · exact h2 n h
  · intro h
    constructor
    · rcases Int.lt_or_le b.up a.up with hlt | hle
      · have := h (b.up + 1) (by omega) ((hasK_iff _ _).2 (.inl (by omega)))
        rcases (hasK_iff _ _).1 this with h2 | h2
        · omega
        · have := hb.more _ h2; omega
      · exact hle
    · intro n hn
      have := ha.more n hn
      exact h n (by omega) ((hasK_iff _ _).2 (.inr hn))
/-! ### The law -/
theorem both_comm {a b : Kn} (ha : KOk a) (hb : KOk b) : bothK a b = bothK b a := by
  obtain ⟨h1, h2⟩ := both_has ha hb
  obtain ⟨k1, k2⟩ := both_has hb ha
  exact h1.ext k1 fun n hn => by rw [h2 n hn, k2 n hn]; exact or_comm
theorem both_assoc {a b c : Kn} (ha : KOk a) (hb : KOk b) (hc : KOk c) : bothK (bothK a b) c = bothK a (bothK b c) := by
  obtain ⟨h1, h2⟩ := both_has ha hb
  obtain ⟨k1, k2⟩ := both_has hb hc
  obtain ⟨i1, i2⟩ := both_has h1 hc
  obtain ⟨j1, j2⟩ := both_has ha k1
  exact i1.ext j1 fun n hn => by rw [i2 n hn, h2 n hn, j2 n hn, k2 n hn]; exact or_assoc
theorem both_self {a : Kn} (ha : KOk a) : bothK a a = a := by
  obtain ⟨h1, h2⟩ := both_has ha ha
  exact h1.ext ha fun n hn => by rw [h2 n hn]; exact or_self_iff
theorem within_left {a b : Kn} (ha : KOk a) (hb : KOk b) : withinK a (bothK a b) = true := by
  obtain ⟨h1, h2⟩ := both_has ha hb
  exact (within_iff ha h1).2 fun n hn h => (h2 n hn).2 (.inl h)
theorem within_right {a b : Kn} (ha : KOk a) (hb : KOk b) : withinK b (bothK a b) = true := by
  obtain ⟨h1, h2⟩ := both_has ha hb
  exact (within_iff hb h1).2 fun n hn h => (h2 n hn).2 (.inr h)
theorem within_both {a b : Kn} (ha : KOk a) (hb : KOk b) : withinK (bothK a b) a = withinK b a := by
  obtain ⟨h1, h2⟩ := both_has ha hb
  rw [Bool.eq_iff_iff, within_iff h1 ha, within_iff hb ha]
  constructor
  · exact fun h n hn hh => h n hn ((h2 n hn).2 (.inr hh))
  · intro h n hn hh
    rcases (h2 n hn).1 hh with hh | hh
    · exact hh
    · exact h n hn hh
theorem has_both {a b : Kn} (ha : KOk a) (hb : KOk b) (n : Int) : hasK (bothK a b) n = (hasK a n || hasK b n) := by
  obtain ⟨h1, h2⟩ := both_has ha hb
  by_cases hn : 1 ≤ n
  · rw [Bool.eq_iff_iff, Bool.or_eq_true]
    exact h2 n hn
  · have no : ∀ {k : Kn}, KOk k → hasK k n = false := fun {k} hk => by
      cases hx : hasK k n with
      | false => rfl
      | true =>
        rcases (hasK_iff _ _).1 hx with h | h
        · omega
        · have := hk.more n h
          have := hk.up
          omega
    rw [no h1, no ha, no hb]
    rfl
theorem K50.zero : K50 ⟨0, []⟩ := ⟨⟨Int.le_refl _, List.Pairwise.nil, fun m hm => by cases hm⟩, fun n hn h => by
  rcases (hasK_iff _ _).1 h with h | h
  · simp only at h; omega
  · cases h⟩
theorem K50.add {k : Kn} (h : K50 k) {n : Int} (h1 : 1 ≤ n) (h2 : n ≤ 50) : K50 (addK k n) := by
  refine ⟨add_ok h.ok h1 (by omega), fun m hm hh => ?_⟩
  rw [has_add h.ok h1 (by omega), Bool.or_eq_true, decide_eq_true_eq] at hh
  rcases hh with hh | hh
  · omega
  · exact h.top m hm hh
end Go.Proofs.Ytoojkgoljghddaa.Pl
