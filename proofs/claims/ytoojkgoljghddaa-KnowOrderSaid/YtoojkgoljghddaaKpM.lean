/-
  What is proved here: numbers that are known, made of numbers in any order, as a plain law of lists.
  Conditions: none.
-/
import Derived.Test.YtoojkgoljghddaaKyM
set_option linter.unusedVariables false
set_option linter.unusedSimpArgs false
namespace Go.Proofs.Ytoojkgoljghddaa.Pl
open Go Go.Proofs Go.Proofs.Ev Go.Proofs.Dv Cd

/-- All up to a number are there, and the next one is not. -/
def Top (l : List Int) (u v : Int) : Prop := u ≤ v ∧ (∀ j, u < j → j ≤ v → j ∈ l) ∧ v + 1 ∉ l
theorem Top.one {l : List Int} {u v w : Int} (h : Top l u v) (k : Top l u w) : v = w := by
  obtain ⟨h1, h2, h3⟩ := h
  obtain ⟨k1, k2, k3⟩ := k
  rcases Int.lt_trichotomy v w with hlt | he | hgt
  · exact absurd (k2 (v + 1) (by omega) (by omega)) h3
  · exact he
  · exact absurd (h2 (w + 1) (by omega) (by omega)) k3
/-- What is known of numbers, above a number. -/
structure Is (l : List Int) (u : Int) (k : Kn) : Prop where
  top : Top l u k.up
  rise : Rise idI k.more
  mem : ∀ x, x ∈ k.more ↔ x ∈ l ∧ k.up < x
theorem rise_ext : ∀ {l m : List Int}, Rise idI l → Rise idI m → (∀ x, x ∈ l ↔ x ∈ m) → l = m
  | [], [], _, _, _ => rfl
  | [], y :: m, _, _, h => by have := (h y).2 (by simp); cases this
  | x :: l, [], _, _, h => by have := (h x).1 (by simp); cases this
  | x :: l, y :: m, hl, hm, h => by
    obtain ⟨l1, l2⟩ := List.pairwise_cons.1 hl
    obtain ⟨m1, m2⟩ := List.pairwise_cons.1 hm
    have l1 : ∀ z ∈ l, x < z := l1
    have m1 : ∀ z ∈ m, y < z := m1
    have hxy : x = y := by
      rcases Int.lt_trichotomy x y with hlt | he | hgt
      · rcases List.mem_cons.1 ((h x).1 (by simp)) with e | h1
        · exact e
        · have := m1 x h1; omega
      · exact he
      · rcases List.mem_cons.1 ((h y).2 (by simp)) with e | h1
        · exact e.symm
        · have := l1 y h1; omega
    subst hxy
    rw [rise_ext l2 m2 fun z => ?_]
    constructor
    · intro hz
      have := l1 z hz
      rcases List.mem_cons.1 ((h z).1 (by simp [hz])) with e | h1
      · omega
      · exact h1
    · intro hz
      have := m1 z hz
      rcases List.mem_cons.1 ((h z).2 (by simp [hz])) with e | h1
      · omega
      · exact h1
theorem Is.one {l : List Int} {u : Int} {k k' : Kn} (h : Is l u k) (h' : Is l u k') : k = k' := by
  obtain ⟨a, b⟩ := k
  obtain ⟨a', b'⟩ := k'
  have e : a = a' := h.top.one h'.top
  subst e
  have e2 : b = b' := rise_ext h.rise h'.rise fun x => (h.mem x).trans (h'.mem x).symm
  rw [e2]
theorem Is.perm {l m : List Int} {u : Int} {k : Kn} (h : Is l u k) (hm : ∀ x, x ∈ l ↔ x ∈ m) : Is m u k := by
  obtain ⟨⟨h1, h2, h3⟩, h4, h5⟩ := h
  exact ⟨⟨h1, fun j a b => (hm j).1 (h2 j a b), fun h => h3 ((hm _).2 h)⟩, h4, fun x => by rw [h5, hm]⟩

/-! ### One pass, all passes -/
def passU : Int → Bool → List Int → Int × Bool
  | u, b, [] => (u, b)
  | u, b, x :: r => if x = u + 1 then passU x true r else passU u b r
theorem pass_le : ∀ (l : List Int) (u : Int) (b : Bool), u ≤ (passU u b l).1
  | [], u, b => Int.le_refl _
  | x :: r, u, b => by
    simp only [passU]
    split
    · have := pass_le r x true; omega
    · exact pass_le r u b
theorem pass_max (M : Int) : ∀ (l : List Int) (u : Int) (b : Bool), (∀ x ∈ l, x ≤ M) → u ≤ M → (passU u b l).1 ≤ M
  | [], u, b, _, h => h
  | x :: r, u, b, hl, h => by
    simp only [passU]
    split
    · exact pass_max M r x true (fun y hy => hl y (by simp [hy])) (hl x (by simp))
    · exact pass_max M r u b (fun y hy => hl y (by simp [hy])) h
theorem pass_in : ∀ (l : List Int) (u : Int) (b : Bool) (j : Int), u < j → j ≤ (passU u b l).1 → j ∈ l
  | [], u, b, j, h1, h2 => by simp [passU] at h2; omega
  | x :: r, u, b, j, h1, h2 => by
    simp only [passU] at h2
    split at h2
    · rename_i hx
      by_cases hj : j = x
      · simp [hj]
      · exact List.mem_cons_of_mem _ (pass_in r x true j (by omega) h2)
    · exact List.mem_cons_of_mem _ (pass_in r u b j h1 h2)
theorem pass_true : ∀ (l : List Int) (u : Int), (passU u true l).2 = true
  | [], _ => rfl
  | x :: r, u => by
    simp only [passU]
    split <;> exact pass_true r _
theorem pass_false : ∀ (l : List Int) (u : Int), (passU u false l).2 = false → (passU u false l).1 = u ∧ u + 1 ∉ l
  | [], u, _ => ⟨rfl, by simp⟩
  | x :: r, u, h => by
    simp only [passU] at h ⊢
    split at h
    · rw [pass_true] at h; cases h
    · rename_i hx
      rw [if_neg hx]
      obtain ⟨h1, h2⟩ := pass_false r u h
      refine ⟨h1, ?_⟩
      simp only [List.mem_cons, not_or]
      exact ⟨fun e => hx e.symm, h2⟩
theorem pass_up : ∀ (l : List Int) (u : Int), (passU u false l).2 = true → u < (passU u false l).1
  | [], u, h => by cases h
  | x :: r, u, h => by
    simp only [passU] at h ⊢
    split at h
    · rename_i hx
      rw [if_pos hx]
      have := pass_le r x true
      omega
    · rename_i hx
      rw [if_neg hx]
      exact pass_up r u h
/-! ### The least that is not there -/
def lstU (u : Int) (acc : List Int) : Int → List Int → Int
  | m, [] => m
  | m, x :: r => if hasK ⟨u, acc⟩ x = false ∧ u < x ∧ (m = 0 ∨ x < m) then lstU u acc x r else lstU u acc m r
theorem has_above {u x : Int} {acc : List Int} (hx : u < x) : hasK ⟨u, acc⟩ x = false ↔ x ∉ acc := by
  have : ¬ x ≤ u := by omega
  simp [hasK, this]
theorem lst_spec (u : Int) (hu : 0 ≤ u) (acc : List Int) : ∀ (l : List Int) (m : Int), (m = 0 ∨ (u < m ∧ m ∉ acc)) →
    ((lstU u acc m l = 0 ∧ m = 0 ∧ ∀ x ∈ l, u < x → x ∈ acc) ∨ (lstU u acc m l ≠ 0 ∧ u < lstU u acc m l ∧ lstU u acc m l ∉ acc ∧ (lstU u acc m l = m ∨ lstU u acc m l ∈ l) ∧ (m = 0 ∨ lstU u acc m l ≤ m) ∧ ∀ x ∈ l, u < x → x ∉ acc → lstU u acc m l ≤ x))
  | [], m, hm => by
    rcases hm with h | ⟨h1, h2⟩
    · exact .inl ⟨h, h, fun x hx => by cases hx⟩
    · exact .inr ⟨by simp only [lstU]; omega, h1, h2, .inl rfl, .inr (Int.le_refl _), fun x hx => by cases hx⟩
  | x :: r, m, hm => by
    simp only [lstU]
    split
    · rename_i hc
      obtain ⟨c1, c2, c3⟩ := hc
      have c1' := (has_above c2).1 c1
      rcases lst_spec u hu acc r x (.inr ⟨c2, c1'⟩) with ⟨h1, h2, h3⟩ | ⟨h1, h2, h3, h4, h5, h6⟩
      · omega
      · refine .inr ⟨h1, h2, h3, ?_, ?_, ?_⟩
        · rcases h4 with h4 | h4
          · rw [h4]; exact .inr (by simp)
          · exact .inr (by simp [h4])
        · rcases h5 with h5 | h5
          · omega
          · rcases c3 with c3 | c3
            · exact .inl c3
            · exact .inr (by omega)
        · intro y hy hy1 hy2
          rcases List.mem_cons.1 hy with rfl | hy
          · rcases h5 with h5 | h5
            · omega
            · exact h5
          · exact h6 y hy hy1 hy2
    · rename_i hc
      have hno : u < x → x ∉ acc → m ≠ 0 ∧ m ≤ x := by
        intro h1 h2
        have := (has_above h1).2 h2
        constructor
        · intro h0; exact hc ⟨this, h1, .inl h0⟩
        · rcases Int.lt_or_le x m with h3 | h3
          · exact absurd ⟨this, h1, .inr h3⟩ hc
          · exact h3
      rcases lst_spec u hu acc r m hm with ⟨h1, h2, h3⟩ | ⟨h1, h2, h3, h4, h5, h6⟩
      · refine .inl ⟨h1, h2, fun y hy hy1 => ?_⟩
        rcases List.mem_cons.1 hy with rfl | hy
        · by_cases hya : y ∈ acc
          · exact hya
          · exact absurd h2 (hno hy1 hya).1
        · exact h3 y hy hy1
      · refine .inr ⟨h1, h2, h3, ?_, h5, ?_⟩
        · rcases h4 with h4 | h4
          · exact .inl h4
          · exact .inr (by simp [h4])
        · intro y hy hy1 hy2
          rcases List.mem_cons.1 hy with rfl | hy
          · have := hno hy1 hy2
            rcases h5 with h5 | h5
            · exact absurd h5 this.1
            · omega
          · exact h6 y hy hy1 hy2
theorem rise_snoc {l : List Int} {x : Int} (hl : Rise idI l) (h : ∀ y ∈ l, y < x) : Rise idI (l ++ [x]) := by
  unfold Rise
  rw [List.pairwise_append]
  exact ⟨hl, by simp, fun a ha b hb => by simp at hb; subst hb; exact h a ha⟩

/-! ### With another one -/
theorem whole_is : ∀ (l : List Int) (u : Int), Rise idI l → (∀ m ∈ l, u < m) → Is l u (wholeK u l)
  | [], u, _, _ => ⟨⟨Int.le_refl _, fun j h1 h2 => by simp [wholeK] at h2; omega, by simp⟩, List.Pairwise.nil, fun x => by simp [wholeK]⟩
  | m :: r, u, hs, hm => by
    obtain ⟨h1, h2⟩ := List.pairwise_cons.1 hs
    have h1 : ∀ z ∈ r, m < z := h1
    have hum := hm m (by simp)
    by_cases hc : m ≤ u + 1
    · rw [show wholeK u (m :: r) = wholeK m r by simp [wholeK, hc, hum]]
      obtain ⟨⟨a1, a2, a3⟩, a4, a5⟩ := whole_is r m h2 h1
      refine ⟨⟨by omega, fun j k1 k2 => ?_, ?_⟩, a4, fun x => ?_⟩
      · by_cases hj : j = m
        · simp [hj]
        · exact List.mem_cons_of_mem _ (a2 j (by omega) k2)
      · intro h
        rcases List.mem_cons.1 h with h | h
        · omega
        · exact a3 h
      · rw [a5, List.mem_cons]
        constructor
        · rintro ⟨k1, k2⟩
          exact ⟨.inr k1, k2⟩
        · rintro ⟨k1 | k1, k2⟩
          · omega
          · exact ⟨k1, k2⟩
    · rw [show wholeK u (m :: r) = ⟨u, m :: r⟩ by simp [wholeK, hc]]
      refine ⟨⟨Int.le_refl _, fun j k1 k2 => by simp only at k2; omega, fun h => ?_⟩, hs, fun x => ?_⟩
      · simp only at h
        rcases List.mem_cons.1 h with h | h
        · omega
        · have := h1 _ h; omega
      · constructor
        · intro hx
          refine ⟨hx, ?_⟩
          exact hm x hx
        · exact fun h => h.1
theorem cntI_at {n : Int} : ∀ {l : List Int}, Rise idI l → (∀ x ∈ l.take (cntK idI n l), x < n) ∧ ∀ x ∈ l.drop (cntK idI n l), n ≤ x
  | [], _ => by simp
  | y :: r, hs => by
    obtain ⟨h1, h2⟩ := List.pairwise_cons.1 hs
    have h1 : ∀ z ∈ r, y < z := h1
    simp only [cntK, idI]
    by_cases hy : y < n
    · obtain ⟨i1, i2⟩ := cntI_at (n := n) h2
      simp only [hy, if_true, List.take_succ_cons, List.drop_succ_cons]
      refine ⟨fun x hx => ?_, i2⟩
      rcases List.mem_cons.1 hx with rfl | hx
      · exact hy
      · exact i1 x hx
    · simp only [hy, if_false]
      refine ⟨by simp, fun x hx => ?_⟩
      rcases List.mem_cons.1 (by simpa using hx) with rfl | hx
      · omega
      · have := h1 x hx; omega
theorem insI_rise {l : List Int} {n : Int} (hs : Rise idI l) (hn : n ∉ l) : Rise idI (insI l n) := by
  obtain ⟨h1, h2⟩ := cntI_at (n := n) hs
  have hs' : (l.take (cntK idI n l) ++ l.drop (cntK idI n l)).Pairwise fun x y => idI x < idI y := by rw [List.take_append_drop]; exact hs
  unfold insI Rise
  rw [List.pairwise_append] at hs' ⊢
  obtain ⟨a1, a2, a3⟩ := hs'
  refine ⟨a1, List.pairwise_cons.2 ⟨fun x hx => ?_, a2⟩, fun x hx y hy => ?_⟩
  · have := h2 x hx
    have hne : x ≠ n := fun e => hn (e ▸ List.mem_of_mem_drop hx)
    show n < x
    omega
  · rcases List.mem_cons.1 hy with rfl | hy
    · exact h1 x hx
    · exact a3 x hx y hy
theorem insI_iff {l : List Int} {n x : Int} : x ∈ insI l n ↔ x = n ∨ x ∈ l := by
  constructor
  · exact insI_mem
  · rintro (rfl | h)
    · simp [insI]
    · rw [← List.take_append_drop (cntK idI n l) l] at h
      simp only [insI, List.mem_append, List.mem_cons]
      rcases List.mem_append.1 h with h | h
      · exact .inl h
      · exact .inr (.inr h)
/-- Numbers that may be. -/
structure KOk (k : Kn) : Prop where
  up : 0 ≤ k.up
  rise : Rise idI k.more
  more : ∀ m ∈ k.more, k.up + 1 < m
theorem KOk.is {k : Kn} (h : KOk k) : Is k.more k.up k := ⟨⟨Int.le_refl _, fun j a b => by omega, fun hm => by have := h.more _ hm; omega⟩, h.rise, fun x => ⟨fun hx => ⟨hx, by have := h.more x hx; omega⟩, fun hx => hx.1⟩⟩
theorem Is.ok {l : List Int} {u : Int} {k : Kn} (hu : 0 ≤ u) (h : Is l u k) : KOk k := by
  obtain ⟨⟨h1, h2, h3⟩, h4, h5⟩ := h
  refine ⟨by omega, h4, fun m hm => ?_⟩
  have := (h5 m).1 hm
  have hne : m ≠ k.up + 1 := fun e => h3 (e ▸ this.1)
  omega
/-- With another one that may be: made of all of them. -/
theorem add_is {k : Kn} (h : KOk k) {n : Int} (h1 : 1 ≤ n) (h2 : n ≤ 1000000) : Is (k.more ++ [n]) k.up (addK k n) := by
  unfold addK
  by_cases hh : hasK k n = true
  · rw [if_pos (.inr (.inr hh))]
    have hi := h.is
    obtain ⟨⟨a1, a2, a3⟩, a4, a5⟩ := hi
    have hn : n ≤ k.up ∨ n ∈ k.more := by
      simp [hasK] at hh
      exact hh.imp (fun h => h.2) id
    refine ⟨⟨a1, fun j x y => by omega, fun hm => ?_⟩, a4, fun x => ?_⟩
    · rcases List.mem_append.1 hm with hm | hm
      · exact a3 hm
      · simp at hm
        rcases hn with hn | hn
        · omega
        · exact a3 (hm ▸ hn)
    · rw [a5, List.mem_append]
      constructor
      · rintro ⟨x1, x2⟩
        exact ⟨.inl x1, x2⟩
      · rintro ⟨x1 | x1, x2⟩
        · exact ⟨x1, x2⟩
        · simp at x1
          subst x1
          rcases hn with hn | hn
          · omega
          · exact ⟨hn, x2⟩
  · have hnot : n ∉ k.more ∧ k.up < n := by
      simp [hasK] at hh
      refine ⟨hh.2, ?_⟩
      have := hh.1 h1
      omega
    have hno : ¬ (n < 1 ∨ 1000000 < n ∨ hasK k n = true) := by
      rintro (h | h | h)
      · omega
      · omega
      · exact hh h
    rw [if_neg hno]
    refine (whole_is _ _ (insI_rise h.rise hnot.1) fun m hm => ?_).perm fun x => ?_
    · rcases insI_mem hm with rfl | hm
      · exact hnot.2
      · have := h.more m hm; omega
    · rw [insI_iff, List.mem_append]
      simp [or_comm]
theorem add_ok {k : Kn} (h : KOk k) {n : Int} (h1 : 1 ≤ n) (h2 : n ≤ 1000000) : KOk (addK k n) := (add_is h h1 h2).ok h.up
theorem has_add {k : Kn} (h : KOk k) {n : Int} (h1 : 1 ≤ n) (h2 : n ≤ 1000000) (x : Int) : hasK (addK k n) x = (decide (x = n) || hasK k x) := by
  obtain ⟨⟨a1, a2, a3⟩, a4, a5⟩ := add_is h h1 h2
  have hu := h.up
  rw [Bool.eq_iff_iff]
  simp only [hasK, Bool.or_eq_true, decide_eq_true_eq]
  rw [a5, List.mem_append, List.mem_singleton]
  constructor
  · rintro (⟨b1, b2⟩ | ⟨b1 | b1, b2⟩)
    · by_cases hx : x ≤ k.up
      · exact .inr (.inl ⟨b1, hx⟩)
      · rcases List.mem_append.1 (a2 x (by omega) b2) with h3 | h3
        · exact .inr (.inr h3)
        · simp at h3; exact .inl h3
    · exact .inr (.inr b1)
    · exact .inl b1
  · rintro (rfl | ⟨b1, b2⟩ | b1)
    · by_cases hx : x ≤ (addK k x).up
      · exact .inl ⟨h1, hx⟩
      · exact .inr ⟨.inr rfl, by omega⟩
    · exact .inl ⟨b1, by omega⟩
    · by_cases hx : x ≤ (addK k n).up
      · have := h.more x b1
        exact .inl ⟨by omega, hx⟩
      · exact .inr ⟨.inl b1, by omega⟩
end Go.Proofs.Ytoojkgoljghddaa.Pl
