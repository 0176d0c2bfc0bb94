/-
  What is proved here: what was seen last, by thing, as a plain law of lists.
  Conditions: none.
-/
import Derived.Test.YtmbboljcgpccfaaCs
set_option linter.unusedVariables false
set_option linter.unusedSimpArgs false
namespace Go.Proofs.Ytmbboljcgpccfaa.Pl
open Go Go.Proofs

structure Hd where
  item : Int
  a : Int
  b : Int
  c : Int
  deriving DecidableEq
def Hd.s (h : Hd) : Int × Int × Int := (h.a, h.b, h.c)
def Srt (l : List Hd) : Prop := l.Pairwise fun x y => x.item < y.item
def Pos (l : List Hd) : Prop := ∀ h ∈ l, 0 < cmpS h.s (0, 0, 0)

def atS : List Hd → Int → Int × Int × Int
  | [], _ => (0, 0, 0)
  | h :: r, i => if h.item = i then h.s else atS r i
def insH : List Hd → Hd → List Hd
  | [], h => [h]
  | x :: r, h => if x.item < h.item then x :: insH r h else if x.item = h.item then h :: r else h :: x :: r
def putH (l : List Hd) (h : Hd) : List Hd := if cmpS h.s (atS l h.item) ≤ 0 then l else insH l h
def mostH (l m : List Hd) : List Hd := m.foldl putH l
def withinH (l m : List Hd) : Bool := l.all fun h => !decide (cmpS (atS m h.item) h.s < 0)
def maxS (x y : Int × Int × Int) : Int × Int × Int := if cmpS y x ≤ 0 then x else y

/-! ### The order of stamps -/

def leS (x y : Int × Int × Int) : Prop := cmpS x y ≤ 0
theorem cmpS_neg (x y : Int × Int × Int) : cmpS y x = - cmpS x y := by
  obtain ⟨x1, x2, x3⟩ := x
  obtain ⟨y1, y2, y3⟩ := y
  simp only [cmpS, cmpI]
  repeat' split
  all_goals omega
theorem leS_refl (x : Int × Int × Int) : leS x x := by
  have := cmpS_neg x x
  unfold leS
  omega
theorem leS_total (x y : Int × Int × Int) : leS x y ∨ leS y x := by
  have := cmpS_neg x y
  unfold leS
  omega
theorem leS_anti {x y : Int × Int × Int} (h1 : leS x y) (h2 : leS y x) : x = y := by
  have h := cmpS_neg x y
  unfold leS at h1 h2
  have h0 : cmpS x y = 0 := by omega
  obtain ⟨x1, x2, x3⟩ := x
  obtain ⟨y1, y2, y3⟩ := y
  obtain ⟨e1, e2, e3⟩ := (cmpS_eq _ _ _ _ _ _).1 h0
  rw [e1, e2, e3]
theorem leS_trans {x y z : Int × Int × Int} (h1 : leS x y) (h2 : leS y z) : leS x z := by
  obtain ⟨x1, x2, x3⟩ := x
  obtain ⟨y1, y2, y3⟩ := y
  obtain ⟨z1, z2, z3⟩ := z
  unfold leS at *
  have k1 := cmpS_3 x1 x2 x3 y1 y2 y3
  have k2 := cmpS_3 y1 y2 y3 z1 z2 z3
  have a1 := cmpS_lt x1 x2 x3 y1 y2 y3
  have a2 := cmpS_eq x1 x2 x3 y1 y2 y3
  have b1 := cmpS_lt y1 y2 y3 z1 z2 z3
  have b2 := cmpS_eq y1 y2 y3 z1 z2 z3
  have c1 := cmpS_lt x1 x2 x3 z1 z2 z3
  have c2 := cmpS_eq x1 x2 x3 z1 z2 z3
  have c3 := cmpS_3 x1 x2 x3 z1 z2 z3
  rcases k1 with k1 | k1 | k1
  · have := a1.1 k1
    rcases k2 with k2 | k2 | k2
    · have := b1.1 k2
      have := c1.2 (by omega)
      omega
    · have := b2.1 k2
      have := c1.2 (by omega)
      omega
    · omega
  · have := a2.1 k1
    rcases k2 with k2 | k2 | k2
    · have := b1.1 k2
      have := c1.2 (by omega)
      omega
    · have := b2.1 k2
      have := c2.2 (by omega)
      omega
    · omega
  · omega
theorem ltS_iff (x y : Int × Int × Int) : cmpS x y < 0 ↔ ¬ leS y x := by
  have := cmpS_neg x y
  unfold leS
  omega
theorem gtS_iff (x y : Int × Int × Int) : 0 < cmpS x y ↔ ¬ leS x y := by
  unfold leS
  omega
theorem maxS_le {x y z : Int × Int × Int} : leS (maxS x y) z ↔ leS x z ∧ leS y z := by
  unfold maxS
  split
  · rename_i h
    exact ⟨fun k => ⟨k, leS_trans h k⟩, fun k => k.1⟩
  · rename_i h
    have : leS x y := (leS_total x y).resolve_right h
    exact ⟨fun k => ⟨leS_trans this k, k⟩, fun k => k.2⟩
theorem le_maxS_left (x y : Int × Int × Int) : leS x (maxS x y) := (maxS_le.1 (leS_refl _)).1
theorem le_maxS_right (x y : Int × Int × Int) : leS y (maxS x y) := (maxS_le.1 (leS_refl _)).2
theorem ext_le {x y : Int × Int × Int} (h : ∀ z, leS x z ↔ leS y z) : x = y := leS_anti ((h y).2 (leS_refl y)) ((h x).1 (leS_refl x))
theorem maxS_comm (x y : Int × Int × Int) : maxS x y = maxS y x := ext_le fun z => by rw [maxS_le, maxS_le]; exact and_comm
theorem maxS_assoc (x y z : Int × Int × Int) : maxS (maxS x y) z = maxS x (maxS y z) := ext_le fun w => by simp only [maxS_le]; exact and_assoc
theorem maxS_self (x : Int × Int × Int) : maxS x x = x := ext_le fun z => by rw [maxS_le]; exact and_self_iff
theorem maxS_of_le {x y : Int × Int × Int} (h : leS y x) : maxS x y = x := if_pos h

/-! ### Heads as a map from things to stamps -/

theorem insH_mem {x h : Hd} : ∀ {l : List Hd}, x ∈ insH l h → x = h ∨ x ∈ l
  | [], hx => by simp [insH] at hx; exact .inl hx
  | y :: r, hx => by
    simp only [insH] at hx
    split at hx
    · rcases List.mem_cons.1 hx with rfl | hx
      · exact .inr (by simp)
      · rcases insH_mem hx with h1 | h1
        · exact .inl h1
        · exact .inr (List.mem_cons_of_mem _ h1)
    · split at hx
      · rcases List.mem_cons.1 hx with rfl | hx
        · exact .inl rfl
        · exact .inr (List.mem_cons_of_mem _ hx)
      · rcases List.mem_cons.1 hx with rfl | hx
        · exact .inl rfl
        · exact .inr hx
theorem insH_srt {h : Hd} : ∀ {l : List Hd}, Srt l → Srt (insH l h)
  | [], _ => by simp [insH, Srt]
  | x :: r, hs => by
    obtain ⟨h1, h2⟩ := List.pairwise_cons.1 hs
    simp only [insH]
    split
    · rename_i hlt
      refine List.pairwise_cons.2 ⟨fun y hy => ?_, insH_srt h2⟩
      rcases insH_mem hy with rfl | hy
      · exact hlt
      · exact h1 y hy
    · split
      · rename_i he
        exact List.pairwise_cons.2 ⟨fun y hy => by rw [← he]; exact h1 y hy, h2⟩
      · rename_i h3 h4
        have h5 : h.item < x.item := by omega
        exact List.pairwise_cons.2 ⟨fun y hy => by
          rcases List.mem_cons.1 hy with rfl | hy
          · exact h5
          · have := h1 y hy; omega, hs⟩
theorem atS_none {i : Int} : ∀ {l : List Hd}, (∀ h ∈ l, h.item ≠ i) → atS l i = (0, 0, 0)
  | [], _ => rfl
  | x :: r, h => by
    rw [atS, if_neg (h x (by simp)), atS_none fun y hy => h y (List.mem_cons_of_mem _ hy)]
theorem atS_mem {h : Hd} : ∀ {l : List Hd}, Srt l → h ∈ l → atS l h.item = h.s
  | x :: r, hs, hm => by
    obtain ⟨h1, h2⟩ := List.pairwise_cons.1 hs
    rcases List.mem_cons.1 hm with rfl | hm
    · simp [atS]
    · have := h1 h hm
      rw [atS, if_neg (by omega), atS_mem h2 hm]
theorem atS_cases {i : Int} : ∀ (l : List Hd), (atS l i = (0, 0, 0) ∧ ∀ h ∈ l, h.item ≠ i) ∨ ∃ h ∈ l, h.item = i ∧ atS l i = h.s
  | [] => .inl ⟨rfl, fun h hh => by cases hh⟩
  | x :: r => by
    by_cases h : x.item = i
    · exact .inr ⟨x, by simp, h, by simp [atS, h]⟩
    · rw [atS, if_neg h]
      rcases atS_cases (i := i) r with ⟨h1, h2⟩ | ⟨y, h1, h2, h3⟩
      · exact .inl ⟨h1, fun y hy => by
          rcases List.mem_cons.1 hy with rfl | hy
          · exact h
          · exact h2 y hy⟩
      · exact .inr ⟨y, List.mem_cons_of_mem _ h1, h2, h3⟩
theorem atS_insH {h : Hd} {i : Int} : ∀ {l : List Hd}, Srt l → atS (insH l h) i = if i = h.item then h.s else atS l i
  | [], _ => by
    simp only [insH, atS]
    by_cases hi : h.item = i
    · simp [hi]
    · simp [hi, Ne.symm hi]
  | x :: r, hs => by
    obtain ⟨h1, h2⟩ := List.pairwise_cons.1 hs
    simp only [insH]
    split
    · rename_i hlt
      simp only [atS]
      by_cases hx : x.item = i
      · rw [if_pos hx, if_neg (by omega), if_pos hx]
      · rw [if_neg hx, atS_insH h2]
        simp [hx]
    · split
      · rename_i he
        simp only [atS, he]
        by_cases hx : h.item = i
        · rw [if_pos hx, if_pos hx.symm]
        · rw [if_neg hx, if_neg (fun e => hx e.symm), if_neg hx]
      · simp only [atS]
        by_cases hx : h.item = i
        · rw [if_pos hx, if_pos hx.symm]
        · rw [if_neg hx, if_neg (show ¬ i = h.item from fun e => hx e.symm)]
theorem putH_srt {l : List Hd} {h : Hd} (hs : Srt l) : Srt (putH l h) := by
  unfold putH
  split
  · exact hs
  · exact insH_srt hs
theorem putH_mem {l : List Hd} {h x : Hd} (hx : x ∈ putH l h) : x = h ∨ x ∈ l := by
  unfold putH at hx
  split at hx
  · exact .inr hx
  · exact insH_mem hx
theorem atS_putH {l : List Hd} {h : Hd} {i : Int} (hs : Srt l) : atS (putH l h) i = if i = h.item then maxS (atS l i) h.s else atS l i := by
  unfold putH
  split
  · rename_i hc
    split
    · rename_i hi
      subst hi
      exact (maxS_of_le hc).symm
    · rfl
  · rename_i hc
    rw [atS_insH hs]
    split
    · rename_i hi
      subst hi
      unfold maxS
      rw [if_neg hc]
    · rfl
theorem mostH_srt : ∀ (m : List Hd) {l : List Hd}, Srt l → Srt (mostH l m)
  | [], l, hs => hs
  | h :: m, l, hs => mostH_srt m (putH_srt hs)
theorem mostH_mem {x : Hd} : ∀ (m : List Hd) {l : List Hd}, x ∈ mostH l m → x ∈ l ∨ x ∈ m
  | [], l, hx => .inl hx
  | h :: m, l, hx => by
    rcases mostH_mem m hx with h1 | h1
    · rcases putH_mem h1 with rfl | h1
      · exact .inr (by simp)
      · exact .inl h1
    · exact .inr (List.mem_cons_of_mem _ h1)
theorem zero_le_at {l : List Hd} (hp : Pos l) (i : Int) : leS (0, 0, 0) (atS l i) := by
  rcases atS_cases (i := i) l with ⟨h1, _⟩ | ⟨h, h1, _, h3⟩
  · rw [h1]; exact leS_refl _
  · rw [h3]
    exact (leS_total _ _).resolve_right ((gtS_iff _ _).1 (hp h h1))
/-- Of any heads, put one by one: of each thing the greatest. -/
theorem le_mostH {i : Int} {z : Int × Int × Int} : ∀ (m : List Hd) {l : List Hd}, Srt l → (leS (atS (mostH l m) i) z ↔ leS (atS l i) z ∧ ∀ h ∈ m, h.item = i → leS h.s z)
  | [], l, hs => by simp [mostH]
  | h :: m, l, hs => by
    show leS (atS (mostH (putH l h) m) i) z ↔ _
    rw [le_mostH m (putH_srt hs), atS_putH hs]
    by_cases hi : i = h.item
    · subst hi
      rw [if_pos rfl, maxS_le]
      constructor
      · rintro ⟨⟨h1, h2⟩, h3⟩
        refine ⟨h1, fun x hx hxi => ?_⟩
        rcases List.mem_cons.1 hx with rfl | hx
        · exact h2
        · exact h3 x hx hxi
      · rintro ⟨h1, h2⟩
        exact ⟨⟨h1, h2 h (by simp) rfl⟩, fun x hx hxi => h2 x (List.mem_cons_of_mem _ hx) hxi⟩
    · rw [if_neg hi]
      constructor
      · rintro ⟨h1, h3⟩
        refine ⟨h1, fun x hx hxi => ?_⟩
        rcases List.mem_cons.1 hx with rfl | hx
        · exact absurd hxi.symm hi
        · exact h3 x hx hxi
      · rintro ⟨h1, h2⟩
        exact ⟨h1, fun x hx hxi => h2 x (List.mem_cons_of_mem _ hx) hxi⟩
theorem le_at_iff {l : List Hd} (hs : Srt l) {i : Int} {z : Int × Int × Int} (hz : leS (0, 0, 0) z) : leS (atS l i) z ↔ ∀ h ∈ l, h.item = i → leS h.s z := by
  rcases atS_cases (i := i) l with ⟨h1, h2⟩ | ⟨x, h1, h2, h3⟩
  · rw [h1]
    exact ⟨fun _ h hh hi => absurd hi (h2 h hh), fun _ => hz⟩
  · rw [h3]
    constructor
    · intro h y hy hyi
      have := atS_mem hs hy
      rw [hyi, h3] at this
      rw [← this]
      exact h
    · exact fun h => h x h1 h2
theorem at_mostH {l m : List Hd} (hl : Srt l) (hm : Srt m) (hp : Pos l) (i : Int) : atS (mostH l m) i = maxS (atS l i) (atS m i) := by
  refine leS_anti ?_ ?_
  · rw [le_mostH m hl]
    refine ⟨le_maxS_left _ _, fun h hh hi => ?_⟩
    have := atS_mem hm hh
    rw [hi] at this
    rw [← this]
    exact le_maxS_right _ _
  · rw [maxS_le]
    have h1 := (le_mostH (i := i) m hl).1 (leS_refl (atS (mostH l m) i))
    refine ⟨h1.1, ?_⟩
    refine (le_at_iff hm ?_).2 h1.2
    exact leS_trans (zero_le_at hp i) h1.1
theorem pos_mostH {l m : List Hd} (hl : Pos l) (hm : Pos m) : Pos (mostH l m) := fun h hh => by
  rcases mostH_mem m hh with h1 | h1
  · exact hl h h1
  · exact hm h h1
/-- Heads that say the same are the same. -/
theorem ext_at : ∀ {l m : List Hd}, Srt l → Srt m → Pos l → Pos m → (∀ i, atS l i = atS m i) → l = m
  | [], [], _, _, _, _, _ => rfl
  | [], y :: m, _, hm, _, pm, h => by
    have := h y.item
    rw [atS, atS, if_pos rfl] at this
    have hp := pm y (by simp)
    rw [gtS_iff, ← this] at hp
    exact absurd (leS_refl _) hp
  | x :: l, [], hl, _, pl, _, h => by
    have := h x.item
    rw [atS, atS, if_pos rfl] at this
    have hp := pl x (by simp)
    rw [gtS_iff, this] at hp
    exact absurd (leS_refl _) hp
  | x :: l, y :: m, hl, hm, pl, pm, h => by
    obtain ⟨l1, l2⟩ := List.pairwise_cons.1 hl
    obtain ⟨m1, m2⟩ := List.pairwise_cons.1 hm
    have nz : ∀ {h : Hd} {l : List Hd}, Pos (h :: l) → h.s ≠ (0, 0, 0) := fun {h l} p e => by
      have hp := p h (by simp)
      rw [gtS_iff, e] at hp
      exact hp (leS_refl _)
    have hxy : x.item = y.item := by
      rcases Int.lt_trichotomy x.item y.item with hlt | he | hgt
      · have h1 := h x.item
        rw [atS, if_pos rfl, atS_none (l := y :: m) fun z hz => by
          rcases List.mem_cons.1 hz with rfl | hz
          · omega
          · have := m1 z hz; omega] at h1
        exact absurd h1 (nz pl)
      · exact he
      · have h1 := h y.item
        rw [atS_none (l := x :: l) (fun z hz => by
          rcases List.mem_cons.1 hz with rfl | hz
          · omega
          · have := l1 z hz; omega), atS, if_pos rfl] at h1
        exact absurd h1.symm (nz pm)
    have hs : x.s = y.s := by
      have h1 := h x.item
      rw [atS, if_pos rfl, hxy, atS, if_pos rfl] at h1
      exact h1
    have he : x = y := by
      obtain ⟨i, a, b, c⟩ := x
      obtain ⟨i', a', b', c'⟩ := y
      simp only [Hd.s, Prod.mk.injEq] at hs hxy
      obtain ⟨e1, e2, e3⟩ := hs
      subst hxy e1 e2 e3
      rfl
    subst he
    rw [ext_at l2 m2 (fun h hh => pl h (List.mem_cons_of_mem _ hh)) (fun h hh => pm h (List.mem_cons_of_mem _ hh)) fun i => ?_]
    by_cases hi : x.item = i
    · rw [atS_none fun z hz => by have := l1 z hz; omega, atS_none fun z hz => by have := m1 z hz; omega]
    · have h1 := h i
      rw [atS, atS, if_neg hi, if_neg hi] at h1
      exact h1
theorem within_iff {l m : List Hd} (hs : Srt l) (pm : Pos m) : withinH l m = true ↔ ∀ i, leS (atS l i) (atS m i) := by
  unfold withinH
  rw [List.all_eq_true]
  constructor
  · intro h i
    refine (le_at_iff hs (zero_le_at pm i)).2 fun x hx hxi => ?_
    have := h x hx
    rw [Bool.not_eq_true', decide_eq_false_iff_not, ltS_iff, Classical.not_not, hxi] at this
    exact this
  · intro h x hx
    rw [Bool.not_eq_true', decide_eq_false_iff_not, ltS_iff, Classical.not_not]
    have := h x.item
    rw [atS_mem hs hx] at this
    exact this
end Go.Proofs.Ytmbboljcgpccfaa.Pl
