/-
  What is proved here: the boxes of a filter, as a plain law.
  Conditions: none.
-/
import Derived.Test.YtiloimenibbeoaaNgM
set_option linter.unusedVariables false
set_option linter.unusedSimpArgs false
namespace Go.Proofs.Ytiloimenibbeoaa.Pl
open Go Go.Proofs Go.Proofs.Ev Go.Proofs.Dv Cd

def SOk (s : Side) : Prop := s.h = 0 ∨ s.h = 1 ∨ (s.h = 2 ∧ s.lo ≤ s.hi)
structure BOk (b : Box) (n : Nat) : Prop where
  k0 : SOk b.k0
  k1 : SOk b.k1
  k2 : SOk b.k2
  k3 : SOk b.k3
  nots : b.nots.length ≤ n
theorem BOk.mono {b : Box} {n m : Nat} (h : BOk b n) (hnm : n ≤ m) : BOk b m := ⟨h.k0, h.k1, h.k2, h.k3, Nat.le_trans h.nots hnm⟩
theorem side_ok {a b : Side} (ha : SOk a) (hb : SOk b) (h : (sideB a b).2 = true) : SOk (sideB a b).1 := by
  unfold sideB at *
  split
  · exact hb
  · rename_i h0
    rw [if_neg h0] at h
    split
    · exact ha
    · rename_i h1
      rw [if_neg h1] at h
      split
      · rename_i h2
        rw [if_pos h2] at h
        cases h
      · rename_i h2
        rw [if_neg h2] at h
        split
        · rename_i h3
          exact .inr (.inl h3)
        · exact ha
theorem side_sem {a b : Side} (ha : SOk a) (hb : SOk b) (o : Option Int) : ((sideB a b).2 = true → letsS (sideB a b).1 o = (letsS a o && letsS b o)) ∧ ((sideB a b).2 = false → (letsS a o && letsS b o) = false) := by
  rcases ha with h | h | ⟨h, hh⟩
  · have e : sideB a b = (b, true) := by unfold sideB; rw [if_pos h]
    rw [e]
    refine ⟨fun _ => ?_, fun k => by cases k⟩
    simp [letsS, h]
  · rcases hb with g | g | ⟨g, gg⟩
    · have e : sideB a b = (a, true) := by unfold sideB; rw [if_neg (by omega), if_pos g]
      rw [e]
      refine ⟨fun _ => ?_, fun k => by cases k⟩
      simp [letsS, g]
    · have e : sideB a b = (⟨1, if a.lo < b.lo then b.lo else a.lo, if b.hi < a.hi then b.hi else a.hi⟩, decide ((if a.lo < b.lo then b.lo else a.lo) ≤ (if b.hi < a.hi then b.hi else a.hi))) := by unfold sideB; rw [if_neg (by omega), if_neg (by omega), if_neg (by omega), if_pos h, h]
      rw [e]
      simp only [letsS, h, g, if_true]
      cases o with
      | none => simp
      | some n =>
        simp only
        constructor
        · intro _
          rw [Bool.eq_iff_iff]
          simp only [Bool.and_eq_true, decide_eq_true_eq]
          split <;> split <;> omega
        · intro k
          have k := of_decide_eq_false k
          rw [← Bool.not_eq_true]
          simp only [Bool.and_eq_true, decide_eq_true_eq]
          intro q
          apply k
          split <;> split <;> omega
    · have e : sideB a b = (⟨0, 0, 0⟩, false) := by unfold sideB; rw [if_neg (by omega), if_neg (by omega), if_pos (by omega)]
      rw [e]
      refine ⟨fun k => (by cases k), fun _ => ?_⟩
      cases o <;> simp [letsS, h, g]
  · rcases hb with g | g | ⟨g, gg⟩
    · have e : sideB a b = (a, true) := by unfold sideB; rw [if_neg (by omega), if_pos g]
      rw [e]
      refine ⟨fun _ => ?_, fun k => by cases k⟩
      simp [letsS, g]
    · have e : sideB a b = (⟨0, 0, 0⟩, false) := by unfold sideB; rw [if_neg (by omega), if_neg (by omega), if_pos (by omega)]
      rw [e]
      refine ⟨fun k => (by cases k), fun _ => ?_⟩
      cases o <;> simp [letsS, h, g]
    · have e : sideB a b = (a, true) := by unfold sideB; rw [if_neg (by omega), if_neg (by omega), if_neg (by omega), if_neg (by omega), decide_eq_true hh]
      rw [e]
      refine ⟨fun _ => ?_, fun k => by cases k⟩
      simp [letsS, h, g]
/-! ### Fronts -/
theorem front_iff (p s : List UInt8) : front p s = true ↔ p <+: s := by
  unfold front
  rw [decide_eq_true_eq, List.prefix_iff_eq_take]
  constructor
  · rintro ⟨_, h⟩
    exact h.symm
  · intro h
    refine ⟨?_, h.symm⟩
    have := congrArg List.length h
    rw [List.length_take] at this
    omega
theorem front_trans {p q t : List UInt8} (h : front q p = true) (k : front p t = true) : front q t = true := by
  rw [front_iff] at *
  exact h.trans k
theorem front_both {p q t : List UInt8} (hl : q.length ≤ p.length) (h : front p t = true) (k : front q t = true) : front q p = true := by
  rw [front_iff] at *
  exact List.prefix_of_prefix_length_le k h hl
theorem any_nots (p q : List (List UInt8)) (f : List UInt8 → Bool) : (cmpc (sortB leS (p ++ q))).any f = (p.any f || q.any f) := by
  rw [Bool.eq_iff_iff, Bool.or_eq_true, List.any_eq_true, List.any_eq_true, List.any_eq_true]
  constructor
  · rintro ⟨x, h1, h2⟩
    rw [cmpc_mem, (sortB_perm _).mem_iff, List.mem_append] at h1
    rcases h1 with h1 | h1
    · exact .inl ⟨x, h1, h2⟩
    · exact .inr ⟨x, h1, h2⟩
  · rintro (⟨x, h1, h2⟩ | ⟨x, h1, h2⟩)
    · exact ⟨x, by rw [cmpc_mem, (sortB_perm _).mem_iff, List.mem_append]; exact .inl h1, h2⟩
    · exact ⟨x, by rw [cmpc_mem, (sortB_perm _).mem_iff, List.mem_append]; exact .inr h1, h2⟩
/-- What of a box hangs on the tag. -/
def letsG (b : Box) (tag : List UInt8) : Bool := front b.tag tag && !(b.nots.any fun x => front x tag)
theorem meetT_sem (s0 s1 s2 s3 : Side) (p q : Box) (hl : q.tag.length ≤ p.tag.length) (tag : List UInt8) :
    (∀ x, meetT s0 s1 s2 s3 p q = some x → letsG x tag = (letsG p tag && letsG q tag) ∧ x.k0 = s0 ∧ x.k1 = s1 ∧ x.k2 = s2 ∧ x.k3 = s3 ∧ x.nots.length ≤ p.nots.length + q.nots.length) ∧ (meetT s0 s1 s2 s3 p q = none → (letsG p tag && letsG q tag) = false) := by
  unfold meetT
  by_cases hf : front q.tag p.tag = true
  · cases hw : (cmpc (sortB leS (p.nots ++ q.nots))).any fun x => front x p.tag with
    | false =>
      rw [if_pos ⟨hf, rfl⟩]
      refine ⟨fun x hx => ?_, fun h => by cases h⟩
      cases hx
      refine ⟨?_, rfl, rfl, rfl, rfl, ?_⟩
      · simp only [letsG, any_nots]
        cases hp : front p.tag tag with
        | false => simp
        | true =>
          rw [front_trans hf hp]
          cases p.nots.any fun x => front x tag <;> cases q.nots.any fun x => front x tag <;> rfl
      · have h1 := cmpc_len (sortB leS (p.nots ++ q.nots))
        rw [sortB_length', List.length_append] at h1
        exact h1
    | true =>
      rw [if_neg (by simp)]
      refine ⟨fun x hx => (by cases hx), fun _ => ?_⟩
      rw [any_nots, Bool.or_eq_true, List.any_eq_true, List.any_eq_true] at hw
      simp only [letsG]
      cases hp : front p.tag tag with
      | false => simp
      | true =>
        have : (p.nots.any fun x => front x tag) = true ∨ (q.nots.any fun x => front x tag) = true := by
          rcases hw with ⟨x, h1, h2⟩ | ⟨x, h1, h2⟩
          · exact .inl (List.any_eq_true.2 ⟨x, h1, front_trans h2 hp⟩)
          · exact .inr (List.any_eq_true.2 ⟨x, h1, front_trans h2 hp⟩)
        rcases this with h | h <;> rw [h] <;> simp
  · rw [if_neg (fun h => hf h.1)]
    refine ⟨fun x hx => (by cases hx), fun _ => ?_⟩
    simp only [letsG]
    cases hp : front p.tag tag with
    | false => simp
    | true =>
      cases hq : front q.tag tag with
      | false => simp
      | true => exact absurd (front_both hl hp hq) hf
theorem letsB_eq (b : Box) (ats : List (Int × Int)) (tag : List UInt8) : letsB b ats tag = (letsS b.k0 (attr ats 0) && (letsS b.k1 (attr ats 1) && (letsS b.k2 (attr ats 2) && (letsS b.k3 (attr ats 3) && letsG b tag)))) := rfl
theorem and5 (a0 a1 a2 a3 a4 b0 b1 b2 b3 b4 : Bool) : ((a0 && (a1 && (a2 && (a3 && a4)))) && (b0 && (b1 && (b2 && (b3 && b4))))) = ((a0 && b0) && ((a1 && b1) && ((a2 && b2) && ((a3 && b3) && (a4 && b4))))) := by
  cases a0 <;> cases a1 <;> cases a2 <;> cases a3 <;> cases a4 <;> cases b0 <;> cases b1 <;> cases b2 <;> cases b3 <;> cases b4 <;> rfl
theorem meet_sem {a b : Box} {n m : Nat} (ha : BOk a n) (hb : BOk b m) (ats : List (Int × Int)) (tag : List UInt8) :
    (∀ x, meetB a b = some x → BOk x (n + m) ∧ letsB x ats tag = (letsB a ats tag && letsB b ats tag)) ∧ (meetB a b = none → (letsB a ats tag && letsB b ats tag) = false) := by
  rw [letsB_eq a, letsB_eq b, and5]
  have z0 := side_sem ha.k0 hb.k0 (attr ats 0)
  have z1 := side_sem ha.k1 hb.k1 (attr ats 1)
  have z2 := side_sem ha.k2 hb.k2 (attr ats 2)
  have z3 := side_sem ha.k3 hb.k3 (attr ats 3)
  unfold meetB
  by_cases hs : (sideB a.k0 b.k0).2 = true ∧ (sideB a.k1 b.k1).2 = true ∧ (sideB a.k2 b.k2).2 = true ∧ (sideB a.k3 b.k3).2 = true
  · rw [if_pos hs]
    obtain ⟨h0, h1, h2, h3⟩ := hs
    have na := ha.nots
    have nb := hb.nots
    have fin : ∀ (p q : Box), q.tag.length ≤ p.tag.length → p.nots.length + q.nots.length ≤ n + m → (letsG p tag && letsG q tag) = (letsG a tag && letsG b tag) →
        (∀ x, meetT (sideB a.k0 b.k0).1 (sideB a.k1 b.k1).1 (sideB a.k2 b.k2).1 (sideB a.k3 b.k3).1 p q = some x → BOk x (n + m) ∧ letsB x ats tag = ((letsS a.k0 (attr ats 0) && letsS b.k0 (attr ats 0)) && ((letsS a.k1 (attr ats 1) && letsS b.k1 (attr ats 1)) && ((letsS a.k2 (attr ats 2) && letsS b.k2 (attr ats 2)) && ((letsS a.k3 (attr ats 3) && letsS b.k3 (attr ats 3)) && (letsG a tag && letsG b tag)))))) ∧
        (meetT (sideB a.k0 b.k0).1 (sideB a.k1 b.k1).1 (sideB a.k2 b.k2).1 (sideB a.k3 b.k3).1 p q = none → ((letsS a.k0 (attr ats 0) && letsS b.k0 (attr ats 0)) && ((letsS a.k1 (attr ats 1) && letsS b.k1 (attr ats 1)) && ((letsS a.k2 (attr ats 2) && letsS b.k2 (attr ats 2)) && ((letsS a.k3 (attr ats 3) && letsS b.k3 (attr ats 3)) && (letsG a tag && letsG b tag))))) = false) := by
      intro p q hl hn hg
      obtain ⟨k1, k2⟩ := meetT_sem (sideB a.k0 b.k0).1 (sideB a.k1 b.k1).1 (sideB a.k2 b.k2).1 (sideB a.k3 b.k3).1 p q hl tag
      constructor
      · intro x hx
        obtain ⟨e1, e2, e3, e4, e5, e6⟩ := k1 x hx
        refine ⟨⟨by rw [e2]; exact side_ok ha.k0 hb.k0 h0, by rw [e3]; exact side_ok ha.k1 hb.k1 h1, by rw [e4]; exact side_ok ha.k2 hb.k2 h2, by rw [e5]; exact side_ok ha.k3 hb.k3 h3, by omega⟩, ?_⟩
        rw [letsB_eq, e1, e2, e3, e4, e5, z0.1 h0, z1.1 h1, z2.1 h2, z3.1 h3, hg]
      · intro hx
        rw [← hg, k2 hx]
        simp
    by_cases hl : a.tag.length < b.tag.length
    · rw [if_pos hl]
      exact fin b a (by omega) (by omega) (Bool.and_comm _ _)
    · rw [if_neg hl]
      exact fin a b (by omega) (by omega) rfl
  · rw [if_neg hs]
    refine ⟨fun x hx => (by cases hx), fun _ => ?_⟩
    cases h0 : (sideB a.k0 b.k0).2 with
    | false => rw [z0.2 h0]; simp
    | true =>
      cases h1 : (sideB a.k1 b.k1).2 with
      | false => rw [z1.2 h1]; simp
      | true =>
        cases h2 : (sideB a.k2 b.k2).2 with
        | false => rw [z2.2 h2]; simp
        | true =>
          cases h3 : (sideB a.k3 b.k3).2 with
          | false => rw [z3.2 h3]; simp
          | true => exact absurd ⟨h0, h1, h2, h3⟩ hs
/-! ### Rows of boxes -/
theorem rowM_sem {a : Box} {n k : Nat} (ha : BOk a n) (ats : List (Int × Int)) (tag : List UInt8) : ∀ (m : List Box), (∀ b ∈ m, BOk b k) → (∀ x ∈ rowM a m, BOk x (n + k)) ∧ (rowM a m).any (fun b => letsB b ats tag) = (letsB a ats tag && m.any fun b => letsB b ats tag)
  | [], _ => ⟨fun x hx => by simp [rowM] at hx, by simp [rowM]⟩
  | b :: m, h => by
    obtain ⟨i1, i2⟩ := rowM_sem ha ats tag m fun x hx => h x (by simp [hx])
    obtain ⟨k1, k2⟩ := meet_sem ha (h b (by simp)) ats tag
    cases hx : meetB a b with
    | none =>
      have e : rowM a (b :: m) = rowM a m := by simp [rowM, List.filterMap_cons, hx]
      rw [e]
      refine ⟨i1, ?_⟩
      rw [i2, List.any_cons]
      have := k2 hx
      cases h1 : letsB a ats tag with
      | false => simp
      | true =>
        rw [h1, Bool.true_and] at this
        rw [this]
        simp
    | some x =>
      have e : rowM a (b :: m) = x :: rowM a m := by simp [rowM, List.filterMap_cons, hx]
      rw [e]
      obtain ⟨k3, k4⟩ := k1 x hx
      refine ⟨fun y hy => ?_, ?_⟩
      · rcases List.mem_cons.1 hy with rfl | hy
        · exact k3
        · exact i1 y hy
      · rw [List.any_cons, i2, k4, List.any_cons]
        cases letsB a ats tag <;> simp
theorem meets_sem {n k : Nat} (ats : List (Int × Int)) (tag : List UInt8) (m : List Box) (hm : ∀ b ∈ m, BOk b k) : ∀ (l : List Box), (∀ b ∈ l, BOk b n) → (∀ x ∈ meetsB l m, BOk x (n + k)) ∧ (meetsB l m).any (fun b => letsB b ats tag) = ((l.any fun b => letsB b ats tag) && m.any fun b => letsB b ats tag)
  | [], _ => ⟨fun x hx => by simp [meetsB] at hx, by simp [meetsB]⟩
  | a :: l, h => by
    obtain ⟨i1, i2⟩ := meets_sem ats tag m hm l fun x hx => h x (by simp [hx])
    obtain ⟨k1, k2⟩ := rowM_sem (h a (by simp)) ats tag m hm
    have e : meetsB (a :: l) m = rowM a m ++ meetsB l m := by simp [meetsB]
    rw [e]
    refine ⟨fun y hy => ?_, ?_⟩
    · rcases List.mem_append.1 hy with hy | hy
      · exact k1 y hy
      · exact i1 y hy
    · rw [List.any_append, k2, i2, List.any_cons]
      cases letsB a ats tag <;> simp
/-! ### The boxes of a filter -/
def fewB (l : List Box) : Option (List Box) := if 16 < l.length then none else some l
def ofB : Flt → Bool → Option (List Box)
  | .leaf op k lo hi tag, t => if op = 1 then some (if t = true then [] else [box0]) else if op = 4 then some (if t = true then [{ box0 with nots := [tag] }] else [{ box0 with tag := tag }]) else some (if t = true then apartB k lo hi else [putB box0 k ⟨1, lo, hi⟩])
  | .not a, t => ofB a (!t)
  | .two op a b, t => match ofB a t with
    | none => none
    | some l => match ofB b t with
      | none => none
      | some m => fewB (if decide (op = 6) = t then meetsB l m else l ++ m)
theorem attr_mem : ∀ (ats : List (Int × Int)) (k n : Int), attr ats k = some n → ∃ a ∈ ats, a.2 = n
  | [], k, n, h => by simp [attr] at h
  | a :: r, k, n, h => by
    simp only [attr] at h
    split at h
    · cases h
      exact ⟨a, by simp, rfl⟩
    · obtain ⟨b, h1, h2⟩ := attr_mem r k n h
      exact ⟨b, by simp [h1], h2⟩
theorem side0_ok : SOk side0 := .inl rfl
theorem put_ok (k : Int) (s : Side) (hs : SOk s) : BOk (putB box0 k s) 1 := by
  unfold putB box0
  split
  · exact ⟨hs, side0_ok, side0_ok, side0_ok, by simp⟩
  · split
    · exact ⟨side0_ok, hs, side0_ok, side0_ok, by simp⟩
    · split
      · exact ⟨side0_ok, side0_ok, hs, side0_ok, by simp⟩
      · split
        · exact ⟨side0_ok, side0_ok, side0_ok, hs, by simp⟩
        · exact ⟨side0_ok, side0_ok, side0_ok, side0_ok, by simp⟩
theorem lets_side0 (o : Option Int) : letsS side0 o = true := by simp [letsS, side0]
theorem lets_G0 (tag : List UInt8) : (front [] tag && !(([] : List (List UInt8)).any fun x => front x tag)) = true := by simp [front]
theorem put_lets (k : Int) (hk : 0 ≤ k ∧ k < 4) (s : Side) (ats : List (Int × Int)) (tag : List UInt8) : letsB (putB box0 k s) ats tag = letsS s (attr ats k) := by
  rcases (show k = 0 ∨ k = 1 ∨ k = 2 ∨ k = 3 by omega) with rfl | rfl | rfl | rfl <;> simp [putB, box0, letsB, lets_side0, front]
theorem apart_sem (k lo hi : Int) (hk : 0 ≤ k ∧ k < 4) (hl : 0 ≤ lo ∧ lo ≤ 99) (hh : 0 ≤ hi ∧ hi ≤ 99) (ats : List (Int × Int)) (ha : ∀ a ∈ ats, 0 ≤ a.2 ∧ a.2 ≤ 99) (tag : List UInt8) :
    (apartB k lo hi).any (fun b => letsB b ats tag) = !(match attr ats k with
      | some n => decide (lo ≤ n) && decide (n ≤ hi)
      | none => false) := by
  have hb : ∀ n, attr ats k = some n → 0 ≤ n ∧ n ≤ 99 := fun n h => by
    obtain ⟨a, h1, rfl⟩ := attr_mem ats k n h
    exact ha a h1
  unfold apartB
  cases ho : attr ats k with
  | none => simp [put_lets k hk, letsS, ho]
  | some n =>
    have := hb n ho
    rw [Bool.eq_iff_iff]
    by_cases h1 : 0 < lo <;> by_cases h2 : hi < 99 <;> simp [put_lets k hk, letsS, ho, h1, h2] <;> omega
theorem apart_ok (k lo hi : Int) : ∀ b ∈ apartB k lo hi, BOk b 1 := by
  intro b hb
  unfold apartB at hb
  rcases List.mem_cons.1 hb with rfl | hb
  · exact put_ok k _ (.inr (.inr ⟨rfl, Int.le_refl _⟩))
  · rcases List.mem_append.1 hb with hb | hb
    · split at hb
      · simp at hb; subst hb; exact put_ok k _ (.inr (.inl rfl))
      · cases hb
    · split at hb
      · simp at hb; subst hb; exact put_ok k _ (.inr (.inl rfl))
      · cases hb
theorem apart_len (k lo hi : Int) : (apartB k lo hi).length ≤ 3 := by
  unfold apartB
  by_cases h1 : 0 < lo <;> by_cases h2 : hi < 99 <;> simp [h1, h2]
theorem of_sem (ats : List (Int × Int)) (ha : ∀ a ∈ ats, 0 ≤ a.2 ∧ a.2 ≤ 99) (tag : List UInt8) : ∀ (f : Flt), f.ok → ∀ (t : Bool) (l : List Box), ofB f t = some l → (∀ b ∈ l, BOk b (leaves f)) ∧ l.length ≤ 16 ∧ l.any (fun b => letsB b ats tag) = (lets f ats tag != t)
  | .leaf op k lo hi ft, hf, t, l, h => by
    simp only [ofB] at h
    simp only [lets, leaves]
    rcases hf with ⟨rfl, _⟩ | ⟨rfl, k1, k2, l1, l2, rfl, _⟩ | ⟨rfl, k1, k2, l1, l2, l3, _⟩ | ⟨rfl, _⟩
    · simp at h
      subst h
      cases t
      · refine ⟨fun b hb => ?_, by simp, ?_⟩
        · simp at hb; subst hb; exact ⟨side0_ok, side0_ok, side0_ok, side0_ok, by simp [box0]⟩
        · simp [letsB, box0, lets_side0, front]
      · simp
    · simp at h
      subst h
      cases t
      · refine ⟨fun b hb => ?_, by simp, ?_⟩
        · simp at hb; subst hb; exact put_ok k _ (.inr (.inl rfl))
        · simp [put_lets k ⟨k1, k2⟩, letsS]
          cases attr ats k <;> rfl
      · refine ⟨apart_ok k _ _, by have := apart_len k hi hi; simp; omega, ?_⟩
        have := apart_sem k hi hi ⟨k1, k2⟩ ⟨l1, l2⟩ ⟨l1, l2⟩ ats ha tag
        simp only [if_true]
        rw [this]
        simp
        cases attr ats k <;> rfl
    · simp at h
      subst h
      cases t
      · refine ⟨fun b hb => ?_, by simp, ?_⟩
        · simp at hb; subst hb; exact put_ok k _ (.inr (.inl rfl))
        · simp [put_lets k ⟨k1, k2⟩, letsS]
          cases attr ats k <;> rfl
      · refine ⟨apart_ok k _ _, by have := apart_len k lo hi; simp; omega, ?_⟩
        have := apart_sem k lo hi ⟨k1, k2⟩ ⟨l1, by omega⟩ ⟨by omega, l3⟩ ats ha tag
        simp only [if_true]
        rw [this]
        simp
        cases attr ats k <;> rfl
    · simp at h
      subst h
      cases t
      · refine ⟨fun b hb => ?_, by simp, ?_⟩
        · simp at hb; subst hb; exact ⟨side0_ok, side0_ok, side0_ok, side0_ok, by simp [box0]⟩
        · simp [letsB, box0, lets_side0]
      · refine ⟨fun b hb => ?_, by simp, ?_⟩
        · simp at hb; subst hb; exact ⟨side0_ok, side0_ok, side0_ok, side0_ok, by simp⟩
        · have h0 : front [] tag = true := by simp [front]
          simp [letsB, box0, lets_side0, h0]
  | .not a, hf, t, l, h => by
    obtain ⟨h1, h2, h3⟩ := of_sem ats ha tag a hf (!t) l h
    refine ⟨h1, h2, ?_⟩
    rw [h3]
    simp only [lets]
    cases lets a ats tag <;> cases t <;> rfl
  | .two op a b, hf, t, l, h => by
    obtain ⟨hop, ha', hb'⟩ := hf
    simp only [ofB] at h
    split at h
    · cases h
    · rename_i l1 e1
      split at h
      · cases h
      · rename_i l2 e2
        obtain ⟨a1, a2, a3⟩ := of_sem ats ha tag a ha' t l1 e1
        obtain ⟨b1, b2, b3⟩ := of_sem ats ha tag b hb' t l2 e2
        generalize hX : (if decide (op = 6) = t then meetsB l1 l2 else l1 ++ l2) = X at h
        unfold fewB at h
        split at h
        · cases h
        · rename_i hlen
          cases h
          subst hX
          simp only [leaves, lets]
          refine ⟨?_, by omega, ?_⟩
          · split
            · exact (meets_sem ats tag l2 b1 l1 a1).1
            · intro x hx
              rcases List.mem_append.1 hx with hx | hx
              · exact (a1 x hx).mono (by omega)
              · exact (b1 x hx).mono (by omega)
          · split
            · rename_i ht
              rw [(meets_sem ats tag l2 b1 l1 a1).2, a3, b3]
              rcases hop with rfl | rfl
              · simp at ht; subst ht; cases lets a ats tag <;> cases lets b ats tag <;> rfl
              · simp at ht; subst ht; cases lets a ats tag <;> cases lets b ats tag <;> rfl
            · rename_i ht
              rw [List.any_append, a3, b3]
              rcases hop with rfl | rfl
              · simp at ht; subst ht; cases lets a ats tag <;> cases lets b ats tag <;> rfl
              · simp at ht; subst ht; cases lets a ats tag <;> cases lets b ats tag <;> rfl
end Go.Proofs.Ytiloimenibbeoaa.Pl
