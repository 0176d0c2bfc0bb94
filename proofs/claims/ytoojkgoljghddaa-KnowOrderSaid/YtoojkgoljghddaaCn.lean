/-
  What is proved here: where a key stands in a row that rises.
  Conditions: none.
-/
import Derived.Test.YtoojkgoljghddaaDv3
set_option linter.unusedVariables false
set_option linter.unusedSimpArgs false
namespace Go.Proofs.Ytoojkgoljghddaa.Pl
open Go Go.Proofs

/-- How many stand ahead of a key. -/
def cntK {α : Type} (key : α → Int) (t : Int) : List α → Nat
  | [] => 0
  | x :: r => if key x < t then cntK key t r + 1 else 0
def Rise {α : Type} (key : α → Int) (l : List α) : Prop := l.Pairwise fun x y => key x < key y
theorem cntK_le {α : Type} (key : α → Int) (t : Int) : ∀ (l : List α), cntK key t l ≤ l.length
  | [] => Nat.le_refl _
  | x :: r => by
    simp only [cntK]
    split
    · have := cntK_le key t r
      simp
      omega
    · simp
theorem cntK_iff {α : Type} {key : α → Int} {t : Int} : ∀ {l : List α}, Rise key l → ∀ (k : Nat) (h : k < l.length), (key l[k] < t ↔ k < cntK key t l)
  | [], _, k, h => by simp at h
  | x :: r, hs, k, h => by
    obtain ⟨h1, h2⟩ := List.pairwise_cons.1 hs
    simp only [cntK]
    split
    · rename_i hx
      cases k with
      | zero => simpa using hx
      | succ k =>
        have := cntK_iff (t := t) h2 k (by simpa using h)
        simp only [List.getElem_cons_succ]
        rw [this]
        omega
    · rename_i hx
      cases k with
      | zero => simpa using hx
      | succ k =>
        simp only [List.getElem_cons_succ]
        have := h1 _ (List.getElem_mem (show k < r.length by simpa using h))
        omega
/-- Is it there? -/
def isK {α : Type} (key : α → Int) (t : Int) (l : List α) : Bool := match l[cntK key t l]? with
  | some x => decide (key x = t)
  | none => false
open Go.Proofs.Ev Go.Proofs.Dv
theorem wrap_u64 (x : Int) (h0 : 0 ≤ x) (h1 : x < 18446744073709551616) : wrapF .u64 x = x := by
  rw [wrapF_eq]
  simp [IntKind.wrap, IntKind.bits, IntKind.signed]
  exact Int.emod_eq_of_lt h0 h1
/-- The middle of two places. -/
theorem bs_w (i j h : Nat) (hh : h = (i + j) / 2) (hj : i + j < 4000000) : wrapF .i64 ((i : Int) + (j : Int)) = (i : Int) + (j : Int) ∧ wrapF .u64 ((i : Int) + (j : Int)) = (i : Int) + (j : Int) ∧ bitV .shr .u64 ((i : Int) + (j : Int)) .u64 1 = some (h : Int) ∧ wrapF .i64 (h : Int) = h ∧ wrapF .i64 ((h : Int) + 1) = (h : Int) + 1 := by
  have b0 : (h : Int) < 4000000 := by omega
  refine ⟨wrap_id _ (by omega) (by omega), wrap_u64 _ (by omega) (by omega), ?_, wrap_id _ (by omega) (by omega), wrap_id _ (by omega) (by omega)⟩
  have : ((i : Int) + (j : Int)).fdiv 2 = (h : Int) := by
    rw [Int.fdiv_eq_ediv_of_nonneg _ (by omega)]
    omega
  rw [← this]
  rfl

theorem turn_set {α : Type} (enc : α → List F) (y : α) (h : ∀ x, (enc x).length = (enc y).length) : ∀ (l : List α) (q k : Nat), turnRows (rowU (q + k) 0 (enc y)) q (l.map enc) = (l.set k y).map enc
  | [], q, k => by simp [turnRows]
  | x :: r, q, 0 => by
    have hx : (enc x).drop (enc y).length = [] := List.drop_eq_nil_of_le (Nat.le_of_eq (h x))
    have hr : ∀ (q2 : Nat), q < q2 → ∀ (l : List α), turnRows (rowU q 0 (enc y)) q2 (l.map enc) = l.map enc := by
      intro q2 hq l
      induction l generalizing q2 with
      | nil => rfl
      | cons z l ih =>
        simp only [List.map_cons, turnRows]
        rw [ih (q2 + 1) (by omega)]
        simp [rowU, show ¬ q2 = q by omega]
    simp only [List.map_cons, turnRows, Nat.add_zero, List.set_cons_zero]
    rw [hr (q + 1) (by omega)]
    simp [rowU, hx]
  | x :: r, q, k + 1 => by
    have := turn_set enc y h r (q + 1) k
    simp only [List.map_cons, turnRows, List.set_cons_succ]
    rw [show q + 1 + k = q + (k + 1) by omega] at this
    rw [this]
    simp [rowU]
theorem isK_iff {α : Type} (key : α → Int) (t : Int) (l : List α) : (isK key t l = false ∧ ∀ x, l[cntK key t l]? = some x → key x ≠ t) ∨ ∃ (h : cntK key t l < l.length), isK key t l = true ∧ key l[cntK key t l] = t := by
  by_cases hlt : cntK key t l < l.length
  · by_cases hk : key l[cntK key t l] = t
    · exact .inr ⟨hlt, by simp [isK, hlt, hk], hk⟩
    · refine .inl ⟨by simp [isK, hlt, hk], fun x hx => ?_⟩
      rw [List.getElem?_eq_getElem hlt] at hx
      cases hx
      exact hk
  · refine .inl ⟨?_, fun x hx => ?_⟩
    · unfold isK
      rw [List.getElem?_eq_none (by omega)]
    · rw [List.getElem?_eq_none (by omega)] at hx
      cases hx

/-- A row that is built: nil, or a slice of one's own. -/
def OwnD (z : Nat) (rows : List (List F)) (L : List Nat) (d : D) : Prop := (rows = [] ∧ d = .nils) ∨ ∃ t, t ∈ L ∧ d = .ow t 0 z rows
end Go.Proofs.Ytoojkgoljghddaa.Pl
