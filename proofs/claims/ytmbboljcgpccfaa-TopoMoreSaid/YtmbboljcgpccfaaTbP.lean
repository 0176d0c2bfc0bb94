/-
  What is proved here: over how many edges each is from one, as the code steps.
  Conditions: none.
-/
import Derived.Test.YtmbboljcgpccfaaTaP
set_option linter.unusedVariables false
set_option linter.unusedSimpArgs false
set_option maxRecDepth 100000
set_option maxHeartbeats 8000000
namespace Go.Proofs.Ytmbboljcgpccfaa.Pl
open Go Go.Proofs Go.Proofs.Ev Go.Proofs.Dv Cd

/-! ### The plain steps -/
/-- One look round from one: places from i on. -/
def lookR (e : List (Int × Int)) (a : Int) : Nat → Nat → List Int → List Int → List Int × List Int
  | 0, _, out, todo => (out, todo)
  | m + 1, i, out, todo => if (out.getD i 0 < 0 ∧ besE e a ((i : Int) + 1) = true) then lookR e a m (i + 1) (out.set i (out.getD (a - 1).toNat 0 + 1)) (todo ++ [(i : Int) + 1]) else lookR e a m (i + 1) out todo
def bfs (e : List (Int × Int)) : Nat → List Int → List Int → List Int
  | 0, out, _ => out
  | k + 1, out, todo => match todo with
    | [] => out
    | a :: r => bfs e k (lookR e a out.length 0 out (a :: r)).1 (lookR e a out.length 0 out (a :: r)).2.tail
def negs (l : List Int) : Nat := (l.filter fun z => decide (z < 0)).length
theorem negs_set : ∀ (l : List Int) (i : Nat) (v : Int), l.getD i 0 < 0 → 0 ≤ v → negs (l.set i v) + 1 = negs l
  | [], i, v, h, _ => by simp at h
  | x :: r, 0, v, h, hv => by
    have hx : x < 0 := by simpa using h
    have : ¬ v < 0 := by omega
    simp [negs, hx, this]
  | x :: r, i + 1, v, h, hv => by
    have := negs_set r i v (by simpa using h) hv
    simp only [List.set_cons_succ]
    simp only [negs, List.filter_cons] at this ⊢
    split <;> simp_all <;> omega
/-- What holds all along: so many places; what is there is at least -1 and less than so much; who is to be looked round from is within, and seen. -/
structure Bok (n : Nat) (out todo : List Int) : Prop where
  len : out.length = n
  lo : ∀ z ∈ out, -1 ≤ z ∧ z ≤ 100 - (negs out : Int)
  todo : ∀ a ∈ todo, 1 ≤ a ∧ a ≤ n ∧ 0 ≤ out.getD (a - 1).toNat 0
theorem getD_mem {l : List Int} {i : Nat} (h : i < l.length) : l.getD i 0 ∈ l := by
  rw [List.getD_eq_getElem?_getD, List.getElem?_eq_getElem h]
  exact List.getElem_mem h
theorem getD_set {l : List Int} {i j : Nat} {v : Int} (h : i < l.length) : (l.set i v).getD j 0 = if i = j then v else l.getD j 0 := by
  rw [List.getD_eq_getElem?_getD, List.getElem?_set, List.getD_eq_getElem?_getD]
  by_cases hij : i = j
  · subst hij
    simp [h]
  · simp [hij]
theorem Bok.set {n : Nat} {out todo : List Int} (b : Bok n out todo) {a : Int} (ha : 1 ≤ a ∧ a ≤ n ∧ 0 ≤ out.getD (a - 1).toNat 0) {i : Nat} (hi : i < n) (h : out.getD i 0 < 0) : Bok n (out.set i (out.getD (a - 1).toNat 0 + 1)) (todo ++ [(i : Int) + 1]) := by
  have hal : (a - 1).toNat < out.length := by rw [b.len]; omega
  have hil : i < out.length := by rw [b.len]; exact hi
  have hv := b.lo _ (getD_mem hal)
  have hn := negs_set out i (out.getD (a - 1).toNat 0 + 1) h (by omega)
  refine ⟨by simp [b.len], fun z hz => ?_, fun y hy => ?_⟩
  · rcases List.mem_or_eq_of_mem_set hz with hz | rfl
    · have := b.lo z hz
      omega
    · omega
  · rcases List.mem_append.1 hy with hy | hy
    · obtain ⟨y1, y2, y3⟩ := b.todo y hy
      refine ⟨y1, y2, ?_⟩
      rw [getD_set hil]
      split
      · omega
      · exact y3
    · simp at hy
      subst hy
      refine ⟨by omega, by omega, ?_⟩
      rw [getD_set hil, if_pos (by omega)]
      omega
end Go.Proofs.Ytmbboljcgpccfaa.Pl
