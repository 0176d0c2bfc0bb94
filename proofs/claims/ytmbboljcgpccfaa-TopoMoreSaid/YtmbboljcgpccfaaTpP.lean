/-
  What is proved here: edges that rise: which they are; how far it is over any of them (plain).
  Conditions: none.
-/
import Derived.Test.YtmbboljcgpccfaaTgP
set_option linter.unusedVariables false
set_option linter.unusedSimpArgs false
set_option maxRecDepth 100000
set_option maxHeartbeats 8000000
namespace Go.Proofs.Ytmbboljcgpccfaa.Pl

theorem ltE_trans {x y z : Int × Int} (h1 : ltE x y) (h2 : ltE y z) : ltE x z := by
  unfold ltE at *
  omega
theorem ltE_ne {x y : Int × Int} (h : ltE x y) : x ≠ y := by
  rintro rfl
  unfold ltE at h
  omega
theorem ltE_total {x y : Int × Int} (h1 : ¬ ltE x y) (h2 : y ≠ x) : ltE y x := by
  unfold ltE at *
  have : ¬ (y.1 = x.1 ∧ y.2 = x.2) := fun h => h2 (Prod.ext h.1 h.2)
  omega
def insP (e : Int × Int) : List (Int × Int) → List (Int × Int)
  | [] => [e]
  | a :: r => if ltE e a then e :: a :: r else a :: insP e r
theorem mem_insP {e x : Int × Int} : ∀ {l : List (Int × Int)}, x ∈ insP e l ↔ x = e ∨ x ∈ l
  | [] => by simp [insP]
  | a :: r => by
    simp only [insP]
    split
    · simp
    · simp only [List.mem_cons, mem_insP (l := r)]
      constructor
      · rintro (h | h | h)
        · exact .inr (.inl h)
        · exact .inl h
        · exact .inr (.inr h)
      · rintro (h | h | h)
        · exact .inr (.inl h)
        · exact .inl h
        · exact .inr (.inr h)
theorem insP_len (e : Int × Int) : ∀ (l : List (Int × Int)), (insP e l).length = l.length + 1
  | [] => rfl
  | a :: r => by
    simp only [insP]
    split
    · rfl
    · simp [insP_len e r]
theorem insP_up {e : Int × Int} : ∀ {l : List (Int × Int)}, l.Pairwise ltE → e ∉ l → (insP e l).Pairwise ltE
  | [], _, _ => by simp [insP]
  | a :: r, h, hn => by
    have h' := List.pairwise_cons.1 h
    simp only [insP]
    split
    · rename_i hlt
      refine List.pairwise_cons.2 ⟨fun y hy => ?_, h⟩
      rcases List.mem_cons.1 hy with rfl | hy
      · exact hlt
      · exact ltE_trans hlt (h'.1 y hy)
    · rename_i hlt
      refine List.pairwise_cons.2 ⟨fun y hy => ?_, insP_up h'.2 (fun k => hn (by simp [k]))⟩
      rcases mem_insP.1 hy with rfl | hy
      · exact ltE_total hlt (fun k => hn (by simp [k]))
      · exact h'.1 y hy
theorem sub_of_up : ∀ (P l : List (Int × Int)), P.Pairwise ltE → l.Pairwise ltE → (∀ x ∈ l, x ∈ P) → l.Sublist P
  | [], l, _, _, h => by
    cases l with
    | nil => exact List.Sublist.slnil
    | cons a r => exact absurd (h a (by simp)) (by simp)
  | p :: P, [], _, _, _ => List.nil_sublist _
  | p :: P, a :: l, hP, hl, h => by
    have hP' := List.pairwise_cons.1 hP
    have hl' := List.pairwise_cons.1 hl
    by_cases hap : a = p
    · subst hap
      refine List.Sublist.cons_cons _ (sub_of_up P l hP'.2 hl'.2 fun x hx => ?_)
      rcases List.mem_cons.1 (h x (by simp [hx])) with rfl | hm
      · exact absurd rfl (ltE_ne (hl'.1 _ hx))
      · exact hm
    · have ha : a ∈ P := by
        rcases List.mem_cons.1 (h a (by simp)) with k | k
        · exact absurd k hap
        · exact k
      refine List.Sublist.cons _ (sub_of_up P (a :: l) hP'.2 hl fun x hx => ?_)
      rcases List.mem_cons.1 (h x hx) with rfl | hm
      · rcases List.mem_cons.1 hx with k | k
        · exact absurd k.symm hap
        · exact absurd rfl (ltE_ne (ltE_trans (hP'.1 a ha) (hl'.1 _ k)))
      · exact hm
def subs : List (Int × Int) → List (List (Int × Int))
  | [] => [[]]
  | a :: r => subs r ++ (subs r).map (a :: ·)
theorem mem_subs {l P : List (Int × Int)} (h : l.Sublist P) : l ∈ subs P := by
  induction h with
  | slnil => simp [subs]
  | cons a _ ih => simp [subs, ih]
  | cons_cons a _ ih => simp [subs, ih]
def allE : Nat → List (Int × Int)
  | 2 => [(1, 2)]
  | 3 => [(1, 2), (1, 3), (2, 3)]
  | 4 => [(1, 2), (1, 3), (1, 4), (2, 3), (2, 4), (3, 4)]
  | 5 => [(1, 2), (1, 3), (1, 4), (1, 5), (2, 3), (2, 4), (2, 5), (3, 4), (3, 5), (4, 5)]
  | _ => []
theorem allE_up : ∀ n, n ≤ 5 → (allE n).Pairwise ltE := by
  intro n h
  rcases (show n = 0 ∨ n = 1 ∨ n = 2 ∨ n = 3 ∨ n = 4 ∨ n = 5 by omega) with rfl | rfl | rfl | rfl | rfl | rfl <;> decide
theorem mem_allE (n : Nat) (h : n ≤ 5) (x : Int × Int) (h1 : 1 ≤ x.1) (h2 : x.1 < x.2) (h3 : x.2 ≤ n) : x ∈ allE n := by
  obtain ⟨a, b⟩ := x
  simp only at h1 h2 h3
  rcases (show n = 0 ∨ n = 1 ∨ n = 2 ∨ n = 3 ∨ n = 4 ∨ n = 5 by omega) with rfl | rfl | rfl | rfl | rfl | rfl <;> simp [allE] <;> omega
/-- Edges as they are made: rising, within, each from 2 on joined to a lower one. -/
structure Ed (n : Nat) (l : List (Int × Int)) : Prop where
  up : l.Pairwise ltE
  el : ∀ x ∈ l, 1 ≤ x.1 ∧ x.1 < x.2 ∧ x.2 ≤ n
theorem Ed.sub {n : Nat} {l : List (Int × Int)} (h : Ed n l) (hn : n ≤ 5) : l ∈ subs (allE n) := mem_subs (sub_of_up _ _ (allE_up n hn) h.up fun x hx => mem_allE n hn x (h.el x hx).1 (h.el x hx).2.1 (h.el x hx).2.2)
theorem allE_len (n : Nat) : (allE n).length ≤ 10 := by
  unfold allE
  split <;> simp
theorem Ed.len {n : Nat} {l : List (Int × Int)} (h : Ed n l) (hn : n ≤ 5) : l.length ≤ 10 :=
  Nat.le_trans (sub_of_up _ _ (allE_up n hn) h.up fun x hx => mem_allE n hn x (h.el x hx).1 (h.el x hx).2.1 (h.el x hx).2.2).length_le (allE_len n)
theorem Ed.fok {n : Nat} {l : List (Int × Int)} (h : Ed n l) (h1 : 1 ≤ n) (hn : n ≤ 5) : FOk n l := ⟨h1, hn, by have := h.len hn; omega, h.el, fun i hi => List.pairwise_iff_getElem.1 h.up i (i + 1) (by omega) hi (by omega)⟩
theorem Ed.ins {n : Nat} {l : List (Int × Int)} (h : Ed n l) {e : Int × Int} (he : 1 ≤ e.1 ∧ e.1 < e.2 ∧ e.2 ≤ n) (hm : e ∉ l) : Ed n (insP e l) := ⟨insP_up h.up hm, fun x hx => by
  rcases mem_insP.1 hx with rfl | hx
  · exact he
  · exact h.el x hx⟩
/-! ### Putting one in, as the code does -/
/-- What is before an edge that is put in, then the edges from there on. -/
def jA (e : Int × Int) : Bool → List (Int × Int) → List (Int × Int) → Option (Bool × List (Int × Int))
  | put, out, [] => some (put, out)
  | put, out, a :: r => if a = e then none else if put = false ∧ (e.1 < a.1 ∨ a.1 = e.1 ∧ e.2 < a.2) then jA e true (out ++ [e] ++ [a]) r else jA e put (out ++ [a]) r
def joinE (e : Int × Int) (l : List (Int × Int)) : List (Int × Int) := match jA e false [] l with
  | none => l
  | some (put, out) => if put = true then out else out ++ [e]
theorem jA_in (e : Int × Int) : ∀ (r : List (Int × Int)) (put : Bool) (out : List (Int × Int)), e ∈ r → jA e put out r = none
  | [], put, out, h => by simp at h
  | a :: r, put, out, h => by
    simp only [jA]
    by_cases ha : a = e
    · rw [if_pos ha]
    · have hr : e ∈ r := by
        rcases List.mem_cons.1 h with k | k
        · exact absurd k.symm ha
        · exact k
      rw [if_neg ha]
      split
      · exact jA_in e r _ _ hr
      · exact jA_in e r _ _ hr
theorem jA_true (e : Int × Int) : ∀ (r : List (Int × Int)) (out : List (Int × Int)), e ∉ r → jA e true out r = some (true, out ++ r)
  | [], out, h => by simp [jA]
  | a :: r, out, h => by
    have ha : ¬ a = e := fun k => h (by simp [k])
    simp only [jA]
    rw [if_neg ha, if_neg (by simp), jA_true e r _ (fun k => h (by simp [k]))]
    simp
theorem jA_false (e : Int × Int) : ∀ (r : List (Int × Int)) (out : List (Int × Int)), e ∉ r → jA e false out r = some (true, out ++ insP e r) ∨ jA e false out r = some (false, out ++ r) ∧ insP e r = r ++ [e]
  | [], out, h => .inr ⟨by simp [jA], rfl⟩
  | a :: r, out, h => by
    have ha : ¬ a = e := fun k => h (by simp [k])
    simp only [jA]
    rw [if_neg ha]
    have hc : (e.1 < a.1 ∨ a.1 = e.1 ∧ e.2 < a.2) ↔ ltE e a := by unfold ltE; omega
    by_cases hl : ltE e a
    · rw [if_pos ⟨by trivial, hc.2 hl⟩, jA_true e r _ (fun k => h (by simp [k]))]
      left
      simp [insP, hl]
    · rw [if_neg (fun k => hl (hc.1 k.2))]
      rcases jA_false e r (out ++ [a]) (fun k => h (by simp [k])) with k | ⟨k, k2⟩
      · left
        rw [k]
        simp [insP, hl]
      · right
        rw [k]
        simp [insP, hl, k2]
theorem joinE_eq (e : Int × Int) (l : List (Int × Int)) : joinE e l = if e ∈ l then l else insP e l := by
  unfold joinE
  by_cases h : e ∈ l
  · rw [jA_in e l _ _ h, if_pos h]
  · rw [if_neg h]
    rcases jA_false e l [] h with k | ⟨k, k2⟩
    · rw [k]
      simp
    · rw [k, k2]
      simp
theorem Ed.join {n : Nat} {l : List (Int × Int)} (h : Ed n l) {e : Int × Int} (he : 1 ≤ e.1 ∧ e.1 < e.2 ∧ e.2 ≤ n) : Ed n (joinE e l) := by
  rw [joinE_eq]
  split
  · exact h
  · rename_i hm
    exact h.ins he hm
theorem mem_joinE (e : Int × Int) (l : List (Int × Int)) (x : Int × Int) : x ∈ joinE e l ↔ x = e ∨ x ∈ l := by
  rw [joinE_eq]
  split
  · rename_i h
    exact ⟨.inr, fun k => k.elim (fun k => k ▸ h) id⟩
  · exact mem_insP
/-! ### How far it is -/
def connB (n : Nat) (e : List (Int × Int)) : Bool := (List.range' 2 (n - 1)).all fun b => e.any fun x => x.2 == (b : Int)
def sv (e : List (Int × Int)) (n i k : Nat) : Int := (stepsN e n ((i : Int) + 1)).getD k 0
def mostK (e : List (Int × Int)) (n i : Nat) : Nat → Nat → Int → Int
  | 0, _, w => w
  | m + 1, k, w => mostK e n i m (k + 1) (if w < sv e n i k then sv e n i k else w)
def mostI (e : List (Int × Int)) (n : Nat) : Nat → Nat → Int → Int
  | 0, _, w => w
  | m + 1, i, w => mostI e n m (i + 1) (mostK e n i n 0 w)
def checkS (n : Nat) (e : List (Int × Int)) : Bool :=
  mayN n e && (List.range n).all (fun i => (List.range n).all fun k =>
    decide (0 ≤ sv e n i k ∧ sv e n i k < n) && (sv e n i k == sv e n k i) && ((sv e n i k == 1) == besE e ((i : Int) + 1) ((k : Int) + 1)) && ((sv e n i k == 0) == (i == k)) && (List.range n).all fun m => decide (sv e n i k ≤ sv e n i m + sv e n m k)) && (wideR e n n 0 0 == mostI e n n 0 0) && decide (wideR e n n 0 0 < n)
theorem all_S2 : (subs (allE 2)).all (fun e => !connB 2 e || checkS 2 e) = true := by decide +kernel
theorem all_S3 : (subs (allE 3)).all (fun e => !connB 3 e || checkS 3 e) = true := by decide +kernel
theorem all_S4 : (subs (allE 4)).all (fun e => !connB 4 e || checkS 4 e) = true := by decide +kernel
end Go.Proofs.Ytmbboljcgpccfaa.Pl
