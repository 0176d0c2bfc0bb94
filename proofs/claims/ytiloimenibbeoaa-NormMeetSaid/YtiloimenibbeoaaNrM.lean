/-
  What is proved here: texts that rise, each once: least by least.
  Conditions: none.
-/
import Derived.Test.YtiloimenibbeoaaNhM
set_option linter.unusedVariables false
set_option linter.unusedSimpArgs false
namespace Go.Proofs.Ytiloimenibbeoaa.Pl
open Go Go.Proofs Go.Proofs.Ev Go.Proofs.Dv Cd

abbrev Tx := List UInt8
theorem leS_refl (a : Tx) : leS a a = true := (leS_total a a).elim id id
theorem sortB_pair : ∀ (l : List Tx), (sortB leS l).Pairwise fun a b => leS a b = true := fun l => by
  rw [sortS_eq]
  have := List.pairwise_mergeSort (le := fun x y : Tx => decide (x ≤ y)) (fun a b c => by rw [← leS_le, ← leS_le, ← leS_le]; exact leS_trans a b c) (fun a b => by rw [← leS_le, ← leS_le, Bool.or_eq_true]; exact leS_total a b) l
  refine this.imp ?_
  intro a b h
  rw [leS_le]; exact h
theorem goC_rise : ∀ (l : List Tx) (p : Tx), (p :: l).Pairwise (fun a b => leS a b = true) → (p :: goC p l).Pairwise fun a b => leS b a = false
  | [], p, _ => by simp [goC]
  | y :: r, p, h => by
    simp only [goC]
    rw [List.pairwise_cons] at h
    split
    · rename_i e
      subst e
      exact goC_rise r y h.2
    · rename_i e
      have ih := goC_rise r y h.2
      rw [List.pairwise_cons]
      refine ⟨fun z hz => ?_, ih⟩
      have hp : leS p y = true := h.1 y (List.mem_cons_self ..)
      have hyp : leS y p = false := by
        cases hq : leS y p with
        | false => rfl
        | true => exact absurd (leS_anti y p hq hp) e
      rcases List.mem_cons.1 hz with rfl | hz
      · exact hyp
      · have hzy : leS z y = false := (List.pairwise_cons.1 ih).1 z hz
        cases hq : leS z p with
        | false => rfl
        | true =>
          have hyz : leS y z = true := by
            rcases leS_total y z with k | k
            · exact k
            · rw [hzy] at k; cases k
          rw [leS_trans y z p hyz hq] at hyp
          cases hyp
def riseB (l : List Tx) : List Tx := cmpc (sortB leS l)
theorem rise_pair (l : List Tx) : (riseB l).Pairwise fun a b => leS b a = false := by
  unfold riseB
  have h := sortB_pair l
  cases hs : sortB leS l with
  | nil => exact List.Pairwise.nil
  | cons a r => rw [hs] at h; exact goC_rise r a h
theorem rise_mem (l : List Tx) (x : Tx) : x ∈ riseB l ↔ x ∈ l := by
  unfold riseB
  rw [cmpc_mem, (sortB_perm _).mem_iff]
theorem rise_len (l : List Tx) : (riseB l).length ≤ l.length := by
  have := cmpc_len (sortB leS l)
  rw [sortB_length'] at this
  exact this
theorem rise_pair_eq : ∀ {l m : List Tx}, l.Pairwise (fun a b => leS b a = false) → m.Pairwise (fun a b => leS b a = false) → (∀ x, x ∈ l ↔ x ∈ m) → l = m
  | [], [], _, _, _ => rfl
  | [], b :: m, _, _, h => absurd ((h b).2 (List.mem_cons_self ..)) (by simp)
  | a :: l, [], _, _, h => absurd ((h a).1 (List.mem_cons_self ..)) (by simp)
  | a :: l, b :: m, hl, hm, h => by
    rw [List.pairwise_cons] at hl hm
    have e : a = b := by
      rcases List.mem_cons.1 ((h a).1 (List.mem_cons_self ..)) with k | k
      · exact k
      rcases List.mem_cons.1 ((h b).2 (List.mem_cons_self ..)) with j | j
      · exact j.symm
      have h1 := hm.1 a k
      have h2 := hl.1 b j
      rcases leS_total a b with q | q
      · rw [q] at h1; cases h1
      · rw [q] at h2; cases h2
    subst e
    rw [rise_pair_eq hl.2 hm.2 fun x => ?_]
    constructor
    · intro hx
      rcases List.mem_cons.1 ((h x).1 (List.mem_cons_of_mem _ hx)) with k | k
      · subst k
        have := hl.1 x hx
        rw [leS_refl] at this; cases this
      · exact k
    · intro hx
      rcases List.mem_cons.1 ((h x).2 (List.mem_cons_of_mem _ hx)) with k | k
      · subst k
        have := hm.1 x hx
        rw [leS_refl] at this; cases this
      · exact k
theorem rise_comm (l m : List Tx) : riseB (l ++ m) = riseB (m ++ l) :=
  rise_pair_eq (rise_pair _) (rise_pair _) fun x => by rw [rise_mem, rise_mem, List.mem_append, List.mem_append]; exact Or.comm
/-! ### Least by least -/
/-- Behind the last one of some. -/
def upR (out : List Tx) (x : Tx) : Bool := match out.getLast? with
  | none => true
  | some t => !leS x t
def stepR (out : List Tx) (o : Option Tx) (x : Tx) : Option Tx := if upR out x = true then (match o with | none => some x | some y => if leS y x = true then some y else some x) else o
def foldR (out : List Tx) (o : Option Tx) (l : List Tx) : Option Tx := l.foldl (stepR out) o
theorem foldR_spec (out : List Tx) : ∀ (l : List Tx) (o : Option Tx) (P : Tx → Prop), (match o with | none => ∀ x, P x → upR out x = false | some m => P m ∧ upR out m = true ∧ ∀ x, P x → upR out x = true → leS m x = true) →
    (match foldR out o l with | none => ∀ x, (P x ∨ x ∈ l) → upR out x = false | some m => (P m ∨ m ∈ l) ∧ upR out m = true ∧ ∀ x, (P x ∨ x ∈ l) → upR out x = true → leS m x = true)
  | [], o, P, h => by
    simp only [foldR, List.foldl_nil, List.not_mem_nil, or_false]
    exact h
  | a :: l, o, P, h => by
    have ih := foldR_spec out l (stepR out o a) (fun x => P x ∨ x = a) (by
      unfold stepR
      cases ha : upR out a with
      | false =>
        rw [if_neg (by simp)]
        cases o with
        | none =>
          rintro x (hx | rfl)
          · exact h x hx
          · exact ha
        | some m =>
          refine ⟨.inl h.1, h.2.1, ?_⟩
          rintro x (hx | rfl) hu
          · exact h.2.2 x hx hu
          · rw [ha] at hu; cases hu
      | true =>
        rw [if_pos rfl]
        cases o with
        | none =>
          refine ⟨.inr rfl, ha, ?_⟩
          rintro x (hx | rfl) hu
          · have := h x hx
            rw [this] at hu; cases hu
          · exact leS_refl x
        | some m =>
          by_cases hm : leS m a = true
          · simp only [hm, if_true]
            refine ⟨.inl h.1, h.2.1, ?_⟩
            rintro x (hx | rfl) hu
            · exact h.2.2 x hx hu
            · exact hm
          · simp only [hm]
            have ham : leS a m = true := (leS_total a m).elim id fun k => absurd k hm
            refine ⟨.inr rfl, ha, ?_⟩
            rintro x (hx | rfl) hu
            · exact leS_trans _ _ _ ham (h.2.2 x hx hu)
            · exact leS_refl x)
    have e : foldR out o (a :: l) = foldR out (stepR out o a) l := rfl
    rw [e]
    revert ih
    cases foldR out (stepR out o a) l with
    | none =>
      intro ih x hx
      apply ih
      rcases hx with hx | hx
      · exact .inl (.inl hx)
      · rcases List.mem_cons.1 hx with rfl | hx
        · exact .inl (.inr rfl)
        · exact .inr hx
    | some m =>
      rintro ⟨i1, i2, i3⟩
      refine ⟨?_, i2, fun x hx => i3 x ?_⟩
      · rcases i1 with (h | rfl) | h
        · exact .inl h
        · exact .inr (List.mem_cons_self ..)
        · exact .inr (List.mem_cons_of_mem _ h)
      · rcases hx with hx | hx
        · exact .inl (.inl hx)
        · rcases List.mem_cons.1 hx with rfl | hx
          · exact .inl (.inr rfl)
          · exact .inr hx
theorem foldR_next (l : List Tx) (n : Nat) (hn : n ≤ (riseB l).length) : foldR ((riseB l).take n) none l = (riseB l)[n]? := by
  have hs := foldR_spec ((riseB l).take n) l none (fun _ => False) (fun x hx => hx.elim)
  have hp := rise_pair l
  have hmem := fun x => rise_mem l x
  generalize riseB l = T at *
  have hup : ∀ j (hj : j < T.length), upR (T.take n) T[j] = decide (n ≤ j) := by
    intro j hj
    unfold upR
    rcases Nat.eq_zero_or_pos n with rfl | hn0
    · simp
    · have e : (T.take n).getLast? = some T[n - 1] := by
        rw [List.getLast?_eq_getElem?, List.length_take, Nat.min_eq_left hn, List.getElem?_take_of_lt (by omega), List.getElem?_eq_getElem]
      rw [e]
      simp only
      by_cases h : n ≤ j
      · have := List.pairwise_iff_getElem.1 hp (n - 1) j (by omega) hj (by omega)
        simp [h, this]
      · simp only [h, decide_false]
        rcases Nat.lt_or_ge j (n - 1) with k | k
        · have := List.pairwise_iff_getElem.1 hp j (n - 1) hj (by omega) k
          have : leS T[j] T[n - 1] = true := (leS_total T[j] T[n - 1]).elim id fun q => by rw [this] at q; cases q
          simp [this]
        · obtain rfl : j = n - 1 := by omega
          simp [leS_refl]
  revert hs
  cases hf : foldR (T.take n) none l with
  | none =>
    intro hs
    rcases Nat.lt_or_ge n T.length with h | h
    · have h1 := hs T[n] (.inr ((hmem _).1 (List.getElem_mem h)))
      rw [hup n h] at h1
      simp at h1
    · rw [List.getElem?_eq_none h]
  | some m =>
    rintro ⟨h1, h2, h3⟩
    have hm : m ∈ T := (hmem m).2 (h1.elim False.elim id)
    obtain ⟨j, hj, rfl⟩ := List.getElem_of_mem hm
    rw [hup j hj, decide_eq_true_eq] at h2
    have hnl : n < T.length := by omega
    have h4 := h3 T[n] (.inr ((hmem _).1 (List.getElem_mem hnl))) (by rw [hup n hnl]; simp)
    rw [List.getElem?_eq_getElem hnl]
    rcases Nat.lt_or_ge n j with k | k
    · have := List.pairwise_iff_getElem.1 hp n j hnl hj k
      rw [this] at h4; cases h4
    · obtain rfl : j = n := by omega
      rfl
end Go.Proofs.Ytiloimenibbeoaa.Pl
