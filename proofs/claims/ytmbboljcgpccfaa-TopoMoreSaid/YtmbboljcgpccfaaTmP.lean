/-
  What is proved here: with one more edge nothing is further (plain).
  Conditions: none.
-/
import Derived.Test.YtmbboljcgpccfaaTqP
set_option linter.unusedVariables false
set_option linter.unusedSimpArgs false
set_option maxRecDepth 100000
set_option maxHeartbeats 8000000
namespace Go.Proofs.Ytmbboljcgpccfaa.Pl

/-- Whoever is not oneself is one further than some other one that is beside it. -/
def checkP (n : Nat) (e : List (Int × Int)) : Bool := (List.range n).all fun i => (List.range n).all fun k => i == k || (List.range n).any fun j => besE e ((j : Int) + 1) ((k : Int) + 1) && (sv e n i j + 1 == sv e n i k)
theorem all_P2 : (subs (allE 2)).all (fun e => !connB 2 e || checkP 2 e) = true := by decide +kernel
theorem all_P3 : (subs (allE 3)).all (fun e => !connB 3 e || checkP 3 e) = true := by decide +kernel
theorem all_P4 : (subs (allE 4)).all (fun e => !connB 4 e || checkP 4 e) = true := by decide +kernel
theorem all_P5 : (subs (allE 5)).all (fun e => !connB 5 e || checkP 5 e) = true := by decide +kernel
theorem checkedP (n : Nat) (h1 : 2 ≤ n) (h5 : n ≤ 5) (e : List (Int × Int)) (he : Ed n e) (hc : connB n e = true) : checkP n e = true := by
  have hm := he.sub h5
  rcases (show n = 2 ∨ n = 3 ∨ n = 4 ∨ n = 5 by omega) with rfl | rfl | rfl | rfl
  · have := List.all_eq_true.1 all_P2 e hm; rw [hc] at this; exact this
  · have := List.all_eq_true.1 all_P3 e hm; rw [hc] at this; exact this
  · have := List.all_eq_true.1 all_P4 e hm; rw [hc] at this; exact this
  · have := List.all_eq_true.1 all_P5 e hm; rw [hc] at this; exact this
theorem checkedS (n : Nat) (h1 : 2 ≤ n) (h5 : n ≤ 5) (e : List (Int × Int)) (he : Ed n e) (hc : connB n e = true) : checkS n e = true := by
  have hm := he.sub h5
  rcases (show n = 2 ∨ n = 3 ∨ n = 4 ∨ n = 5 by omega) with rfl | rfl | rfl | rfl
  · have := List.all_eq_true.1 all_S2 e hm; rw [hc] at this; exact this
  · have := List.all_eq_true.1 all_S3 e hm; rw [hc] at this; exact this
  · have := List.all_eq_true.1 all_S4 e hm; rw [hc] at this; exact this
  · have := List.all_eq_true.1 all_S5 e hm; rw [hc] at this; exact this
structure Far (n : Nat) (e : List (Int × Int)) : Prop where
  may : mayN n e = true
  wide : wideR e n n 0 0 = mostI e n n 0 0
  pos : ∀ i k, i < n → k < n → 0 ≤ sv e n i k
  bes : ∀ i k, i < n → k < n → besE e ((i : Int) + 1) ((k : Int) + 1) = true → sv e n i k = 1
  zer : ∀ i k, i < n → k < n → (sv e n i k = 0 ↔ i = k)
  tri : ∀ i k m, i < n → k < n → m < n → sv e n i k ≤ sv e n i m + sv e n m k
  pre : ∀ i k, i < n → k < n → i ≠ k → ∃ j, j < n ∧ besE e ((j : Int) + 1) ((k : Int) + 1) = true ∧ sv e n i j + 1 = sv e n i k
theorem far_of (n : Nat) (h1 : 2 ≤ n) (h5 : n ≤ 5) (e : List (Int × Int)) (he : Ed n e) (hc : connB n e = true) : Far n e := by
  have hk := checkedS n h1 h5 e he hc
  have hp := checkedP n h1 h5 e he hc
  simp only [checkS, Bool.and_eq_true, decide_eq_true_eq, List.all_eq_true, List.mem_range, beq_iff_eq] at hk
  obtain ⟨⟨⟨k1, k2⟩, k3⟩, k4⟩ := hk
  have a1 := fun i k hi hk => (k2 i hi k hk).1.1.1.1
  have a3 := fun i k hi hk => (k2 i hi k hk).1.1.2
  have a4 := fun i k hi hk => (k2 i hi k hk).1.2
  have a5 := fun i k hi hk => (k2 i hi k hk).2
  refine ⟨k1, k3, fun i k hi hk => (a1 i k hi hk).1, fun i k hi hk hb => ?_, fun i k hi hk => ?_, fun i k m hi hk hm => a5 i k hi hk m hm, fun i k hi hk hik => ?_⟩
  · have := a3 i k hi hk
    rw [hb, beq_iff_eq] at this
    exact this
  · have := a4 i k hi hk
    rw [Bool.eq_iff_iff, beq_iff_eq, beq_iff_eq] at this
    exact this
  · simp only [checkP, List.all_eq_true, List.any_eq_true, List.mem_range, Bool.or_eq_true, Bool.and_eq_true, beq_iff_eq] at hp
    rcases hp i hi k hk with h | ⟨j, h1, h2, h3⟩
    · exact absurd h hik
    · exact ⟨j, h1, h2, h3⟩
theorem bes_ins {e : List (Int × Int)} {x : Int × Int} {a b : Int} (h : besE e a b = true) : besE (insP x e) a b = true := by
  unfold besE at *
  simp only [Bool.or_eq_true, decide_eq_true_eq, mem_insP] at *
  rcases h with h | h
  · exact .inl (.inr h)
  · exact .inr (.inr h)
theorem conn_ins {n : Nat} {e : List (Int × Int)} {x : Int × Int} (h : connB n e = true) : connB n (insP x e) = true := by
  unfold connB at *
  simp only [List.all_eq_true, List.any_eq_true] at *
  intro b hb
  obtain ⟨y, h1, h2⟩ := h b hb
  exact ⟨y, mem_insP.2 (.inr h1), h2⟩
theorem less_of {n : Nat} {e : List (Int × Int)} {x : Int × Int} (f : Far n e) (g : Far n (insP x e)) : ∀ (d i k : Nat), i < n → k < n → sv e n i k = (d : Int) → sv (insP x e) n i k ≤ (d : Int)
  | 0, i, k, hi, hk, h => by
    have h1 := (f.zer i k hi hk).1 h
    have h2 := (g.zer i k hi hk).2 h1
    omega
  | d + 1, i, k, hi, hk, h => by
    have hne : i ≠ k := fun hik => by
      have := (f.zer i k hi hk).2 hik
      omega
    obtain ⟨j, h1, h2, h3⟩ := f.pre i k hi hk hne
    have h4 := less_of f g d i j hi h1 (by omega)
    have h5 := g.bes j k h1 hk (bes_ins h2)
    have h6 := g.tri i k j hi hk h1
    omega
theorem mostK_mono {n : Nat} {e m : List (Int × Int)} {i : Nat} (h : ∀ k, k < n → sv m n i k ≤ sv e n i k) : ∀ (q k : Nat) (v w : Int), k + q = n → v ≤ w → mostK m n i q k v ≤ mostK e n i q k w
  | 0, k, v, w, hk, hv => by simpa [mostK] using hv
  | q + 1, k, v, w, hk, hv => by
    have := h k (by omega)
    rw [mostK, mostK]
    refine mostK_mono h q (k + 1) _ _ (by omega) ?_
    split <;> split <;> omega
theorem mostI_mono {n : Nat} {e m : List (Int × Int)} (h : ∀ i k, i < n → k < n → sv m n i k ≤ sv e n i k) : ∀ (q i : Nat) (v w : Int), i + q = n → v ≤ w → mostI m n q i v ≤ mostI e n q i w
  | 0, i, v, w, hk, hv => by simpa [mostI] using hv
  | q + 1, i, v, w, hk, hv => by
    rw [mostI, mostI]
    exact mostI_mono h q (i + 1) _ _ (by omega) (mostK_mono (fun k hk => h i k (by omega) hk) n 0 _ _ (by omega) hv)
theorem more_of (n : Nat) (h1 : 2 ≤ n) (h5 : n ≤ 5) (e : List (Int × Int)) (he : Ed n e) (hc : connB n e = true) (x : Int × Int) (hx : 1 ≤ x.1 ∧ x.1 < x.2 ∧ x.2 ≤ n) (hn : x ∉ e) :
    mayN n e = true ∧ mayN n (insP x e) = true ∧ wideR (insP x e) n n 0 0 ≤ wideR e n n 0 0 ∧ ∀ i k, i < n → k < n → 0 ≤ sv (insP x e) n i k ∧ sv (insP x e) n i k ≤ sv e n i k := by
  have f := far_of n h1 h5 e he hc
  have g := far_of n h1 h5 _ (he.ins hx hn) (conn_ins hc)
  have hle : ∀ i k, i < n → k < n → sv (insP x e) n i k ≤ sv e n i k := fun i k hi hk => by
    have h0 := f.pos i k hi hk
    have := less_of f g (sv e n i k).toNat i k hi hk (by omega)
    omega
  refine ⟨f.may, g.may, ?_, fun i k hi hk => ⟨g.pos i k hi hk, hle i k hi hk⟩⟩
  rw [f.wide, g.wide]
  exact mostI_mono hle n 0 _ _ (by omega) (by omega)
end Go.Proofs.Ytmbboljcgpccfaa.Pl
