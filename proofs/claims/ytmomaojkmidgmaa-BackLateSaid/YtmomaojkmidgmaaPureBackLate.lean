/- BackLate: whoever looks late is told once, and waits from there on (at most ten times late, each by a byte's worth; any uint16 as the begin). -/
import Derived.Test.YtmomaojkmidgmaaPAllx10
namespace Go.Proofs.Ytmomaojkmidgmaa.Pure
open Go.RowKit Go.Proofs.Ytmomaojkmidgmaa.PAll Go.Proofs.YtmomaojkmidgmaaW.PrintWords Go.Proofs.YtmomaojkmidgmaaW.PrintLast Go.Proofs.YtmomaojkmidgmaaW.PrintMore

theorem wrap64_late {i : Int} (h0 : -9223372036854775808 ≤ i) (h1 : i ≤ 9223372036854775807) : wrap64 i = i := by
  unfold wrap64
  omega

theorem late_from (l : List Int) (hl : l.length ≤ 10) (hb : ∀ x ∈ l, 0 ≤ x ∧ x < 256) (d : Nat) : ∀ (j k : Nat) (due gap : Int), j + d = l.length → 2 * d < k → 0 ≤ due → due ≤ 65536 + 320 * j → 1 ≤ gap → gap ≤ 64 →
    cardamomlaw22_BackLate.l0 k l (j : Int) true due gap = some true := by
  induction d with
  | zero =>
    intro j k due gap hj hk _ _ _ _
    obtain ⟨k, rfl⟩ : ∃ m, k = m + 1 := ⟨k - 1, by omega⟩
    rw [cardamomlaw22_BackLate.l0, if_neg (by omega)]
  | succ d ih =>
    intro j k due gap hj hk hd hd' hg hg'
    obtain ⟨k, rfl⟩ : ∃ m, k = m + 1 + 1 := ⟨k - 2, by omega⟩
    have hlt : j < l.length := by omega
    have hx := hb l[j] (List.getElem_mem hlt)
    have hr : rd l (j : Int) = l[j] := by
      unfold rd
      rw [Int.toNat_natCast, List.getD_eq_getElem?_getD, List.getElem?_eq_getElem hlt]
      rfl
    rw [cardamomlaw22_BackLate.l0, if_pos (by omega), if_pos (by omega), hr]
    generalize l[j] = x at *
    rw [wrap64_late (i := x) (by omega) (by omega), wrap64_late (i := due + x) (by omega) (by omega)]
    have hm : mn gap 64 = gap := by unfold mn; split <;> omega
    have hm2 : 1 ≤ mn (2 * gap) 64 ∧ mn (2 * gap) 64 ≤ 64 := by unfold mn; split <;> omega
    have h1 : back_Tick.f true due gap (due + x) = some (true, due + x + gap, mn (2 * gap) 64, true) := by
      unfold back_Tick.f
      rw [if_pos rfl, if_neg (by omega), hm, wrap64_late (by omega) (by omega), wrap64_late (by omega) (by omega)]
    have h2 : back_Tick.f true (due + x + gap) (mn (2 * gap) 64) (due + x) = some (true, due + x + gap, mn (2 * gap) 64, false) := by
      unfold back_Tick.f
      rw [if_pos rfl, if_pos (by omega)]
    have h3 : back_Tick.f true (due + x + gap) (mn (2 * gap) 64) (due + x + gap - 1) = some (true, due + x + gap, mn (2 * gap) 64, false) := by
      unfold back_Tick.f
      rw [if_pos rfl, if_pos (by omega)]
    rw [h1]
    simp only [Option.bind_some]
    rw [wrap64_late (i := due + x + gap - 1) (by omega) (by omega), h2, h3]
    simp only [Option.bind_some]
    rw [wrap64_late (i := due + x + gap) (by omega) (by omega), wrap64_late (i := 2 * gap) (by omega) (by omega)]
    simp only [reduceIte, Bool.false_eq_true, Bool.not_true]
    rw [cardamomlaw22_BackLate.j1, if_neg (by decide), wrap64_late (i := (j : Int) + 1) (by omega) (by omega)]
    have e : (j : Int) + 1 = ((j + 1 : Nat) : Int) := by omega
    rw [e]
    exact ih (j + 1) k _ _ (by omega) (by omega) (by omega) (by omega) hm2.1 hm2.2

theorem begun_late : cardamomlaw22_begun.f = some true := by decide +kernel

theorem BackLate : cardamomlaw22_BackLate.Pure := by
  intro s l hs _ _ hb
  have h : 0 ≤ s ∧ s ≤ 65535 := by
    simp [Lit.wf, IntKind.min, IntKind.max, IntKind.bits, IntKind.signed] at hs
    omega
  have hb' : ∀ x ∈ l, 0 ≤ x ∧ x < 256 := fun x hx => by
    have := hb x hx
    simp [Lit.wf, IntKind.min, IntKind.max, IntKind.bits, IntKind.signed] at this
    omega
  refine ⟨21, ?_⟩
  unfold cardamomlaw22_BackLate.f
  rw [begun_late]
  simp only [Option.bind_some, if_true]
  by_cases hl : (l.length : Int) > 10
  · rw [if_pos hl]
  · rw [if_neg hl]
    simp only [back_Start.f, Option.bind_some]
    rw [wrap64_late (i := s) (by omega) (by omega), wrap64_late (i := s + 1) (by omega) (by omega)]
    exact late_from l (by omega) hb' l.length 0 21 _ _ (by omega) (by omega) (by omega) (by omega) (by omega) (by omega)

end Go.Proofs.Ytmomaojkmidgmaa.Pure
