/- BackGaps: looked at at each time, what is sent is sent again behind 1, 2, 4 .. and 64 at most, again and again: eleven times within 400 steps, whenever it begins (any uint16). -/
import Derived.Test.YtmomaojkmidgmaaPAllx9
namespace Go.Proofs.Ytmomaojkmidgmaa.Pure
open Go.RowKit Go.Proofs.Ytmomaojkmidgmaa.PAll Go.Proofs.YtmomaojkmidgmaaW.PrintWords Go.Proofs.YtmomaojkmidgmaaW.PrintLast Go.Proofs.YtmomaojkmidgmaaW.PrintMore

/-- What the loop holds behind j steps: when it was sent last (from the begin), how long it waits, how often it was sent. -/
def gapSim : Nat → Nat × Nat × Nat
  | 0 => (0, 1, 0)
  | j + 1 => if (gapSim j).1 + (gapSim j).2.1 = j then (j, min (2 * (gapSim j).2.1) 64, (gapSim j).2.2 + 1) else gapSim j

theorem gapSim_in (j : Nat) : (gapSim j).1 ≤ j ∧ j ≤ (gapSim j).1 + (gapSim j).2.1 ∧ 1 ≤ (gapSim j).2.1 ∧ (gapSim j).2.1 ≤ 64 ∧ (gapSim j).2.2 ≤ j := by
  induction j with
  | zero => decide
  | succ j ih =>
    unfold gapSim
    split
    · refine ⟨by simp, ?_⟩
      simp only
      omega
    · omega

theorem gapSim_end : (gapSim 400).2.2 = 11 := by decide +kernel

theorem wrap64_in {i : Int} (h0 : -9223372036854775808 ≤ i) (h1 : i ≤ 9223372036854775807) : wrap64 i = i := by
  unfold wrap64
  omega

theorem gaps_from (s : Int) (h0 : 0 ≤ s) (h1 : s ≤ 65535) (d : Nat) : ∀ (j k : Nat), j + d = 400 → d < k →
    cardamomlaw22_BackGaps.l0 k s (s + (gapSim j).1) (gapSim j).2.1 (gapSim j).2.2 (s + j) true (s + (gapSim j).1 + (gapSim j).2.1) (mn (2 * (gapSim j).2.1) 64) = some true := by
  induction d with
  | zero =>
    intro j k hj hk
    obtain ⟨k, rfl⟩ : ∃ m, k = m + 1 := ⟨k - 1, by omega⟩
    obtain rfl : j = 400 := by omega
    simp only [cardamomlaw22_BackGaps.l0]
    rw [wrap64_in (i := s) (by omega) (by omega), wrap64_in (i := s + 400) (by omega) (by omega), if_neg (by omega), gapSim_end]
    rfl
  | succ d ih =>
    intro j k hj hk
    obtain ⟨k, rfl⟩ : ∃ m, k = m + 1 := ⟨k - 1, by omega⟩
    obtain ⟨a1, a2, a3, a4, a5⟩ := gapSim_in j
    have hn := ih (j + 1) k (by omega) (by omega)
    have hs : gapSim (j + 1) = if (gapSim j).1 + (gapSim j).2.1 = j then (j, min (2 * (gapSim j).2.1) 64, (gapSim j).2.2 + 1) else gapSim j := by rw [gapSim]
    rw [hs] at hn
    clear hs ih
    generalize gapSim j = g at *
    obtain ⟨L, W, M⟩ := g
    simp only at *
    simp only [cardamomlaw22_BackGaps.l0]
    rw [wrap64_in (i := s) (by omega) (by omega), wrap64_in (i := s + 400) (by omega) (by omega), if_pos (by omega)]
    by_cases hy : L + W = j
    · rw [if_pos hy] at hn
      simp only at hn
      have hw : ((min (2 * W) 64 : Nat) : Int) = mn (2 * W) 64 := by unfold mn; split <;> omega
      rw [hw] at hn
      have hm : (mn (2 * (W : Int)) 64) ≤ 64 ∧ 1 ≤ mn (2 * (W : Int)) 64 := by unfold mn; split <;> omega
      have ht : back_Tick.f true (s + L + W) (mn (2 * (W : Int)) 64) (s + j) = some (true, s + j + mn (2 * (W : Int)) 64, mn (2 * mn (2 * (W : Int)) 64) 64, true) := by
        unfold back_Tick.f
        rw [if_pos rfl, if_neg (by omega)]
        have e : mn (mn (2 * (W : Int)) 64) 64 = mn (2 * (W : Int)) 64 := by
          generalize mn (2 * (W : Int)) 64 = z at hm
          unfold mn
          split <;> omega
        rw [e, wrap64_in (by omega) (by omega), wrap64_in (by omega) (by omega)]
      rw [ht]
      simp only [Option.bind_some]
      rw [wrap64_in (i := s + j - (s + L)) (by omega) (by omega), wrap64_in (i := 2 * W) (by omega) (by omega), wrap64_in (i := M + 1) (by omega) (by omega), wrap64_in (i := s + j + 1) (by omega) (by omega)]
      rw [if_neg (by simp; omega), if_pos trivial]
      have e1 : s + (j : Int) + 1 = s + ((j + 1 : Nat) : Int) := by omega
      have e2 : ((M + 1 : Nat) : Int) = (M : Int) + 1 := by omega
      rw [e1]
      rw [e2] at hn
      exact hn
    · rw [if_neg hy] at hn
      have ht : back_Tick.f true (s + L + W) (mn (2 * (W : Int)) 64) (s + j) = some (true, s + L + W, mn (2 * (W : Int)) 64, false) := by
        unfold back_Tick.f
        rw [if_pos rfl, if_pos (by omega)]
      rw [ht]
      simp only [Option.bind_some]
      rw [wrap64_in (i := s + j - (s + L)) (by omega) (by omega), wrap64_in (i := s + j + 1) (by omega) (by omega)]
      rw [if_neg (by simp; omega), if_neg (by decide)]
      have e1 : s + (j : Int) + 1 = s + ((j + 1 : Nat) : Int) := by omega
      rw [e1]
      exact hn

theorem begun_back : cardamomlaw22_begun.f = some true := by decide +kernel

theorem BackGaps : cardamomlaw22_BackGaps.Pure := by
  intro s hs
  have h : 0 ≤ s ∧ s ≤ 65535 := by
    simp [Lit.wf, IntKind.min, IntKind.max, IntKind.bits, IntKind.signed] at hs
    omega
  refine ⟨401, ?_⟩
  unfold cardamomlaw22_BackGaps.f
  rw [begun_back]
  simp only [Option.bind_some, if_true, back_Start.f]
  rw [wrap64_in (i := s) (by omega) (by omega), wrap64_in (i := s + 1) (by omega) (by omega)]
  have := gaps_from s h.1 h.2 400 0 401 (by omega) (by omega)
  simp [gapSim, mn] at this
  exact this

end Go.Proofs.Ytmomaojkmidgmaa.Pure
