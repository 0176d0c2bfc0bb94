/- BackAll: the program's answers on when something is sent again are the document's: over at most 60 looks, and at any state whose gap lies within 2^40 of nought. -/
import Derived.Test.YtmomaojkmidgmaaPAllx8
namespace Go.Proofs.Ytmomaojkmidgmaa.Pure
open Go.RowKit Go.Proofs.Ytmomaojkmidgmaa.PAll Go.Proofs.YtmomaojkmidgmaaW.PrintWords Go.Proofs.YtmomaojkmidgmaaW.PrintLast Go.Proofs.YtmomaojkmidgmaaW.PrintMore

theorem wrap64_all {i : Int} (h0 : -9223372036854775808 ≤ i) (h1 : i ≤ 9223372036854775807) : wrap64 i = i := by
  unfold wrap64
  omega

theorem tick_ref (b : Bool) (due gap now : Int) (h0 : -1099511627776 ≤ gap) (h1 : gap ≤ 1099511627776) : cardamomref20_Tick.f b due gap now = back_Tick.f b due gap now := by
  unfold cardamomref20_Tick.f back_Tick.f
  cases b with
  | false => rfl
  | true =>
    rw [if_pos rfl, if_pos rfl]
    by_cases h : now < due
    · rw [if_pos h, if_pos h]
    · rw [if_neg h, if_neg h]
      have e : mn (wrap64 (2 * gap)) 64 = mn (wrap64 (2 * mn gap 64)) 64 := by
        unfold mn
        by_cases hg : 64 < gap
        · rw [if_pos hg, wrap64_all (i := 2 * gap) (by omega) (by omega), wrap64_all (i := 2 * 64) (by omega) (by omega), if_pos (by omega), if_pos (by omega)]
        · rw [if_neg hg]
      rw [e]

theorem tick_some (b : Bool) (due gap now : Int) : ∃ b' d g y, back_Tick.f b due gap now = some (b', d, g, y) := by
  unfold back_Tick.f
  cases b with
  | false => exact ⟨_, _, _, _, rfl⟩
  | true =>
    rw [if_pos rfl]
    by_cases h : now < due
    · rw [if_pos h]; exact ⟨_, _, _, _, rfl⟩
    · rw [if_neg h]; exact ⟨_, _, _, _, rfl⟩

theorem tick_gap (b : Bool) (due gap now : Int) (h0 : 1 ≤ gap) (h1 : gap ≤ 64) (b' : Bool) (d g : Int) (y : Bool) (h : back_Tick.f b due gap now = some (b', d, g, y)) : 1 ≤ g ∧ g ≤ 64 := by
  unfold back_Tick.f at h
  have hm : mn gap 64 = gap := by unfold mn; split <;> omega
  cases b with
  | false =>
    rw [if_neg (by decide)] at h
    injection h with h
    injection h with _ h
    injection h with _ h
    injection h with h _
    omega
  | true =>
    rw [if_pos rfl] at h
    by_cases hc : now < due
    · rw [if_pos hc] at h
      injection h with h
      injection h with _ h
      injection h with _ h
      injection h with h _
      omega
    · rw [if_neg hc, hm, wrap64_all (i := 2 * gap) (by omega) (by omega)] at h
      injection h with h
      injection h with _ h
      injection h with _ h
      injection h with h _
      have : 1 ≤ mn (2 * gap) 64 ∧ mn (2 * gap) 64 ≤ 64 := by unfold mn; split <;> omega
      omega

theorem all_from (l : List Int) (wb : Bool) (wd wg : Int) (hw0 : -1099511627776 ≤ wg) (hw1 : wg ≤ 1099511627776) (d : Nat) : ∀ (j k : Nat) (t : Int) (b : Bool) (due gap : Int), j + d = l.length → l.length ≤ 60 → d < k → 1 ≤ gap → gap ≤ 64 →
    cardamomlaw22_BackAll.l0 k l t (j : Int) wb wd wg b due gap b due gap = some true := by
  induction d with
  | zero =>
    intro j k t b due gap hj _ hk _ _
    obtain ⟨k, rfl⟩ : ∃ m, k = m + 1 := ⟨k - 1, by omega⟩
    rw [cardamomlaw22_BackAll.l0, if_neg (by omega), tick_ref _ _ _ _ hw0 hw1]
    obtain ⟨b', d', g', y', h⟩ := tick_some wb wd wg t
    rw [h]
    simp [back_Stop.f]
  | succ d ih =>
    intro j k t b due gap hj hl hk hg hg'
    obtain ⟨k, rfl⟩ : ∃ m, k = m + 1 := ⟨k - 1, by omega⟩
    rw [cardamomlaw22_BackAll.l0, if_pos (by omega), if_pos (by omega), tick_ref _ _ _ _ (by omega) (by omega)]
    generalize wrap64 (t + wrap64 (Int.tmod (rd l (j : Int)) 40)) = now
    obtain ⟨b', d', g', y', h⟩ := tick_some b due gap now
    have hg2 := tick_gap b due gap now hg hg' _ _ _ _ h
    rw [h]
    simp only [Option.bind_some]
    rw [if_neg (by simp), if_neg (by simp), wrap64_all (i := (j : Int) + 1) (by omega) (by omega)]
    have e : (j : Int) + 1 = ((j + 1 : Nat) : Int) := by omega
    rw [e]
    exact ih (j + 1) k _ _ _ _ (by omega) hl (by omega) hg2.1 hg2.2

theorem begun_all : cardamomlaw22_begun.f = some true := by decide +kernel

theorem BackAll_any (s : Int) (l : List Int) (wb : Bool) (wd wg : Int) : ∃ k, cardamomlaw22_BackAll.f k s l wb wd wg = some true := by
  refine ⟨62, ?_⟩
  unfold cardamomlaw22_BackAll.f
  rw [begun_all]
  simp only [Option.bind_some, if_true]
  by_cases hl : (l.length : Int) > 60
  · rw [if_pos hl, cardamomlaw22_BackAll.j0, if_pos rfl]
  · rw [if_neg hl]
    by_cases hg : wg > 1099511627776
    · rw [if_pos hg, cardamomlaw22_BackAll.j0, if_pos rfl]
    · rw [if_neg hg, cardamomlaw22_BackAll.j0]
      by_cases hg2 : wg < -1099511627776
      · rw [if_pos (by simpa using hg2)]
      · rw [if_neg (by simpa using hg2)]
        simp only [back_Start.f, cardamomref20_Start.f, Option.bind_some]
        rw [if_neg (by simp)]
        exact all_from l wb wd wg (by omega) (by omega) l.length 0 61 _ _ _ _ (by omega) (by omega) (by omega) (by omega) (by omega)

theorem BackAll : cardamomlaw22_BackAll.Pure := fun s l wb wd wg _ _ _ _ _ _ => BackAll_any s l wb wd wg

end Go.Proofs.Ytmomaojkmidgmaa.Pure
