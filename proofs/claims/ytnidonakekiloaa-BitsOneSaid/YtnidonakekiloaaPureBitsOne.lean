import Derived.Test.YtnidonakekiloaaPAllx54
import Derived.Test.YtnidonakekiloaaBitsMore
namespace Go.Proofs.Ytnidonakekiloaa.Pure
open Go.RowKit Go.Proofs.Ytnidonakekiloaa.PAll Go.Proofs.YtnidonakekiloaaW.PrintWords Go.Proofs.YtnidonakekiloaaW.PrintLast Go.Proofs.YtnidonakekiloaaW.PrintMore

theorem bits_begun_one : cardamomlaw17_begun.f 100 = some true := by decide +kernel

theorem one_j1 (l : List Int) (hl : l.length ≤ 10) (hb : ∀ x ∈ l, 0 ≤ x ∧ x ≤ 255) (t : ByteArray) (m : Int) (ok : Bool) (h : textOf l = (t, m, ok)) : cardamomlaw17_BitsOne.j1 101 l t m ok false = some true := by
  show cardamomlaw17_BitsOne.j1 (100 + 1) l t m ok false = some true
  rw [cardamomlaw17_BitsOne.j1, if_neg (by decide)]
  cases ok with
  | false => rw [if_neg (by decide)]
  | true =>
    obtain ⟨h1, h2, h3, h4⟩ := textOf_back l hb t m h
    have p := (putText_f t [] 100 (by omega) (by decide) (by omega)).1
    rw [List.nil_append, h4] at p
    rw [if_pos rfl, if_pos (by omega), if_pos (by omega), p]
    simp only [Option.bind_some]
    rw [if_pos (by omega), beq_self_eq_true]

theorem one_j0 (l : List Int) (hl : l.length ≤ 10) (hb : ∀ x ∈ l, 0 ≤ x ∧ x ≤ 255) (v n : Int) (ok : Bool) (t : ByteArray) (m : Int) (ok2 : Bool) (h : numOf l = (v, n, ok)) (h2 : textOf l = (t, m, ok2)) : cardamomlaw17_BitsOne.j0 102 l v n ok t m ok2 false = some true := by
  have hj := one_j1 l hl hb t m ok2 h2
  show cardamomlaw17_BitsOne.j0 (101 + 1) l v n ok t m ok2 false = some true
  rw [cardamomlaw17_BitsOne.j0, if_neg (by decide)]
  cases ok with
  | false => rw [if_neg (by decide)]; exact hj
  | true =>
    obtain ⟨a1, a2, a3, a4, a5⟩ := numOf_back l hb v n h
    have p := (put_f v [] 101 a1 a2 (by decide) (by omega)).1
    rw [List.nil_append, a5] at p
    rw [if_pos rfl, if_neg (by omega), if_neg (by omega), if_neg (by omega), p]
    simp only [Option.bind_some]
    rw [if_pos (by omega), if_pos (by omega), bne_self_eq_false]
    exact hj

theorem BitsOne : cardamomlaw17_BitsOne.Pure := by
  intro l _ _ hu
  refine ⟨102, ?_⟩
  unfold cardamomlaw17_BitsOne.f
  rw [at_rounds cardamomlaw17_begun.mono (by omega : 100 ≤ 102) bits_begun_one]
  simp only [Option.bind_some, if_true]
  by_cases h1 : (l.length : Int) > 10
  · rw [if_pos h1]
  · rw [if_neg h1]
    have hb : ∀ x ∈ l, 0 ≤ x ∧ x ≤ 255 := fun x hx => byte_in (hu x hx)
    rw [(num_f l (by omega) hb 102 (by omega)).1, (text_f l (by omega) hb 102 (by omega)).1]
    simp only [Option.bind_some]
    have n0 := numOf_not l
    have t0 := textOf_not l
    rcases hn : numOf l with ⟨v, n, ok⟩
    rcases ht : textOf l with ⟨t, m, ok2⟩
    have hj := one_j0 l (by omega) hb v n ok t m ok2 hn ht
    rw [hn] at n0
    rw [ht] at t0
    have ht2 : ok2 = false → t.toList = ([] : List UInt8) ∧ (m != 0) = false := fun h => by
      have e := t0 h
      simp only [Prod.mk.injEq] at e
      rw [e.1, e.2.1]
      exact ⟨by decide +kernel, by decide⟩
    have hn2 : ok = false → v = 0 ∧ n = 0 := fun h => by
      have e := n0 h
      simp only [Prod.mk.injEq] at e
      exact ⟨e.1, e.2.1⟩
    dsimp only
    have hrest : (if ok2 = true then (cardamomlaw17_BitsOne.j0 102 l v n ok t m ok2 false) else (if t.toList = ([] : List UInt8) then (cardamomlaw17_BitsOne.j0 102 l v n ok t m ok2 (m != 0)) else (cardamomlaw17_BitsOne.j0 102 l v n ok t m ok2 true))) = some true := by
      cases hok2 : ok2 with
      | true => rw [if_pos rfl]; rw [hok2] at hj; exact hj
      | false =>
        have q := ht2 hok2
        rw [if_neg (by decide), if_pos q.1, q.2]
        rw [hok2] at hj
        exact hj
    by_cases hok : ok = true
    · rw [if_pos hok]
      exact hrest
    · have q := hn2 (by simpa using hok)
      rw [if_neg hok, if_pos q.1, if_pos q.2]
      exact hrest

end Go.Proofs.Ytnidonakekiloaa.Pure
