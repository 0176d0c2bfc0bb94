/- Words of a text, all of them: the program and the document. -/
import Derived.Test.YtnidonakekiloaaPAllx28
import Derived.Test.YtnidonakekiloaaPAllx33
import Derived.Test.YtnidonakekiloaaPAllx34
import Derived.Test.YtnidonakekiloaaWordPlain
namespace Go.Proofs.Ytnidonakekiloaa.Pure
open Go.RowKit Go.Proofs.Ytnidonakekiloaa.PAll Go.Proofs.YtnidonakekiloaaW.PrintWords Go.Proofs.YtnidonakekiloaaW.PrintLast Go.Proofs.YtnidonakekiloaaW.PrintMore

def conv (x : S46) : S65 := ⟨x.f0, x.f1, x.f2, x.f3⟩

theorem rest_size (s : ByteArray) (i : Nat) (h : i ≤ s.size) : (s.extract i s.size).size = s.size - i := by
  rw [ByteArray.size_extract]
  omega

theorem all_tells (s : ByteArray) (hs : s.size ≤ 80) (d : Nat) : ∀ (i : Nat), s.size ≤ i + d → i ≤ s.size → ∀ (L : List S46), L.length ≤ 60 → ∃ (R : List S46) (n : Int) (ok : Bool),
    (∀ k, d + 120 ≤ k → word_All.l0 k s L (i : Int) = some (R, n, ok)) ∧ (∀ k, d + 230 ≤ k → cardamomref4_Words.l0 k s (L.map conv) (i : Int) = some (R.map conv, n, ok)) ∧ R.length ≤ 60 := by
  induction d with
  | zero =>
    intro i hi hi2 L hL
    refine ⟨L, 0, true, fun k hk => ?_, fun k hk => ?_, hL⟩
    · obtain ⟨k, rfl⟩ : ∃ m, k = m + 1 := ⟨k - 1, by omega⟩
      rw [word_All.l0, if_neg (by omega)]
    · obtain ⟨k, rfl⟩ : ∃ m, k = m + 1 := ⟨k - 1, by omega⟩
      rw [cardamomref4_Words.l0, if_neg (by omega)]
  | succ d ih =>
    intro i hi hi2 L hL
    by_cases he : i = s.size
    · refine ⟨L, 0, true, fun k hk => ?_, fun k hk => ?_, hL⟩
      · obtain ⟨k, rfl⟩ : ∃ m, k = m + 1 := ⟨k - 1, by omega⟩
        rw [word_All.l0, if_neg (by omega)]
      · obtain ⟨k, rfl⟩ : ∃ m, k = m + 1 := ⟨k - 1, by omega⟩
        rw [cardamomref4_Words.l0, if_neg (by omega)]
    · have hrs := rest_size s i hi2
      by_cases h32 : bt s (i : Int) = 32
      · obtain ⟨R, n, ok, h1, h2, h3⟩ := ih (i + 1) (by omega) (by omega) L hL
        refine ⟨R, n, ok, fun k hk => ?_, fun k hk => ?_, h3⟩
        · obtain ⟨k, rfl⟩ : ∃ m, k = m + 1 := ⟨k - 1, by omega⟩
          rw [word_All.l0, if_pos (by omega), if_pos (by omega), if_pos h32, w64w (by omega) (by omega)]
          exact h1 k (by omega)
        · obtain ⟨k, rfl⟩ : ∃ m, k = m + 1 := ⟨k - 1, by omega⟩
          rw [cardamomref4_Words.l0, if_pos (by omega), if_pos (by omega), if_pos h32, w64w (by omega) (by omega)]
          exact h2 k (by omega)
      · obtain ⟨kd, st, v, n, ok, o1, o2, o3⟩ := one_tells (s.extract i s.size) (by omega) (by omega)
        have w1 : ∀ k, 120 ≤ k → word_All.l0 (k + 1) s L (i : Int) = (if ok = true then (if (L.length : Int) ≥ 60 then (some (([] : List (S46)), (i : Int), false)) else (if L.length < 3518437208883 then (word_All.l0 k s (L ++ [(⟨kd, st, v, (i : Int)⟩ : S46)]) (wrap64 ((i : Int) + (n : Int)))) else (none))) else (some (([] : List (S46)), (i : Int), false))) := fun k hk => by
          rw [word_All.l0, if_pos (by omega), if_pos (by omega), if_neg h32, if_pos (by omega), Int.toNat_natCast, o1 k (by omega)]
          rfl
        have w2 : ∀ k, 230 ≤ k → cardamomref4_Words.l0 (k + 1) s (L.map conv) (i : Int) = ((some (if ok then (kd, st, v, 0, (n : Int)) else none5)).bind fun bt258 => (if bt258.2.2.2.2 = 0 then (some (([] : List (S65)), (i : Int), false)) else (if ((L.map conv).length : Int) ≥ 60 then (some (([] : List (S65)), (i : Int), false)) else (if (L.map conv).length < 3518437208883 then (cardamomref4_Words.l0 k s ((L.map conv) ++ [(⟨bt258.1, bt258.2.1, bt258.2.2.1, (i : Int)⟩ : S65)]) (wrap64 ((i : Int) + bt258.2.2.2.2))) else (none))))) := fun k hk => by
          rw [cardamomref4_Words.l0, if_pos (by omega), if_pos (by omega), if_neg h32, if_pos (by omega), Int.toNat_natCast, o2 k (by omega)]
        cases ok with
        | false =>
          refine ⟨[], (i : Int), false, fun k hk => ?_, fun k hk => ?_, by simp⟩
          · obtain ⟨k, rfl⟩ : ∃ m, k = m + 1 := ⟨k - 1, by omega⟩
            rw [w1 k (by omega), if_neg (by decide)]
          · obtain ⟨k, rfl⟩ : ∃ m, k = m + 1 := ⟨k - 1, by omega⟩
            rw [w2 k (by omega)]
            rfl
        | true =>
          have hn := o3 rfl
          by_cases h60 : L.length ≥ 60
          · refine ⟨[], (i : Int), false, fun k hk => ?_, fun k hk => ?_, by simp⟩
            · obtain ⟨k, rfl⟩ : ∃ m, k = m + 1 := ⟨k - 1, by omega⟩
              rw [w1 k (by omega), if_pos rfl, if_pos (by omega)]
            · obtain ⟨k, rfl⟩ : ∃ m, k = m + 1 := ⟨k - 1, by omega⟩
              rw [w2 k (by omega)]
              simp only [if_true, Option.bind_some]
              rw [if_neg (by omega), if_pos (by rw [List.length_map]; omega)]
              rfl
          · obtain ⟨R, m, ok2, h1, h2, h3⟩ := ih (i + n) (by omega) (by omega) (L ++ [(⟨kd, st, v, (i : Int)⟩ : S46)]) (by simp; omega)
            refine ⟨R, m, ok2, fun k hk => ?_, fun k hk => ?_, h3⟩
            · obtain ⟨k, rfl⟩ : ∃ m, k = m + 1 := ⟨k - 1, by omega⟩
              rw [w1 k (by omega), if_pos rfl, if_neg (by omega), if_pos (by omega), w64w (by omega) (by omega)]
              exact h1 k (by omega)
            · obtain ⟨k, rfl⟩ : ∃ m, k = m + 1 := ⟨k - 1, by omega⟩
              rw [w2 k (by omega)]
              simp only [if_true, Option.bind_some]
              rw [if_neg (by omega), if_neg (by rw [List.length_map]; omega), if_pos (by rw [List.length_map]; omega), w64w (by omega) (by omega)]
              have := h2 k (by omega)
              rw [List.map_append] at this
              exact this

theorem all_f (s : ByteArray) : ∃ (R : List S46) (n : Int) (ok : Bool), (∀ k, 400 ≤ k → word_All.f k s = some (R, n, ok)) ∧ (∀ k, 400 ≤ k → cardamomref4_Words.f k s = some (R.map conv, n, ok)) ∧ R.length ≤ 60 := by
  by_cases h : s.size ≤ 80
  · obtain ⟨R, n, ok, h1, h2, h3⟩ := all_tells s h 80 0 (by omega) (by omega) [] (by simp)
    refine ⟨R, n, ok, fun k hk => ?_, fun k hk => ?_, h3⟩
    · unfold word_All.f
      rw [if_neg (by omega)]
      exact h1 k (by omega)
    · unfold cardamomref4_Words.f
      rw [if_neg (by omega)]
      exact h2 k (by omega)
  · refine ⟨[], 0, false, fun k hk => ?_, fun k hk => ?_, by simp⟩
    · unfold word_All.f
      rw [if_pos (by omega)]
    · unfold cardamomref4_Words.f
      rw [if_pos (by omega)]
      rfl

theorem rd_conv (R : List S46) (i : Nat) (h : i < R.length) : rd_T65 (R.map conv) (i : Int) = conv (rd_T46 R (i : Int)) := by
  unfold rd_T65 rd_T46
  rw [Int.toNat_natCast, List.getD_eq_getElem?_getD, List.getD_eq_getElem?_getD, List.getElem?_map, List.getElem?_eq_getElem h]
  rfl

theorem same_tells (R : List S46) (hR : R.length ≤ 1000) (d : Nat) : ∀ (i k : Nat), i + d = R.length → d + 1 ≤ k → cardamomlaw4_same.l0 k R (R.map conv) (i : Int) = some true := by
  induction d with
  | zero =>
    intro i k hi hk
    obtain ⟨k, rfl⟩ : ∃ m, k = m + 1 := ⟨k - 1, by omega⟩
    rw [cardamomlaw4_same.l0, if_neg (by omega)]
  | succ d ih =>
    intro i k hi hk
    obtain ⟨k, rfl⟩ : ∃ m, k = m + 1 := ⟨k - 1, by omega⟩
    rw [cardamomlaw4_same.l0, if_pos (by omega), if_pos (by omega), if_pos (by rw [List.length_map]; omega), rd_conv R i (by omega)]
    simp only [conv, if_true]
    rw [w64w (by omega) (by omega)]
    exact ih (i + 1) k (by omega) (by omega)
theorem same_f (R : List S46) (hR : R.length ≤ 1000) (k : Nat) (hk : 1001 ≤ k) : cardamomlaw4_same.f k R (R.map conv) = some true := by
  unfold cardamomlaw4_same.f
  rw [if_pos (by rw [List.length_map])]
  exact same_tells R hR R.length 0 k (by omega) (by omega)
end Go.Proofs.Ytnidonakekiloaa.Pure
