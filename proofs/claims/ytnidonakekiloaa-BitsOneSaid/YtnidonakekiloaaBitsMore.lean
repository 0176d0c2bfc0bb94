/- Numbers and texts written one by one: what is read of what was written. -/
import Derived.Test.YtnidonakekiloaaBitsPlain
namespace Go.Proofs.Ytnidonakekiloaa.Pure
open Go.RowKit Go.Proofs.Ytnidonakekiloaa.PAll Go.Proofs.YtnidonakekiloaaW.PrintWords Go.Proofs.YtnidonakekiloaaW.PrintLast Go.Proofs.YtnidonakekiloaaW.PrintMore

theorem byte_in {x : Int} (h : (Lit.int .u8 x).wf = true) : 0 ≤ x ∧ x ≤ 255 := by
  simp [Lit.wf, IntKind.min, IntKind.max, IntKind.bits, IntKind.signed] at h
  omega
theorem word_in {x : Int} (h : (Lit.int .u32 x).wf = true) : 0 ≤ x ∧ x ≤ 4294967295 := by
  simp [Lit.wf, IntKind.min, IntKind.max, IntKind.bits, IntKind.signed] at h
  omega
theorem str_bytes (t : ByteArray) : strOfNums (bytesOf t) = t := by
  unfold strOfNums bytesOf
  rw [List.map_map]
  have : ((fun n : Int => UInt8.ofNat n.toNat) ∘ fun b : UInt8 => (b.toNat : Int)) = id := by
    funext b
    simp
  rw [this, List.map_id]
theorem bytesOf_in (t : ByteArray) : ∀ x ∈ bytesOf t, 0 ≤ x ∧ x ≤ 255 := by
  intro x hx
  unfold bytesOf at hx
  obtain ⟨b, _, rfl⟩ := List.mem_map.1 hx
  have := b.toNat_lt
  omega
theorem bytes_str (l : List Int) (hb : ∀ x ∈ l, 0 ≤ x ∧ x ≤ 255) : bytesOf (strOfNums l) = l := by
  unfold strOfNums bytesOf
  rw [List.toList_toArray, List.map_map]
  conv => rhs; rw [← List.map_id l]
  apply List.map_congr_left
  intro x hx
  have := hb x hx
  simp only [Function.comp, id]
  rw [UInt8.toNat_ofNat_of_lt' (by simp [UInt8.size]; omega)]
  omega
theorem str_size (l : List Int) : (strOfNums l).size = l.length := by
  unfold strOfNums
  simp [ByteArray.size]

theorem numOf_enc (v : Int) (r : List Int) (h0 : 0 ≤ v) (h1 : v < 34359738368) : numOf (enc 4 v ++ r) = (v, ((enc 4 v).length : Int), true) := by
  have hM5 : M (4 + 1) = 34359738368 := rfl
  have := D_enc 4 v true r h0 (by omega) (fun h => by cases h)
  unfold numOf
  rw [this]
theorem numOf_cut (v : Int) (m : Nat) (h0 : 0 ≤ v) (h1 : v < 34359738368) (hm : m < (enc 4 v).length) : numOf ((enc 4 v).take m) = (0, 0, false) := by
  have hM5 : M (4 + 1) = 34359738368 := rfl
  have := D_cut 4 v true m h0 (by omega) hm
  unfold numOf
  rw [this]
theorem textOf_enc (t : ByteArray) (r : List Int) (h : t.size ≤ 100000) : textOf (enc 4 (t.size : Int) ++ bytesOf t ++ r) = (t, ((enc 4 (t.size : Int) ++ bytesOf t).length : Int), true) := by
  have hM5 : M (4 + 1) = 34359738368 := rfl
  have := D_enc 4 (t.size : Int) true (bytesOf t ++ r) (by omega) (by omega) (fun h => by cases h)
  unfold textOf
  rw [List.append_assoc, this]
  clear this
  have hl := bytesOf_length t
  generalize enc 4 (t.size : Int) = E
  have e1 : (E ++ (bytesOf t ++ r)).take (E.length + (bytesOf t).length) = E ++ bytesOf t := by
    rw [List.take_append, List.take_of_length_le (by omega), Nat.add_sub_cancel_left, List.take_append, List.take_of_length_le (Nat.le_refl _), Nat.sub_self, List.take_zero, List.append_nil]
  dsimp only
  rw [if_neg (by simp only [List.length_append]; omega), Int.toNat_natCast, ← hl, e1, List.drop_left, str_bytes, List.length_append]
theorem textOf_cut (t : ByteArray) (m : Nat) (h : t.size ≤ 100000) (hm : m < (enc 4 (t.size : Int) ++ bytesOf t).length) : textOf ((enc 4 (t.size : Int) ++ bytesOf t).take m) = ((⟨#[]⟩ : ByteArray), 0, false) := by
  have hM5 : M (4 + 1) = 34359738368 := rfl
  have hl := bytesOf_length t
  rw [List.length_append] at hm
  unfold textOf
  by_cases hc : m < (enc 4 (t.size : Int)).length
  · have := D_cut 4 (t.size : Int) true m (by omega) (by omega) hc
    rw [List.take_append_of_le_length (by omega), this]
  · have e : (enc 4 (t.size : Int) ++ bytesOf t).take m = enc 4 (t.size : Int) ++ (bytesOf t).take (m - (enc 4 (t.size : Int)).length) := by
      rw [List.take_append, List.take_of_length_le (by omega)]
    have := D_enc 4 (t.size : Int) true ((bytesOf t).take (m - (enc 4 (t.size : Int)).length)) (by omega) (by omega) (fun h => by cases h)
    rw [e, this]
    dsimp only
    rw [if_pos (by simp only [List.length_append, List.length_take]; omega)]

/-- A text that stands was written so. -/
theorem textOf_back (l : List Int) (hb : ∀ x ∈ l, 0 ≤ x ∧ x ≤ 255) (t : ByteArray) (m : Int) (h : textOf l = (t, m, true)) : 1 ≤ m ∧ m ≤ (l.length : Int) ∧ t.size ≤ l.length ∧ enc 4 (t.size : Int) ++ bytesOf t = l.take m.toNat := by
  unfold textOf at h
  cases hD : D 5 l true with
  | none => rw [hD] at h; simp at h
  | some x =>
    obtain ⟨v, n⟩ := x
    rw [hD] at h
    have a := D_in 5 l true v n hb hD
    have b := D_enc_back 4 l true v n hb hD
    dsimp only at h
    by_cases hv : v > (l.length : Int) - n
    · rw [if_pos hv] at h; simp at h
    · rw [if_neg hv] at h
      simp only [Prod.mk.injEq, and_true] at h
      obtain ⟨rfl, rfl⟩ := h
      have hs := str_size ((l.take (n + v.toNat)).drop n)
      rw [List.length_drop, List.length_take, Nat.min_eq_left (by omega)] at hs
      have hbt : bytesOf (strOfNums ((l.take (n + v.toNat)).drop n)) = (l.take (n + v.toNat)).drop n := bytes_str _ (fun x hx => hb x (List.mem_of_mem_take (List.mem_of_mem_drop hx)))
      have ev : ((strOfNums ((l.take (n + v.toNat)).drop n)).size : Int) = v := by omega
      refine ⟨by omega, by omega, by omega, ?_⟩
      rw [ev, hbt, b, Int.toNat_natCast]
      have := List.take_append_drop n (l.take (n + v.toNat))
      rw [List.take_take, Nat.min_eq_left (by omega)] at this
      exact this
theorem textOf_not (l : List Int) (h : (textOf l).2.2 = false) : textOf l = ((⟨#[]⟩ : ByteArray), 0, false) := by
  unfold textOf at h ⊢
  cases hD : D 5 l true with
  | none => rfl
  | some x =>
    obtain ⟨v, n⟩ := x
    rw [hD] at h
    dsimp only at h ⊢
    by_cases hv : v > (l.length : Int) - n
    · rw [if_pos hv]
    · rw [if_neg hv] at h; simp at h
theorem numOf_back (l : List Int) (hb : ∀ x ∈ l, 0 ≤ x ∧ x ≤ 255) (v n : Int) (h : numOf l = (v, n, true)) : 0 ≤ v ∧ v < 34359738368 ∧ 1 ≤ n ∧ n ≤ (l.length : Int) ∧ enc 4 v = l.take n.toNat := by
  unfold numOf at h
  cases hD : D 5 l true with
  | none => rw [hD] at h; simp at h
  | some x =>
    obtain ⟨v', n'⟩ := x
    rw [hD] at h
    have a := D_in 5 l true v' n' hb hD
    have b := D_enc_back 4 l true v' n' hb hD
    have hM5 : M 5 = 34359738368 := rfl
    simp only [Prod.mk.injEq, and_true] at h
    obtain ⟨rfl, rfl⟩ := h
    exact ⟨by omega, by omega, by omega, by omega, by rw [Int.toNat_natCast]; exact b⟩
theorem numOf_not (l : List Int) (h : (numOf l).2.2 = false) : numOf l = (0, 0, false) := by
  unfold numOf at h ⊢
  cases hD : D 5 l true with
  | none => rfl
  | some x => rw [hD] at h; simp at h

end Go.Proofs.Ytnidonakekiloaa.Pure
