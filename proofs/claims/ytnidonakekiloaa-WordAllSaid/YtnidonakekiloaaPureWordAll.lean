import Derived.Test.YtnidonakekiloaaPAllx35
import Derived.Test.YtnidonakekiloaaWordTells
namespace Go.Proofs.Ytnidonakekiloaa.Pure
open Go.RowKit Go.Proofs.Ytnidonakekiloaa.PAll Go.Proofs.YtnidonakekiloaaW.PrintWords Go.Proofs.YtnidonakekiloaaW.PrintLast Go.Proofs.YtnidonakekiloaaW.PrintMore

def Pieces : List ByteArray := ([(⟨#[97]⟩ : ByteArray), (⟨#[97, 98, 99]⟩ : ByteArray), (⟨#[32]⟩ : ByteArray), (⟨#[55]⟩ : ByteArray), (⟨#[49, 50]⟩ : ByteArray), (⟨#[49, 50, 51]⟩ : ByteArray), (⟨#[97, 98, 99, 100, 101, 102, 103]⟩ : ByteArray), (⟨#[40]⟩ : ByteArray), (⟨#[41]⟩ : ByteArray), (⟨#[33]⟩ : ByteArray), (⟨#[38]⟩ : ByteArray), (⟨#[124]⟩ : ByteArray), (⟨#[42]⟩ : ByteArray), (⟨#[61]⟩ : ByteArray), (⟨#[58]⟩ : ByteArray), (⟨#[45]⟩ : ByteArray), (⟨#[64]⟩ : ByteArray), (⟨#[94]⟩ : ByteArray), (⟨#[65]⟩ : ByteArray), (⟨#[63]⟩ : ByteArray), (⟨#[10]⟩ : ByteArray)] : List ByteArray)

theorem piece_all : ∀ c : Fin 21, (rdOf ByteArray.empty Pieces (c.val : Int)).size ≤ 7 := by decide +kernel
theorem piece_size (c : Int) (h0 : 0 ≤ c) (h1 : c < 21) : (rdOf ByteArray.empty Pieces c).size ≤ 7 := by
  obtain ⟨n, rfl⟩ := Int.eq_ofNat_of_zero_le h0
  exact piece_all ⟨n, by omega⟩

theorem rd_in (l : List Int) (P : Int → Prop) (h : ∀ x ∈ l, P x) (i : Nat) (hi : i < l.length) : P (rd l (i : Int)) := by
  unfold rd
  rw [Int.toNat_natCast, List.getD_eq_getElem?_getD, List.getElem?_eq_getElem hi]
  exact h _ (List.getElem_mem _)

theorem round_tells (s t : ByteArray) (k : Nat) (hk : 1010 ≤ k) : cardamomlaw4_WordAll.l1 k [s, t] 0 = some true := by
  obtain ⟨k, rfl⟩ : ∃ m, k = m + 1 + 1 + 1 := ⟨k - 3, by omega⟩
  obtain ⟨R, n, ok, h1, h2, h3⟩ := all_f s
  obtain ⟨R', n', ok', h1', h2', h3'⟩ := all_f t
  have e0 : rdOf ByteArray.empty [s, t] 0 = s := rfl
  have e1 : rdOf ByteArray.empty [s, t] 1 = t := rfl
  have hb : ∀ b : Bool, (b != b) = false := fun b => by cases b <;> rfl
  have a0 : wrap64 ((0 : Int) + 1) = 1 := by decide +kernel
  have a1 : wrap64 ((1 : Int) + 1) = 2 := by decide +kernel
  have hl : (([s, t] : List ByteArray).length : Int) = 2 := rfl
  rw [cardamomlaw4_WordAll.l1, if_pos (by omega), if_pos (by omega), if_pos (by omega), e0, h1 _ (by omega), h2 _ (by omega)]
  simp only [Option.bind_some]
  rw [hb, if_neg (by decide), if_pos trivial, same_f R (by omega) _ (by omega)]
  simp only [Option.bind_some]
  rw [if_pos trivial, a0]
  rw [cardamomlaw4_WordAll.l1, if_pos (by omega), if_pos (by omega), if_pos (by omega), e1, h1' _ (by omega), h2' _ (by omega)]
  simp only [Option.bind_some]
  rw [hb, if_neg (by decide), if_pos trivial, same_f R' (by omega) _ (by omega)]
  simp only [Option.bind_some]
  rw [if_pos trivial, a1]
  rw [cardamomlaw4_WordAll.l1, if_neg (by omega)]

theorem pieces_tells (s : ByteArray) (l : List Int) (hl : l.length ≤ 60) (hu : ∀ x ∈ l, 0 ≤ x ∧ x ≤ 255) (d : Nat) : ∀ (i : Nat) (t : ByteArray), i + d = l.length → t.size ≤ 7 * i → ∀ k, d + 1011 ≤ k →
    cardamomlaw4_WordAll.l0 k s l Pieces t (i : Int) = some true := by
  induction d with
  | zero =>
    intro i t hi ht k hk
    obtain ⟨k, rfl⟩ : ∃ m, k = m + 1 := ⟨k - 1, by omega⟩
    rw [cardamomlaw4_WordAll.l0, if_neg (by omega)]
    exact round_tells s t k (by omega)
  | succ d ih =>
    intro i t hi ht k hk
    obtain ⟨k, rfl⟩ : ∃ m, k = m + 1 := ⟨k - 1, by omega⟩
    have hr := rd_in l (fun x => 0 ≤ x ∧ x ≤ 255) hu i (by omega)
    have hp : (Pieces.length : Int) = 21 := rfl
    have hw : wrap64 (rd l (i : Int)) = rd l (i : Int) := w64w (by omega) (by omega)
    have hm0 : 0 ≤ Int.tmod (rd l (i : Int)) 21 := Int.tmod_nonneg _ (by omega)
    have hm1 : Int.tmod (rd l (i : Int)) 21 < 21 := Int.tmod_lt_of_pos _ (by omega)
    have hz := piece_size _ hm0 hm1
    rw [cardamomlaw4_WordAll.l0, hp, hw, if_pos (by omega), if_pos (by omega), if_neg (by omega), if_pos hm0, if_pos hm1, if_pos (by omega), w64w (by omega) (by omega)]
    exact ih (i + 1) _ (by omega) (by rw [ByteArray.size_append]; omega) k (by omega)

theorem wf_u8 {x : Int} (h : (Lit.int .u8 x).wf = true) : 0 ≤ x ∧ x ≤ 255 := by
  simp [Lit.wf, IntKind.min, IntKind.max, IntKind.bits, IntKind.signed] at h
  omega

theorem word_begun : cardamomlaw4_begun.f 100 = some true := by decide +kernel
theorem WordAll : cardamomlaw4_WordAll.Pure := by
  intro s l _ _ _ hu
  refine ⟨1200, ?_⟩
  unfold cardamomlaw4_WordAll.f
  rw [at_rounds cardamomlaw4_begun.mono (by omega : 100 ≤ 1200) word_begun]
  simp only [Option.bind_some, if_true]
  by_cases h1 : (s.size : Int) > 90
  · rw [if_pos h1]
    rfl
  · rw [if_neg h1]
    by_cases h2 : (l.length : Int) > 60
    · rw [decide_eq_true h2]
      rfl
    · rw [decide_eq_false h2]
      rw [show (1200 : Nat) = 1199 + 1 from rfl, cardamomlaw4_WordAll.j0, if_neg (by decide)]
      exact pieces_tells s l (by omega) (fun x hx => wf_u8 (hu x hx)) l.length 0 _ (by omega) (by decide) 1199 (by omega)
end Go.Proofs.Ytnidonakekiloaa.Pure
