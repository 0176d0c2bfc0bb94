import Derived.Test.YtnidonakekiloaaPAllx53
import Derived.Test.YtnidonakekiloaaBitsMore
namespace Go.Proofs.Ytnidonakekiloaa.Pure
open Go.RowKit Go.Proofs.Ytnidonakekiloaa.PAll Go.Proofs.YtnidonakekiloaaW.PrintWords Go.Proofs.YtnidonakekiloaaW.PrintLast Go.Proofs.YtnidonakekiloaaW.PrintMore

theorem bits_begun_back : cardamomlaw17_begun.f 100 = some true := by decide +kernel

theorem back_j1 (a : Int) (t : ByteArray) (l : List Int) (c : Int) (ha : 0 ≤ a ∧ a ≤ 4294967295) (ht : t.size ≤ 200) (hl : l.length ≤ 20) (hb : ∀ x ∈ l, 0 ≤ x ∧ x ≤ 255) (hc : 0 ≤ c ∧ c ≤ 255) :
    cardamomlaw17_BitsBack.j1 102 a t l c (enc 4 a) (enc 4 (t.size : Int) ++ bytesOf t) false = some true := by
  have hM5 : M (4 + 1) = 34359738368 := rfl
  have n1 := numOf_enc a l ha.1 (by omega)
  have n2 := numOf_cut a
  have t1 := textOf_enc t l (by omega)
  have t2 := textOf_cut t
  have hla := enc_length 4 a
  have hlt := enc_length 4 (t.size : Int)
  have hlb := bytesOf_length t
  have ba := enc_bytes 4 a ha.1 (by omega)
  have bt := enc_bytes 4 (t.size : Int) (by omega) (by omega)
  have bt2 : ∀ x ∈ enc 4 (t.size : Int) ++ bytesOf t, 0 ≤ x ∧ x ≤ 255 := fun x hx => by
    rcases List.mem_append.1 hx with h | h
    · exact bt x h
    · exact bytesOf_in t x h
  have hlT : (enc 4 (t.size : Int) ++ bytesOf t).length = (enc 4 (t.size : Int)).length + t.size := by rw [List.length_append, hlb]
  generalize hA : enc 4 a = A at *
  generalize hT : enc 4 (t.size : Int) ++ bytesOf t = T at *
  have f1 := num_f (A ++ l) (by rw [List.length_append]; omega) (fun x hx => (List.mem_append.1 hx).elim (ba x) (hb x)) 101 (by omega)
  have f2 := text_f (T ++ l) (by rw [List.length_append]; omega) (fun x hx => (List.mem_append.1 hx).elim (bt2 x) (hb x)) 101 (by omega)
  have m0 : 0 ≤ Int.tmod c (A.length : Int) := Int.tmod_nonneg _ hc.1
  have m1 : Int.tmod c (A.length : Int) < (A.length : Int) := Int.tmod_lt_of_pos _ (by omega)
  have m2 : 0 ≤ Int.tmod c (T.length : Int) := Int.tmod_nonneg _ hc.1
  have m3 : Int.tmod c (T.length : Int) < (T.length : Int) := Int.tmod_lt_of_pos _ (by omega)
  have hw : wrap64 c = c := w64v (by omega) (by omega)
  have hwa : wrap64 a = a := w64v (by omega) (by omega)
  have f3 := num_f (A.take (Int.tmod c (A.length : Int)).toNat) (by rw [List.length_take]; omega) (fun x hx => ba x (List.mem_of_mem_take hx)) 101 (by omega)
  have f4 := text_f (T.take (Int.tmod c (T.length : Int)).toNat) (by rw [List.length_take]; omega) (fun x hx => bt2 x (List.mem_of_mem_take hx)) 101 (by omega)
  rw [n1] at f1
  rw [t1] at f2
  rw [n2 _ ha.1 (by omega) (by omega)] at f3
  rw [t2 _ (by omega) (by omega)] at f4
  show cardamomlaw17_BitsBack.j1 (101 + 1) a t l c A T false = some true
  rw [cardamomlaw17_BitsBack.j1, if_neg (by decide)]
  simp only [Option.bind_some, List.nil_append]
  rw [if_pos (by simp only [List.length_nil]; omega), if_pos (by omega), f1.1]
  simp only [Option.bind_some]
  rw [if_pos (by simp only [List.length_nil]; omega), if_pos (by omega), f2.1]
  simp only [Option.bind_some]
  rw [hw, hwa, if_neg (by omega), if_pos m0, if_pos (by omega), f3.1]
  simp only [Option.bind_some]
  rw [if_neg (by omega), if_pos m2, if_pos (by omega), f4.1]
  simp

theorem BitsBack : cardamomlaw17_BitsBack.Pure := by
  intro a t l c ha _ _ _ hu hc
  refine ⟨103, ?_⟩
  have ha' := word_in ha
  have hc' := byte_in hc
  unfold cardamomlaw17_BitsBack.f
  rw [at_rounds cardamomlaw17_begun.mono (by omega : 100 ≤ 103) bits_begun_back]
  simp only [Option.bind_some, if_true]
  by_cases h1 : (t.size : Int) > 200
  · rw [if_pos h1]; rfl
  · rw [if_neg h1]
    by_cases h2 : (l.length : Int) > 20
    · rw [decide_eq_true h2]; rfl
    · have p := (put_f a [] 102 (by omega) (by omega) (by decide) (by omega)).1
      have q := (putText_f t [] 102 (by omega) (by decide) (by omega)).1
      have hla := enc_length 4 a
      have hlt := enc_length 4 (t.size : Int)
      have hw : wrap64 a = a := w64v (by omega) (by omega)
      have hj := back_j1 a t l c ha' (by omega) (by omega) (fun x hx => byte_in (hu x hx)) hc'
      rw [decide_eq_false h2]
      show cardamomlaw17_BitsBack.j0 (102 + 1) a t l c false = some true
      rw [cardamomlaw17_BitsBack.j0, if_neg (by decide), hw, p, q]
      simp only [Option.bind_some, List.nil_append]
      rw [if_neg (by omega)]
      have e : ((((enc 4 (t.size : Int) ++ bytesOf t).length : Nat) : Int) == 0) = false := by
        rw [beq_eq_false_iff_ne, List.length_append]
        omega
      rw [e]
      exact hj

end Go.Proofs.Ytnidonakekiloaa.Pure
