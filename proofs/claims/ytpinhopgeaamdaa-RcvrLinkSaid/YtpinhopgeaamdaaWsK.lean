/-
  What is proved here: all is sent in order, each under its number, never more than so many under way: a plain law of rows.
  Conditions: none.
-/
import Derived.Test.YtpinhopgeaamdaaWrK
set_option linter.unusedVariables false
set_option linter.unusedSimpArgs false
namespace Go.Proofs.Ytpinhopgeaamdaa.Pl
open Go Go.Proofs

def mkL (all : List (List UInt8)) (B n : Nat) : List Sg := (List.range n).map fun k => ⟨((B + k : Nat) : Int) + 1, all.getD (B + k) []⟩
theorem mkL_len (all : List (List UInt8)) (B n : Nat) : (mkL all B n).length = n := by simp [mkL]
theorem mkL_get (all : List (List UInt8)) (B n k : Nat) (h : k < n) : (mkL all B n)[k]? = some ⟨((B + k : Nat) : Int) + 1, all.getD (B + k) []⟩ := by
  simp [mkL, h]
theorem mkL_succ (all : List (List UInt8)) (B n : Nat) : mkL all B (n + 1) = mkL all B n ++ [⟨((B + n : Nat) : Int) + 1, all.getD (B + n) []⟩] := by
  simp [mkL, List.range_succ]
theorem mkL_app (all : List (List UInt8)) (B a : Nat) : ∀ (b : Nat), mkL all B (a + b) = mkL all B a ++ mkL all (B + a) b
  | 0 => by simp [mkL]
  | b + 1 => by
    rw [← Nat.add_assoc, mkL_succ, mkL_app all B a b, mkL_succ, List.append_assoc, Nat.add_assoc]
theorem mkL_more (all : List (List UInt8)) (s : List UInt8) (B : Nat) : ∀ (n : Nat), B + n ≤ all.length → mkL (all ++ [s]) B n = mkL all B n
  | 0, _ => rfl
  | n + 1, h => by
    rw [mkL_succ, mkL_succ, mkL_more all s B n (by omega)]
    congr 2
    rw [List.getD_eq_getElem?_getD, List.getD_eq_getElem?_getD, List.getElem?_append_left (by omega)]
structure Good (w : Wd) (all : List (List UInt8)) (B N : Nat) : Prop where
  base : w.base = (B : Int) + 1
  next : w.next = (N : Int) + 1
  bn : B ≤ N
  n4 : N ≤ B + 4
  na : N ≤ all.length
  L : w.L = mkL all B (N - B)
  wait : w.wait = all.drop N
  full : N < all.length → N = B + 4
theorem goW_good (all : List (List UInt8)) (B : Nat) : ∀ (m N : Nat), all.length - N ≤ m → B ≤ N → N ≤ B + 4 → N ≤ all.length → ∃ N', Good (goW ((B : Int) + 1) ((N : Int) + 1) (mkL all B (N - B)) (all.drop N)) all B N'
  | 0, N, hm, h1, h2, h3 => by
    have : all.drop N = [] := List.drop_eq_nil_of_le (by omega)
    rw [this]
    exact ⟨N, ⟨rfl, rfl, h1, h2, h3, rfl, by simp [goW, this], fun h => by omega⟩⟩
  | m + 1, N, hm, h1, h2, h3 => by
    by_cases hN : N < all.length
    · have hd : all.drop N = all[N] :: all.drop (N + 1) := List.drop_eq_getElem_cons hN
      rw [hd]
      by_cases h4 : N < B + 4
      · obtain ⟨N', hg⟩ := goW_good all B m (N + 1) (by omega) (by omega) (by omega) (by omega)
        refine ⟨N', ?_⟩
        have e : mkL all B (N - B) ++ [⟨(N : Int) + 1, all[N]⟩] = mkL all B (N + 1 - B) := by
          rw [show N + 1 - B = (N - B) + 1 by omega, mkL_succ, show B + (N - B) = N by omega]
          congr 2
          rw [List.getD_eq_getElem?_getD, List.getElem?_eq_getElem hN]
          rfl
        have e2 : ((N : Int) + 1) + 1 = ((N + 1 : Nat) : Int) + 1 := by omega
        simp only [goW]
        rw [if_pos (by omega), e, e2]
        exact hg
      · simp only [goW]
        rw [if_neg (by omega)]
        exact ⟨N, ⟨rfl, rfl, h1, h2, h3, rfl, hd.symm, fun _ => by omega⟩⟩
    · have : all.drop N = [] := List.drop_eq_nil_of_le (by omega)
      rw [this]
      exact ⟨N, ⟨rfl, rfl, h1, h2, h3, rfl, by simp [goW, this], fun h => by omega⟩⟩
theorem Good.send {w : Wd} {all : List (List UInt8)} {B N : Nat} (g : Good w all B N) (s : List UInt8) : ∃ N', Good (sendW w s) (all ++ [s]) B N' := by
  have := goW_good (all ++ [s]) B ((all ++ [s]).length - N) N (Nat.le_refl _) g.bn g.n4 (by have := g.na; simp; omega)
  rw [mkL_more all s B (N - B) (by have := g.na; have := g.bn; omega), List.drop_append_of_le_length g.na] at this
  unfold sendW
  rw [g.base, g.next, g.L, g.wait]
  exact this
theorem keepP_mkL (all : List (List UInt8)) (B n : Nat) (up : Int) (a b : Nat) (hn : n = a + b) (hup : up = ((B + a : Nat) : Int)) : keepP (fun s => decide (s.num ≤ up)) (mkL all B n) = mkL all (B + a) b := by
  subst hn hup
  rw [mkL_app]
  unfold keepP
  rw [List.filter_append]
  have h1 : (mkL all B a).filter (fun s => !decide (s.num ≤ ((B + a : Nat) : Int))) = [] := by
    rw [List.filter_eq_nil_iff]
    intro s hs
    obtain ⟨k, hk, rfl⟩ := List.mem_map.1 hs
    simp at hk ⊢
    omega
  have h2 : (mkL all (B + a) b).filter (fun s => !decide (s.num ≤ ((B + a : Nat) : Int))) = mkL all (B + a) b := by
    rw [List.filter_eq_self]
    intro s hs
    obtain ⟨k, hk, rfl⟩ := List.mem_map.1 hs
    simp at hk ⊢
    omega
  rw [h1, h2]
  rfl
theorem Good.told {w : Wd} {all : List (List UInt8)} {B N : Nat} (g : Good w all B N) (up : Int) : ∃ B' N', Good (toldW w up) all B' N' := by
  unfold toldW
  split
  · exact ⟨B, N, g⟩
  · rename_i h
    rw [g.base, g.next] at h
    have hn := g.bn
    have h4 := g.n4
    have ha := g.na
    obtain ⟨U, hU⟩ : ∃ U : Nat, up = U := ⟨up.toNat, by omega⟩
    obtain ⟨N', hg⟩ := goW_good all U (all.length - N) N (Nat.le_refl _) (by omega) (by omega) ha
    refine ⟨U, N', ?_⟩
    rw [g.L, keepP_mkL all B (N - B) up (U - B) (N - U) (by omega) (by omega), g.wait, g.next, hU, show B + (U - B) = U by omega]
    exact hg
theorem Good.ok {w : Wd} {all : List (List UInt8)} {B N : Nat} (g : Good w all B N) {n : Nat} (h : all.length ≤ n) (h4 : 4 ≤ n) : w.ok n := by
  have := g.bn
  have := g.n4
  have := g.na
  refine ⟨by rw [g.base, g.next]; omega, by rw [g.next]; omega, by rw [g.L, mkL_len]; omega, by rw [g.wait]; simp; omega⟩
end Go.Proofs.Ytpinhopgeaamdaa.Pl
