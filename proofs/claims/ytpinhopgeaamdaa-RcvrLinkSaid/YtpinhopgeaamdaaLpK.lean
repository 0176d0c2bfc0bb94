/-
  What is proved here: over a way on which pieces are lost, come twice, late, each comes once, in order, and all come: a plain law of rows.
  Conditions: none.
-/
import Derived.Test.YtpinhopgeaamdaaWsK
import Derived.Test.YtpinhopgeaamdaaRbK
set_option linter.unusedVariables false
set_option linter.unusedSimpArgs false
namespace Go.Proofs.Ytpinhopgeaamdaa.Pl
open Go Go.Proofs Go.Proofs.Ev Go.Proofs.Dv Cd

theorem goW_next : ∀ (wait : List (List UInt8)) (base next : Int) (l : List Sg), next ≤ (goW base next l wait).next
  | [], base, next, l => Int.le_refl _
  | s :: r, base, next, l => by
    simp only [goW]
    split
    · have := goW_next r base (next + 1) (l ++ [⟨next, s⟩])
      omega
    · exact Int.le_refl _
/-- What is told moves on, and nothing that was sent is taken back. -/
theorem Good.told2 {w : Wd} {all : List (List UInt8)} {B N : Nat} (g : Good w all B N) (U : Nat) (h1 : B ≤ U) (h2 : U ≤ N) : ∃ N', N ≤ N' ∧ Good (toldW w (U : Int)) all U N' := by
  unfold toldW
  have hb := g.base
  have hn := g.next
  by_cases hU : U = B
  · subst hU
    rw [if_pos (.inl (by omega))]
    exact ⟨N, Nat.le_refl _, g⟩
  · rw [if_neg (by omega)]
    have hbn := g.bn
    have h4 := g.n4
    have ha := g.na
    obtain ⟨N', hg⟩ := goW_good all U (all.length - N) N (Nat.le_refl _) h2 (by omega) ha
    refine ⟨N', ?_, ?_⟩
    · have := goW_next (all.drop N) ((U : Int) + 1) ((N : Int) + 1) (mkL all U (N - U))
      have := hg.next
      omega
    · rw [g.L, keepP_mkL all B (N - B) (U : Int) (U - B) (N - U) (by omega) (by omega), g.wait, g.next, show B + (U - B) = U by omega]
      exact hg
/-- A piece that was sent. -/
def Sent (all : List (List UInt8)) (N : Nat) (x : Sg) : Prop := ∃ j : Nat, j < N ∧ x = ⟨(j : Int) + 1, all.getD j []⟩
theorem Sent.mono {all : List (List UInt8)} {N N' : Nat} {x : Sg} (h : Sent all N x) (hn : N ≤ N') : Sent all N' x := by
  obtain ⟨j, h1, h2⟩ := h
  exact ⟨j, by omega, h2⟩
theorem mkL_sent {all : List (List UInt8)} {B n : Nat} : ∀ x ∈ mkL all B n, Sent all (B + n) x := by
  intro x hx
  obtain ⟨k, hk, rfl⟩ := List.mem_map.1 hx
  have := List.mem_range.1 hk
  exact ⟨B + k, by omega, rfl⟩
/-- Behind some of it: of which was told what, in order. -/
structure Lnk (all : List (List UInt8)) (B N : Nat) (r : Rv) (n : Nat) (got : List UInt8) : Prop where
  ok : ROk r n
  lo : (B : Int) ≤ r.k.up
  hi : r.k.up ≤ N
  more : ∀ m ∈ r.k.more, m ≤ N
  segs : ∀ x ∈ r.l, Sent all N x
  got : got = (all.take r.k.up.toNat).flatten
/-- Numbers of some that rise one by one. -/
theorem nums_run (all : List (List UInt8)) (N : Nat) : ∀ (d : Nat) (u : Nat) (l : List Sg), Rise Sg.num l → (∀ x ∈ l, Sent all N x) → (∀ x, x ∈ l.map Sg.num ↔ (u : Int) < x ∧ x ≤ (u : Int) + d) → u + d ≤ all.length → l.map Sg.b = (all.drop u).take d
  | 0, u, l, hs, hl, hm, hn => by
    have : l = [] := by
      cases l with
      | nil => rfl
      | cons x r =>
        have := (hm x.num).1 (by simp)
        omega
    rw [this]
    simp
  | d + 1, u, l, hs, hl, hm, hn => by
    cases l with
    | nil =>
      have := (hm ((u : Int) + 1)).2 (by omega)
      simp at this
    | cons x r =>
      obtain ⟨h1, h2⟩ := List.pairwise_cons.1 hs
      have hx : x.num = (u : Int) + 1 := by
        have ha := (hm x.num).1 (by simp)
        have hb := (hm ((u : Int) + 1)).2 (by omega)
        rw [List.map_cons, List.mem_cons] at hb
        rcases hb with hb | hb
        · omega
        · obtain ⟨y, hy, he⟩ := List.mem_map.1 hb
          have := h1 y hy
          omega
      have ih := nums_run all N d (u + 1) r h2 (fun y hy => hl y (by simp [hy])) (fun y => by
        constructor
        · intro hy
          obtain ⟨z, hz, rfl⟩ := List.mem_map.1 hy
          have ha := (hm z.num).1 (List.mem_map.2 ⟨z, by simp [hz], rfl⟩)
          have := h1 z hz
          omega
        · rintro ⟨ya, yb⟩
          have := (hm y).2 (by omega)
          rw [List.map_cons, List.mem_cons] at this
          rcases this with e | e
          · omega
          · exact e) (by omega)
      obtain ⟨j, hj, hxe⟩ := hl x (by simp)
      have hju : j = u := by
        rw [hxe] at hx
        simp at hx
        omega
      subst hju
      have hjl : j < all.length := by omega
      rw [List.map_cons, ih, List.drop_eq_getElem_cons hjl, List.take_succ_cons, hxe]
      simp [List.getD_eq_getElem?_getD, hjl]
theorem Lnk.comes {all : List (List UInt8)} {B N : Nat} {r : Rv} {n : Nat} {got : List UInt8} (h : Lnk all B N r n got) (hN : N ≤ all.length) (hn : n ≤ 100000) {x : Sg} (hx : Sent all N x) :
    Lnk all B N (comesR r x).1 (n + 4) (got ++ (comesR r x).2.flatten) := by
  have hok' := h.ok.comes (by omega) x
  obtain ⟨j, hj, hxe⟩ := hx
  have hnum : x.num = (j : Int) + 1 := by rw [hxe]
  by_cases hc : hasK r.k x.num = true ∨ x.num < 1 ∨ r.k.up + 4 < x.num
  · have e : comesR r x = (r, []) := by unfold comesR; rw [if_pos hc]
    rw [e] at hok' ⊢
    exact ⟨hok', h.lo, h.hi, h.more, h.segs, by simpa using h.got⟩
  · have e : comesR r x = (⟨addK r.k x.num, (runU (addK r.k x.num).up (insG r.l x)).2⟩, (runU (addK r.k x.num).up (insG r.l x)).1) := by unfold comesR; rw [if_neg hc]
    simp only [not_or, Bool.not_eq_true] at hc
    obtain ⟨c1, c2, c3⟩ := hc
    have hu0 := h.ok.k.up
    have hi := add_is h.ok.k (n := x.num) (by omega) (by have := h.ok.up; omega)
    have hfr := h.ok.fresh c1
    have hins := insG_rise h.ok.rise hfr
    have hnums := insG_nums (s := x) h.ok.nums
    have hle := hi.top.1
    have hall : ∀ m ∈ r.k.more ++ [x.num], m ≤ N := fun m hm => by
      rcases List.mem_append.1 hm with hm | hm
      · exact h.more m hm
      · simp at hm; omega
    have hhi : (addK r.k x.num).up ≤ N := by
      by_cases he : (addK r.k x.num).up = r.k.up
      · have := h.hi; omega
      · exact hall _ (hi.top.2.1 _ (by omega) (Int.le_refl _))
    have hsent : ∀ y ∈ insG r.l x, Sent all N y := fun y hy => by
      rcases insG_mem hy with rfl | hy
      · exact ⟨j, hj, hxe⟩
      · exact h.segs y hy
    rw [e] at hok' ⊢
    rw [run_filter _ hins] at hok' ⊢
    refine ⟨hok', by have := h.lo; show (B : Int) ≤ (addK r.k x.num).up; omega, hhi, fun m hm => hall m ((hi.mem m).1 hm).1, fun y hy => hsent y (List.mem_filter.1 hy).1, ?_⟩
    have hmem : ∀ z, z ∈ ((insG r.l x).filter fun y => decide (y.num ≤ (addK r.k x.num).up)).map Sg.num ↔ ((r.k.up.toNat : Nat) : Int) < z ∧ z ≤ ((r.k.up.toNat : Nat) : Int) + ((((addK r.k x.num).up - r.k.up).toNat : Nat) : Int) := by
      intro z
      rw [Int.toNat_of_nonneg hu0, Int.toNat_of_nonneg (by omega)]
      constructor
      · intro hz
        obtain ⟨y, hy, rfl⟩ := List.mem_map.1 hz
        obtain ⟨y1, y2⟩ := List.mem_filter.1 hy
        simp at y2
        refine ⟨?_, by omega⟩
        rcases insG_mem y1 with e | y1
        · rw [e]
          simp [hasK] at c1
          have := c1.1 (by omega)
          omega
        · have : y.num ∈ r.k.more := by rw [← h.ok.nums]; exact List.mem_map.2 ⟨y, y1, rfl⟩
          have := h.ok.k.more _ this
          omega
      · rintro ⟨z1, z2⟩
        have hz := hi.top.2.1 z z1 (by omega)
        have hz2 : z ∈ (insG r.l x).map Sg.num := by
          rw [hnums, insI_iff]
          rcases List.mem_append.1 hz with hz | hz
          · exact .inr hz
          · simp at hz; exact .inl hz
        obtain ⟨y, hy, rfl⟩ := List.mem_map.1 hz2
        exact List.mem_map.2 ⟨y, List.mem_filter.2 ⟨hy, by simp; omega⟩, rfl⟩
    have hrun := nums_run all N ((addK r.k x.num).up - r.k.up).toNat r.k.up.toNat _ (List.Pairwise.filter _ hins) (fun y hy => hsent y (List.mem_filter.1 hy).1) hmem (by omega)
    show got ++ (((insG r.l x).filter fun y => decide (y.num ≤ (addK r.k x.num).up)).map Sg.b).flatten = (all.take (addK r.k x.num).up.toNat).flatten
    rw [hrun, h.got, ← List.flatten_append]
    congr 1
    rw [show (addK r.k x.num).up.toNat = r.k.up.toNat + ((addK r.k x.num).up - r.k.up).toNat by omega, List.take_add]
theorem comes_has {r : Rv} {n : Nat} (h : ROk r n) (hn : n ≤ 100000) {x : Sg} (h1 : 1 ≤ x.num) (h4 : x.num ≤ r.k.up + 4) (y : Int) (hy : hasK r.k y = true ∨ y = x.num) : hasK (comesR r x).1.k y = true := by
  unfold comesR
  split
  · rename_i hc
    rcases hy with hy | rfl
    · exact hy
    · rcases hc with hc | hc | hc
      · exact hc
      · omega
      · omega
  · have := has_add h.k (n := x.num) h1 (by have := h.up; omega) y
    show hasK (addK r.k x.num) y = true
    rw [this]
    rcases hy with hy | rfl
    · simp [hy]
    · simp
/-- All that was sent is known: all is told. -/
theorem Lnk.all_known {all : List (List UInt8)} {B N : Nat} {r : Rv} {n : Nat} {got : List UInt8} (h : Lnk all B N r n got) (hk : ∀ y : Int, (B : Int) < y → y ≤ N → hasK r.k y = true) : r.k.up = N ∧ r.k.more = [] ∧ r.l = [] := by
  have hlo := h.lo
  have hhi := h.hi
  have hup : r.k.up = N := by
    by_cases he : r.k.up = N
    · exact he
    · exfalso
      have := hk (r.k.up + 1) (by omega) (by omega)
      simp [hasK] at this
      have := h.ok.k.more _ (this.resolve_left (by omega))
      omega
  have hm : r.k.more = [] := by
    cases hm : r.k.more with
    | nil => rfl
    | cons m l =>
      have h1 := h.more m (by rw [hm]; simp)
      have h2 := h.ok.k.more m (by rw [hm]; simp)
      omega
  refine ⟨hup, hm, ?_⟩
  have := h.ok.nums
  rw [hm] at this
  simpa using this
end Go.Proofs.Ytpinhopgeaamdaa.Pl
