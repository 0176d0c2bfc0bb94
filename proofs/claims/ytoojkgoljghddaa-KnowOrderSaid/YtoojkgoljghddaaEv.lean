/-
  What is proved here: a run of a program's text on values and blocks of its own, which draws nothing, is followed by the model's run, whatever is drawn there.
  Conditions: none.
-/
import Derived.Orders
import Derived.Below
import Derived.Deep.AppendSrc
import Derived.Deep.Upon
import Derived.Laws.IdiomCopy
import Derived.WalkKit
import Derived.Laws.IdiomStrings
import Derived.Laws.BytesString
import Derived.WalkSpells
import Derived.MapKept
import Derived.Carry
set_option linter.unusedVariables false
set_option linter.unusedSimpArgs false
namespace Go.Proofs.Ev
open Go Go.RowKit

/-- A value of the run: a pointer and a slice name a block of the run and a cell in it; a slice has its elements' size and how many it has (its capacity is not told). -/
inductive V where
  | bool (b : Bool)
  | int (k : IntKind) (n : Int)
  | str (s : List UInt8)
  | ptr (a : Option (Nat × Nat))
  | sl (a : Option (Nat × Nat × Nat)) (n : Nat)
  | fn (f : Nat) (cap : List V)
  | nilfn
  | ifc (t : Nat) (v : V)
  | nilifc
  | agg (vs : List V)
  | tup (vs : List V)
  | raw (a : Addr)
  | mp (b : Nat)
  deriving Inhabited

def V.cells : V → List V
  | .agg vs => vs
  | v => [v]
def V.one : V → Bool
  | .agg _ => false
  | .tup _ => false
  | _ => true

/-- A block: its cells; 0: it is told no more, 1: it is read alone, 2: it is the run's own. -/
structure Blk where
  cells : List V
  st : Nat
  deriving Inhabited
abbrev Heap := List Blk

/-- Where a block lies: the world's block, the first cell, how many cells the world's block has. -/
abbrev Inj := Nat → Option (Nat × Nat × Nat)

inductive VRel (β : Inj) : V → Value → Prop
  | bool (b : Bool) : VRel β (.bool b) (.bool b)
  | int (k : IntKind) (n : Int) : VRel β (.int k n) (.int k n)
  | str (s : List UInt8) : VRel β (.str s) (.string ⟨s.toArray⟩)
  | nilp : VRel β (.ptr none) (.pointer none)
  | ptr {b o B O Z : Nat} (h : β b = some (B, O, Z)) : VRel β (.ptr (some (b, o))) (.pointer (some ⟨B, O + o, none⟩))
  | nils : VRel β (.sl none 0) (.slice none 0 0)
  | sl {b o z n B O Z x cap : Nat} (h : β b = some (B, O, Z)) (hn : n ≤ cap) (hx : n ≠ 0 → x = O + o) (hc : x + cap * z ≤ Z) :
      VRel β (.sl (some (b, o, z)) n) (.slice (some ⟨B, x, none⟩) n cap)
  | fn {f : Nat} {vs : List V} {cs : Array Value} (hl : vs.length = cs.size) (h : ∀ (i : Nat) (v : V) (c : Value), vs[i]? = some v → cs[i]? = some c → VRel β v c) :
      VRel β (.fn f vs) (.func (.func f) #[] cs)
  | nilfn : VRel β .nilfn .nilFunc
  | ifc {t : Nat} {v : V} {c : Value} (h : VRel β v c) : VRel β (.ifc t v) (.iface t c)
  | nilifc : VRel β .nilifc .nilIface
  | agg {vs : List V} {cs : Array Value} (hl : vs.length = cs.size) (h : ∀ (i : Nat) (v : V) (c : Value), vs[i]? = some v → cs[i]? = some c → VRel β v c) :
      VRel β (.agg vs) (.agg cs)
  | tup {vs : List V} {cs : Array Value} (hl : vs.length = cs.size) (h : ∀ (i : Nat) (v : V) (c : Value), vs[i]? = some v → cs[i]? = some c → VRel β v c) :
      VRel β (.tup vs) (.tuple cs)
  | raw (a : Addr) : VRel β (.raw a) (.pointer (some a))
  | mp {b B : Nat} (h : β b = some (B, 1, 0)) : VRel β (.mp b) (.map (some B))

/-- Rows of values. -/
def LRel (β : Inj) (vs : List V) (cs : Array Value) : Prop :=
  vs.length = cs.size ∧ ∀ (i : Nat) (v : V) (c : Value), vs[i]? = some v → cs[i]? = some c → VRel β v c

theorem VRel.mono {β β' : Inj} (hb : ∀ b x, β b = some x → β' b = some x) {v : V} {c : Value} (h : VRel β v c) : VRel β' v c := by
  induction h with
  | bool b => exact .bool b
  | int k n => exact .int k n
  | str s => exact .str s
  | nilp => exact .nilp
  | ptr h => exact .ptr (hb _ _ h)
  | nils => exact .nils
  | sl h hn hx hc => exact .sl (hb _ _ h) hn hx hc
  | fn hl h ih => exact .fn hl ih
  | nilfn => exact .nilfn
  | ifc h ih => exact .ifc ih
  | nilifc => exact .nilifc
  | agg hl h ih => exact .agg hl ih
  | tup hl h ih => exact .tup hl ih
  | raw a => exact .raw a
  | mp h => exact .mp (hb _ _ h)

theorem LRel.mono {β β' : Inj} (hb : ∀ b x, β b = some x → β' b = some x) {vs : List V} {cs : Array Value} (h : LRel β vs cs) : LRel β' vs cs :=
  ⟨h.1, fun i v c hv hc => (h.2 i v c hv hc).mono hb⟩

theorem LRel.agg {β : Inj} {vs : List V} {cs : Array Value} (h : LRel β vs cs) : VRel β (.agg vs) (.agg cs) := .agg h.1 h.2
theorem LRel.tup {β : Inj} {vs : List V} {cs : Array Value} (h : LRel β vs cs) : VRel β (.tup vs) (.tuple cs) := .tup h.1 h.2

theorem VRel.cells {β : Inj} {v : V} {c : Value} (h : VRel β v c) : LRel β v.cells c.cells := by
  cases h
  case agg vs cs hl h => exact ⟨hl, h⟩
  all_goals
    refine ⟨rfl, ?_⟩
    intro i v' c' hv hc
    cases i with
    | zero =>
      simp only [V.cells, Value.cells, List.getElem?_cons_zero, Option.some.injEq] at hv
      simp [Value.cells] at hc
      subst hv
      subst hc
      first
        | exact .bool _ | exact .int _ _ | exact .str _ | exact .nilp | exact .ptr ‹_› | exact .nils | exact .sl ‹_› ‹_› ‹_› ‹_› | exact .fn ‹_› ‹_› | exact .nilfn | exact .ifc ‹_› | exact .nilifc | exact .tup ‹_› ‹_› | exact .raw _ | exact .mp ‹_›
    | succ i => simp [V.cells] at hv

theorem VRel.one {β : Inj} {v : V} {c : Value} (h : VRel β v c) (h1 : v.one = true) : c.oneCell' = true := by
  cases h <;> first | rfl | (simp [V.one] at h1)

/-- What stands at a place of rows that go together. -/
theorem LRel.get {β : Inj} {vs : List V} {cs : Array Value} (h : LRel β vs cs) {i : Nat} {v : V} (hv : vs[i]? = some v) : ∃ c, cs[i]? = some c ∧ VRel β v c := by
  have hi : i < vs.length := by
    rcases Nat.lt_or_ge i vs.length with h' | h'
    · exact h'
    · rw [List.getElem?_eq_none h'] at hv; cases hv
  have hc : cs[i]? = some (cs[i]'(by rw [← h.1]; exact hi)) := Array.getElem?_eq_getElem _
  exact ⟨_, hc, h.2 i v _ hv hc⟩

theorem LRel.nil (β : Inj) : LRel β [] #[] := ⟨rfl, fun i v c hv _ => by simp at hv⟩

theorem LRel.set {β : Inj} {vs : List V} {cs : Array Value} (h : LRel β vs cs) (d : Nat) {v : V} {c : Value} (hv : VRel β v c) : LRel β (vs.set d v) (cs.setIfInBounds d c) := by
  refine ⟨by simp [h.1], fun i v' c' hv' hc' => ?_⟩
  rw [List.getElem?_set] at hv'
  rw [Array.getElem?_setIfInBounds] at hc'
  by_cases hd : d = i
  · subst hd
    simp only [if_true] at hv' hc'
    split at hv'
    · split at hc'
      · simp only [Option.some.injEq] at hv' hc'
        subst hv'
        subst hc'
        exact hv
      · cases hc'
    · cases hv'
  · rw [if_neg hd] at hv' hc'
    exact h.2 i v' c' hv' hc'

theorem LRel.append {β : Inj} {vs us : List V} {cs ds : Array Value} (h : LRel β vs cs) (k : LRel β us ds) : LRel β (vs ++ us) (cs ++ ds) := by
  refine ⟨by simp [h.1, k.1], fun i v c hv hc => ?_⟩
  rw [List.getElem?_append] at hv
  rw [Array.getElem?_append] at hc
  rw [h.1] at hv
  split at hv
  · rename_i hlt
    rw [if_pos hlt] at hc
    exact h.2 i v c hv hc
  · rename_i hge
    rw [if_neg hge] at hc
    exact k.2 _ v c hv hc

theorem LRel.cons {β : Inj} {v : V} {c : Value} {vs : List V} {cs : List Value} (h : VRel β v c) (k : LRel β vs cs.toArray) : LRel β (v :: vs) (c :: cs).toArray := by
  refine ⟨by have := k.1; simp at this ⊢; exact this, fun i v' c' hv hc => ?_⟩
  cases i with
  | zero => simp at hv hc; subst hv; subst hc; exact h
  | succ i => exact k.2 i v' c' (by simpa using hv) (by simpa using hc)

theorem LRel.of_list {β : Inj} {vs : List V} {cs : List Value} (hl : vs.length = cs.length) (h : ∀ (i : Nat) (v : V), vs[i]? = some v → ∃ c, cs[i]? = some c ∧ VRel β v c) : LRel β vs cs.toArray := by
  refine ⟨by simpa using hl, fun i v c hv hc => ?_⟩
  obtain ⟨c', hc', hr⟩ := h i v hv
  simp at hc
  rw [hc'] at hc
  cases hc
  exact hr

theorem LRel.replicate {β : Inj} (n : Nat) {v : V} {c : Value} (h : VRel β v c) : LRel β (List.replicate n v) (Array.replicate n c) := by
  refine ⟨by simp, fun i v' c' hv hc => ?_⟩
  rw [List.getElem?_replicate] at hv
  rw [Array.getElem?_replicate] at hc
  split at hv
  · rename_i hlt
    rw [if_pos hlt] at hc
    cases hv
    cases hc
    exact h
  · cases hv

/-! ### Values that name no block -/

mutual
def conc : V → Option Value
  | .bool b => some (.bool b)
  | .int k n => some (.int k n)
  | .str s => some (.string ⟨s.toArray⟩)
  | .ptr none => some (.pointer none)
  | .ptr (some _) => none
  | .sl none n => if n = 0 then some (.slice none 0 0) else none
  | .sl (some _) _ => none
  | .fn f vs => match concL vs with
    | some cs => some (.func (.func f) #[] cs.toArray)
    | none => none
  | .nilfn => some .nilFunc
  | .ifc t v => match conc v with
    | some c => some (.iface t c)
    | none => none
  | .nilifc => some .nilIface
  | .agg vs => match concL vs with
    | some cs => some (.agg cs.toArray)
    | none => none
  | .tup vs => match concL vs with
    | some cs => some (.tuple cs.toArray)
    | none => none
  | .raw a => some (.pointer (some a))
  | .mp _ => none
def concL : List V → Option (List Value)
  | [] => some []
  | v :: r => match conc v with
    | some c => match concL r with
      | some cs => some (c :: cs)
      | none => none
    | none => none
end

mutual
theorem conc_rel {β : Inj} : ∀ (v : V) (c : Value), conc v = some c → VRel β v c
  | .bool b, c, h => by simp [conc] at h; subst h; exact .bool b
  | .int k n, c, h => by simp [conc] at h; subst h; exact .int k n
  | .str s, c, h => by simp [conc] at h; subst h; exact .str s
  | .ptr none, c, h => by simp [conc] at h; subst h; exact .nilp
  | .ptr (some _), c, h => by simp [conc] at h
  | .sl none n, c, h => by
    simp [conc] at h
    obtain ⟨rfl, rfl⟩ := h
    exact .nils
  | .sl (some _) _, c, h => by simp [conc] at h
  | .fn f vs, c, h => by
    simp only [conc] at h
    split at h
    · rename_i cs hcs
      cases h
      have := concL_rel (β := β) vs cs hcs
      exact .fn this.1 this.2
    · cases h
  | .nilfn, c, h => by simp [conc] at h; subst h; exact .nilfn
  | .ifc t v, c, h => by
    simp only [conc] at h
    split at h
    · rename_i c' hc'
      cases h
      exact .ifc (conc_rel v c' hc')
    · cases h
  | .nilifc, c, h => by simp [conc] at h; subst h; exact .nilifc
  | .agg vs, c, h => by
    simp only [conc] at h
    split at h
    · rename_i cs hcs
      cases h
      exact (concL_rel (β := β) vs cs hcs).agg
    · cases h
  | .tup vs, c, h => by
    simp only [conc] at h
    split at h
    · rename_i cs hcs
      cases h
      exact (concL_rel (β := β) vs cs hcs).tup
    · cases h
  | .raw a, c, h => by simp [conc] at h; subst h; exact .raw a
  | .mp _, c, h => by simp [conc] at h
theorem concL_rel {β : Inj} : ∀ (vs : List V) (cs : List Value), concL vs = some cs → LRel β vs cs.toArray
  | [], cs, h => by simp [concL] at h; subst h; exact LRel.nil β
  | v :: r, cs, h => by
    simp only [concL] at h
    split at h
    · rename_i c hc
      split at h
      · rename_i cs' hcs'
        cases h
        exact LRel.cons (conc_rel v c hc) (concL_rel r cs' hcs')
      · cases h
    · cases h
end

/-- The world's value is the only one that goes with a value that names no block. -/
theorem VRel.conc {β : Inj} {v : V} {c : Value} (h : VRel β v c) : ∀ c', conc v = some c' → c = c' := by
  have rows : ∀ (vs : List V) (cs : Array Value) (cs' : List Value), vs.length = cs.size →
      (∀ (i : Nat) (v : V) (c : Value), vs[i]? = some v → cs[i]? = some c → ∀ c', Ev.conc v = some c' → c = c') → concL vs = some cs' → cs = cs'.toArray := by
    intro vs
    induction vs with
    | nil =>
      intro cs cs' hl _ h
      simp [concL] at h
      subst h
      exact Array.eq_empty_of_size_eq_zero (by simpa using hl.symm)
    | cons v r ih =>
      intro cs cs' hl hh h
      simp only [concL] at h
      split at h
      · rename_i c hc
        split at h
        · rename_i cs'' hcs''
          cases h
          obtain ⟨l⟩ := cs
          cases l with
          | nil => simp at hl
          | cons c0 l =>
            have h0 := hh 0 v c0 rfl rfl c hc
            have h1 := ih l.toArray cs'' (by simpa using hl) (fun i v c hv hc => hh (i + 1) v c (by simpa using hv) (by simpa using hc)) hcs''
            subst h0
            have h2 : l = cs'' := by simpa using h1
            subst h2
            rfl
        · cases h
      · cases h
  induction h with
  | bool b => intro c' h; simp [Ev.conc] at h; exact h
  | int k n => intro c' h; simp [Ev.conc] at h; exact h
  | str s => intro c' h; simp [Ev.conc] at h; exact h
  | nilp => intro c' h; simp [Ev.conc] at h; exact h
  | ptr h => intro c' h; simp [Ev.conc] at h
  | nils => intro c' h; simp [Ev.conc] at h; exact h
  | sl h hn hx hc => intro c' h; simp [Ev.conc] at h
  | fn hl h ih =>
    intro c' h
    simp only [Ev.conc] at h
    split at h
    · rename_i cs' hcs'
      cases h
      rw [rows _ _ _ hl ih hcs']
    · cases h
  | nilfn => intro c' h; simp [Ev.conc] at h; exact h
  | ifc h ih =>
    intro c' h
    simp only [Ev.conc] at h
    split at h
    · rename_i c'' hc''
      cases h
      rw [ih _ hc'']
    · cases h
  | nilifc => intro c' h; simp [Ev.conc] at h; exact h
  | agg hl h ih =>
    intro c' h
    simp only [Ev.conc] at h
    split at h
    · rename_i cs' hcs'
      cases h
      rw [rows _ _ _ hl ih hcs']
    · cases h
  | tup hl h ih =>
    intro c' h
    simp only [Ev.conc] at h
    split at h
    · rename_i cs' hcs'
      cases h
      rw [rows _ _ _ hl ih hcs']
    · cases h
  | raw a => intro c' h; simp [Ev.conc] at h; exact h
  | mp h => intro c' h; simp [Ev.conc] at h

/-- A constant's value; so deep at most. -/
def absN : Nat → Value → Option V
  | _, .bool b => some (.bool b)
  | _, .int k n => some (.int k n)
  | _, .string s => some (.str s.data.toList)
  | _, .pointer none => some (.ptr none)
  | _, .pointer (some a) => some (.raw a)
  | _, .slice none n c => if n = 0 then (if c = 0 then some (.sl none 0) else none) else none
  | _, .nilFunc => some .nilfn
  | _, .nilIface => some .nilifc
  | d + 1, .func (.func f) first cs => if first.size = 0 then (match absL (absN d) cs.toList with | some vs => some (.fn f vs) | none => none) else none
  | d + 1, .iface t c => match absN d c with | some v => some (.ifc t v) | none => none
  | d + 1, .agg cs => match absL (absN d) cs.toList with | some vs => some (.agg vs) | none => none
  | d + 1, .tuple cs => match absL (absN d) cs.toList with | some vs => some (.tup vs) | none => none
  | _, _ => none
where
  absL (f : Value → Option V) : List Value → Option (List V)
    | [] => some []
    | c :: r => match f c with
      | some v => match absL f r with
        | some vs => some (v :: vs)
        | none => none
      | none => none

theorem absL_rel {β : Inj} {f : Value → Option V} (hf : ∀ c v, f c = some v → VRel β v c) : ∀ (cs : List Value) (vs : List V), absN.absL f cs = some vs → LRel β vs cs.toArray
  | [], vs, h => by simp [absN.absL] at h; subst h; exact LRel.nil β
  | c :: r, vs, h => by
    simp only [absN.absL] at h
    split at h
    · rename_i v hv
      split at h
      · rename_i vs' hvs'
        cases h
        exact LRel.cons (hf _ _ hv) (absL_rel hf r vs' hvs')
      · cases h
    · cases h

theorem absN_rel {β : Inj} : ∀ (d : Nat) (c : Value) (v : V), absN d c = some v → VRel β v c := by
  intro d
  induction d with
  | zero =>
    intro c v h
    cases c with
    | bool b => simp [absN] at h; subst h; exact .bool b
    | int k n => simp [absN] at h; subst h; exact .int k n
    | string s => simp [absN] at h; subst h; exact .str s.data.toList
    | pointer a => cases a <;> simp [absN] at h <;> subst h <;> first | exact .nilp | exact .raw _
    | slice a n c =>
      cases a with
      | none => simp [absN] at h; obtain ⟨rfl, rfl, rfl⟩ := h; exact .nils
      | some a => simp [absN] at h
    | nilFunc => simp [absN] at h; subst h; exact .nilfn
    | nilIface => simp [absN] at h; subst h; exact .nilifc
    | _ => simp [absN] at h
  | succ d ih =>
    intro c v h
    cases c with
    | bool b => simp [absN] at h; subst h; exact .bool b
    | int k n => simp [absN] at h; subst h; exact .int k n
    | string s => simp [absN] at h; subst h; exact .str s.data.toList
    | pointer a => cases a <;> simp [absN] at h <;> subst h <;> first | exact .nilp | exact .raw _
    | slice a n c =>
      cases a with
      | none => simp [absN] at h; obtain ⟨rfl, rfl, rfl⟩ := h; exact .nils
      | some a => simp [absN] at h
    | nilFunc => simp [absN] at h; subst h; exact .nilfn
    | nilIface => simp [absN] at h; subst h; exact .nilifc
    | func fn first cs =>
      cases fn <;> simp only [absN] at h <;> first | (cases h; done) | skip
      split at h
      · rename_i h0
        obtain rfl : first = #[] := Array.eq_empty_of_size_eq_zero h0
        split at h
        · rename_i vs hvs
          cases h
          have := absL_rel (β := β) ih _ _ hvs
          exact .fn this.1 this.2
        · cases h
      · cases h
    | iface t c =>
      simp only [absN] at h
      split at h
      · rename_i v' hv'
        cases h
        exact .ifc (ih _ _ hv')
      · cases h
    | agg cs =>
      simp only [absN] at h
      split at h
      · rename_i vs hvs
        cases h
        exact (absL_rel (β := β) ih _ _ hvs).agg
      · cases h
    | tuple cs =>
      simp only [absN] at h
      split at h
      · rename_i vs hvs
        cases h
        exact (absL_rel (β := β) ih _ _ hvs).tup
      · cases h
    | _ => simp [absN] at h

/-! ### Blocks and a world -/

/-- No cell of the world's block B is shared with a string. -/
def Warm (w : World) (B Z st : Nat) : Prop := ∃ cs e fz, w.heap[B]? = some (.cells cs e fz) ∧ ((Z ≤ fz.1 ∧ st = 3) ∨ fz.1 = fz.2)

theorem Warm.thaw {w : World} {B Z st : Nat} (h : Warm w B Z st) (i : Nat) (hi : i < Z) : w.frozen? ⟨B, i, none⟩ = false := by
  obtain ⟨cs, e, fz, h1, h2⟩ := h
  obtain ⟨lo, hi'⟩ := fz
  simp only [World.frozen?, h1]
  rcases h2 with h2 | h2
  · have : ¬ lo ≤ i := by have := h2.1; simp only at this; omega
    simp [this]
  · simp only at h2
    subst h2
    simp only [Bool.and_eq_false_iff, decide_eq_false_iff_not]
    omega

theorem Warm.of_block {w w' : World} {B Z st : Nat} (h : Warm w B Z st) (hb : w'.heap[B]? = w.heap[B]?) : Warm w' B Z st := by
  obtain ⟨cs, e, fz, h1, h2⟩ := h
  exact ⟨cs, e, fz, hb.trans h1, h2⟩

/-- A map's entries. -/
def MapRel (β : Inj) (vs : List V) (es : Array MapEntry) : Prop :=
  vs.length = es.size ∧ ∀ (i : Nat) (v : V) (e : MapEntry), vs[i]? = some v → es[i]? = some e → ∃ k n u, v = .tup [.int k n, u] ∧ e.key = .int k n ∧ VRel β u e.val

/-- A map's block: its entries stand in the block behind it, which lies nowhere. -/
def IsMap (β : Inj) (H : Heap) (w : World) (b B : Nat) : Prop :=
  (∃ es ck g, w.heap[B]? = some (.map es ck) ∧ H[b + 1]? = some g ∧ g.st = 4 ∧ β (b + 1) = none ∧ MapRel β g.cells es) ∧ ∀ b' O' Z', β b' = some (B, O', Z') → b' = b

structure Sim (β : Inj) (H : Heap) (w : World) : Prop where
  dom : ∀ b x, β b = some x → b < H.length
  blk : ∀ b B O Z, β b = some (B, O, Z) → (∃ cs e fz, w.heap[B]? = some (.cells cs e fz) ∧ cs.size = Z) ∨ (O = 1 ∧ Z = 0)
  mp : ∀ b B, β b = some (B, 1, 0) → IsMap β H w b B
  cont : ∀ b k B O Z, H[b]? = some k → k.st ≠ 0 → β b = some (B, O, Z) → O + k.cells.length ≤ Z ∧ ∀ i v, k.cells[i]? = some v → ∃ c, w.cell? ⟨B, O + i, none⟩ = some c ∧ VRel β v c
  warm : ∀ b k B O Z, H[b]? = some k → 2 ≤ k.st → β b = some (B, O, Z) → Warm w B Z k.st
  sep : ∀ b k B O Z b' k' B' O' Z', H[b]? = some k → 2 ≤ k.st → H[b']? = some k' → k'.st ≠ 0 → b ≠ b' → β b = some (B, O, Z) → β b' = some (B', O', Z') → B ≠ B'

theorem Sim.thaw {β : Inj} {H : Heap} {w : World} (s : Sim β H w) (b : Nat) (k : Blk) (B O Z : Nat) (hk : H[b]? = some k) (hst : 2 ≤ k.st) (hb : β b = some (B, O, Z)) (i : Nat) (hi : i < Z) : w.frozen? ⟨B, i, none⟩ = false :=
  (s.warm b k B O Z hk hst hb).thaw i hi

theorem Sim.cells {β : Inj} {H : Heap} {w : World} (s : Sim β H w) {b B O Z : Nat} {k : Blk} (hk : H[b]? = some k) (hst : k.st ≠ 0) (hb : β b = some (B, O, Z)) : ∃ cs e fz, w.heap[B]? = some (.cells cs e fz) ∧ cs.size = Z := by
  rcases s.blk b B O Z hb with h | ⟨rfl, rfl⟩
  · exact h
  · have := (s.cont b k B 1 0 hk hst hb).1
    omega

theorem MapRel.mono {β β' : Inj} (hb : ∀ b x, β b = some x → β' b = some x) {vs : List V} {es : Array MapEntry} (h : MapRel β vs es) : MapRel β' vs es :=
  ⟨h.1, fun i v e hv he => by
    obtain ⟨k, n, u, h1, h2, h3⟩ := h.2 i v e hv he
    exact ⟨k, n, u, h1, h2, h3.mono hb⟩⟩

/-- A map stays while other blocks are turned. -/
theorem IsMap.keep {β β' : Inj} {H H' : Heap} {w w' : World} {b B : Nat} (h : IsMap β H w b B) (hw : w'.heap[B]? = w.heap[B]?) (hH : H'[b + 1]? = H[b + 1]?)
    (h1 : ∀ b x, β b = some x → β' b = some x) (h2 : β' (b + 1) = none) (h3 : ∀ b' O' Z', β' b' = some (B, O', Z') → β b' = some (B, O', Z')) : IsMap β' H' w' b B := by
  obtain ⟨⟨es, ck, g, a1, a2, a3, a4, a5⟩, a6⟩ := h
  exact ⟨⟨es, ck, g, hw.trans a1, hH.trans a2, a3, h2, a5.mono h1⟩, fun b' O' Z' hb => a6 b' O' Z' (h3 b' O' Z' hb)⟩

/-- The world's block B is the run's own. -/
def Own (β : Inj) (H : Heap) (B : Nat) : Prop := ∃ b k O Z, H[b]? = some k ∧ (2 ≤ k.st ∨ (O = 1 ∧ Z = 0)) ∧ β b = some (B, O, Z)

structure Ext (β : Inj) (H : Heap) (w : World) (β' : Inj) (H' : Heap) (w' : World) : Prop where
  sim : Sim β' H' w'
  old : ∀ b, b < H.length → β' b = β b
  len : H.length ≤ H'.length
  os : w'.os = w.os
  tape : w'.tape = w.tape
  output : w'.output = w.output
  size : w.heap.size ≤ w'.heap.size
  frame : ∀ B, B < w.heap.size → ¬ Own β H B → w'.heap[B]? = w.heap[B]?
  own : ∀ B, Own β' H' B → Own β H B ∨ w.heap.size ≤ B

theorem Ext.refl {β : Inj} {H : Heap} {w : World} (h : Sim β H w) : Ext β H w β H w :=
  ⟨h, fun _ _ => rfl, Nat.le_refl _, rfl, rfl, rfl, Nat.le_refl _, fun _ _ _ => rfl, fun _ h => .inl h⟩

theorem Ext.trans {β β' β'' : Inj} {H H' H'' : Heap} {w w' w'' : World} (h : Ext β H w β' H' w') (k : Ext β' H' w' β'' H'' w'') : Ext β H w β'' H'' w'' where
  sim := k.sim
  old b hb := (k.old b (Nat.lt_of_lt_of_le hb h.len)).trans (h.old b hb)
  len := Nat.le_trans h.len k.len
  os := k.os.trans h.os
  tape := k.tape.trans h.tape
  output := k.output.trans h.output
  size := Nat.le_trans h.size k.size
  frame B hB hn := by
    have hn' : ¬ Own β' H' B := fun ho => by
      rcases h.own B ho with h' | h'
      · exact hn h'
      · omega
    exact (k.frame B (Nat.lt_of_lt_of_le hB h.size) hn').trans (h.frame B hB hn)
  own B ho := by
    rcases k.own B ho with h' | h'
    · exact h.own B h'
    · exact .inr (Nat.le_trans h.size h')

theorem Ext.le {β β' : Inj} {H H' : Heap} {w w' : World} (s : Sim β H w) (h : Ext β H w β' H' w') : ∀ b x, β b = some x → β' b = some x :=
  fun b x hb => (h.old b (s.dom b x hb)).trans hb

theorem Sim.lt {β : Inj} {H : Heap} {w : World} (s : Sim β H w) {b B O Z : Nat} (h : β b = some (B, O, Z)) : B < w.heap.size := by
  have key : ∀ o, w.heap[B]? = some o → B < w.heap.size := fun o hh => by
    rcases Nat.lt_or_ge B w.heap.size with h' | h'
    · exact h'
    · rw [Array.getElem?_eq_none h'] at hh; cases hh
  rcases s.blk b B O Z h with ⟨cs, e, fz, hh, _⟩ | ⟨rfl, rfl⟩
  · exact key _ hh
  · obtain ⟨⟨es, ck, g, hh, _⟩, _⟩ := s.mp b B h
    exact key _ hh

theorem Sim.drew {β : Inj} {H : Heap} {w : World} (s : Sim β H w) : Sim β H w.drew :=
  ⟨s.dom, s.blk, s.mp, s.cont, s.warm, s.sep⟩

theorem Ext.drew {β : Inj} {H : Heap} {w : World} (s : Sim β H w) : Ext β H w β H w.drew :=
  ⟨s.drew, fun _ _ => rfl, Nat.le_refl _, rfl, rfl, rfl, Nat.le_refl _, fun _ _ _ => rfl, fun _ h => .inl h⟩

/-- One more place for a block. -/
def upd (β : Inj) (b : Nat) (x : Nat × Nat × Nat) : Inj := fun c => if c = b then some x else β c

theorem upd_same (β : Inj) (b : Nat) (x : Nat × Nat × Nat) : upd β b x b = some x := by simp [upd]
theorem upd_other {β : Inj} {b c : Nat} {x : Nat × Nat × Nat} (h : c ≠ b) : upd β b x c = β c := by simp [upd, h]

theorem Sim.upd_le {β : Inj} {H : Heap} {w : World} (s : Sim β H w) (x : Nat × Nat × Nat) : ∀ b y, β b = some y → upd β H.length x b = some y := by
  intro b y hb
  have := s.dom b y hb
  rw [upd_other (by omega)]
  exact hb

/-- A new block in a world with new cells. -/
theorem Ext.alloc {β : Inj} {H : Heap} {w : World} (s : Sim β H w) (vs : List V) (cs : Array Value) (e : TypeId) (fz : Nat × Nat) (st : Nat) (hfz : (cs.size ≤ fz.1 ∧ st = 3) ∨ fz.1 = fz.2)
    (h : ∀ (i : Nat) (v : V), vs[i]? = some v → ∃ c, cs[i]? = some c ∧ VRel β v c) (hl : vs.length ≤ cs.size) :
    Ext β H w (upd β H.length (w.heap.size, 0, cs.size)) (H ++ [⟨vs, st⟩]) (w.alloc (.cells cs e fz)) := by
  have hle := s.upd_le (w.heap.size, 0, cs.size)
  have hold : ∀ B, B < w.heap.size → (w.alloc (.cells cs e fz)).heap[B]? = w.heap[B]? := fun B hB => Below.heap_alloc w _ B hB
  have hnew : (w.alloc (.cells cs e fz)).heap[w.heap.size]? = some (.cells cs e fz) := by
    show (w.heap.push _)[w.heap.size]? = _
    simp
  have hget : ∀ b k, (H ++ [(⟨vs, st⟩ : Blk)])[b]? = some k → (b < H.length ∧ H[b]? = some k) ∨ (b = H.length ∧ k = ⟨vs, st⟩) := by
    intro b k hb
    rw [List.getElem?_append] at hb
    split at hb
    · rename_i hlt; exact .inl ⟨hlt, hb⟩
    · rename_i hge
      have hb0 : b - H.length = 0 := by
        rcases Nat.eq_zero_or_pos (b - H.length) with h0 | h0
        · exact h0
        · rw [List.getElem?_eq_none (by simp; omega)] at hb; cases hb
      rw [hb0] at hb
      simp at hb
      exact .inr ⟨by omega, hb.symm⟩
  have sim : Sim (upd β H.length (w.heap.size, 0, cs.size)) (H ++ [⟨vs, st⟩]) (w.alloc (.cells cs e fz)) := by
    refine ⟨?_, ?_, ?_, ?_, ?_, ?_⟩
    · intro b x hb
      by_cases hbl : b = H.length
      · subst hbl; simp
      · rw [upd_other hbl] at hb
        have := s.dom b x hb
        simp; omega
    · intro b B O Z hb
      by_cases hbl : b = H.length
      · subst hbl
        rw [upd_same] at hb
        cases hb
        exact .inl ⟨cs, e, fz, hnew, rfl⟩
      · rw [upd_other hbl] at hb
        rw [hold B (s.lt hb)]
        exact s.blk b B O Z hb
    · intro b B hb
      by_cases hbl : b = H.length
      · subst hbl
        rw [upd_same] at hb
        cases hb
      · rw [upd_other hbl] at hb
        have hm := s.mp b B hb
        obtain ⟨⟨_, _, g, _, hg, _, hn, _⟩, _⟩ := id hm
        have hlt : b + 1 < H.length := by
          rcases Nat.lt_or_ge (b + 1) H.length with h' | h'
          · exact h'
          · rw [List.getElem?_eq_none h'] at hg; cases hg
        refine hm.keep (hold B (s.lt hb)) (List.getElem?_append_left hlt) hle (by rw [upd_other (by omega)]; exact hn) fun b' O' Z' hb' => ?_
        by_cases hbl' : b' = H.length
        · subst hbl'
          rw [upd_same] at hb'
          cases hb'
          have := s.lt hb
          omega
        · rw [upd_other hbl'] at hb'
          exact hb'
    · intro b k B O Z hk hst hb
      rcases hget b k hk with ⟨hlt, hk'⟩ | ⟨rfl, rfl⟩
      · rw [upd_other (by omega)] at hb
        obtain ⟨h1, h2⟩ := s.cont b k B O Z hk' hst hb
        refine ⟨h1, fun i v hv => ?_⟩
        obtain ⟨c, hc, hr⟩ := h2 i v hv
        exact ⟨c, (World.cell?_of_block (a := ⟨B, O + i, none⟩) (hold B (s.lt hb))).trans hc, hr.mono hle⟩
      · rw [upd_same] at hb
        cases hb
        refine ⟨by simpa using hl, fun i v hv => ?_⟩
        obtain ⟨c, hc, hr⟩ := h i v hv
        refine ⟨c, ?_, hr.mono hle⟩
        simp only [World.cell?, hnew, Nat.zero_add]
        exact hc
    · intro b k B O Z hk hst hb
      rcases hget b k hk with ⟨hlt, hk'⟩ | ⟨rfl, rfl⟩
      · rw [upd_other (by omega)] at hb
        exact (s.warm b k B O Z hk' hst hb).of_block (hold B (s.lt hb))
      · rw [upd_same] at hb
        cases hb
        exact ⟨_, _, _, hnew, hfz⟩
    · intro b k B O Z b' k' B' O' Z' hk hst hk' hst' hne hb hb'
      rcases hget b k hk with ⟨hlt, hk2⟩ | ⟨rfl, rfl⟩
      · rw [upd_other (by omega)] at hb
        rcases hget b' k' hk' with ⟨hlt', hk2'⟩ | ⟨rfl, rfl⟩
        · rw [upd_other (by omega)] at hb'
          exact s.sep b k B O Z b' k' B' O' Z' hk2 hst hk2' hst' hne hb hb'
        · rw [upd_same] at hb'
          cases hb'
          have := s.lt hb
          omega
      · rw [upd_same] at hb
        cases hb
        rcases hget b' k' hk' with ⟨hlt', hk2'⟩ | ⟨rfl, rfl⟩
        · rw [upd_other (by omega)] at hb'
          have := s.lt hb'
          omega
        · exact absurd rfl hne
  refine ⟨sim, fun b hb => upd_other (by omega), by simp, rfl, rfl, rfl, by simp, fun B hB _ => hold B hB, fun B ho => ?_⟩
  obtain ⟨b, k, O, Z, hk, hst, hb⟩ := ho
  rcases hget b k hk with ⟨hlt, hk'⟩ | ⟨rfl, rfl⟩
  · rw [upd_other (by omega)] at hb
    exact .inl ⟨b, k, O, Z, hk', hst, hb⟩
  · rw [upd_same] at hb
    cases hb
    exact .inr (Nat.le_refl _)

end Go.Proofs.Ev

namespace Go.Proofs.Ev
open Go Go.RowKit

theorem VRel.sl_inv {β : Inj} {b o z n : Nat} {c : Value} (h : VRel β (.sl (some (b, o, z)) n) c) :
    ∃ B O Z x cap, c = .slice (some ⟨B, x, none⟩) n cap ∧ β b = some (B, O, Z) ∧ n ≤ cap ∧ (n ≠ 0 → x = O + o) ∧ x + cap * z ≤ Z := by
  cases h with
  | sl h hn hx hc => exact ⟨_, _, _, _, _, rfl, h, hn, hx, hc⟩
theorem VRel.ptr_inv {β : Inj} {b o : Nat} {c : Value} (h : VRel β (.ptr (some (b, o))) c) : ∃ B O Z, c = .pointer (some ⟨B, O + o, none⟩) ∧ β b = some (B, O, Z) := by
  cases h with
  | ptr h => exact ⟨_, _, _, rfl, h⟩
theorem VRel.agg_inv {β : Inj} {vs : List V} {c : Value} (h : VRel β (.agg vs) c) : ∃ cs, c = .agg cs ∧ LRel β vs cs := by
  cases h with
  | agg hl h => exact ⟨_, rfl, hl, h⟩
theorem VRel.tup_inv {β : Inj} {vs : List V} {c : Value} (h : VRel β (.tup vs) c) : ∃ cs, c = .tuple cs ∧ LRel β vs cs := by
  cases h with
  | tup hl h => exact ⟨_, rfl, hl, h⟩
theorem VRel.fn_inv {β : Inj} {f : Nat} {vs : List V} {c : Value} (h : VRel β (.fn f vs) c) : ∃ cs, c = .func (.func f) #[] cs ∧ LRel β vs cs := by
  cases h with
  | fn hl h => exact ⟨_, rfl, hl, h⟩
theorem VRel.int_inv {β : Inj} {k : IntKind} {n : Int} {c : Value} (h : VRel β (.int k n) c) : c = .int k n := by cases h; rfl
theorem VRel.bool_inv {β : Inj} {b : Bool} {c : Value} (h : VRel β (.bool b) c) : c = .bool b := by cases h; rfl

/-! ### What asks nothing of the world -/

def pureRun {α : Type} (P : Program) : Sem α → Option α
  | .pure a => some a
  | .program k => pureRun P (k P)
  | .mark _ k => pureRun P k
  | _ => none

theorem pureRun_run {α : Type} {P : Program} : ∀ (s : Sem α) (x : α), pureRun P s = some x → ∀ w, s.run P w = .ok x w := by
  intro s
  induction s with
  | pure a => intro x h w; simp [pureRun] at h; subst h; rfl
  | program k ih => intro x h w; exact ih P x h w
  | mark m k ih => intro x h w; exact ih x h w
  | _ => intro x h; simp [pureRun] at h

def undefV : V := .tup []
theorem undefV_rel (β : Inj) : VRel β undefV undef := (LRel.nil β).tup

def isSelect : Op → Bool
  | .select .. => true
  | _ => false

def concO (ρ : Operand → Option V) (x : Operand) : Option Value := match ρ x with | some v => conc v | none => none

def pureOp (P : Program) (ρ : Operand → Option V) (o : Oper) : Option V :=
  if isSelect o.op = false then
    if o.op.operands.all (fun x => (concO ρ x).isSome) = true then
      match pureRun P (execOp (fun x => (concO ρ x).getD undef) o) with
      | some (.value c) => absN 9 c
      | _ => none
    else none
  else none

/-- The operands go together. -/
def RelO (β : Inj) (ρ : Operand → Option V) (e : Operand → Value) : Prop := ∀ x v, ρ x = some v → VRel β v (e x)

/-- What the model's run does with an operation that calls nothing. -/
def Runs (P : Program) (e : Operand → Value) (o : Oper) (w : World) (β : Inj) (H : Heap) (v : V) (H' : Heap) : Prop :=
  ∃ β' c w' n, (execOp e o).run P w = .ok n w' ∧ (n = .value c ∨ (n = .skip ∧ c = undef)) ∧ Ext β H w β' H' w' ∧ VRel β' v c

theorem Runs.value {P : Program} {e : Operand → Value} {o : Oper} {w : World} {β : Inj} {H : Heap} {v : V} {c : Value} (s : Sim β H w)
    (hr : (execOp e o).run P w = .ok (.value c) w) (hv : VRel β v c) : Runs P e o w β H v H :=
  ⟨β, c, w, _, hr, .inl rfl, Ext.refl s, hv⟩

theorem pureOp_sound {P : Program} {ρ : Operand → Option V} {e : Operand → Value} {o : Oper} {β : Inj} {H : Heap} {w : World} {v : V}
    (s : Sim β H w) (hρ : RelO β ρ e) (h : pureOp P ρ o = some v) : Runs P e o w β H v H := by
  unfold pureOp at h
  split at h
  · rename_i hsel
    split at h
    · rename_i hall
      split at h
      · rename_i c hc
        have hcongr : execOp e o = execOp (fun x => (concO ρ x).getD undef) o := by
          refine execOp_congr o (fun cs b he => by rw [he] at hsel; simp [isSelect] at hsel) (fun x hx => ?_)
          have hx' : (concO ρ x).isSome = true := by
            rw [Array.all_eq_true_iff_forall_mem] at hall
            exact hall x hx
          unfold concO at hx' ⊢
          cases hρx : ρ x with
          | none => rw [hρx] at hx'; simp at hx'
          | some v =>
            rw [hρx] at hx'
            simp only at hx' ⊢
            obtain ⟨c, hc⟩ := Option.isSome_iff_exists.1 hx'
            rw [hc]
            exact (hρ x v hρx).conc c hc
        exact Runs.value s (by rw [hcongr]; exact pureRun_run _ _ hc w) (absN_rel 9 c v h)
      · cases h
    · cases h
  · cases h

/-! ### Types -/

def tagg (P : Program) (t : TypeId) : Option Bool := match P.underlying t with
  | some (.struct _) => some true
  | some (.array _ _) => some true
  | some _ => some false
  | none => none
def tsize (P : Program) (t : TypeId) : Option Nat := match P.info? t with
  | some i => some i.size
  | none => none
def telem (P : Program) (t : TypeId) : Option TypeId := match P.underlying t with
  | some (.slice e) => some e
  | _ => none
def tarr (P : Program) (t : TypeId) : Option (Nat × TypeId) := match P.underlying t with
  | some (.array n e) => some (n, e)
  | _ => none
def tfield (P : Program) (t : TypeId) (f : Nat) : Option Field := match P.underlying t with
  | some (.struct fs) => fs[f]?
  | _ => none
def zeroV (P : Program) (t : TypeId) : Option V := match P.info? t with
  | some i => match i.zero with
    | some z => absN 9 z
    | none => none
  | none => none

theorem tagg_run {P : Program} {t : TypeId} {b : Bool} (h : tagg P t = some b) (w : World) : (isAgg t).run P w = .ok b w := by
  unfold tagg at h
  cases hu : P.underlying t with
  | none => rw [hu] at h; cases h
  | some d =>
    rw [hu] at h
    cases d <;> simp at h <;> subst h <;> simp [isAgg, run_underlying hu]

theorem tsize_run {P : Program} {t : TypeId} {n : Nat} (h : tsize P t = some n) (w : World) : (sizeOf t).run P w = .ok n w := by
  unfold tsize at h
  cases hi : P.info? t with
  | none => rw [hi] at h; cases h
  | some i => rw [hi] at h; cases h; simp [sizeOf, typeInfo, hi]

theorem telem_spec {P : Program} {t e : TypeId} (h : telem P t = some e) : P.underlying t = some (.slice e) := by
  unfold telem at h
  cases hu : P.underlying t with
  | none => rw [hu] at h; cases h
  | some d => rw [hu] at h; cases d <;> simp at h; subst h; rfl

theorem tarr_spec {P : Program} {t e : TypeId} {n : Nat} (h : tarr P t = some (n, e)) : P.underlying t = some (.array n e) := by
  unfold tarr at h
  cases hu : P.underlying t with
  | none => rw [hu] at h; cases h
  | some d => rw [hu] at h; cases d <;> simp at h; obtain ⟨rfl, rfl⟩ := h; rfl

theorem tfield_spec {P : Program} {t : TypeId} {i : Nat} {f : Field} (h : tfield P t i = some f) : ∃ fs, P.underlying t = some (.struct fs) ∧ fs[i]? = some f := by
  unfold tfield at h
  cases hu : P.underlying t with
  | none => rw [hu] at h; cases h
  | some d => rw [hu] at h; cases d <;> simp at h; exact ⟨_, rfl, h⟩

theorem zeroV_spec {P : Program} {t : TypeId} {v : V} (h : zeroV P t = some v) : ∃ i z, P.info? t = some i ∧ i.zero = some z ∧ absN 9 z = some v := by
  unfold zeroV at h
  cases hi : P.info? t with
  | none => rw [hi] at h; cases h
  | some i =>
    rw [hi] at h
    simp only at h
    cases hz : i.zero with
    | none => rw [hz] at h; cases h
    | some z => rw [hz] at h; exact ⟨i, z, rfl, hz, h⟩

theorem zeroV_run {P : Program} {t : TypeId} {v : V} (h : zeroV P t = some v) (β : Inj) : ∃ z, (∀ w, (zeroValue t).run P w = .ok z w) ∧ VRel β v z := by
  obtain ⟨i, z, hi, hz, ha⟩ := zeroV_spec h
  exact ⟨z, fun w => by simp [zeroValue, typeInfo, hi, hz], absN_rel 9 z v ha⟩

/-! ### Cells -/

def ldCells (H : Heap) (b o n : Nat) : Option (List V) := match H[b]? with
  | some k => if k.st ≠ 0 then (if o + n ≤ k.cells.length then some ((k.cells.drop o).take n) else none) else none
  | none => none

theorem ldCells_spec {β : Inj} {H : Heap} {w : World} (s : Sim β H w) {b o n B O Z : Nat} {vs : List V} (h : ldCells H b o n = some vs) (hb : β b = some (B, O, Z)) :
    vs.length = n ∧ O + o + n ≤ Z ∧ ∃ cs : List Value, LRel β vs cs.toArray ∧ cs.length = n ∧ ∀ j c, cs[j]? = some c → w.cell? ((⟨B, O + o, none⟩ : Addr).add j) = some c := by
  unfold ldCells at h
  cases hk : H[b]? with
  | none => rw [hk] at h; cases h
  | some k =>
    rw [hk] at h
    simp only at h
    split at h
    · rename_i hst
      split at h
      · rename_i hlen
        cases h
        obtain ⟨hz, hc⟩ := s.cont b k B O Z hk hst hb
        have hlen' : ((k.cells.drop o).take n).length = n := by simp; omega
        refine ⟨hlen', by omega, ?_⟩
        have hget : ∀ j, j < n → ∃ v c, ((k.cells.drop o).take n)[j]? = some v ∧ w.cell? ⟨B, O + (o + j), none⟩ = some c ∧ VRel β v c := by
          intro j hj
          have : ((k.cells.drop o).take n)[j]? = k.cells[o + j]? := by
            rw [List.getElem?_take_of_lt hj, List.getElem?_drop]
          have hlt : o + j < k.cells.length := by omega
          obtain ⟨c, hc1, hc2⟩ := hc (o + j) k.cells[o + j] (List.getElem?_eq_getElem hlt)
          exact ⟨_, c, by rw [this]; exact List.getElem?_eq_getElem hlt, hc1, hc2⟩
        refine ⟨(List.range n).map fun j => (w.cell? ⟨B, O + (o + j), none⟩).getD undef, LRel.of_list (by simp; omega) ?_, by simp, ?_⟩
        · intro j v hv
          have hj : j < n := by
            rcases Nat.lt_or_ge j n with h' | h'
            · exact h'
            · rw [List.getElem?_eq_none (by omega)] at hv; cases hv
          obtain ⟨v', c, h1, h2, h3⟩ := hget j hj
          rw [hv] at h1
          cases h1
          refine ⟨c, ?_, h3⟩
          rw [List.getElem?_map, List.getElem?_range hj]
          simp [h2]
        · intro j c hc'
          rw [List.getElem?_map] at hc'
          rcases Nat.lt_or_ge j n with hj | hj
          · rw [List.getElem?_range hj] at hc'
            obtain ⟨v', c', h1, h2, h3⟩ := hget j hj
            simp [h2] at hc'
            subst hc'
            have ha : (⟨B, O + o, none⟩ : Addr).add j = ⟨B, O + (o + j), none⟩ := by
              unfold Addr.add; split
              · subst_vars; simp
              · simp; omega
            rw [ha]
            exact h2
          · rw [List.getElem?_eq_none (by simpa using hj)] at hc'
            cases hc'
      · cases h
    · cases h

def evLoad (P : Program) (H : Heap) (t : TypeId) (b o : Nat) : Option V := match tagg P t with
  | some true => match tsize P t with
    | some n => match ldCells H b o n with
      | some vs => some (.agg vs)
      | none => none
    | none => none
  | some false => match ldCells H b o 1 with
    | some vs => vs.head?
    | none => none
  | none => none

theorem evLoad_run {P : Program} {β : Inj} {H : Heap} {w : World} (s : Sim β H w) {t : TypeId} {b o B O Z : Nat} {v : V} (h : evLoad P H t b o = some v) (hb : β b = some (B, O, Z)) :
    ∃ c, (loadVar t ⟨B, O + o, none⟩).run P w = .ok c w ∧ VRel β v c := by
  unfold evLoad at h
  split at h
  · rename_i ht
    split at h
    · rename_i n hn
      split at h
      · rename_i vs hvs
        cases h
        obtain ⟨h1, h2, cs, h3, h4, h5⟩ := ldCells_spec s hvs hb
        have hl := run_loadCells_list (P := P) w ⟨B, O + o, none⟩ cs h5
        rw [h4] at hl
        exact ⟨.agg cs.toArray, by simp [loadVar, tagg_run ht, tsize_run hn, hl], h3.agg⟩
      · cases h
    · cases h
  · rename_i ht
    split at h
    · rename_i vs hvs
      obtain ⟨h1, h2, cs, h3, h4, h5⟩ := ldCells_spec s hvs hb
      match vs, h1, h with
      | [v'], _, h =>
        simp at h
        subst h
        match cs, h4 with
        | [c], _ =>
          refine ⟨c, ?_, h3.2 0 v' c rfl rfl⟩
          have := h5 0 c rfl
          have h0 : (⟨B, O + o, none⟩ : Addr).add 0 = ⟨B, O + o, none⟩ := by simp [Addr.add]
          rw [h0] at this
          simp [loadVar, tagg_run ht, this]
    · cases h
  · cases h

/-- The cells from o on are written. -/
def stCells (H : Heap) (b o : Nat) (vs : List V) : Option Heap := match H[b]? with
  | some k => if 2 ≤ k.st then (if o + vs.length ≤ k.cells.length then (if vs.all V.one = true then some (H.set b ⟨k.cells.take o ++ vs ++ k.cells.drop (o + vs.length), k.st⟩) else none) else none) else none
  | none => none

theorem heap_setCells (B : Nat) : ∀ (vs : List Value) (o : Nat) (w : World) (k : Nat), k ≠ B → (w.setCells B o vs).heap[k]? = w.heap[k]?
  | [], _, _, _, _ => rfl
  | v :: r, o, w, k, h => by
    rw [World.setCells, heap_setCells B r (o + 1) _ k h]
    exact Below.heap_setCell w ⟨B, o, none⟩ v k h

theorem size_setCells (B : Nat) : ∀ (vs : List Value) (o : Nat) (w : World), (w.setCells B o vs).heap.size = w.heap.size
  | [], _, _ => rfl
  | v :: r, o, w => by rw [World.setCells, size_setCells B r (o + 1)]; simp

theorem os_setCells (B : Nat) : ∀ (vs : List Value) (o : Nat) (w : World), (w.setCells B o vs).os = w.os ∧ (w.setCells B o vs).tape = w.tape ∧ (w.setCells B o vs).output = w.output
  | [], _, _ => ⟨rfl, rfl, rfl⟩
  | v :: r, o, w => by rw [World.setCells]; exact os_setCells B r (o + 1) _

theorem obj_setCells (B : Nat) : ∀ (vs : List Value) (o : Nat) (w : World) (cs : Array Value) (e : TypeId) (fz : Nat × Nat), w.heap[B]? = some (.cells cs e fz) →
    ∃ cs', (w.setCells B o vs).heap[B]? = some (.cells cs' e fz) ∧ cs'.size = cs.size
  | [], _, _, cs, e, fz, h => ⟨cs, h, rfl⟩
  | v :: r, o, w, cs, e, fz, h => by
    rw [World.setCells]
    have h1 : (w.setCell ⟨B, o, none⟩ v).heap[B]? = some (.cells (cs.setIfInBounds o v) e fz) := by
      simp only [World.setCell, Array.getElem?_modify, if_pos rfl, h]
      rfl
    obtain ⟨cs', h2, h3⟩ := obj_setCells B r (o + 1) _ _ e fz h1
    exact ⟨cs', h2, by rw [h3]; simp⟩

theorem Warm.setCells {w : World} {B Z st : Nat} (h : Warm w B Z st) (B' : Nat) (cs : List Value) (o : Nat) : Warm (w.setCells B' o cs) B Z st := by
  by_cases hB : B = B'
  · subst hB
    obtain ⟨cs0, e, fz, h1, h2⟩ := h
    obtain ⟨cs', h3, h4⟩ := obj_setCells B cs o w cs0 e fz h1
    exact ⟨cs', e, fz, h3, h2⟩
  · exact h.of_block (heap_setCells B' cs o w B hB)

/-- Cells of a block of the run's own are written, and the block may end: what it is from then on is told by k'. -/
theorem Ext.store {β : Inj} {H : Heap} {w : World} (s : Sim β H w) {b B O Z : Nat} {k : Blk} (hk : H[b]? = some k) (hst : 2 ≤ k.st) (hb : β b = some (B, O, Z))
    (o : Nat) (cs : List Value) (hfit : o + cs.length ≤ Z) (k' : Blk) (hst' : k'.st = k.st ∨ k'.st = 0)
    (hc : 2 ≤ k'.st → O + k'.cells.length ≤ Z ∧ ∀ i v, k'.cells[i]? = some v → ∃ c, (w.setCells B o cs).cell? ⟨B, O + i, none⟩ = some c ∧ VRel β v c) :
    Ext β H w β (H.set b k') (w.setCells B o cs) := by
  have hblt : b < H.length := s.dom b _ hb
  have hget : ∀ c kc, (H.set b k')[c]? = some kc → (c = b ∧ kc = k') ∨ (c ≠ b ∧ H[c]? = some kc) := by
    intro c kc h
    rw [List.getElem?_set] at h
    by_cases hcb : b = c
    · subst hcb
      rw [if_pos rfl, if_pos hblt] at h
      cases h
      exact .inl ⟨rfl, rfl⟩
    · rw [if_neg hcb] at h
      exact .inr ⟨fun e => hcb e.symm, h⟩
  have sim : Sim β (H.set b k') (w.setCells B o cs) := by
    refine ⟨fun c x hx => by rw [List.length_set]; exact s.dom c x hx, ?_, ?_, ?_, ?_, ?_⟩
    · intro c B' O' Z' hc'
      rcases s.blk c B' O' Z' hc' with ⟨cs', e, fz, h1, h2⟩ | hmm
      rotate_left
      · exact .inr hmm
      left
      by_cases hB : B' = B
      · subst hB
        obtain ⟨cs'', h3, h4⟩ := obj_setCells B' cs o w cs' e fz h1
        exact ⟨cs'', e, fz, h3, h4.trans h2⟩
      · exact ⟨cs', e, fz, by rw [heap_setCells B cs o w B' hB]; exact h1, h2⟩
    · intro c B' hc'
      have hm := s.mp c B' hc'
      obtain ⟨⟨_, _, _, _, _, _, hn, _⟩, hu⟩ := id hm
      obtain ⟨cs0, e0, fz0, hcs0, hcs1⟩ := s.cells hk (by omega) hb
      have hne : B ≠ B' := fun e => by
        subst e
        have := hu b O Z hb
        subst this
        rw [hb] at hc'
        cases hc'
        have := (s.cont b k B 1 0 hk (by omega) hb).1
        omega
      refine hm.keep (heap_setCells B cs o w B' (fun e => hne e.symm)) ?_ (fun _ _ h => h) hn (fun _ _ _ h => h)
      rw [List.getElem?_set]
      rw [if_neg (fun e => by rw [e] at hb; rw [hb] at hn; cases hn)]
    · intro c kc B' O' Z' hkc hkst hc'
      rcases hget c kc hkc with ⟨rfl, rfl⟩ | ⟨hne, hkc'⟩
      · rw [hb] at hc'
        cases hc'
        rcases hst' with h2 | h2
        · exact hc (by omega)
        · exact absurd h2 hkst
      · have hBne : B ≠ B' := s.sep b k B O Z c kc B' O' Z' hk hst hkc' hkst (fun e => hne e.symm) hb hc'
        obtain ⟨h1, h2⟩ := s.cont c kc B' O' Z' hkc' hkst hc'
        refine ⟨h1, fun i v hv => ?_⟩
        obtain ⟨c', h3, h4⟩ := h2 i v hv
        exact ⟨c', (World.cell?_of_block (a := ⟨B', O' + i, none⟩) (heap_setCells B cs o w B' (fun e => hBne e.symm))).trans h3, h4⟩
    · intro c kc B' O' Z' hkc hkst hc'
      refine Warm.setCells ?_ B cs o
      rcases hget c kc hkc with ⟨rfl, rfl⟩ | ⟨hne, hkc'⟩
      · rcases hst' with h2 | h2
        · rw [h2]
          exact s.warm c k B' O' Z' hk hst hc'
        · omega
      · exact s.warm c kc B' O' Z' hkc' hkst hc'
    · intro c kc B1 O1 Z1 d kd B2 O2 Z2 hkc hcst hkd hdst hne hc' hd'
      have live : ∀ (c : Nat) (kc : Blk), (H.set b k')[c]? = some kc → kc.st ≠ 0 → ∃ kc' : Blk, H[c]? = some kc' ∧ kc'.st ≠ 0 ∧ (2 ≤ kc.st → 2 ≤ kc'.st) := by
        intro c kc h hs
        rcases hget c kc h with ⟨rfl, rfl⟩ | ⟨_, h'⟩
        · exact ⟨k, hk, by omega, fun _ => hst⟩
        · exact ⟨kc, h', hs, id⟩
      obtain ⟨kc', h1, _, h3⟩ := live c kc hkc (by omega)
      obtain ⟨kd', h4, h5, _⟩ := live d kd hkd hdst
      exact s.sep c kc' B1 O1 Z1 d kd' B2 O2 Z2 h1 (h3 hcst) h4 h5 hne hc' hd'
  have hos := os_setCells B cs o w
  refine ⟨sim, fun _ _ => rfl, by simp, hos.1, hos.2.1, hos.2.2, by rw [size_setCells]; exact Nat.le_refl _, fun B' hB' hn => heap_setCells B cs o w B' (fun e => hn ⟨b, k, O, Z, hk, .inl hst, e ▸ hb⟩), ?_⟩
  intro B' ho
  obtain ⟨c, kc, O', Z', hkc, hcst, hc'⟩ := ho
  rcases hget c kc hkc with ⟨rfl, rfl⟩ | ⟨_, h'⟩
  · exact .inl ⟨c, k, O', Z', hk, .inl hst, hc'⟩
  · exact .inl ⟨c, kc, O', Z', h', hcst, hc'⟩

/-- The new cells of a block that was written. -/
theorem store_cells {β : Inj} {H : Heap} {w : World} (s : Sim β H w) {b B O Z : Nat} {k : Blk} (hk : H[b]? = some k) (hst : 2 ≤ k.st) (hb : β b = some (B, O, Z))
    {o : Nat} {vs : List V} {cs : List Value} (hfit : o + vs.length ≤ k.cells.length) (hr : LRel β vs cs.toArray) :
    ∀ i v, (k.cells.take o ++ vs ++ k.cells.drop (o + vs.length))[i]? = some v → ∃ c, (w.setCells B (O + o) cs).cell? ⟨B, O + i, none⟩ = some c ∧ VRel β v c := by
  obtain ⟨hz, hc⟩ := s.cont b k B O Z hk (by omega) hb
  have hl : vs.length = cs.length := by simpa using hr.1
  intro i v hv
  by_cases hio : o ≤ i ∧ i < o + vs.length
  · obtain ⟨h1, h2⟩ := hio
    have hv' : vs[i - o]? = some v := by
      rw [List.append_assoc, List.getElem?_append_right (by simp; omega), List.getElem?_append_left (by simp; omega)] at hv
      simpa [Nat.min_eq_left (by omega : o ≤ k.cells.length)] using hv
    have hj : i - o < cs.length := by omega
    have hin := World.cell?_setCells_in B cs (O + o) w (fun j hj' => by
      obtain ⟨c, hc1, _⟩ := hc (o + j) k.cells[o + j] (List.getElem?_eq_getElem (by omega))
      rw [show O + o + j = O + (o + j) by omega, hc1]
      rfl) (i - o) hj
    rw [show O + o + (i - o) = O + i by omega] at hin
    exact ⟨_, hin, hr.2 (i - o) v _ hv' (by simp [List.getElem?_eq_getElem hj])⟩
  · have hv' : k.cells[i]? = some v := by
      rw [List.append_assoc] at hv
      rcases Nat.lt_or_ge i o with h1 | h1
      · rw [List.getElem?_append_left (by simp; omega), List.getElem?_take_of_lt h1] at hv
        exact hv
      · have h2 : o + vs.length ≤ i := by
          rcases Nat.lt_or_ge i (o + vs.length) with h2 | h2
          · exact absurd ⟨h1, h2⟩ hio
          · exact h2
        rw [List.getElem?_append_right (by simp; omega), List.getElem?_append_right (by simp; omega), List.getElem?_drop] at hv
        rw [← hv]
        congr 1
        simp
        omega
    obtain ⟨c, hc1, hc2⟩ := hc i v hv'
    refine ⟨c, ?_, hc2⟩
    rw [World.cell?_setCells_out B cs (O + o) w ⟨B, O + i, none⟩ (fun _ _ => by simp; omega)]
    exact hc1

theorem stCells_run {P : Program} {β : Inj} {H H' : Heap} {w : World} (s : Sim β H w) {b o B O Z : Nat} {vs : List V} {cs : List Value} (h : stCells H b o vs = some H') (hb : β b = some (B, O, Z))
    (hr : LRel β vs cs.toArray) : ∃ w', (storeCells ⟨B, O + o, none⟩ cs).run P w = .ok () w' ∧ Ext β H w β H' w' := by
  unfold stCells at h
  cases hk : H[b]? with
  | none => rw [hk] at h; cases h
  | some k =>
    rw [hk] at h
    simp only at h
    split at h
    · rename_i hst
      split at h
      · rename_i hlen
        split at h
        · rename_i hone
          cases h
          obtain ⟨hz, hc⟩ := s.cont b k B O Z hk (by omega) hb
          have hl : vs.length = cs.length := by simpa using hr.1
          have hrun := run_storeCells_cells (P := P) B (O + o) cs 0 w
            (fun j hj => by
              obtain ⟨c, hc1, _⟩ := hc (o + j) k.cells[o + j] (List.getElem?_eq_getElem (by omega))
              rw [show O + o + 0 + j = O + (o + j) by omega, hc1]
              rfl)
            (fun j hj => s.thaw b k B O Z hk hst hb _ (by omega))
            (fun c hc' => by
              obtain ⟨i, hi⟩ := List.mem_iff_getElem?.1 hc'
              have hi' : i < cs.length := by
                rcases Nat.lt_or_ge i cs.length with h' | h'
                · exact h'
                · rw [List.getElem?_eq_none h'] at hi; cases hi
              have hv : vs[i]? = some (vs[i]'(by omega)) := List.getElem?_eq_getElem _
              exact (hr.2 i _ c hv (by simpa using hi)).one (by
                rw [List.all_eq_true] at hone
                exact hone _ (List.getElem_mem _)))
          refine ⟨_, hrun, ?_⟩
          simp only [Nat.add_zero]
          refine Ext.store s hk hst hb (O + o) cs (by omega) _ (.inl rfl) (fun _ => ⟨by simp; omega, store_cells s hk hst hb hlen hr⟩)
        · cases h
      · cases h
    · cases h

end Go.Proofs.Ev

namespace Go.Proofs.Ev
open Go Go.RowKit

/-! ### A block of the world that nobody tells of any more, told anew -/

theorem Sim.adopt {β : Inj} {H : Heap} {w : World} (s : Sim β H w) {B x Z st : Nat} {cs : Array Value} {e : TypeId} {fz : Nat × Nat} (hB : w.heap[B]? = some (.cells cs e fz)) (hZ : cs.size = Z)
    (hfree : ∀ b k O Z', H[b]? = some k → k.st ≠ 0 → β b = some (B, O, Z') → False) (hth : Warm w B Z st)
    (vs : List V) (hfit : x + vs.length ≤ Z) (h : ∀ (i : Nat) (v : V), vs[i]? = some v → ∃ c, w.cell? ⟨B, x + i, none⟩ = some c ∧ VRel β v c) :
    Sim (upd β H.length (B, x, Z)) (H ++ [⟨vs, st⟩]) w := by
  have hle := s.upd_le (B, x, Z)
  have hget : ∀ b k, (H ++ [(⟨vs, st⟩ : Blk)])[b]? = some k → (b < H.length ∧ H[b]? = some k) ∨ (b = H.length ∧ k = ⟨vs, st⟩) := by
    intro b k hb
    rw [List.getElem?_append] at hb
    split at hb
    · rename_i hlt; exact .inl ⟨hlt, hb⟩
    · rename_i hge
      have hb0 : b - H.length = 0 := by
        rcases Nat.eq_zero_or_pos (b - H.length) with h0 | h0
        · exact h0
        · rw [List.getElem?_eq_none (by simp; omega)] at hb; cases hb
      rw [hb0] at hb
      simp at hb
      exact .inr ⟨by omega, hb.symm⟩
  refine ⟨?_, ?_, ?_, ?_, ?_, ?_⟩
  · intro b y hb
    by_cases hbl : b = H.length
    · subst hbl; simp
    · rw [upd_other hbl] at hb
      have := s.dom b y hb
      simp; omega
  · intro b B' O Z' hb
    by_cases hbl : b = H.length
    · subst hbl
      rw [upd_same] at hb
      cases hb
      exact .inl ⟨cs, e, fz, hB, hZ⟩
    · rw [upd_other hbl] at hb
      exact s.blk b B' O Z' hb
  · intro b B' hb
    by_cases hbl : b = H.length
    · subst hbl
      rw [upd_same] at hb
      cases hb
      omega
    · rw [upd_other hbl] at hb
      have hm := s.mp b B' hb
      obtain ⟨⟨_, _, g, hmap, hg, _, hn, _⟩, _⟩ := id hm
      have hlt : b + 1 < H.length := by
        rcases Nat.lt_or_ge (b + 1) H.length with h' | h'
        · exact h'
        · rw [List.getElem?_eq_none h'] at hg; cases hg
      refine hm.keep rfl (List.getElem?_append_left hlt) hle (by rw [upd_other (by omega)]; exact hn) fun b' O' Z' hb' => ?_
      by_cases hbl' : b' = H.length
      · subst hbl'
        rw [upd_same] at hb'
        cases hb'
        rw [hB] at hmap
        cases hmap
      · rw [upd_other hbl'] at hb'
        exact hb'
  · intro b k B' O Z' hk hst hb
    rcases hget b k hk with ⟨hlt, hk'⟩ | ⟨rfl, rfl⟩
    · rw [upd_other (by omega)] at hb
      obtain ⟨h1, h2⟩ := s.cont b k B' O Z' hk' hst hb
      refine ⟨h1, fun i v hv => ?_⟩
      obtain ⟨c, hc, hr⟩ := h2 i v hv
      exact ⟨c, hc, hr.mono hle⟩
    · rw [upd_same] at hb
      cases hb
      refine ⟨hfit, fun i v hv => ?_⟩
      obtain ⟨c, hc, hr⟩ := h i v hv
      exact ⟨c, hc, hr.mono hle⟩
  · intro b k B' O Z' hk hst hb
    rcases hget b k hk with ⟨hlt, hk'⟩ | ⟨rfl, rfl⟩
    · rw [upd_other (by omega)] at hb
      exact s.warm b k B' O Z' hk' hst hb
    · rw [upd_same] at hb
      cases hb
      exact hth
  · intro b k B1 O1 Z1 b' k' B2 O2 Z2 hk hst hk' hst' hne hb hb'
    rcases hget b k hk with ⟨hlt, hk2⟩ | ⟨rfl, rfl⟩
    · rw [upd_other (by omega)] at hb
      rcases hget b' k' hk' with ⟨hlt', hk2'⟩ | ⟨rfl, rfl⟩
      · rw [upd_other (by omega)] at hb'
        exact s.sep b k B1 O1 Z1 b' k' B2 O2 Z2 hk2 hst hk2' hst' hne hb hb'
      · rw [upd_same] at hb'
        cases hb'
        exact fun e => hfree b k O1 Z1 hk2 (by omega) (e ▸ hb)
    · rw [upd_same] at hb
      cases hb
      rcases hget b' k' hk' with ⟨hlt', hk2'⟩ | ⟨rfl, rfl⟩
      · rw [upd_other (by omega)] at hb'
        exact fun e => hfree b' k' O2 Z2 hk2' hst' (e ▸ hb')
      · exact absurd rfl hne

def dead : Blk := ⟨[], 0⟩

/-- A slice goes on in its own block: the block's number ends, a new one begins. -/
theorem Ext.inplace {β : Inj} {H : Heap} {w : World} (s : Sim β H w) {b B O Z : Nat} {k : Blk} (hk : H[b]? = some k) (hst : 2 ≤ k.st) (hb : β b = some (B, O, Z))
    (y : Nat) (cs : List Value) (hfit : y + cs.length ≤ Z) (x : Nat) (vs : List V) (hfit' : x + vs.length ≤ Z)
    (h : ∀ (i : Nat) (v : V), vs[i]? = some v → ∃ c, (w.setCells B y cs).cell? ⟨B, x + i, none⟩ = some c ∧ VRel β v c) :
    Ext β H w (upd β H.length (B, x, Z)) (H.set b dead ++ [⟨vs, k.st⟩]) (w.setCells B y cs) := by
  have e1 := Ext.store s hk hst hb y cs hfit dead (.inr rfl) (fun h => by simp [dead] at h)
  have hblt := s.dom b _ hb
  obtain ⟨cs0, e, fz, h1, h2⟩ : ∃ (c0 : Array Value) (e : TypeId) (fz : Nat × Nat), (w.setCells B y cs).heap[B]? = some (.cells c0 e fz) ∧ c0.size = Z := by
    rcases e1.sim.blk b B O Z hb with h | ⟨rfl, rfl⟩
    · exact h
    · have := (s.cont b k B 1 0 hk (by omega) hb).1
      omega
  have hfree : ∀ c kc O' Z', (H.set b dead)[c]? = some kc → kc.st ≠ 0 → β c = some (B, O', Z') → False := by
    intro c kc O' Z' hkc hcs hc
    rw [List.getElem?_set] at hkc
    by_cases hcb : b = c
    · subst hcb
      rw [if_pos rfl, if_pos hblt] at hkc
      cases hkc
      exact hcs rfl
    · rw [if_neg hcb] at hkc
      exact s.sep b k B O Z c kc B O' Z' hk hst hkc hcs hcb hb hc rfl
  have hth : Warm (w.setCells B y cs) B Z k.st := (s.warm b k B O Z hk hst hb).setCells B cs y
  have s2 := Sim.adopt e1.sim h1 h2 hfree hth vs hfit' h
  rw [List.length_set] at s2
  refine ⟨s2, fun c hc => upd_other (by omega), by simp, e1.os, e1.tape, e1.output, e1.size, e1.frame, ?_⟩
  intro B' ho
  obtain ⟨c, kc, O', Z', hkc, hcst, hc⟩ := ho
  rw [List.getElem?_append] at hkc
  split at hkc
  · rename_i hlt
    rw [List.length_set] at hlt
    rw [upd_other (by omega)] at hc
    exact e1.own B' ⟨c, kc, O', Z', hkc, hcst, hc⟩
  · rename_i hge
    rw [List.length_set] at hge hkc
    have hc0 : c = H.length := by
      rcases Nat.eq_zero_or_pos (c - H.length) with h0 | h0
      · omega
      · rw [List.getElem?_eq_none (by simp; omega)] at hkc; cases hkc
    subst hc0
    rw [upd_same] at hc
    cases hc
    exact .inl ⟨b, k, O, Z, hk, .inl hst, hb⟩

/-- A slice goes on in a new block: its own ends, a new one begins. -/
theorem Ext.moved {β : Inj} {H : Heap} {w : World} (s : Sim β H w) {b B O Z st : Nat} {k : Blk} (hk : H[b]? = some k) (hst : 2 ≤ k.st) (hb : β b = some (B, O, Z))
    (vs : List V) (cs : Array Value) (e : TypeId) (h : ∀ (i : Nat) (v : V), vs[i]? = some v → ∃ c, cs[i]? = some c ∧ VRel β v c) (hl : vs.length ≤ cs.size) :
    Ext β H w (upd β H.length (w.heap.size, 0, cs.size)) (H.set b dead ++ [⟨vs, st⟩]) (w.alloc (.cells cs e)) := by
  have e1 := Ext.store s hk hst hb 0 [] (Nat.zero_le _) dead (.inr rfl) (fun h => by simp [dead] at h)
  have e2 := Ext.alloc e1.sim vs cs e (0, 0) st (.inr rfl) h hl
  rw [List.length_set] at e2
  exact e1.trans e2

/-! ### append -/

/-- What is appended: how many elements, their cells. -/
def srcV (P : Program) (H : Heap) (tx : TypeId) (z : Nat) (x : V) : Option (Nat × List V) := match P.underlying tx with
  | some (.slice _) => match x with
    | .sl none n => if n = 0 then some (0, []) else none
    | .sl (some (b, o, z')) n => if n = 0 then some (0, []) else if z' = z then (match ldCells H b o (n * z) with | some vs => some (n, vs) | none => none) else none
    | _ => none
  | some .string => match x with
    | .str s => if z = 1 then some (s.length, s.map fun b => .int .u8 b.toNat) else none
    | _ => none
  | _ => none

theorem srcV_spec {P : Program} {β : Inj} {H : Heap} {w : World} (s : Sim β H w) {tx : TypeId} {z n : Nat} {x : V} {vs : List V} (h : srcV P H tx z x = some (n, vs)) {c : Value} (hx : VRel β x c)
    (h1 : vs.all V.one = true) : ∃ news, Src P z tx c n news w ∧ LRel β vs news.toArray := by
  have ones : ∀ news : List Value, LRel β vs news.toArray → ∀ u ∈ news, u.oneCell' = true := by
    intro news hr u hu
    obtain ⟨i, hi⟩ := List.mem_iff_getElem?.1 hu
    have hi' : i < news.length := by
      rcases Nat.lt_or_ge i news.length with h' | h'
      · exact h'
      · rw [List.getElem?_eq_none h'] at hi; cases hi
    have hlen := hr.1
    simp at hlen
    have hv : vs[i]? = some (vs[i]'(by omega)) := List.getElem?_eq_getElem _
    exact (hr.2 i _ u hv (by simpa using hi)).one (by rw [List.all_eq_true] at h1; exact h1 _ (List.getElem_mem _))
  unfold srcV at h
  split at h
  · rename_i e' hu
    split at h
    · split at h
      · rename_i hn
        cases h
        subst hn
        cases hx
        exact ⟨[], Src.ofNil w hu 0, LRel.nil β⟩
      · cases h
    · rename_i b o z' n'
      split at h
      · rename_i hn
        cases h
        subst hn
        cases hx
        exact ⟨[], Src.ofSlice w hu _ 0 _ [] (by simp) (by simp) (by simp), LRel.nil β⟩
      · rename_i hn
        split at h
        · rename_i hz
          subst hz
          split at h
          · rename_i vs' hvs
            cases h
            obtain ⟨B, O, Z, x, cap, rfl, hb, hn', hx', hc⟩ := hx.sl_inv
            obtain ⟨q1, q2, cs, q3, q4, q5⟩ := ldCells_spec s hvs hb
            rw [← hx' hn] at q5
            exact ⟨cs, Src.ofSlice w hu _ _ _ cs q4 q5 (ones cs q3), q3⟩
          · cases h
        · cases h
    · cases h
  · rename_i hu
    split at h
    · rename_i str
      split at h
      · rename_i hz
        subst hz
        cases h
        cases hx
        have hr : LRel β (str.map fun b => V.int .u8 b.toNat) (byteCells ⟨str.toArray⟩).toArray := by
          refine LRel.of_list (by simp [byteCells]) (fun i v hv => ?_)
          rw [List.getElem?_map] at hv
          cases hs : str[i]? with
          | none => rw [hs] at hv; cases hv
          | some b =>
            rw [hs] at hv
            cases hv
            exact ⟨.int .u8 b.toNat, by simp [byteCells, hs], .int _ _⟩
        have := Src.ofString (P := P) w hu ⟨str.toArray⟩
        exact ⟨_, this, hr⟩
      · cases h
    · cases h
  · cases h

def evAppend (P : Program) (H : Heap) (t tx : TypeId) (s x : V) : Option (V × Heap) := match telem P t with
  | some e => match P.info? e with
    | some i => match zeroV P e with
      | some zv => if 0 < i.size ∧ zv.cells.length = i.size then (match srcV P H tx i.size x with
        | some (n, news) => if news.all V.one = true then (match s with
          | .sl none m => if m = 0 then (if n = 0 then some (s, H) else if n * i.bytes ≤ 140737488355328 ∧ n ≤ 4611686018427387904 then some (.sl (some (H.length, 0, i.size)) n, H ++ [⟨news, 2⟩]) else none) else none
          | .sl (some (b, o, z)) m => if n = 0 then some (s, H) else if z = i.size then (match H[b]? with
            | some k => if 2 ≤ k.st then (match ldCells H b o (m * z) with
              | some olds => if (m + n) * i.bytes ≤ 140737488355328 ∧ m + n ≤ 4611686018427387904 then some (.sl (some (H.length, 0, z)) (m + n), H.set b dead ++ [⟨olds ++ news, k.st⟩]) else none
              | none => none) else none
            | none => none) else none
          | _ => none) else none
        | none => none) else none
      | none => none
    | none => none
  | none => none

theorem getElem?_append_fst {cs ds : Array Value} {i : Nat} {c : Value} (h : cs[i]? = some c) : (cs ++ ds)[i]? = some c := by
  have hi : i < cs.size := by
    rcases Nat.lt_or_ge i cs.size with h' | h'
    · exact h'
    · rw [Array.getElem?_eq_none h'] at h; cases h
  rw [Array.getElem?_append_left hi]
  exact h

theorem evAppend_run {P : Program} {β : Inj} {H H' : Heap} {w : World} (s : Sim β H w) {t tx ty : TypeId} {sv xv v : V} {sc xc : Value} (h : evAppend P H t tx sv xv = some (v, H'))
    (hs : VRel β sv sc) (hx : VRel β xv xc) : ∃ β' c w', (Builtin.append_ #[t, tx] ty #[sc, xc]).run P w = .ok c w' ∧ Ext β H w β' H' w' ∧ VRel β' v c := by
  unfold evAppend at h
  split at h
  · rename_i e ht
    have ht' := telem_spec ht
    split at h
    · rename_i i hi
      split at h
      · rename_i zv hzv
        obtain ⟨i', z, hi', hz, habs⟩ := zeroV_spec hzv
        rw [hi] at hi'
        cases hi'
        have hzr : VRel β zv z := absN_rel 9 z zv habs
        split at h
        · rename_i hsz
          obtain ⟨hpos, hzl⟩ := hsz
          have hzs : z.cells.size = i.size := by rw [← hzr.cells.1]; exact hzl
          split at h
          · rename_i n news hsrc
            split at h
            · rename_i hone
              obtain ⟨ns, hS, hL⟩ := srcV_spec s hsrc hx hone
              have hnl : news.length = ns.length := by simpa using hL.1
              have hnlen := hS.newsLen
              split at h
              · rename_i m
                split at h
                · rename_i hm
                  subst hm
                  split at h
                  · rename_i hn
                    subst hn
                    cases h
                    cases hs
                    have hns : ns = [] := List.eq_nil_of_length_eq_zero (by simpa using hnlen)
                    subst hns
                    exact ⟨β, _, w, run_append_nothing w t tx ty e i ht' hi none 0 0 (Nat.le_refl _) xc hS, Ext.refl s, .nils⟩
                  · rename_i hn
                    split at h
                    · rename_i hb
                      cases h
                      cases hs
                      have hold : (Builtin.firstCells i.size 0 (.slice none 0 0)).run P w.drew = .ok ([] : List Value).toArray w.drew := run_firstCells_none w.drew i.size 0 0 0
                      have hrun := run_append_grow_src (P := P) w t tx ty e i z ht' hi hz none 0 0 [] hold xc n ns hS (by omega) (by omega) (growslice_fits (by omega) (by rw [Nat.zero_add]; exact hb.1))
                      simp only [Nat.zero_add, List.nil_append] at hrun
                      refine ⟨_, _, _, hrun, (Ext.drew s).trans (Ext.alloc s.drew news (ns.toArray ++ Builtin.zeroCells z.cells (grownCap w n 0 e - n)) e (0, 0) 2 (.inr rfl) (fun j v hv => ?_) (by simp; omega)), ?_⟩
                      · obtain ⟨c, hc, hr⟩ := hL.get hv
                        exact ⟨c, getElem?_append_fst hc, hr⟩
                      · refine VRel.sl (upd_same _ _ _) (grownCap_ge w n 0 e) (fun _ => rfl) ?_
                        have hge := grownCap_ge w n 0 e
                        simp only [Array.size_append, List.size_toArray, size_zeroCells, hzs, hnlen, ← Nat.add_mul, Nat.zero_add]
                        exact Nat.mul_le_mul_right _ (by omega)
                    · cases h
                · cases h
              · rename_i b o z' m
                split at h
                · rename_i hn
                  subst hn
                  cases h
                  obtain ⟨B, O, Z, x, cap, rfl, hb, hn', hx', hc⟩ := hs.sl_inv
                  have hns : ns = [] := List.eq_nil_of_length_eq_zero (by simpa using hnlen)
                  subst hns
                  exact ⟨β, _, w, run_append_nothing w t tx ty e i ht' hi _ m cap hn' xc hS, Ext.refl s, .sl hb hn' hx' hc⟩
                · rename_i hn
                  split at h
                  · rename_i hz'
                    subst hz'
                    split at h
                    · rename_i k hk
                      split at h
                      · rename_i hst
                        split at h
                        · rename_i olds holds
                          split at h
                          · rename_i hbd
                            cases h
                            obtain ⟨B, O, Z, x, cap, rfl, hb, hcap, hxo, hroomZ⟩ := hs.sl_inv
                            obtain ⟨q1, q2, cs, q3, q4, q5⟩ := ldCells_spec s holds hb
                            obtain ⟨cs0, e0, fz, hblk, hZ⟩ := s.cells hk (by omega) hb
                            have holdc : ∀ j c, cs[j]? = some c → w.cell? ((⟨B, x, none⟩ : Addr).add j) = some c := by
                              intro j c hc
                              by_cases hm : m = 0
                              · subst hm
                                have : cs = [] := List.eq_nil_of_length_eq_zero (by simpa using q4)
                                subst this
                                simp at hc
                              · rw [hxo hm]
                                exact q5 j c hc
                            by_cases hroom : m + n ≤ cap
                            · have hmn : x + (m + n) * i.size ≤ Z := Nat.le_trans (Nat.add_le_add_left (Nat.mul_le_mul_right _ hroom) x) hroomZ
                              rw [Nat.add_mul, ← Nat.add_assoc] at hmn
                              have hrun := run_append_room_src (P := P) w t tx ty e i ht' hi B x m cap xc n ns hS hroom
                                (fun j hj => by
                                  have hlt : x + m * i.size + j < cs0.size := by omega
                                  simp only [World.cell?, hblk]
                                  simp [hlt])
                                (fun j hj => s.thaw b k B O Z hk hst hb _ (by omega))
                              refine ⟨_, _, _, hrun, Ext.inplace s hk hst hb (x + m * i.size) ns (by omega) x (olds ++ news) (by simp; omega) ?_, .sl (upd_same _ _ _) hroom (fun _ => by simp) hroomZ⟩
                              intro j v hv
                              rcases Nat.lt_or_ge j olds.length with hj | hj
                              · rw [List.getElem?_append_left hj] at hv
                                obtain ⟨c, hc, hr⟩ := q3.get hv
                                have hc' : cs[j]? = some c := by simpa using hc
                                refine ⟨c, ?_, hr⟩
                                rw [World.cell?_setCells_out B ns (x + m * i.size) w ⟨B, x + j, none⟩ (fun _ _ => .inl (by simp; omega))]
                                have := holdc j c hc'
                                have ha : (⟨B, x, none⟩ : Addr).add j = ⟨B, x + j, none⟩ := by unfold Addr.add; split <;> simp_all
                                rw [ha] at this
                                exact this
                              · rw [List.getElem?_append_right hj] at hv
                                obtain ⟨c, hc, hr⟩ := hL.get hv
                                have hc' : ns[j - olds.length]? = some c := by simpa using hc
                                have hjl : j - olds.length < ns.length := by
                                  rcases Nat.lt_or_ge (j - olds.length) ns.length with h' | h'
                                  · exact h'
                                  · rw [List.getElem?_eq_none h'] at hc'; cases hc'
                                have hin := World.cell?_setCells_in B ns (x + m * i.size) w (fun j hj => by
                                  have hlt : x + m * i.size + j < cs0.size := by omega
                                  simp only [World.cell?, hblk]
                                  simp [hlt]) (j - olds.length) hjl
                                rw [show x + m * i.size + (j - olds.length) = x + j by omega] at hin
                                refine ⟨c, ?_, hr⟩
                                rw [hin]
                                rw [List.getElem?_eq_getElem hjl] at hc'
                                exact hc'
                            · have hold : (Builtin.firstCells i.size m (.slice (some ⟨B, x, none⟩) m cap)).run P w.drew = .ok cs.toArray w.drew :=
                                run_firstCells_some w.drew i.size m _ m cap cs q4 (by simpa using holdc)
                              have hrun := run_append_grow_src (P := P) w t tx ty e i z ht' hi hz (some ⟨B, x, none⟩) m cap cs hold xc n ns hS (by omega) (by omega) (growslice_fits (by omega) hbd.1)
                              have hge := grownCap_ge w (m + n) cap e
                              refine ⟨_, _, _, hrun, (Ext.drew s).trans (Ext.moved s.drew hk hst hb (olds ++ news) _ e (fun j v hv => ?_) (by simp; omega)), ?_⟩
                              · have hLL : LRel β (olds ++ news) (cs ++ ns).toArray := by
                                  have := q3.append hL
                                  simpa using this
                                obtain ⟨c, hc, hr⟩ := hLL.get hv
                                exact ⟨c, getElem?_append_fst hc, hr⟩
                              · refine VRel.sl (upd_same _ _ _) hge (fun _ => rfl) ?_
                                simp only [Array.size_append, List.size_toArray, size_zeroCells, hzs, List.length_append, hnlen, q4, Nat.zero_add]
                                rw [← Nat.add_mul, ← Nat.add_mul]
                                exact Nat.mul_le_mul_right _ (by omega)
                          · cases h
                        · cases h
                      · cases h
                    · cases h
                  · cases h
              · cases h
            · cases h
          · cases h
        · cases h
      · cases h
    · cases h
  · cases h

end Go.Proofs.Ev

namespace Go.Proofs.Ev
open Go Go.RowKit

/-! ### Rows of zeros -/

def zrow (zv : List V) (n : Nat) : List V := (List.range n).map fun i => zv.getD (i % zv.length) undefV

theorem zrow_rel {β : Inj} {zv : List V} {zc : Array Value} (h : LRel β zv zc) (n : Nat) (hp : 0 < zv.length) : LRel β (zrow zv n) ((Array.range n).map fun i => zc[i % zc.size]!) := by
  refine ⟨by simp [zrow], fun i v c hv hc => ?_⟩
  unfold zrow at hv
  rw [List.getElem?_map] at hv
  rw [Array.getElem?_map] at hc
  rcases Nat.lt_or_ge i n with hi | hi
  · rw [List.getElem?_range hi] at hv
    have hr : (Array.range n)[i]? = some i := by simp [hi]
    rw [hr] at hc
    simp only [Option.map_some, Option.some.injEq] at hv hc
    subst hv
    subst hc
    have hm : i % zv.length < zv.length := Nat.mod_lt _ hp
    have h1 : zv[i % zv.length]? = some (zv.getD (i % zv.length) undefV) := by
      rw [List.getD_eq_getElem?_getD, List.getElem?_eq_getElem hm]; rfl
    have hm' : i % zc.size < zc.size := by rw [← h.1]; exact hm
    have h2 : zc[i % zc.size]? = some zc[i % zc.size]! := by
      rw [Array.getElem?_eq_getElem hm', getElem!_pos zc _ hm']
    rw [← h.1] at h2 ⊢
    exact h.2 _ _ _ h1 h2
  · rw [List.getElem?_eq_none (by simpa using hi)] at hv
    cases hv

theorem Ext.row {β : Inj} {H : Heap} {w : World} (s : Sim β H w) {vs : List V} {cs : Array Value} (h : LRel β vs cs) (e : TypeId) :
    Ext β H w (upd β H.length (w.heap.size, 0, cs.size)) (H ++ [⟨vs, 2⟩]) (w.alloc (.cells cs e)) :=
  Ext.alloc s vs cs e (0, 0) 2 (.inr rfl) (fun i v hv => h.get hv) (Nat.le_of_eq h.1)

/-! ### Parts of a struct or a row -/

def fillV (place : Nat → Option (Nat × Nat)) (cells : List V) : List (Nat × V) → Option (List V)
  | [] => some cells
  | (i, v) :: rest => match place i with
    | none => none
    | some (off, size) => if v.cells.length = size ∧ off + v.cells.length ≤ cells.length then fillV place (putAt off v.cells cells) rest else none
where
  putAt (off : Nat) : List V → List V → List V
    | [], cells => cells
    | v :: r, cells => putAt (off + 1) r (cells.set off v)

theorem fill_fold {β : Inj} (off : Nat) : ∀ (vs : List V) (cs : List Value) (k : Nat) (cells : List V) (cc : Array Value), LRel β vs cs.toArray → LRel β cells cc →
    LRel β (fillV.putAt (off + k) vs cells) ((cs.zipIdx k).foldl (fun ds (c, j) => ds.setIfInBounds (off + j) c) cc)
  | [], cs, k, cells, cc, h, hc => by
    have : cs = [] := List.eq_nil_of_length_eq_zero (by have := h.1; simpa using this.symm)
    subst this
    exact hc
  | v :: r, [], k, cells, cc, h, hc => by have := h.1; simp at this
  | v :: r, c :: cs, k, cells, cc, h, hc => by
    simp only [List.zipIdx_cons, List.foldl_cons, fillV.putAt]
    have h0 : VRel β v c := h.2 0 v c rfl rfl
    have h1 : LRel β r cs.toArray := ⟨by have := h.1; simp at this ⊢; exact this, fun i v c hv hc => h.2 (i + 1) v c (by simpa using hv) (by simpa using hc)⟩
    exact fill_fold off r cs (k + 1) _ _ h1 (hc.set (off + k) h0)

theorem zipIdx_foldl_array (cs : Array Value) (f : Array Value → Value × Nat → Array Value) (cc : Array Value) : cs.zipIdx.foldl f cc = (cs.toList.zipIdx 0).foldl f cc := by
  rw [← Array.foldl_toList, Array.toList_zipIdx]

/-- Rows of parts go together. -/
def PRel (β : Inj) (ps : List (Nat × V)) (qs : List (Nat × Value)) : Prop := ps.length = qs.length ∧ ∀ (i : Nat) (p : Nat × V) (q : Nat × Value), ps[i]? = some p → qs[i]? = some q → p.1 = q.1 ∧ VRel β p.2 q.2

theorem fillV_rel {β : Inj} (place : Nat → Option (Nat × Nat)) : ∀ (ps : List (Nat × V)) (qs : List (Nat × Value)) (cells vs : List V) (cc : Array Value), PRel β ps qs → LRel β cells cc →
    fillV place cells ps = some vs → ∃ cs, Instr.fill place cc qs = some cs ∧ LRel β vs cs
  | [], qs, cells, vs, cc, hp, hc, h => by
    have : qs = [] := List.eq_nil_of_length_eq_zero (by have := hp.1; simp at this; omega)
    subst this
    simp [fillV] at h
    subst h
    exact ⟨cc, by simp [Instr.fill], hc⟩
  | (i, v) :: r, [], cells, vs, cc, hp, hc, h => by have := hp.1; simp at this
  | (i, v) :: r, (i', c) :: qs, cells, vs, cc, hp, hc, h => by
    obtain ⟨h1, h2⟩ := hp.2 0 _ _ rfl rfl
    simp only at h1 h2
    subst h1
    simp only [fillV] at h
    split at h
    · cases h
    · rename_i off size hpl
      split at h
      · rename_i hsz
        have hvc := h2.cells
        have hl := hvc.1
        have hf := fill_fold off v.cells c.cells.toList 0 cells cc (by simpa using hvc) hc
        have hp' : PRel β r qs := ⟨by have := hp.1; simp at this; exact this, fun j p q hj hq => hp.2 (j + 1) p q (by simpa using hj) (by simpa using hq)⟩
        obtain ⟨cs, h3, h4⟩ := fillV_rel place r qs _ vs _ hp' hf h
        refine ⟨cs, ?_, h4⟩
        simp only [Instr.fill, hpl]
        have hcl := hc.1
        have hn1 : ¬ (c.cells.size ≠ size ∨ off + c.cells.size > cc.size) := by omega
        have hn2 : ((c.cells.size ≠ size) || decide (off + c.cells.size > cc.size)) = false := by
          rw [Bool.or_eq_false_iff]
          exact ⟨by simp; omega, by simp; omega⟩
        have hcond : (decide (c.cells.size ≠ size) || decide (off + c.cells.size > cc.size)) = false := by simpa using hn2
        simp only [hcond, zipIdx_foldl_array]
        exact h3
      · cases h

def partsV (ρ : Operand → Option V) : List (Nat × Operand) → Option (List (Nat × V))
  | [] => some []
  | (i, x) :: r => match ρ x with
    | some v => match partsV ρ r with
      | some vs => some ((i, v) :: vs)
      | none => none
    | none => none

theorem partsV_rel {β : Inj} {ρ : Operand → Option V} {e : Operand → Value} (hρ : RelO β ρ e) : ∀ (ps : List (Nat × Operand)) (vs : List (Nat × V)), partsV ρ ps = some vs → PRel β vs (ps.map fun (i, x) => (i, e x))
  | [], vs, h => by simp [partsV] at h; subst h; exact ⟨rfl, fun i p q hp _ => by simp at hp⟩
  | (i, x) :: r, vs, h => by
    simp only [partsV] at h
    split at h
    · rename_i v hv
      split at h
      · rename_i vs' hvs'
        cases h
        have ih := partsV_rel hρ r vs' hvs'
        refine ⟨by simpa using ih.1, fun j p q hp hq => ?_⟩
        cases j with
        | zero => simp at hp hq; subst hp; subst hq; exact ⟨rfl, hρ x v hv⟩
        | succ j => exact ih.2 j p q (by simpa using hp) (by simpa using hq)
      · cases h
    · cases h

def listV (ρ : Operand → Option V) : List Operand → Option (List V)
  | [] => some []
  | x :: r => match ρ x with
    | some v => match listV ρ r with
      | some vs => some (v :: vs)
      | none => none
    | none => none

theorem listV_rel {β : Inj} {ρ : Operand → Option V} {e : Operand → Value} (hρ : RelO β ρ e) : ∀ (xs : List Operand) (vs : List V), listV ρ xs = some vs → LRel β vs (xs.map e).toArray
  | [], vs, h => by simp [listV] at h; subst h; exact LRel.nil β
  | x :: r, vs, h => by
    simp only [listV] at h
    split at h
    · rename_i v hv
      split at h
      · rename_i vs' hvs'
        cases h
        exact LRel.cons (hρ x v hv) (listV_rel hρ r vs' hvs')
      · cases h
    · cases h

/-- Where the fields of a struct begin, and their sizes. -/
def placesOf (P : Program) (fs : Array Field) : Option (Array (Nat × Nat)) := pureRun P (fs.mapM fun f => do pure (f.offset, ← sizeOf f.type))

def evBuild (P : Program) (t : TypeId) (ps : List (Nat × V)) : Option V := match zeroV P t with
  | some z => match P.underlying t with
    | some (.struct fs) => match placesOf P fs with
      | some pl => match fillV (pl[·]?) z.cells ps with
        | some vs => some (.agg vs)
        | none => none
      | none => none
    | some (.array _ e) => match tsize P e with
      | some n => match fillV (fun i => some (i * n, n)) z.cells ps with
        | some vs => some (.agg vs)
        | none => none
      | none => none
    | _ => none
  | none => none

theorem evBuild_run {P : Program} {β : Inj} {t : TypeId} {ps : List (Nat × V)} {qs : List (Nat × Value)} {v : V} (h : evBuild P t ps = some v) (hp : PRel β ps qs) (w : World) :
    ∃ c, (Instr.build t qs.toArray).run P w = .ok c w ∧ VRel β v c := by
  unfold evBuild at h
  split at h
  · rename_i z hz
    obtain ⟨zc, hzr, hzrel⟩ := zeroV_run hz β
    split at h
    · rename_i fs hu
      split at h
      · rename_i pl hpl
        split at h
        · rename_i vs hvs
          cases h
          obtain ⟨cs, h1, h2⟩ := fillV_rel _ ps qs _ vs _ hp hzrel.cells hvs
          refine ⟨.agg cs, ?_, h2.agg⟩
          have hm := pureRun_run _ _ hpl w
          simp only [Instr.build, Sem.run_bind, hzr, Result.andThen_ok, run_underlying hu, hm, h1, Sem.run_pure]
        · cases h
      · cases h
    · rename_i n e hu
      split at h
      · rename_i sz hsz
        split at h
        · rename_i vs hvs
          cases h
          obtain ⟨cs, h1, h2⟩ := fillV_rel _ ps qs _ vs _ hp hzrel.cells hvs
          refine ⟨.agg cs, ?_, h2.agg⟩
          simp only [Instr.build, Sem.run_bind, hzr, Result.andThen_ok, run_underlying hu, tsize_run hsz, h1, Sem.run_pure]
        · cases h
      · cases h
    · cases h
  · cases h

def evBuildSlice (P : Program) (H : Heap) (t : TypeId) (len : Nat) (ps : List (Nat × V)) : Option (V × Heap) := match telem P t with
  | some e => match tsize P e with
    | some n => match zeroV P e with
      | some z => if 0 < n ∧ z.cells.length = n ∧ len * n ≤ 16777216 then (match fillV (fun i => some (i * n, n)) (zrow z.cells (len * n)) ps with
        | some vs => some (.sl (some (H.length, 0, n)) len, H ++ [⟨vs, 2⟩])
        | none => none) else none
      | none => none
    | none => none
  | none => none

theorem putAt_length (off : Nat) : ∀ (vs cells : List V), ∀ k, (fillV.putAt (off + k) vs cells).length = cells.length
  | [], cells, k => rfl
  | v :: r, cells, k => by
    rw [fillV.putAt, Nat.add_assoc, putAt_length off r _ (k + 1)]
    simp

theorem fillV_length (place : Nat → Option (Nat × Nat)) : ∀ (ps : List (Nat × V)) (cells vs : List V), fillV place cells ps = some vs → vs.length = cells.length
  | [], cells, vs, h => by simp [fillV] at h; subst h; rfl
  | (i, v) :: r, cells, vs, h => by
    simp only [fillV] at h
    split at h
    · cases h
    · rename_i off size _
      split at h
      · rw [fillV_length place r _ vs h]
        exact putAt_length off v.cells cells 0
      · cases h

theorem evBuildSlice_run {P : Program} {β : Inj} {H H' : Heap} {w : World} (s : Sim β H w) {t : TypeId} {len : Nat} {ps : List (Nat × V)} {qs : List (Nat × Value)} {v : V}
    (h : evBuildSlice P H t len ps = some (v, H')) (hp : PRel β ps qs) :
    ∃ β' c w', (Instr.buildSlice t len qs.toArray).run P w = .ok c w' ∧ Ext β H w β' H' w' ∧ VRel β' v c := by
  unfold evBuildSlice at h
  split at h
  · rename_i e ht
    split at h
    · rename_i n hn
      split at h
      · rename_i z hz
        obtain ⟨zc, hzr, hzrel⟩ := zeroV_run hz β
        split at h
        · rename_i hc
          obtain ⟨hpos, hzl, hlim⟩ := hc
          split at h
          · rename_i vs hvs
            cases h
            have hrow := zrow_rel hzrel.cells (len * n) (by omega)
            obtain ⟨cs, h1, h2⟩ := fillV_rel _ ps qs _ vs _ hp hrow hvs
            have hvl : vs.length = len * n := by rw [fillV_length _ ps _ vs hvs]; simp [zrow]
            have hcs : cs.size = len * n := by rw [← h2.1]; exact hvl
            refine ⟨_, _, _, ?_, Ext.row s h2 e, VRel.sl (x := 0) (upd_same _ _ _) (Nat.le_refl _) (fun _ => rfl) (by omega)⟩
            have hlim' : ¬ (2 ^ 24 < len * n) := by simp; omega
            simp only [Instr.buildSlice, Sem.run_bind, run_underlying (telem_spec ht), Result.andThen_ok, tsize_run hn, gt_iff_lt, hlim', if_false]
            by_cases h0 : len * n = 0
            · have hr0 : ∀ f : Nat → Value, (Array.range (len * n)).map f = #[] := fun f => Array.eq_empty_of_size_eq_zero (by simp [h0])
              rw [hr0] at h1
              rw [if_pos h0]
              simp only [Sem.run_bind, Sem.run_pure, Result.andThen_ok, hr0, h1, newRow, run_newObj, World.alloc_eq]
            · rw [if_neg h0]
              simp only [Sem.run_bind, hzr, Sem.run_pure, Result.andThen_ok, h1, newRow, run_newObj, World.alloc_eq]
          · cases h
        · cases h
      · cases h
    · cases h
  · cases h

end Go.Proofs.Ev

namespace Go.Proofs.Ev
open Go Go.RowKit

theorem add_at (B x y : Nat) : (⟨B, x, none⟩ : Addr).add y = ⟨B, x + y, none⟩ := by unfold Addr.add; split <;> simp_all

/-! ### A new row of zeros -/

def evMake (P : Program) (H : Heap) (t : TypeId) (l c : V) : Option (V × Heap) := match l, c with
  | .int _ l, .int _ c => match telem P t with
    | some e => match P.info? e with
      | some i => match zeroV P e with
        | some z => if 0 < i.size ∧ z.cells.length = i.size ∧ IntKind.i64.wrap l = l ∧ IntKind.i64.wrap c = c ∧ 0 ≤ l ∧ l ≤ c ∧ (i.bytes : Int) * c ≤ 2 ^ 47 then
            some (.sl (some (H.length, 0, i.size)) l.toNat, H ++ [⟨zrow z.cells (c.toNat * i.size), 2⟩])
          else none
        | none => none
      | none => none
    | none => none
  | _, _ => none

theorem evMake_run {P : Program} {β : Inj} {H H' : Heap} {w : World} (s : Sim β H w) {t : TypeId} {lv cv v : V} {lc cc : Value} (h : evMake P H t lv cv = some (v, H'))
    (hl : VRel β lv lc) (hc : VRel β cv cc) : ∃ β' c' w', (Instr.makeSlice t lc cc).run P w = .ok c' w' ∧ Ext β H w β' H' w' ∧ VRel β' v c' := by
  unfold evMake at h
  split at h
  · rename_i kl l kc c
    obtain rfl := hl.int_inv
    obtain rfl := hc.int_inv
    split at h
    · rename_i e ht
      split at h
      · rename_i i hi
        split at h
        · rename_i z hz
          obtain ⟨zc, hzr, hzrel⟩ := zeroV_run hz β
          split at h
          · rename_i hcond
            obtain ⟨hpos, hzl, hwl, hwc, h0, hlc, hb⟩ := hcond
            cases h
            have hrow := zrow_rel hzrel.cells (c.toNat * i.size) (by omega)
            have hszc : ((Array.range (c.toNat * i.size)).map fun j => zc.cells[j % zc.cells.size]!).size = c.toNat * i.size := by simp
            refine ⟨_, .slice (some ⟨w.heap.size, 0, none⟩) l.toNat c.toNat, _, ?_, Ext.row s hrow e, VRel.sl (x := 0) (upd_same _ _ _) (by omega) (fun _ => rfl) (by rw [hszc]; omega)⟩
            have ht1 : (decide (c < 0) || decide ((i.bytes : Int) * c > 2 ^ 48)) = false := by
              rw [Bool.or_eq_false_iff]
              refine ⟨decide_eq_false (by omega), decide_eq_false ?_⟩
              have : (2 : Int) ^ 47 ≤ 2 ^ 48 := by decide
              omega
            have ht2 : (((decide (c < 0) || decide ((i.bytes : Int) * c > 2 ^ 48)) || decide (l < 0)) || decide (l > c)) = false := by
              rw [ht1]
              simp
              omega
            simp only [Instr.makeSlice, Sem.run_bind, run_underlying (telem_spec ht), Result.andThen_ok, asInt, asIntOf, Sem.run_pure, typeInfo, run_program, hi, hwl, hwc, ht2, Bool.false_eq_true, if_false, run_askRoom, sizeOf]
            by_cases hn : c.toNat * i.size = 0
            · have hr0 : ∀ f : Nat → Value, (Array.range (c.toNat * i.size)).map f = #[] := fun f => Array.eq_empty_of_size_eq_zero (by simp [hn])
              rw [if_pos hn]
              simp only [Sem.run_bind, Sem.run_pure, Result.andThen_ok, hr0, newRow, run_newObj, World.alloc_eq]
            · rw [if_neg hn]
              simp only [Sem.run_bind, hzr, Sem.run_pure, Result.andThen_ok, newRow, run_newObj, World.alloc_eq]
          · cases h
        · cases h
      · cases h
    · cases h
  · cases h

/-- append(nil, make(.., n)...). -/
def evGrow (P : Program) (H : Heap) (t tx : TypeId) (s x : V) : Option (V × Heap) := match s, x with
  | .sl none m, .int _ l => match telem P t, P.underlying tx with
    | some e, some (.int _) => match P.info? e with
      | some i => match zeroV P e with
        | some z => if m = 0 ∧ 0 < i.size ∧ z.cells.length = i.size ∧ IntKind.i64.wrap l = l ∧ 0 ≤ l ∧ l * i.bytes ≤ 2 ^ 47 ∧ l ≤ 2 ^ 60 then
            (if l = 0 then some (.sl none 0, H) else some (.sl (some (H.length, 0, i.size)) l.toNat, H ++ [⟨zrow z.cells (l.toNat * i.size), 2⟩]))
          else none
        | none => none
      | none => none
    | _, _ => none
  | _, _ => none

theorem evGrow_run {P : Program} {β : Inj} {H H' : Heap} {w : World} (s : Sim β H w) {t tx ty : TypeId} {sv xv v : V} {sc xc : Value} (h : evGrow P H t tx sv xv = some (v, H'))
    (hs : VRel β sv sc) (hx : VRel β xv xc) : ∃ β' c' w', (Builtin.append_ #[t, tx] ty #[sc, xc]).run P w = .ok c' w' ∧ Ext β H w β' H' w' ∧ VRel β' v c' := by
  unfold evGrow at h
  split at h
  · rename_i m k l
    obtain rfl := hx.int_inv
    split at h
    · rename_i e k' ht hu
      split at h
      · rename_i i hi
        split at h
        · rename_i z hz
          obtain ⟨i', zc, hi', hzc, habs⟩ := zeroV_spec hz
          rw [hi] at hi'
          cases hi'
          have hzrel : VRel β z zc := absN_rel 9 zc z habs
          split at h
          · rename_i hcond
            obtain ⟨rfl, hpos, hzl, hwl, h0, hb, hl60⟩ := hcond
            cases hs
            have hlb : ¬ (l * (i.bytes : Int) > 2 ^ 48) := by
              have : (2 : Int) ^ 47 ≤ 2 ^ 48 := by decide
              omega
            have hl0 : ¬ l < 0 := by omega
            split at h
            · rename_i hlz
              cases h
              subst hlz
              refine ⟨β, .slice none 0 0, w, ?_, Ext.refl s, .nils⟩
              have hw0 : IntKind.i64.wrap 0 = 0 := by decide
              simp [Builtin.append_, run_underlying (telem_spec ht), run_underlying hu, sizeOf, typeInfo, hi, asInt, asIntOf, hw0]
            · rename_i hlz
              cases h
              obtain ⟨n, rfl⟩ := Int.eq_ofNat_of_zero_le h0
              have hn0 : ¬ n = 0 := by omega
              have hrow := zrow_rel hzrel.cells (n * i.size) (by omega)
              have hzs : zc.cells.size = i.size := by rw [← hzrel.cells.1]; exact hzl
              have hge := grownCap_ge w n 0 e
              have hnb : n * i.bytes ≤ 140737488355328 := by
                have h47 : (2 : Int) ^ 47 = 140737488355328 := rfl
                rw [h47] at hb
                have h3 : ((n * i.bytes : Nat) : Int) = (n : Int) * (i.bytes : Int) := Int.natCast_mul n i.bytes
                have hb' : ((n * i.bytes : Nat) : Int) ≤ 140737488355328 := by rw [h3]; exact hb
                generalize n * i.bytes = q at hb'
                omega
              have hfit : Builtin.nextslicecap n 0 * i.bytes ≤ 281474976710656 := growslice_fits (by omega) hnb
              have hz1 : Builtin.zeroCells zc.cells n = (Array.range (n * i.size)).map fun j => zc.cells[j % zc.cells.size]! := by
                simp [Builtin.zeroCells, hzs]
              refine ⟨_, .slice (some ⟨w.heap.size, 0, none⟩) n (grownCap w n 0 e), _, ?_,
                (Ext.drew s).trans (Ext.alloc s.drew (zrow z.cells (n * i.size)) (Builtin.zeroCells zc.cells n ++ Builtin.zeroCells zc.cells (grownCap w n 0 e - n)) e (0, 0) 2 (.inr rfl) (fun j v hv => ?_) (by simp [zrow, size_zeroCells, hzs])), ?_⟩
              · have h63' : ¬ (9223372036854775807 < (n : Int)) := by omega
                have h48' : ¬ (281474976710656 < Builtin.nextslicecap n 0 * i.bytes) := by omega
                have hlb' : ¬ (281474976710656 < (n : Int) * (i.bytes : Int)) := by simpa using hlb
                have hn1 : ¬ (n * i.size = 0) := by
                  intro h
                  rcases Nat.mul_eq_zero.1 h with h | h <;> omega
                simp [Builtin.append_, run_underlying (telem_spec ht), run_underlying hu, sizeOf, typeInfo, zeroValue, hi, hzc, asInt, asIntOf, hwl, hlb', hn0, hn1, h63', h48', Question.forced, run_firstCells_none, newRow, grownCap]
                intro hlt
                omega
              · rw [hz1]
                obtain ⟨c, hc, hr⟩ := hrow.get hv
                exact ⟨c, getElem?_append_fst hc, hr⟩
              · refine VRel.sl (x := 0) (upd_same _ _ _) hge (fun _ => rfl) ?_
                simp only [Array.size_append, size_zeroCells, hzs, ← Nat.add_mul, Nat.zero_add]
                exact Nat.mul_le_mul_right _ (by omega)
          · cases h
        · cases h
      · cases h
    · cases h
  · cases h

/-! ### copy, clear -/

def evCopy (P : Program) (H : Heap) (t : TypeId) (d x : V) : Option (V × Heap) := match telem P t with
  | some e => match tsize P e with
    | some z => match d with
      | .sl dp m => match x with
        | .sl xp n => if min n m = 0 then some (.int .i64 0, H) else (match dp, xp with
          | some (b, o, z1), some (c, y, z2) => if z1 = z ∧ z2 = z then (match ldCells H c y (min n m * z) with
            | some vs => match stCells H b o vs with
              | some H' => some (.int .i64 (min n m : Nat), H')
              | none => none
            | none => none) else none
          | _, _ => none)
        | _ => none
      | _ => none
    | none => none
  | none => none

theorem firstCells_zero (P : Program) (w : World) (z : Nat) (a : Option Addr) (n c : Nat) : (Builtin.firstCells z 0 (.slice a n c)).run P w = .ok #[] w := by
  cases a with
  | none => simp [Builtin.firstCells]
  | some a => simp [Builtin.firstCells, loadCells, loadCellsFrom]

theorem evCopy_run {P : Program} {β : Inj} {H H' : Heap} {w : World} (s : Sim β H w) {t tx ty : TypeId} {dv xv v : V} {dc xc : Value} (h : evCopy P H t dv xv = some (v, H'))
    (hd : VRel β dv dc) (hx : VRel β xv xc) : ∃ c' w', (Builtin.copy_ #[t, tx] ty #[dc, xc]).run P w = .ok c' w' ∧ Ext β H w β H' w' ∧ VRel β v c' := by
  unfold evCopy at h
  split at h
  · rename_i e ht
    split at h
    · rename_i z hz
      split at h
      · rename_i dp m
        split at h
        · rename_i xp n
          have hds : ∃ a c, dc = .slice a m c := by cases hd <;> exact ⟨_, _, rfl⟩
          have hxs : ∃ a c, xc = .slice a n c := by cases hx <;> exact ⟨_, _, rfl⟩
          split at h
          · rename_i h0
            cases h
            obtain ⟨a, c, rfl⟩ := hds
            obtain ⟨a', c', rfl⟩ := hxs
            refine ⟨.int .i64 0, w, ?_, Ext.refl s, .int _ _⟩
            have h0' : Nat.min n m = 0 := h0
            cases a <;> simp [Builtin.copy_, run_underlying (telem_spec ht), Builtin.lenOf, h0', tsize_run hz, firstCells_zero, storeCells, goInt]
          · rename_i h0
            split at h
            · rename_i b o z1 c y z2
              split at h
              · rename_i hzz
                obtain ⟨rfl, rfl⟩ := hzz
                split at h
                · rename_i vs hvs
                  split at h
                  · rename_i H2 hH2
                    cases h
                    obtain ⟨B, O, Z, x, cap, rfl, hb, hn', hx', hc⟩ := hd.sl_inv
                    obtain ⟨B2, O2, Z2, x2, cap2, rfl, hb2, hn2', hx2', hc2⟩ := hx.sl_inv
                    have hm0 : m ≠ 0 := by omega
                    have hn0 : n ≠ 0 := by omega
                    obtain rfl := hx' hm0
                    obtain rfl := hx2' hn0
                    obtain ⟨q1, q2, cs, q3, q4, q5⟩ := ldCells_spec s hvs hb2
                    obtain ⟨w', hw', hE⟩ := stCells_run (P := P) s hH2 hb q3
                    refine ⟨.int .i64 (min n m : Nat), w', ?_, hE, .int _ _⟩
                    have hf := run_firstCells_some (P := P) w z2 (min n m) ⟨B2, O2 + y, none⟩ n cap2 cs q4 q5
                    have hmin : Nat.min n m = min n m := rfl
                    simp [Builtin.copy_, run_underlying (telem_spec ht), Builtin.lenOf, hmin, tsize_run hz, hf, hw', goInt]
                  · cases h
                · cases h
              · cases h
            · cases h
        · cases h
      · cases h
    · cases h
  · cases h

def evClear (P : Program) (H : Heap) (t : TypeId) (x : V) : Option (V × Heap) := match telem P t with
  | some e => match tsize P e with
    | some z => match zeroV P e with
      | some zv => match x with
        | .sl none n => if n = 0 then some (undefV, H) else none
        | .sl (some (b, o, z1)) n => if n = 0 then some (undefV, H) else if z1 = z ∧ 0 < z ∧ zv.cells.length = z then (match stCells H b o (zrow zv.cells (n * z)) with
          | some H' => some (undefV, H')
          | none => none) else none
        | _ => none
      | none => none
    | none => none
  | none => none

theorem evClear_run {P : Program} {β : Inj} {H H' : Heap} {w : World} (s : Sim β H w) {t ty : TypeId} {xv v : V} {xc : Value} (h : evClear P H t xv = some (v, H'))
    (hx : VRel β xv xc) : ∃ c' w', (Builtin.clear_ #[t] ty #[xc]).run P w = .ok c' w' ∧ Ext β H w β H' w' ∧ VRel β v c' := by
  unfold evClear at h
  split at h
  · rename_i e ht
    split at h
    · rename_i z hz
      split at h
      · rename_i zv hzv
        obtain ⟨zc, hzr, hzrel⟩ := zeroV_run hzv β
        split at h
        · rename_i n
          split at h
          · cases h
            cases hx
            exact ⟨.tuple #[], w, by simp [Builtin.clear_, run_underlying (telem_spec ht)], Ext.refl s, undefV_rel β⟩
          · cases h
        · rename_i b o z1 n
          obtain ⟨B, O, Z, x, cap, rfl, hb, hn', hx', hc⟩ := hx.sl_inv
          split at h
          · rename_i h0
            cases h
            subst h0
            exact ⟨.tuple #[], w, by simp [Builtin.clear_, run_underlying (telem_spec ht)], Ext.refl s, undefV_rel β⟩
          · rename_i h0
            split at h
            · rename_i hzz
              obtain ⟨rfl, hpos, hzl⟩ := hzz
              split at h
              · rename_i H2 hH2
                cases h
                obtain rfl := hx' h0
                have hzs : zc.cells.size = z1 := by rw [← hzrel.cells.1]; exact hzl
                have hrow := zrow_rel hzrel.cells (n * z1) (by omega)
                have hz1 : Builtin.zeroCells zc.cells n = (Array.range (n * z1)).map fun j => zc.cells[j % zc.cells.size]! := by
                  simp [Builtin.zeroCells, hzs]
                rw [← hz1] at hrow
                obtain ⟨w', hw', hE⟩ := stCells_run (P := P) (cs := (Builtin.zeroCells zc.cells n).toList) s hH2 hb (by simpa using hrow)
                obtain ⟨n', rfl⟩ : ∃ n', n = n' + 1 := ⟨n - 1, by omega⟩
                exact ⟨.tuple #[], w', by simp [Builtin.clear_, run_underlying (telem_spec ht), hzr, hw'], hE, undefV_rel β⟩
              · cases h
            · cases h
        · cases h
      · cases h
    · cases h
  · cases h

/-! ### strings and bytes -/

def toBytes : List V → Option (List UInt8)
  | [] => some []
  | .int .u8 n :: r => match toBytes r with
    | some s => some (UInt8.ofNat n.toNat :: s)
    | none => none
  | _ => none

theorem toBytes_spec {β : Inj} : ∀ (vs : List V) (cs : List Value) (s : List UInt8), toBytes vs = some s → LRel β vs cs.toArray → ∃ ns : List Int, cs = ns.map (Value.int .u8) ∧ s = ns.map fun n => UInt8.ofNat n.toNat
  | [], cs, s, h, hr => by
    simp [toBytes] at h
    subst h
    exact ⟨[], List.eq_nil_of_length_eq_zero (by have := hr.1; simpa using this.symm), rfl⟩
  | v :: r, [], s, h, hr => by have := hr.1; simp at this
  | v :: r, c :: cs, s, h, hr => by
    have h0 : VRel β v c := hr.2 0 v c rfl rfl
    have h1 : LRel β r cs.toArray := ⟨by have := hr.1; simp at this ⊢; exact this, fun i v c hv hc => hr.2 (i + 1) v c (by simpa using hv) (by simpa using hc)⟩
    cases v with
    | int k n =>
      cases k <;> simp only [toBytes] at h <;> first | (cases h; done) | skip
      split at h
      · rename_i s' hs'
        cases h
        obtain rfl := h0.int_inv
        obtain ⟨ns, rfl, rfl⟩ := toBytes_spec r cs s' hs' h1
        exact ⟨n :: ns, rfl, rfl⟩
      · cases h
    | _ => simp [toBytes] at h

theorem push_all (ns : List Int) : ∀ (l : List UInt8), ns.foldl (fun r n => r.push (UInt8.ofNat n.toNat)) (⟨l.toArray⟩ : ByteArray) = ⟨(l ++ ns.map fun n => UInt8.ofNat n.toNat).toArray⟩ := by
  induction ns with
  | nil => intro l; simp
  | cons n r ih =>
    intro l
    have hp : (⟨l.toArray⟩ : ByteArray).push (UInt8.ofNat n.toNat) = ⟨(l ++ [UInt8.ofNat n.toNat]).toArray⟩ := by
      show (⟨l.toArray.push _⟩ : ByteArray) = _
      simp
    rw [List.foldl_cons, hp, ih]
    simp

def evString (P : Program) (H : Heap) (src dst : TypeId) (x : V) : Option V := match telem P src, P.underlying dst with
  | some e, some .string => match P.underlying e, x with
    | some (.int .u8), .sl (some (b, o, z)) n => if n = 0 then some (.str []) else (match ldCells H b o n with
      | some vs => match toBytes vs with
        | some s => some (.str s)
        | none => none
      | none => none)
    | _, _ => none
  | _, _ => none

theorem evString_run {P : Program} {β : Inj} {H : Heap} {w : World} (s : Sim β H w) {src dst : TypeId} {xv v : V} {xc : Value} (h : evString P H src dst xv = some v) (hx : VRel β xv xc) :
    ∃ c', (convert src dst xc).run P w = .ok c' w ∧ VRel β v c' := by
  unfold evString at h
  split at h
  · rename_i e hs hd
    split at h
    · rename_i b o z n hu
      obtain ⟨B, O, Z, x, cap, rfl, hb, hn', hx', hc⟩ := hx.sl_inv
      have hconv := run_convert_bytes_string (P := P) w src dst e (some ⟨B, x, none⟩) n cap (telem_spec hs) hu hd
      split at h
      · rename_i h0
        cases h
        subst h0
        have := run_bytesToString (P := P) w ⟨B, x, none⟩ 0 cap [] (by simp [loadCells, loadCellsFrom])
        exact ⟨_, by rw [hconv, this], by rw [List.foldl_nil]; exact .str []⟩
      · rename_i h0
        obtain rfl := hx' h0
        split at h
        · rename_i vs hvs
          split at h
          · rename_i str hstr
            cases h
            obtain ⟨q1, q2, cs, q3, q4, q5⟩ := ldCells_spec s hvs hb
            obtain ⟨ns, rfl, rfl⟩ := toBytes_spec vs cs str hstr q3
            have hl := run_loadCells_list (P := P) w ⟨B, O + o, none⟩ _ q5
            rw [q4] at hl
            have hbs := run_bytesToString (P := P) w ⟨B, O + o, none⟩ n cap ns hl
            have hp := push_all ns []
            refine ⟨.string ⟨(ns.map fun n => UInt8.ofNat n.toNat).toArray⟩, ?_, .str _⟩
            rw [hconv, hbs]
            have he : (ByteArray.empty : ByteArray) = ⟨([] : List UInt8).toArray⟩ := rfl
            rw [he, hp]
            rfl
          · cases h
        · cases h
    · cases h
  · cases h

/-! ### Bytes of one's own that a string may share -/

theorem frozen_new {w : World} {B : Nat} {cs : Array Value} {e : TypeId} {fz : Nat × Nat} (hB : w.heap[B]? = some (.cells cs e fz)) (Z st : Nat) (h : (Z ≤ fz.1 ∧ st = 3) ∨ fz.1 = fz.2) :
    ∃ fz', (w.freeze ⟨B, Z, none⟩ 1).heap[B]? = some (.cells cs e fz') ∧ ((Z ≤ fz'.1 ∧ (3 : Nat) = 3) ∨ fz'.1 = fz'.2) := by
  obtain ⟨lo, hi⟩ := fz
  refine ⟨if lo == hi then (Z, Z + 1) else (min lo Z, max hi (Z + 1)), ?_, ?_⟩
  · unfold World.freeze
    rw [if_neg (by decide)]
    simp only [Array.getElem?_modify, if_pos rfl, hB]
    rfl
  · simp only at h
    by_cases hlh : lo = hi
    · left
      simp [hlh]
    · left
      have hl : Z ≤ lo := by rcases h with h | h; exact h.1; exact absurd h hlh
      simp only [beq_iff_eq, hlh, if_false]
      refine ⟨?_, trivial⟩
      omega

theorem freeze_heap (w : World) {B B' : Nat} (Z n : Nat) (h : B' ≠ B) : (w.freeze ⟨B, Z, none⟩ n).heap[B']? = w.heap[B']? := by
  unfold World.freeze
  split
  · rfl
  · simp only [Array.getElem?_modify]
    rw [if_neg (fun e => h e.symm)]

theorem Ext.chill {β : Inj} {H : Heap} {w : World} (s : Sim β H w) {b B O Z : Nat} {k : Blk} (hk : H[b]? = some k) (hst : 2 ≤ k.st) (hb : β b = some (B, O, Z)) :
    Ext β H w β (H.set b ⟨k.cells, 3⟩) (w.freeze ⟨B, Z, none⟩ 1) := by
  obtain ⟨cs, e, fz, h1, h2⟩ := s.warm b k B O Z hk hst hb
  obtain ⟨fz', h3, h4⟩ := frozen_new h1 Z _ h2
  have hblt : b < H.length := s.dom b _ hb
  have hget : ∀ (c : Nat) (kc : Blk), (H.set b ⟨k.cells, 3⟩)[c]? = some kc → (c = b ∧ kc = ⟨k.cells, 3⟩) ∨ (c ≠ b ∧ H[c]? = some kc) := by
    intro c kc h
    rw [List.getElem?_set] at h
    by_cases hcb : b = c
    · subst hcb
      rw [if_pos rfl, if_pos hblt] at h
      cases h
      exact .inl ⟨rfl, rfl⟩
    · rw [if_neg hcb] at h
      exact .inr ⟨fun e => hcb e.symm, h⟩
  have back : ∀ (c : Nat) (kc : Blk), (H.set b ⟨k.cells, 3⟩)[c]? = some kc → ∃ kd : Blk, H[c]? = some kd ∧ kd.cells = kc.cells ∧ (kc.st ≠ 0 → kd.st ≠ 0) ∧ (2 ≤ kc.st → 2 ≤ kd.st) := by
    intro c kc h
    rcases hget c kc h with ⟨rfl, rfl⟩ | ⟨_, h⟩
    · exact ⟨k, hk, rfl, fun _ => by omega, fun _ => hst⟩
    · exact ⟨kc, h, rfl, id, id⟩
  have hsz : cs.size = Z := by
    obtain ⟨cs', e', fz2, h5, h6⟩ := s.cells hk (by omega) hb
    rw [h1] at h5
    cases h5
    exact h6
  have hcell : ∀ B' i, (w.freeze ⟨B, Z, none⟩ 1).cell? ⟨B', i, none⟩ = w.cell? ⟨B', i, none⟩ := by
    intro B' i
    by_cases hB : B' = B
    · subst hB
      simp only [World.cell?, h3, h1]
    · exact World.cell?_of_block (a := ⟨B', i, none⟩) (freeze_heap w Z 1 hB)
  have sim : Sim β (H.set b ⟨k.cells, 3⟩) (w.freeze ⟨B, Z, none⟩ 1) := by
    refine ⟨fun c x hx => by rw [List.length_set]; exact s.dom c x hx, ?_, ?_, ?_, ?_, ?_⟩
    · intro c B' O' Z' hc
      by_cases hB : B' = B
      · subst hB
        rcases s.blk c B' O' Z' hc with ⟨cs', e', fz2, h5, h6⟩ | hmm
        · rw [h1] at h5
          cases h5
          exact .inl ⟨_, _, _, h3, h6⟩
        · exact .inr hmm
      · rw [freeze_heap w Z 1 hB]
        exact s.blk c B' O' Z' hc
    · intro c B' hc'
      have hm := s.mp c B' hc'
      obtain ⟨⟨_, _, _, hmap, _, _, hn, _⟩, _⟩ := id hm
      refine hm.keep (freeze_heap w Z 1 fun e => ?_) ?_ (fun _ _ h => h) hn (fun _ _ _ h => h)
      · subst e
        rw [h1] at hmap
        cases hmap
      · rw [List.getElem?_set]
        rw [if_neg (fun e => by rw [e] at hb; rw [hb] at hn; cases hn)]
    · intro c kc B' O' Z' hkc hkst hc
      obtain ⟨kd, g1, g2, g3, _⟩ := back c kc hkc
      obtain ⟨h5, h6⟩ := s.cont c kd B' O' Z' g1 (g3 hkst) hc
      rw [g2] at h5 h6
      refine ⟨h5, fun i v hv => ?_⟩
      rw [hcell]
      exact h6 i v hv
    · intro c kc B' O' Z' hkc hkst hc
      rcases hget c kc hkc with ⟨rfl, rfl⟩ | ⟨hne, hkc'⟩
      · rw [hb] at hc
        cases hc
        exact ⟨_, _, _, h3, h4⟩
      · by_cases hB : B' = B
        · subst hB
          exact absurd rfl (s.sep c kc B' O' Z' b k B' O Z hkc' hkst hk (by omega) hne hc hb)
        · exact (s.warm c kc B' O' Z' hkc' hkst hc).of_block (freeze_heap w Z 1 hB)
    · intro c kc B1 O1 Z1 d kd B2 O2 Z2 hkc hcs hkd hds hne hc hd
      obtain ⟨kc', g1, _, _, g4⟩ := back c kc hkc
      obtain ⟨kd', g5, _, g7, _⟩ := back d kd hkd
      exact s.sep c kc' B1 O1 Z1 d kd' B2 O2 Z2 g1 (g4 hcs) g5 (g7 hds) hne hc hd
  have hos : (w.freeze ⟨B, Z, none⟩ 1).os = w.os ∧ (w.freeze ⟨B, Z, none⟩ 1).tape = w.tape ∧ (w.freeze ⟨B, Z, none⟩ 1).output = w.output ∧ w.heap.size ≤ (w.freeze ⟨B, Z, none⟩ 1).heap.size := by
    unfold World.freeze
    rw [if_neg (by decide)]
    exact ⟨rfl, rfl, rfl, by simp⟩
  refine ⟨sim, fun _ _ => rfl, by simp, hos.1, hos.2.1, hos.2.2.1, hos.2.2.2, fun B' hB hn => freeze_heap w Z 1 (fun e => hn ⟨b, k, O, Z, hk, .inl hst, e ▸ hb⟩), ?_⟩
  rintro B' ⟨c, kc, O', Z', hkc, hcs, hc⟩
  obtain ⟨kd, g1, _, _, g4⟩ := back c kc hkc
  exact .inl ⟨c, kd, O', Z', g1, hcs.imp g4 id, hc⟩

theorem run_convert_same {P : Program} (w : World) (t e : TypeId) {B : Nat} (O n cap : Nat) {cs : Array Value} {e' : TypeId} {fz : Nat × Nat} (ht : P.underlying t = some (.slice e)) (he : P.underlying e = some (.int .u8))
    (hB : w.heap[B]? = some (.cells cs e' fz)) :
    (convert t t (.slice (some ⟨B, O, none⟩) n cap)).run P w = .ok (.slice (some ⟨B, O, none⟩) n cap) (w.freeze ⟨B, cs.size, none⟩ 1) := by
  have hs : w.shape? B = some (e', cs.size) := by
    unfold World.shape?
    rw [hB]
  unfold convert
  simp [run_underlying ht, run_underlying he, markStringish, shape, freeze, Sem.run, hs, Result.andThen]

def evBytes (P : Program) (H : Heap) (src dst : TypeId) (x : V) : Option (V × Heap) := match P.underlying src, telem P dst with
  | some .string, some e => match P.underlying e, x with
    | some (.int .u8), .str s => some (.sl (some (H.length, 0, 1)) s.length, H ++ [⟨s.map fun b => .int .u8 b.toNat, 3⟩])
    | _, _ => none
  | some (.slice _), some e => match P.underlying e, x with
    | some (.int .u8), .sl (some (b, o, z)) n => if src = dst then (match H[b]? with
      | some k => if 2 ≤ k.st then some (.sl (some (b, o, z)) n, H.set b ⟨k.cells, 3⟩) else none
      | none => none) else none
    | _, _ => none
  | _, _ => none

theorem evBytes_run {P : Program} {β : Inj} {H H' : Heap} {w : World} (s : Sim β H w) {src dst : TypeId} {xv v : V} {xc : Value} (h : evBytes P H src dst xv = some (v, H')) (hx : VRel β xv xc) :
    ∃ β' c' w', (convert src dst xc).run P w = .ok c' w' ∧ Ext β H w β' H' w' ∧ VRel β' v c' := by
  unfold evBytes at h
  split at h
  · rename_i e hs hd
    split at h
    · rename_i str hu
      cases h
      cases hx
      have hrun := run_bytes_of_string (P := P) w src dst e ⟨str.toArray⟩ hs (telem_spec hd) hu
      have hsz : (⟨str.toArray⟩ : ByteArray).size = str.length := by simp [ByteArray.size]
      have hge := grownCap_ge w (⟨str.toArray⟩ : ByteArray).size 0 e
      have hrowsz : (bytesRow ⟨str.toArray⟩ (grownCap w (⟨str.toArray⟩ : ByteArray).size 0 e)).size = grownCap w (⟨str.toArray⟩ : ByteArray).size 0 e := by
        rw [hsz] at hge ⊢
        simp [bytesRow, hsz]
        omega
      refine ⟨_, _, _, hrun, (Ext.drew s).trans (Ext.alloc s.drew (str.map fun b => .int .u8 b.toNat) _ e _ 3 (.inl ⟨Nat.le_refl _, rfl⟩) (fun j v hv => ?_) (by rw [hrowsz]; rw [hsz] at hge ⊢; simpa using hge)), ?_⟩
      · rw [List.getElem?_map] at hv
        cases hj : str[j]? with
        | none => rw [hj] at hv; cases hv
        | some b =>
          rw [hj] at hv
          cases hv
          refine ⟨.int .u8 b.toNat, ?_, .int _ _⟩
          unfold bytesRow
          refine getElem?_append_fst ?_
          simp [hj]
      · rw [hsz]
        refine VRel.sl (x := 0) (upd_same _ _ _) (by rw [← hsz]; exact hge) (fun _ => rfl) ?_
        have := hrowsz
        rw [hsz] at this
        rw [this]
        omega
    · cases h
  · rename_i e0 e hs hd
    split at h
    · rename_i b o z n hu
      split at h
      · rename_i hsd
        subst hsd
        split at h
        · rename_i k hk
          split at h
          · rename_i hst
            cases h
            obtain ⟨B, O, Z, x, cap, rfl, hb, hn', hx', hc⟩ := hx.sl_inv
            obtain ⟨cs, e', fz, h1, h2⟩ := s.cells hk (by omega) hb
            have hrun := run_convert_same (P := P) w src e x n cap (telem_spec hd) hu h1
            rw [h2] at hrun
            exact ⟨β, _, _, hrun, Ext.chill s hk hst hb, .sl hb hn' hx' hc⟩
          · cases h
        · cases h
      · cases h
    · cases h
  · cases h

end Go.Proofs.Ev

namespace Go.Proofs.Ev
open Go Go.RowKit

/-! ### Cuts and places -/

def bndV : Option V → Nat → Option Nat
  | none, d => some d
  | some (.int _ i), _ => if 0 ≤ i then some i.toNat else none
  | some _, _ => none

theorem bnd_run {P : Program} {β : Inj} {x : Option V} {y : Option Value} {d l cap : Nat} (h : bndV x d = some l) (hx : ∀ v, x = some v → ∃ c, y = some c ∧ VRel β v c) (hn : x = none → y = none) (code : BoundsCode) (hl : l ≤ cap) (w : World) :
    (match y with | some v => Instr.sliceBound v cap code | none => (pure d : Sem Nat)).run P w = .ok l w := by
  cases x with
  | none =>
    simp [bndV] at h
    subst h
    rw [hn rfl]
    rfl
  | some v =>
    obtain ⟨c, rfl, hr⟩ := hx v rfl
    cases v <;> simp [bndV] at h
    obtain ⟨h0, rfl⟩ := h
    obtain rfl := hr.int_inv
    exact run_sliceBound (P := P) w _ _ _ _ h0 (by omega)

def evCut (P : Program) (H : Heap) (t : TypeId) (x : V) (lo hi : Option V) : Option V := match x with
  | .sl a n => match telem P t with
    | some e => match tsize P e, bndV hi n, bndV lo 0 with
      | some z, some h, some l => if l ≤ h ∧ h ≤ n then (match a with
        | some (b, o, z1) => if z1 = z then some (.sl (some (b, o + l * z, z)) (h - l)) else if n = 0 then some (.sl (some (b, o, z1)) 0) else none
        | none => if n = 0 then some (.sl none 0) else none) else none
      | _, _, _ => none
    | none => none
  | .ptr (some (b, o)) => match tarr P t with
    | some (n, e) => match tsize P e, bndV hi n, bndV lo 0 with
      | some z, some h, some l => if l ≤ h ∧ h ≤ n then (match ldCells H b o (n * z) with
        | some _ => some (.sl (some (b, o + l * z, z)) (h - l))
        | none => none) else none
      | _, _, _ => none
    | none => none
  | _ => none

theorem sliceBounds_run {P : Program} {β : Inj} {lo hi : Option V} {lo' hi' : Option Value} {b : Bool} {len cap l h : Nat} (hh : bndV hi len = some h) (hl : bndV lo 0 = some l)
    (hlo : ∀ v, lo = some v → ∃ c, lo' = some c ∧ VRel β v c) (hlon : lo = none → lo' = none) (hhi : ∀ v, hi = some v → ∃ c, hi' = some c ∧ VRel β v c) (hhin : hi = none → hi' = none)
    (h1 : l ≤ h) (h2 : h ≤ cap) (w : World) : (Instr.sliceBounds b len cap lo' hi' none).run P w = .ok (l, h, cap) w := by
  have e1 := fun code => bnd_run (P := P) (d := len) hh hhi hhin code h2 w
  have e2 := fun code => bnd_run (P := P) (d := 0) hl hlo hlon code h1 w
  cases hi' with
  | none =>
    have e1' : h = len := by
      cases hi with
      | none => simpa [bndV] using hh.symm
      | some v => obtain ⟨c, hc, _⟩ := hhi v rfl; cases hc
    subst e1'
    cases lo' with
    | none =>
      have e2' := e2 .sliceB
      simp at e2'
      subst e2'
      simp [Instr.sliceBounds]
    | some v =>
      have e2' := e2 .sliceB
      simp only at e2'
      simp [Instr.sliceBounds, e2']
  | some vh =>
    have e1' := fun code => e1 code
    simp only at e1'
    cases lo' with
    | none =>
      have e2' := e2 .sliceB
      simp at e2'
      subst e2'
      simp [Instr.sliceBounds, e1']
    | some v =>
      have e2' := e2 .sliceB
      simp only at e2'
      simp [Instr.sliceBounds, e1', e2']

theorem evCut_run {P : Program} {β : Inj} {H : Heap} {w : World} (s : Sim β H w) {t : TypeId} {xv v : V} {xc : Value} {lo hi : Option V} {lo' hi' : Option Value} (h : evCut P H t xv lo hi = some v)
    (hx : VRel β xv xc) (hlo : ∀ v, lo = some v → ∃ c, lo' = some c ∧ VRel β v c) (hlon : lo = none → lo' = none) (hhi : ∀ v, hi = some v → ∃ c, hi' = some c ∧ VRel β v c) (hhin : hi = none → hi' = none) :
    ∃ c', (Instr.sliceAt t xc lo' hi' none).run P w = .ok c' w ∧ VRel β v c' := by
  unfold evCut at h
  split at h
  · rename_i a n
    split at h
    · rename_i e ht
      split at h
      · rename_i z hh l hz hhb hlb
        split at h
        · rename_i hc
          have hu := telem_spec ht
          have hdown : ∀ a' cap, xc = .slice a' n cap → hh ≤ cap → (Instr.sliceAt t xc lo' hi' none).run P w = .ok (.slice (if cap = l then a' else a'.map (·.add (l * z))) (hh - l) (cap - l)) w := by
            intro a' cap hxc hcap
            subst hxc
            have hb := sliceBounds_run (P := P) (b := true) hhb hlb hlo hlon hhi hhin hc.1 hcap w
            simp [Instr.sliceAt, run_underlying hu, Instr.slice, hb, tsize_run hz]
          split at h
          · rename_i b o z1
            split at h
            · rename_i hz1
              subst hz1
              cases h
              obtain ⟨B, O, Z, x, cap, rfl, hb, hn', hx', hcap⟩ := hx.sl_inv
              refine ⟨_, hdown _ cap rfl (by omega), ?_⟩
              by_cases hcl : cap = l
              · rw [if_pos hcl]
                exact .sl hb (by omega) (fun h => by omega) (by
                  have : cap - l = 0 := by omega
                  rw [this]
                  have := Nat.zero_le (cap * z1)
                  omega)
              · rw [if_neg hcl]
                simp only [Option.map_some, add_at]
                refine .sl hb (by omega) (fun h => ?_) ?_
                · rw [hx' (by omega)]
                  omega
                · have h1 : l * z1 + (cap - l) * z1 = cap * z1 := by rw [← Nat.add_mul]; congr 1; omega
                  omega
            · split at h
              · rename_i hn0
                cases h
                subst hn0
                obtain ⟨B, O, Z, x, cap, rfl, hb, hn', hx', hcap⟩ := hx.sl_inv
                have hl0 : l = 0 := by omega
                have hh0 : hh = 0 := by omega
                subst hl0
                subst hh0
                refine ⟨_, hdown _ cap rfl (by omega), ?_⟩
                have e0 : (if cap = 0 then some (⟨B, x, none⟩ : Addr) else (some (⟨B, x, none⟩ : Addr)).map (·.add (0 * z))) = some ⟨B, x, none⟩ := by
                  split
                  · rfl
                  · simp only [Option.map_some, add_at, Nat.zero_mul, Nat.add_zero]
                rw [e0]
                exact .sl hb hn' hx' hcap
              · cases h
          · split at h
            · rename_i hn
              cases h
              subst hn
              cases hx
              have hl0 : l = 0 := by omega
              have hh0 : hh = 0 := by omega
              subst hl0
              subst hh0
              exact ⟨_, hdown none 0 rfl (Nat.le_refl _), by simp; exact .nils⟩
            · cases h
        · cases h
      · cases h
    · cases h
  · rename_i b o
    split at h
    · rename_i n e ht
      split at h
      · rename_i z hh l hz hhb hlb
        split at h
        · rename_i hc
          split at h
          · rename_i vs hvs
            cases h
            obtain ⟨B, O, Z, rfl, hb⟩ := hx.ptr_inv
            obtain ⟨q1, q2, _⟩ := ldCells_spec s hvs hb
            have hbd := sliceBounds_run (P := P) (b := false) hhb hlb hlo hlon hhi hhin hc.1 hc.2 w
            refine ⟨.slice (some (if n = l then ⟨B, O + o, none⟩ else (⟨B, O + o, none⟩ : Addr).add (l * z))) (hh - l) (n - l), by
              simp [Instr.sliceAt, run_underlying (tarr_spec ht), Instr.sureAddr, hbd, tsize_run hz], ?_⟩
            have h1 : l * z + (n - l) * z = n * z := by rw [← Nat.add_mul]; congr 1; omega
            by_cases hcl : n = l
            · rw [if_pos hcl]
              exact .sl hb (by omega) (fun h => by omega) (by
                have : n - l = 0 := by omega
                rw [this]
                omega)
            · rw [if_neg hcl, add_at]
              exact .sl hb (by omega) (fun h => by omega) (by omega)
          · cases h
        · cases h
      · cases h
    · cases h
  · cases h

def evIndexAddr (P : Program) (t : TypeId) (x i : V) : Option V := match i with
  | .int _ i => match x with
    | .sl (some (b, o, z1)) n => match telem P t with
      | some e => match tsize P e with
        | some z => if z1 = z ∧ 0 ≤ i ∧ i < n then some (.ptr (some (b, o + i.toNat * z))) else none
        | none => none
      | none => none
    | .ptr (some (b, o)) => match tarr P t with
      | some (n, e) => match tsize P e with
        | some z => if 0 ≤ i ∧ i < n then some (.ptr (some (b, o + i.toNat * z))) else none
        | none => none
      | none => none
    | _ => none
  | _ => none

theorem evIndexAddr_run {P : Program} {β : Inj} {t : TypeId} {xv iv v : V} {xc ic : Value} (h : evIndexAddr P t xv iv = some v) (hx : VRel β xv xc) (hi : VRel β iv ic) (w : World) :
    ∃ c', (Instr.indexAt t xc ic).run P w = .ok c' w ∧ VRel β v c' := by
  unfold evIndexAddr at h
  split at h
  · rename_i k i
    obtain rfl := hi.int_inv
    split at h
    · rename_i b o z1 n
      split at h
      · rename_i e ht
        split at h
        · rename_i z hz
          split at h
          · rename_i hc
            obtain ⟨rfl, h0, hlt⟩ := hc
            cases h
            obtain ⟨B, O, Z, x, cap, rfl, hb, hn', hx', hcap⟩ := hx.sl_inv
            obtain rfl := hx' (by omega)
            refine ⟨.pointer (some ⟨B, O + (o + i.toNat * z1), none⟩), ?_, .ptr hb⟩
            simp [Instr.indexAt, asIntOf, run_underlying (telem_spec ht), h0, hlt, tsize_run hz, add_at, Nat.add_assoc]
          · cases h
        · cases h
      · cases h
    · rename_i b o
      split at h
      · rename_i n e ht
        split at h
        · rename_i z hz
          split at h
          · rename_i hc
            obtain ⟨h0, hlt⟩ := hc
            cases h
            obtain ⟨B, O, Z, rfl, hb⟩ := hx.ptr_inv
            refine ⟨.pointer (some ⟨B, O + (o + i.toNat * z), none⟩), ?_, .ptr hb⟩
            simp [Instr.indexAt, asIntOf, run_underlying (tarr_spec ht), Instr.sureAddr, h0, hlt, tsize_run hz, add_at, Nat.add_assoc]
          · cases h
        · cases h
      · cases h
    · cases h
  · cases h

def evFieldAddr (P : Program) (t : TypeId) (x : V) (f : Nat) : Option V := match x with
  | .ptr (some (b, o)) => match tfield P t f with
    | some fd => match tsize P fd.type with
      | some n => if n = 0 then none else some (.ptr (some (b, o + fd.offset)))
      | none => none
    | none => none
  | _ => none

theorem evFieldAddr_run {P : Program} {β : Inj} {t : TypeId} {xv v : V} {xc : Value} {f : Nat} (h : evFieldAddr P t xv f = some v) (hx : VRel β xv xc) (w : World) :
    ∃ c', (Instr.fieldAt t xc f).run P w = .ok c' w ∧ VRel β v c' := by
  unfold evFieldAddr at h
  split at h
  · rename_i b o
    split at h
    · rename_i fd hf
      split at h
      · rename_i n hn
        split at h
        · cases h
        · rename_i hn0
          cases h
          obtain ⟨fs, hu, hfs⟩ := tfield_spec hf
          obtain ⟨B, O, Z, rfl, hb⟩ := hx.ptr_inv
          refine ⟨.pointer (some ⟨B, O + (o + fd.offset), none⟩), ?_, .ptr hb⟩
          simp [Instr.fieldAt, run_underlying hu, hfs, Instr.sureAddr, fieldPlace, tsize_run hn, hn0, add_at, Nat.add_assoc]
      · cases h
    · cases h
  · cases h

def partV (P : Program) (t : TypeId) (vs : List V) (off : Nat) : Option V := match tagg P t with
  | some true => match tsize P t with
    | some n => some (.agg ((vs.drop off).take n))
    | none => none
  | some false => vs[off]?
  | none => none

theorem LRel.extract {β : Inj} {vs : List V} {cs : Array Value} (h : LRel β vs cs) (off n : Nat) : LRel β ((vs.drop off).take n) (cs.extract off (off + n)) := by
  refine ⟨by simp [h.1]; omega, fun i v c hv hc => ?_⟩
  rw [List.getElem?_take] at hv
  split at hv
  · rename_i hlt
    rw [List.getElem?_drop] at hv
    rw [Array.getElem?_extract] at hc
    split at hc
    · exact h.2 _ _ _ hv hc
    · cases hc
  · cases hv

theorem partV_run {P : Program} {β : Inj} {t : TypeId} {vs : List V} {cs : Array Value} {off : Nat} {v : V} (h : partV P t vs off = some v) (hr : LRel β vs cs) (w : World) :
    ∃ c, (part t cs off).run P w = .ok c w ∧ VRel β v c := by
  unfold partV at h
  split at h
  · rename_i ht
    split at h
    · rename_i n hn
      cases h
      exact ⟨.agg (cs.extract off (off + n)), by simp [part, tagg_run ht, tsize_run hn], (hr.extract off n).agg⟩
    · cases h
  · rename_i ht
    obtain ⟨c, hc, hv⟩ := hr.get h
    exact ⟨c, by simp [part, tagg_run ht, hc], hv⟩
  · cases h

def evField (P : Program) (t : TypeId) (x : V) (f : Nat) : Option V := match x with
  | .agg vs => match tfield P t f with
    | some fd => partV P fd.type vs fd.offset
    | none => none
  | _ => none

theorem evField_run {P : Program} {β : Inj} {t : TypeId} {xv v : V} {xc : Value} {f : Nat} (h : evField P t xv f = some v) (hx : VRel β xv xc) (w : World) :
    ∃ c', (Instr.field t xc f).run P w = .ok c' w ∧ VRel β v c' := by
  unfold evField at h
  split at h
  · rename_i vs
    split at h
    · rename_i fd hf
      obtain ⟨fs, hu, hfs⟩ := tfield_spec hf
      obtain ⟨cs, rfl, hr⟩ := hx.agg_inv
      obtain ⟨c, hc, hv⟩ := partV_run h hr w
      exact ⟨c, by simp [Instr.field, run_underlying hu, hfs, asAgg, hc], hv⟩
    · cases h
  · cases h

def evIndex (P : Program) (t : TypeId) (x i : V) : Option V := match x, i with
  | .agg vs, .int _ i => match tarr P t with
    | some (n, e) => match tsize P e with
      | some z => if 0 ≤ i ∧ i < n then partV P e vs (i.toNat * z) else none
      | none => none
    | none => none
  | _, _ => none

theorem evIndex_run {P : Program} {β : Inj} {t : TypeId} {xv iv v : V} {xc ic : Value} (h : evIndex P t xv iv = some v) (hx : VRel β xv xc) (hi : VRel β iv ic) (w : World) :
    ∃ c', (Instr.index t xc ic).run P w = .ok c' w ∧ VRel β v c' := by
  unfold evIndex at h
  split at h
  · rename_i vs k i
    split at h
    · rename_i n e ht
      split at h
      · rename_i z hz
        split at h
        · rename_i hc
          obtain rfl := hi.int_inv
          obtain ⟨cs, rfl, hr⟩ := hx.agg_inv
          obtain ⟨c, hc', hv⟩ := partV_run h hr w
          exact ⟨c, by simp [Instr.index, asIntOf, run_underlying (tarr_spec ht), hc.1, hc.2, tsize_run hz, hc'], hv⟩
        · cases h
      · cases h
    · cases h
  · cases h

/-! ### Against nil -/

/-- A slice, a pointer, a function or an interface value against nil. -/
def nilEq (P : Program) (t : TypeId) (x y : V) : Option Bool := match P.underlying t with
  | some (.slice _) => match x, y with
    | .sl (some _) _, .sl none _ => some false
    | .sl none _, .sl (some _) _ => some false
    | _, _ => none
  | some (.pointer _) => match x, y with
    | .ptr (some _), .ptr none => some false
    | .ptr none, .ptr (some _) => some false
    | _, _ => none
  | some (.func _ _ _) => match x, y with
    | .fn _ _, .nilfn => some false
    | .nilfn, .fn _ _ => some false
    | _, _ => none
  | some (.interface _) => match x, y with
    | .ifc _ _, .nilifc => some false
    | .nilifc, .ifc _ _ => some false
    | .ifc t _, .ifc u _ => if t = u then none else some false
    | _, _ => none
  | _ => none

theorem VRel.slN_inv {β : Inj} {n : Nat} {c : Value} (h : VRel β (.sl none n) c) : c = .slice none 0 0 := by cases h; rfl

theorem equal_of {P : Program} {t : TypeId} {x y : Value} {b : Bool} {w : World} (h : ∀ d, (Op.equalIn (d + 1) t x y).run P w = .ok b w) : (Op.equal t x y).run P w = .ok b w := h 9999

theorem nilEq_run {P : Program} {β : Inj} {t : TypeId} {x y : V} {xc yc : Value} {b : Bool} (h : nilEq P t x y = some b) (hx : VRel β x xc) (hy : VRel β y yc) (w : World) :
    (Op.equal t xc yc).run P w = .ok b w ∧ ∀ op a c, (eqGuard op t a c xc yc).run P w = .ok () w := by
  unfold nilEq at h
  split at h
  · rename_i e hu
    split at h
    · cases h
      cases hx
      obtain rfl := hy.slN_inv
      exact ⟨equal_of (fun d => by simp [Op.equalIn, run_underlying hu]), fun op a c => by cases op <;> rfl⟩
    · cases h
      cases hy
      obtain rfl := hx.slN_inv
      exact ⟨equal_of (fun d => by simp [Op.equalIn, run_underlying hu]), fun op a c => by cases op <;> rfl⟩
    · cases h
  · rename_i e hu
    split at h
    · cases h
      cases hx
      cases hy
      exact ⟨equal_of (fun d => by simp [Op.equalIn, run_underlying hu]), fun op a c => by cases op <;> rfl⟩
    · cases h
      cases hx
      cases hy
      exact ⟨equal_of (fun d => by simp [Op.equalIn, run_underlying hu]), fun op a c => by cases op <;> rfl⟩
    · cases h
  · rename_i hu
    split at h
    · cases h
      cases hx
      cases hy
      exact ⟨equal_of (fun d => by simp [Op.equalIn, run_underlying hu]), fun op a c => by cases op <;> rfl⟩
    · cases h
      cases hx
      cases hy
      exact ⟨equal_of (fun d => by simp [Op.equalIn, run_underlying hu]), fun op a c => by cases op <;> rfl⟩
    · cases h
  · rename_i hu
    split at h
    · cases h
      cases hx
      cases hy
      exact ⟨equal_of (fun d => by simp [Op.equalIn, run_underlying hu]), fun op a c => by cases op <;> rfl⟩
    · cases h
      cases hx
      cases hy
      exact ⟨equal_of (fun d => by simp [Op.equalIn, run_underlying hu]), fun op a c => by cases op <;> rfl⟩
    · split at h
      · cases h
      · rename_i hne
        cases h
        cases hx
        cases hy
        exact ⟨equal_of (fun d => by simp [Op.equalIn, run_underlying hu, hne]), fun op a c => by cases op <;> rfl⟩
    · cases h
  · cases h

/-- Does a type bear all that an interface asks? -/
def bearsAll (want : Array (String × TypeId)) (got : Array Method) : Bool := want.toList.all fun w => got.any fun m => m.name == w.1 && m.sig == w.2

theorem least_some : ∀ (l : List String), l ≠ [] → Instr.least l ≠ none
  | [], h => absurd rfl h
  | s :: r, _ => by simp [Instr.least]

theorem pick_some (p : String → Bool) (g : String → String) (l : List String) (h : l ≠ []) : ∃ m, (match l.partition p with | (u, e) => Instr.least e <|> Instr.least (u.map g)) = some m := by
  rw [List.partition_eq_filter_filter]
  simp only
  cases he : Instr.least (l.filter (not ∘ p)) with
  | some m => exact ⟨m, rfl⟩
  | none =>
    have hnil : l.filter (not ∘ p) = [] := by
      rcases Classical.em (l.filter (not ∘ p) = []) with h1 | h1
      · exact h1
      · exact absurd he (least_some _ h1)
    have hall : l.filter p = l := by
      rw [List.filter_eq_self]
      intro a ha
      rw [List.filter_eq_nil_iff] at hnil
      have := hnil a ha
      simpa using this
    rw [hall]
    have hm : l.map g ≠ [] := by simpa using h
    cases hl : Instr.least (l.map g) with
    | none => exact absurd hl (least_some _ hm)
    | some m => exact ⟨m, rfl⟩

theorem bearsAll_spec (want : Array (String × TypeId)) (got : Array Method) : (bearsAll want got = true → Instr.missingMethod want got = none) ∧ (bearsAll want got = false → ∃ m, Instr.missingMethod want got = some m) := by
  have hmiss : (want.toList.all fun w => got.any fun m => m.name == w.1 && m.sig == w.2) = true ↔ (want.toList.filter fun (name, sig) => !got.any fun m => m.name == name && m.sig == sig) = [] := by
    rw [List.filter_eq_nil_iff, List.all_eq_true]
    constructor
    · intro h x hx
      have := h x hx
      simp only [this]
      simp
    · intro h x hx
      have := h x hx
      simpa using this
  constructor
  · intro h
    have h1 := hmiss.1 h
    unfold Instr.missingMethod
    simp only [h1]
    rfl
  · intro h
    have h1 : ((want.toList.filter fun (name, sig) => !got.any fun m => m.name == name && m.sig == sig).map (·.1)) ≠ [] := by
      intro e
      have := hmiss.2 (List.map_eq_nil_iff.1 e)
      unfold bearsAll at h
      rw [this] at h
      cases h
    exact pick_some _ _ _ h1

/-- A type's assertion. -/
def evAssert (P : Program) (x : V) (a : TypeId) (ok : Bool) : Option V := match x with
  | .ifc t v => match P.underlying a with
    | some (.interface want) => match P.info? t with
      | some i => match bearsAll want i.methods with
        | true => some (if ok = true then .tup [.ifc t v, .bool true] else .ifc t v)
        | false => if ok = true then (match zeroV P a with
          | some z => some (.tup [z, .bool false])
          | none => none) else none
      | none => none
    | some _ => if t = a then some (if ok = true then .tup [v, .bool true] else v) else if ok = true then (match zeroV P a with
        | some z => some (.tup [z, .bool false])
        | none => none) else none
    | none => none
  | _ => none

theorem pair_rel {β : Inj} {v : V} {c : Value} (b : Bool) (h : VRel β v c) : VRel β (.tup [v, .bool b]) (.tuple #[c, .bool b]) :=
  (LRel.cons h (LRel.cons (.bool b) (LRel.nil β))).tup

theorem evAssert_run {P : Program} {β : Inj} {x v : V} {xc : Value} {xt a : TypeId} {ok : Bool} (h : evAssert P x a ok = some v) (hx : VRel β x xc) (w : World) :
    ∃ c, (Instr.typeAssert xc xt a ok).run P w = .ok c w ∧ VRel β v c := by
  unfold evAssert at h
  split at h
  · rename_i t u
    cases hx with
    | ifc hu =>
      rename_i c
      split at h
      · rename_i want hun
        split at h
        · rename_i i hi
          split at h
          · rename_i hm
            have hm := (bearsAll_spec want i.methods).1 hm
            cases h
            refine ⟨if ok then .tuple #[.iface t c, .bool true] else .iface t c, ?_, ?_⟩
            · cases ok <;> simp [Instr.typeAssert, run_underlying hun, typeInfo, hi, hm]
            · cases ok
              · exact .ifc hu
              · exact pair_rel true (.ifc hu)
          · rename_i hm
            obtain ⟨m, hm⟩ := (bearsAll_spec want i.methods).2 hm
            split at h
            · rename_i hok
              subst hok
              split at h
              · rename_i z hz
                cases h
                obtain ⟨zc, hzr, hzrel⟩ := zeroV_run hz β
                exact ⟨_, by simp [Instr.typeAssert, run_underlying hun, typeInfo, hi, hm, hzr], pair_rel false hzrel⟩
              · cases h
            · cases h
        · cases h
      · rename_i d hni hun
        split at h
        · rename_i hta
          subst hta
          cases h
          refine ⟨if ok then .tuple #[c, .bool true] else c, ?_, ?_⟩
          · cases d <;> first | exact (hni _ rfl).elim | (cases ok <;> simp [Instr.typeAssert, run_underlying hun])
          · cases ok
            · exact hu
            · exact pair_rel true hu
        · rename_i hta
          split at h
          · rename_i hok
            subst hok
            split at h
            · rename_i z hz
              cases h
              obtain ⟨zc, hzr, hzrel⟩ := zeroV_run hz β
              refine ⟨.tuple #[zc, .bool false], ?_, pair_rel false hzrel⟩
              cases d <;> first | exact (hni _ rfl).elim | simp [Instr.typeAssert, run_underlying hun, hta, hzr]
            · cases h
          · cases h
      · cases h
  · cases h

def evLen (P : Program) (t : TypeId) (x : V) : Option V := match P.underlying t, x with
  | some (.slice _), .sl _ n => some (.int .i64 (n : Nat))
  | _, _ => none

end Go.Proofs.Ev

namespace Go.Proofs.Ev
open Go Go.RowKit Go.MapKept

/-- A map's type, its keys numbers: their kind, the elements' type. -/
def tmap (P : Program) (t : TypeId) : Option (IntKind × TypeId) := match P.underlying t with
  | some (.map k e) => match P.underlying k with
    | some (.int kd) => some (kd, e)
    | _ => none
  | _ => none
theorem tmap_spec {P : Program} {t : TypeId} {kd : IntKind} {e : TypeId} (h : tmap P t = some (kd, e)) : ∃ k, P.underlying t = some (.map k e) ∧ P.underlying k = some (.int kd) := by
  unfold tmap at h
  split at h
  · split at h
    · rename_i k e' ht _ kd' hk
      cases h
      exact ⟨k, ht, hk⟩
    · cases h
  · cases h

/-- Where a key stands, and what stands there. -/
def findV (kd : IntKind) (n : Int) : List V → Nat → Option (Option (Nat × V))
  | [], _ => some none
  | .tup [.int k m, u] :: r, i => if k = kd then (if n = m then some (some (i, u)) else findV kd n r (i + 1)) else none
  | _ :: _, _ => none

theorem findV_rel {β : Inj} {kd : IntKind} {n : Int} : ∀ (vs : List V) (es : List MapEntry) (i : Nat) (r : Option (Nat × V)), vs.length = es.length →
    (∀ (j : Nat) (v : V) (e : MapEntry), vs[j]? = some v → es[j]? = some e → ∃ k m u, v = .tup [.int k m, u] ∧ e.key = .int k m ∧ VRel β u e.val) → findV kd n vs i = some r →
    (r = none ∧ Instr.findNow (.int kd) (.int kd n) es i = some none) ∨ ∃ j u e, r = some (i + j, u) ∧ es[j]? = some e ∧ e.key = .int kd n ∧ Instr.findNow (.int kd) (.int kd n) es i = some (some (i + j, e.val)) ∧ VRel β u e.val
  | [], [], i, r, _, _, h => by
    simp [findV] at h
    exact .inl ⟨h.symm, rfl⟩
  | [], e :: es, i, r, hl, _, _ => by simp at hl
  | v :: vs, [], i, r, hl, _, _ => by simp at hl
  | v :: vs, e :: es, i, r, hl, hr, h => by
    obtain ⟨k, m, u, rfl, hk, hu⟩ := hr 0 v e rfl rfl
    simp only [findV] at h
    split at h
    · rename_i hkd
      subst hkd
      split at h
      · rename_i hnm
        subst hnm
        cases h
        exact .inr ⟨0, u, e, rfl, rfl, hk, by simp [Instr.findNow, hk, Instr.sameNow], hu⟩
      · rename_i hnm
        have hnow : Instr.findNow (.int k) (.int k n) (e :: es) i = Instr.findNow (.int k) (.int k n) es (i + 1) := by
          simp [Instr.findNow, hk, Instr.sameNow, (by simpa using hnm : (n == m) = false)]
        rw [hnow]
        rcases findV_rel vs es (i + 1) r (by simpa using hl) (fun j v e hv he => hr (j + 1) v e (by simpa using hv) (by simpa using he)) h with h1 | ⟨j, u', e', h1, h2, h3, h4, h5⟩
        · exact .inl h1
        · refine .inr ⟨j + 1, u', e', by rw [h1]; simp; omega, by simpa using h2, h3, ?_, h5⟩
          rw [h4]
          simp
          omega
    · cases h

/-- What is read. -/
def evGet (P : Program) (g : Option Blk) (kd : IntKind) (z : V) (k : V) : Option V := match g, k with
  | some g, .int kd' n => if kd' = kd then (match findV kd n g.cells 0 with
    | some (some (_, u)) => some u
    | some none => some z
    | none => none) else none
  | _, _ => none

theorem VRel.mp_inv {β : Inj} {b : Nat} {c : Value} (h : VRel β (.mp b) c) : ∃ B, c = .map (some B) ∧ β b = some (B, 1, 0) := by
  cases h
  exact ⟨_, rfl, ‹_›⟩
theorem VRel.int_inv' {β : Inj} {k : IntKind} {n : Int} {c : Value} (h : VRel β (.int k n) c) : c = .int k n := by
  cases h
  rfl

theorem evGet_run {P : Program} {β : Inj} {H : Heap} {w : World} (s : Sim β H w) {t e : TypeId} {kd : IntKind} {z k v : V} {b : Nat} {m kc : Value} (ht : tmap P t = some (kd, e)) (hz : zeroV P e = some z)
    (hm : VRel β (.mp b) m) (hk : VRel β k kc) (h : evGet P H[b + 1]? kd z k = some v) : ∃ c, (Instr.lookup t m kc false).run P w = .ok c w ∧ VRel β v c := by
  obtain ⟨kt, ht', hkt⟩ := tmap_spec ht
  obtain ⟨B, rfl, hb⟩ := hm.mp_inv
  obtain ⟨⟨es, ck, g, h1, h2, _, _, hl, hr⟩, _⟩ := s.mp b B hb
  obtain ⟨zc, hzr, hzv⟩ := zeroV_run hz β
  rw [h2] at h
  unfold evGet at h
  split at h
  · rename_i g' kd' n hg
    cases hg
    obtain rfl := hk.int_inv'
    split at h
    · rename_i hkd
      subst hkd
      have key : ∀ r, findV kd' n g.cells 0 = some r → _ := fun r hf => findV_rel (β := β) g.cells es.toList 0 r (by simpa using hl) (fun j v e hv he => hr j v e hv (by simpa using he)) hf
      split at h
      · rename_i i u hf
        cases h
        rcases key _ hf with ⟨h3, _⟩ | ⟨j, u', e', h3, _, _, h4, h5⟩
        · cases h3
        · cases h3
          refine ⟨e'.val, ?_, h5⟩
          simp [Instr.lookup, run_underlying ht', Go.MapKept.run_getObj_map h1, Go.MapKept.run_checkKey hkt (show IsKey (.int kd') (.int kd' n) from rfl), Go.MapKept.run_findKey hkt h4, Result.andThen]
      · rename_i hf
        cases h
        rcases key _ hf with ⟨_, h4⟩ | ⟨j, u', e', h3, _⟩
        · refine ⟨zc, ?_, hzv⟩
          simp [Instr.lookup, run_underlying ht', Go.MapKept.run_getObj_map h1, Go.MapKept.run_checkKey hkt (show IsKey (.int kd') (.int kd' n) from rfl), Go.MapKept.run_findKey hkt h4, hzr, Result.andThen]
        · cases h3
      · cases h
    · cases h
  · cases h

/-- A new map. -/
theorem Ext.mkmap {β : Inj} {H : Heap} {w : World} (s : Sim β H w) : Ext β H w (upd β H.length (w.heap.size, 1, 0)) (H ++ [⟨[], 0⟩] ++ [⟨[], 4⟩]) (w.alloc (.map #[] 0)) := by
  have hle := s.upd_le (w.heap.size, 1, 0)
  have hold : ∀ B, B < w.heap.size → (w.alloc (.map #[] 0)).heap[B]? = w.heap[B]? := fun B hB => Below.heap_alloc w _ B hB
  have hnew : (w.alloc (.map #[] 0)).heap[w.heap.size]? = some (.map #[] 0) := by
    show (w.heap.push _)[w.heap.size]? = _
    simp
  have hget : ∀ b, b < H.length → (H ++ [(⟨[], 0⟩ : Blk)] ++ [⟨[], 4⟩])[b]? = H[b]? := fun b hb => by
    rw [List.getElem?_append_left (by simp; omega), List.getElem?_append_left hb]
  have hget0 : (H ++ [(⟨[], 0⟩ : Blk)] ++ [⟨[], 4⟩])[H.length]? = some ⟨[], 0⟩ := by
    rw [List.getElem?_append_left (by simp), List.getElem?_append_right (Nat.le_refl _)]
    simp
  have hget1 : (H ++ [(⟨[], 0⟩ : Blk)] ++ [⟨[], 4⟩])[H.length + 1]? = some ⟨[], 4⟩ := by
    rw [List.getElem?_append_right (by simp)]
    simp
  have cases2 : ∀ c y, upd β H.length (w.heap.size, 1, 0) c = some y → (c = H.length ∧ y = (w.heap.size, 1, 0)) ∨ (c < H.length ∧ β c = some y) := fun c y hc => by
    by_cases h : c = H.length
    · subst h; rw [upd_same] at hc; cases hc; exact .inl ⟨rfl, rfl⟩
    · rw [upd_other h] at hc; exact .inr ⟨s.dom c y hc, hc⟩
  have sim : Sim (upd β H.length (w.heap.size, 1, 0)) (H ++ [⟨[], 0⟩] ++ [⟨[], 4⟩]) (w.alloc (.map #[] 0)) := by
    refine ⟨?_, ?_, ?_, ?_, ?_, ?_⟩
    · intro b x hb
      rcases cases2 b x hb with ⟨rfl, _⟩ | ⟨h, _⟩ <;> simp <;> omega
    · intro b B O Z hb
      rcases cases2 b _ hb with ⟨rfl, h⟩ | ⟨_, h⟩
      · cases h; exact .inr ⟨rfl, rfl⟩
      · rw [hold B (s.lt h)]; exact s.blk b B O Z h
    · intro b B hb
      rcases cases2 b _ hb with ⟨rfl, h⟩ | ⟨hlt, h⟩
      · cases h
        refine ⟨⟨#[], 0, _, hnew, hget1, rfl, ?_, by simp, fun i v e hv _ => by simp at hv⟩, fun b' O' Z' hb' => ?_⟩
        · rw [upd_other (by omega)]
          cases hx : β (H.length + 1) with
          | none => rfl
          | some x => have := s.dom _ _ hx; omega
        · rcases cases2 b' _ hb' with ⟨h, _⟩ | ⟨_, h⟩
          · exact h
          · have := s.lt h; omega
      · have hm := s.mp b B h
        obtain ⟨⟨_, _, g, _, hg, _, hn, _⟩, _⟩ := id hm
        have hlt1 : b + 1 < H.length := by
          rcases Nat.lt_or_ge (b + 1) H.length with h' | h'
          · exact h'
          · rw [List.getElem?_eq_none h'] at hg; cases hg
        refine hm.keep (hold B (s.lt h)) (hget _ hlt1) hle (by rw [upd_other (by omega)]; exact hn) fun b' O' Z' hb' => ?_
        rcases cases2 b' _ hb' with ⟨rfl, h2⟩ | ⟨_, h2⟩
        · cases h2
          have := s.lt h
          omega
        · exact h2
    · intro b k B O Z hk hst hb
      rcases cases2 b _ hb with ⟨rfl, h⟩ | ⟨hlt, h⟩
      · rw [hget0] at hk; cases hk; exact absurd rfl hst
      · rw [hget b hlt] at hk
        obtain ⟨h1, h2⟩ := s.cont b k B O Z hk hst h
        refine ⟨h1, fun i v hv => ?_⟩
        obtain ⟨c, h3, h4⟩ := h2 i v hv
        exact ⟨c, (World.cell?_of_block (a := ⟨B, O + i, none⟩) (hold B (s.lt h))).trans h3, h4.mono hle⟩
    · intro b k B O Z hk hst hb
      rcases cases2 b _ hb with ⟨rfl, h⟩ | ⟨hlt, h⟩
      · rw [hget0] at hk; cases hk; simp at hst
      · rw [hget b hlt] at hk
        exact (s.warm b k B O Z hk hst h).of_block (hold B (s.lt h))
    · intro b k B O Z b' k' B' O' Z' hk hst hk' hst' hne hb hb'
      rcases cases2 b _ hb with ⟨rfl, h⟩ | ⟨hlt, h⟩
      · rw [hget0] at hk; cases hk; simp at hst
      · rcases cases2 b' _ hb' with ⟨rfl, h'⟩ | ⟨hlt', h'⟩
        · rw [hget0] at hk'; cases hk'; exact absurd rfl hst'
        · rw [hget b hlt] at hk
          rw [hget b' hlt'] at hk'
          exact s.sep b k B O Z b' k' B' O' Z' hk hst hk' hst' hne h h'
  refine ⟨sim, fun b hb => upd_other (by omega), by simp, rfl, rfl, rfl, by simp, fun B hB _ => hold B hB, fun B ho => ?_⟩
  obtain ⟨b, k, O, Z, hk, hst, hb⟩ := ho
  rcases cases2 b _ hb with ⟨rfl, h⟩ | ⟨hlt, h⟩
  · cases h; exact .inr (Nat.le_refl _)
  · rw [hget b hlt] at hk
    exact .inl ⟨b, k, O, Z, hk, hst, h⟩

/-- A map's entries are written. -/
theorem Ext.setmap {β : Inj} {H : Heap} {w : World} (s : Sim β H w) {b B : Nat} (hb : β b = some (B, 1, 0)) {vs : List V} {es : Array MapEntry} (ck : Nat) (hr : MapRel β vs es) :
    Ext β H w β (H.set (b + 1) ⟨vs, 4⟩) { w with heap := w.heap.setIfInBounds B (.map es ck) } := by
  obtain ⟨⟨es0, ck0, g, a1, a2, a3, a4, a5⟩, a6⟩ := s.mp b B hb
  have hset := heap_set (o' := .map es ck) a1
  have hbl : b + 1 < H.length := by
    rcases Nat.lt_or_ge (b + 1) H.length with h' | h'
    · exact h'
    · rw [List.getElem?_eq_none h'] at a2; cases a2
  have hne : ∀ c x, β c = some x → c ≠ b + 1 := fun c x hc e => by subst e; rw [a4] at hc; cases hc
  have hH : ∀ c x, β c = some x → (H.set (b + 1) (⟨vs, 4⟩ : Blk))[c]? = H[c]? := fun c x hc => by
    rw [List.getElem?_set, if_neg (fun e => hne c x hc e.symm)]
  have hB : ∀ c kc B' O' Z', H[c]? = some kc → kc.st ≠ 0 → β c = some (B', O', Z') → B' ≠ B := fun c kc B' O' Z' hk hst hc e => by
    subst e
    have := a6 c O' Z' hc
    subst this
    rw [hb] at hc
    cases hc
    have := (s.cont c kc B' 1 0 hk hst hb).1
    omega
  have hcell : ∀ B' i, B' ≠ B → ({ w with heap := w.heap.setIfInBounds B (.map es ck) } : World).cell? ⟨B', i, none⟩ = w.cell? ⟨B', i, none⟩ := fun B' i h =>
    World.cell?_of_block (a := ⟨B', i, none⟩) (hset.2 B' h)
  have sim : Sim β (H.set (b + 1) ⟨vs, 4⟩) { w with heap := w.heap.setIfInBounds B (.map es ck) } := by
    refine ⟨fun c x hc => by rw [List.length_set]; exact s.dom c x hc, ?_, ?_, ?_, ?_, ?_⟩
    · intro c B' O Z hc
      by_cases h : B' = B
      · subst h
        have := a6 c O Z hc
        subst this
        rw [hb] at hc
        cases hc
        exact .inr ⟨rfl, rfl⟩
      · rcases s.blk c B' O Z hc with ⟨cs, e, fz, h1, h2⟩ | h1
        · exact .inl ⟨cs, e, fz, (hset.2 B' h).trans h1, h2⟩
        · exact .inr h1
    · intro c B' hc
      by_cases h : c = b
      · subst h
        rw [hb] at hc
        cases hc
        exact ⟨⟨es, ck, ⟨vs, 4⟩, hset.1, by rw [List.getElem?_set, if_pos rfl, if_pos hbl], rfl, a4, hr⟩, a6⟩
      · have hm := s.mp c B' hc
        refine hm.keep (hset.2 B' fun e => h (a6 c 1 0 (e ▸ hc))) ?_ (fun _ _ h => h) (by obtain ⟨⟨_, _, _, _, _, _, hn, _⟩, _⟩ := hm; exact hn) (fun _ _ _ h => h)
        rw [List.getElem?_set, if_neg (by omega)]
    · intro c k B' O Z hk hst hc
      rw [hH c _ hc] at hk
      obtain ⟨h1, h2⟩ := s.cont c k B' O Z hk hst hc
      refine ⟨h1, fun i v hv => ?_⟩
      rw [hcell B' _ (hB c k B' O Z hk hst hc)]
      exact h2 i v hv
    · intro c k B' O Z hk hst hc
      rw [hH c _ hc] at hk
      exact (s.warm c k B' O Z hk hst hc).of_block (hset.2 B' (hB c k B' O Z hk (by omega) hc))
    · intro c k B1 O Z c' k' B2 O' Z' hk hst hk' hst' hn hc hc'
      rw [hH c _ hc] at hk
      rw [hH c' _ hc'] at hk'
      exact s.sep c k B1 O Z c' k' B2 O' Z' hk hst hk' hst' hn hc hc'
  have hbk : ∃ kb, H[b]? = some kb := ⟨_, List.getElem?_eq_getElem (s.dom b _ hb)⟩
  obtain ⟨kb, hbk⟩ := hbk
  refine ⟨sim, fun _ _ => rfl, by simp, rfl, rfl, rfl, by simp, fun B' hB' hn => hset.2 B' fun e => hn ⟨b, kb, 1, 0, hbk, .inr ⟨rfl, rfl⟩, e ▸ hb⟩, ?_⟩
  rintro B' ⟨c, kc, O', Z', hkc, hcs, hc⟩
  rw [hH c _ hc] at hkc
  exact .inl ⟨c, kc, O', Z', hkc, hcs, hc⟩

/-- What is written. -/
def evSet (g : Option Blk) (kd : IntKind) (k v : V) : Option (List V) := match g, k with
  | some g, .int kd' n => if kd' = kd then (match findV kd n g.cells 0 with
    | some (some (i, _)) => some (g.cells.set i (.tup [.int kd n, v]))
    | some none => some (g.cells ++ [.tup [.int kd n, v]])
    | none => none) else none
  | _, _ => none

theorem evSet_run {P : Program} {β : Inj} {H : Heap} {w : World} (s : Sim β H w) {t e : TypeId} {kd : IntKind} {k v : V} {b : Nat} {m kc vc : Value} {vs : List V} (ht : tmap P t = some (kd, e))
    (hm : VRel β (.mp b) m) (hk : VRel β k kc) (hv : VRel β v vc) (h : evSet H[b + 1]? kd k v = some vs) : ∃ w', (Instr.mapUpdate t m kc vc).run P w = .ok () w' ∧ Ext β H w β (H.set (b + 1) ⟨vs, 4⟩) w' := by
  obtain ⟨kt, ht', hkt⟩ := tmap_spec ht
  obtain ⟨B, rfl, hb⟩ := hm.mp_inv
  obtain ⟨⟨es, ck, g, h1, h2, _, _, hl, hr⟩, _⟩ := s.mp b B hb
  rw [h2] at h
  unfold evSet at h
  split at h
  · rename_i g' kd' n hg
    cases hg
    obtain rfl := hk.int_inv'
    split at h
    · rename_i hkd
      subst hkd
      have hik : IsKey (.int kd') (.int kd' n) := rfl
      have key : ∀ r, findV kd' n g.cells 0 = some r → _ := fun r hf => findV_rel (β := β) g.cells es.toList 0 r (by simpa using hl) (fun j v e hv he => hr j v e hv (by simpa using he)) hf
      split at h
      · rename_i i u hf
        cases h
        rcases key _ hf with ⟨h3, _⟩ | ⟨j, u', e', h3, hj, hke, h4, h5⟩
        · cases h3
        · simp only [Nat.zero_add, Option.some.injEq, Prod.mk.injEq] at h3 h4
          obtain ⟨rfl, rfl⟩ := h3
          have hj' : es[i]? = some e' := by simpa using hj
          refine ⟨_, ?_, Ext.setmap (vs := g.cells.set i (.tup [.int kd' n, v])) (es := es.modify i fun e => { e with key := .int kd' n, val := vc }) s hb ck ⟨by simp [hl], fun q u0 e0 hu0 he0 => ?_⟩⟩
          · simp [Instr.mapUpdate, run_underlying ht', Go.MapKept.run_getObj_map h1, Go.MapKept.run_checkKey hkt hik, Go.MapKept.run_findKey hkt h4, hj', hke, Go.MapKept.run_keyThatStays hik, Go.MapKept.run_setObj_map _ h1, Result.andThen]
          · rw [List.getElem?_set] at hu0
            rw [Array.getElem?_modify] at he0
            by_cases hq : i = q
            · subst hq
              simp only [if_true] at hu0 he0
              split at hu0
              · cases hu0
                rw [hj'] at he0
                cases he0
                exact ⟨kd', n, v, rfl, rfl, hv⟩
              · cases hu0
            · rw [if_neg hq] at hu0 he0
              exact hr q u0 e0 hu0 he0
      · rename_i hf
        cases h
        rcases key _ hf with ⟨_, h4⟩ | ⟨j, u', e', h3, _⟩
        · refine ⟨_, ?_, Ext.setmap (vs := g.cells ++ [.tup [.int kd' n, v]]) (es := es.push { key := .int kd' n, val := vc, born := ck }) s hb (ck + 1) ⟨by simp [hl], fun q u0 e0 hu0 he0 => ?_⟩⟩
          · simp [Instr.mapUpdate, run_underlying ht', Go.MapKept.run_getObj_map h1, Go.MapKept.run_checkKey hkt hik, Go.MapKept.run_findKey hkt h4, Go.MapKept.run_setObj_map _ h1, Result.andThen]
          · rw [List.getElem?_append] at hu0
            rw [Array.getElem?_push] at he0
            split at hu0
            · rename_i hq
              rw [if_neg (by omega)] at he0
              exact hr q u0 e0 hu0 he0
            · rename_i hq
              have hq' : q = es.size := by
                rcases Nat.lt_or_ge (q - g.cells.length) 1 with h' | h'
                · omega
                · rw [List.getElem?_eq_none (by simpa using h')] at hu0; cases hu0
              rw [if_pos hq'] at he0
              have : q - g.cells.length = 0 := by omega
              rw [this] at hu0
              simp at hu0
              cases he0
              exact ⟨kd', n, v, hu0.symm, rfl, hv⟩
        · cases h3
      · cases h
    · cases h
  · cases h

theorem evMlen_run {P : Program} {β : Inj} {H : Heap} {w : World} (s : Sim β H w) {t e ty : TypeId} {kd : IntKind} {b : Nat} {m : Value} {g : Blk} (ht : tmap P t = some (kd, e)) (hm : VRel β (.mp b) m) (hg : H[b + 1]? = some g) :
    (Builtin.len_ #[t] ty #[m]).run P w = .ok (.int .i64 g.cells.length) w := by
  obtain ⟨kt, ht', hkt⟩ := tmap_spec ht
  obtain ⟨B, rfl, hb⟩ := hm.mp_inv
  obtain ⟨⟨es, ck, g', h1, h2, _, _, hl, hr⟩, _⟩ := s.mp b B hb
  rw [hg] at h2
  cases h2
  simp [Builtin.len_, run_underlying ht', Go.MapKept.run_getObj_map h1, goInt, hl, Result.andThen]

end Go.Proofs.Ev

namespace Go.Proofs.Ev
open Go Go.RowKit

def keep (H : Heap) : Option V → Option (V × Heap)
  | some v => some (v, H)
  | none => none

def optV (ρ : Operand → Option V) : Option Operand → Option (Option V)
  | none => some none
  | some x => match ρ x with
    | some v => some (some v)
    | none => none

/-- A type that is no interface's. -/
def tconc (P : Program) (t : TypeId) : Bool := match P.underlying t with
  | some (.interface _) => false
  | some _ => true
  | none => false

def evBuiltin (P : Program) (ρ : Operand → Option V) (o : Oper) (H : Heap) (b : Builtin) (args : List Operand) (ts : List TypeId) : Option (V × Heap) := match b with
  | .append => match args, ts with
    | [x, y], [t, tx] => match ρ x, ρ y with
      | some vx, some vy => match evAppend P H t tx vx vy with
        | some r => some r
        | none => evGrow P H t tx vx vy
      | _, _ => none
    | _, _ => none
  | .copy => match args, ts with
    | [x, y], [t, tx] => match ρ x, ρ y with
      | some vx, some vy => evCopy P H t vx vy
      | _, _ => none
    | _, _ => none
  | .clear => match args, ts with
    | [x], [t] => match ρ x with
      | some vx => evClear P H t vx
      | _ => none
    | _, _ => none
  | .len => match args, ts with
    | [x], [t] => match ρ x with
      | some vx => match evLen P t vx with
        | some v => some (v, H)
        | none => keep H (pureOp P ρ o)
      | none => none
    | _, _ => keep H (pureOp P ρ o)
  | _ => keep H (pureOp P ρ o)

def evA (P : Program) (ρ : Operand → Option V) (o : Oper) (H : Heap) : Option (V × Heap) := match o.op with
  | .move x => keep H (ρ x)
  | .assign x => keep H (ρ x)
  | .pick c a b => match ρ c with
    | some (.bool true) => keep H (ρ a)
    | some (.bool false) => keep H (ρ b)
    | _ => none
  | .alloc t => match zeroV P t with
    | some z => some (.ptr (some (H.length, 0)), H ++ [⟨z.cells, 2⟩])
    | none => none
  | .box t x => match ρ x with
    | some v => some (.ptr (some (H.length, 0)), H ++ [⟨v.cells, 2⟩])
    | none => none
  | .build t ps => match partsV ρ ps.toList with
    | some vs => keep H (evBuild P t vs)
    | none => none
  | .buildSlice t n ps => match partsV ρ ps.toList with
    | some vs => evBuildSlice P H t n vs
    | none => none
  | .load t x => match ρ x with
    | some (.ptr (some (b, o))) => keep H (evLoad P H t b o)
    | _ => none
  | .store t x y => match ρ x, ρ y with
    | some (.ptr (some (b, o))), some v => if tsize P t = some v.cells.length then (match stCells H b o v.cells with
      | some H' => some (undefV, H')
      | none => none) else none
    | _, _ => none
  | .nilCheck x => match ρ x with
    | some (.ptr (some p)) => some (.ptr (some p), H)
    | some (.fn f vs) => some (.fn f vs, H)
    | some (.ifc t v) => some (.ifc t v, H)
    | _ => none
  | .binOp op t x y _ => match pureOp P ρ o with
    | some v => some (v, H)
    | none => match ρ x, ρ y with
      | some vx, some vy => match nilEq P t vx vy with
        | some b => match op with
          | .eql => some (.bool b, H)
          | .neq => some (.bool (!b), H)
          | _ => none
        | none => none
      | _, _ => none
  | .convert src dst x => match ρ x with
    | some v => match evBytes P H src dst v with
      | some r => some r
      | none => match evString P H src dst v with
        | some r => some (r, H)
        | none => keep H (pureOp P ρ o)
    | none => none
  | .makeInterface t x => if tconc P t = true then (match ρ x with
    | some v => some (.ifc t v, H)
    | none => none) else none
  | .makeFunc (.func f) first caps => if first.size = 0 then (match listV ρ caps.toList with
    | some vs => some (.fn f vs, H)
    | none => none) else none
  | .makeSlice t l c => match ρ l, ρ c with
    | some vl, some vc => evMake P H t vl vc
    | _, _ => none
  | .slice t x lo hi none => match ρ x, optV ρ lo, optV ρ hi with
    | some vx, some vlo, some vhi => match evCut P H t vx vlo vhi with
      | some v => some (v, H)
      | none => keep H (pureOp P ρ o)
    | _, _, _ => none
  | .fieldAddr t x f => match ρ x with
    | some v => keep H (evFieldAddr P t v f)
    | none => none
  | .field t x f => match ρ x with
    | some v => keep H (evField P t v f)
    | none => none
  | .indexAddr t x i => match ρ x, ρ i with
    | some v, some vi => keep H (evIndexAddr P t v vi)
    | _, _ => none
  | .index t x i => match ρ x, ρ i with
    | some v, some vi => match evIndex P t v vi with
      | some r => some (r, H)
      | none => keep H (pureOp P ρ o)
    | _, _ => none
  | .extract x i => match ρ x with
    | some (.tup vs) => keep H vs[i]?
    | _ => none
  | .lookup t m k false => match tmap P t, ρ m, ρ k with
    | some (kd, e), some (.mp b), some vk => match zeroV P e with
      | some z => keep H (evGet P H[b + 1]? kd z vk)
      | none => none
    | _, _, _ => none
  | .typeAssert x xt a ok => match ρ x with
    | some v => match evAssert P v a ok with
      | some r => some (r, H)
      | none => keep H (pureOp P ρ o)
    | none => none
  | .call c => match c.callee with
    | .builtin b => evBuiltin P ρ o H b c.args.toList c.argTypes.toList
    | _ => none
  | _ => keep H (pureOp P ρ o)

theorem keep_some {H H' : Heap} {x : Option V} {v : V} (h : keep H x = some (v, H')) : x = some v ∧ H' = H := by
  cases x with
  | none => cases h
  | some y => simp [keep] at h; exact ⟨by rw [h.1], h.2.symm⟩

theorem optV_spec {β : Inj} {ρ : Operand → Option V} {e : Operand → Value} (hρ : RelO β ρ e) {x : Option Operand} {y : Option V} (h : optV ρ x = some y) :
    (∀ v, y = some v → ∃ c, x.map e = some c ∧ VRel β v c) ∧ (y = none → x.map e = none) := by
  cases x with
  | none => simp [optV] at h; subst h; exact ⟨fun v h => by (cases h), fun _ => rfl⟩
  | some x =>
    simp only [optV] at h
    split at h
    · rename_i v hv
      cases h
      exact ⟨fun v' h' => by cases h'; exact ⟨_, rfl, hρ x v hv⟩, fun h => by cases h⟩
    · cases h

section
variable {P : Program} {ρ : Operand → Option V} {e : Operand → Value} {o : Oper} {β : Inj} {H H' : Heap} {w : World} {v : V}

theorem args2 {α : Type} {xs : Array α} {a b : α} (h : xs.toList = [a, b]) : xs = #[a, b] := by
  cases xs; simp at h; subst h; rfl
theorem args1 {α : Type} {xs : Array α} {a : α} (h : xs.toList = [a]) : xs = #[a] := by
  cases xs; simp at h; subst h; rfl

theorem evBuiltin_run (s : Sim β H w) (hρ : RelO β ρ e) {c : Call} {b : Builtin} (ho : o.op = .call c) (hc : c.callee = .builtin b)
    (h : evBuiltin P ρ o H b c.args.toList c.argTypes.toList = some (v, H')) : Runs P e o w β H v H' := by
  have hpure : keep H (pureOp P ρ o) = some (v, H') → Runs P e o w β H v H' := fun h => by
    obtain ⟨h1, rfl⟩ := keep_some h
    exact pureOp_sound s hρ h1
  have hex : execOp e o = builtin b c.argTypes o.type (c.args.map fun | .const _ => true | _ => false) (c.args.map e) := by
    simp only [execOp, ho, resolve, hc]
    rfl
  unfold evBuiltin at h
  split at h
  · split at h
    · rename_i x y t tx ha ht
      split at h
      · rename_i vx vy hx hy
        have hrun : ∀ {β' : Inj} {c' : Value} {w' : World}, (Builtin.append_ #[t, tx] o.type #[e x, e y]).run P w = .ok c' w' → Ext β H w β' H' w' → VRel β' v c' → Runs P e o w β H v H' :=
          fun {β' c' w'} h1 h2 h3 => ⟨β', c', w', _, by rw [hex, args2 ha, args2 ht]; simp [builtin, h1], .inl rfl, h2, h3⟩
        split at h
        · rename_i r hr
          cases h
          obtain ⟨β', c', w', h1, h2, h3⟩ := evAppend_run (P := P) (ty := o.type) s hr (hρ x vx hx) (hρ y vy hy)
          exact hrun h1 h2 h3
        · obtain ⟨β', c', w', h1, h2, h3⟩ := evGrow_run (P := P) (ty := o.type) s h (hρ x vx hx) (hρ y vy hy)
          exact hrun h1 h2 h3
      · cases h
    · cases h
  · split at h
    · rename_i x y t tx ha ht
      split at h
      · rename_i vx vy hx hy
        obtain ⟨c', w', h1, h2, h3⟩ := evCopy_run (P := P) (tx := tx) (ty := o.type) s h (hρ x vx hx) (hρ y vy hy)
        exact ⟨β, c', w', _, by rw [hex, args2 ha, args2 ht]; simp [builtin, h1], .inl rfl, h2, h3⟩
      · cases h
    · cases h
  · split at h
    · rename_i x t ha ht
      split at h
      · rename_i vx hx
        obtain ⟨c', w', h1, h2, h3⟩ := evClear_run (P := P) (ty := o.type) s h (hρ x vx hx)
        exact ⟨β, c', w', _, by rw [hex, args1 ha, args1 ht]; simp [builtin, h1], .inl rfl, h2, h3⟩
      · cases h
    · cases h
  · split at h
    · rename_i x t ha ht
      split at h
      · rename_i vx hx
        split at h
        · rename_i v' hv'
          cases h
          have hrx := hρ x vx hx
          unfold evLen at hv'
          split at hv'
          · rename_i e' a n hu
            cases hv'
            have hs : ∃ a' c', e x = .slice a' n c' := by
              generalize e x = q at hrx
              cases hrx <;> exact ⟨_, _, rfl⟩
            obtain ⟨a', c', hs⟩ := hs
            refine Runs.value (c := .int .i64 (n : Nat)) s ?_ (.int _ _)
            rw [hex, args1 ha, args1 ht]
            simp [builtin, Builtin.len_, hs, run_underlying hu, goInt]
          · cases hv'
        · exact hpure h
      · cases h
    · exact hpure h
  · exact hpure h

theorem evA_run (s : Sim β H w) (hρ : RelO β ρ e) (h : evA P ρ o H = some (v, H')) : Runs P e o w β H v H' := by
  have hpure : keep H (pureOp P ρ o) = some (v, H') → Runs P e o w β H v H' := fun h => by
    obtain ⟨h1, rfl⟩ := keep_some h
    exact pureOp_sound s hρ h1
  unfold evA at h
  split at h
  · rename_i x ho
    obtain ⟨h1, rfl⟩ := keep_some h
    exact Runs.value s (by simp [execOp, ho]) (hρ x v h1)
  · rename_i x ho
    obtain ⟨h1, rfl⟩ := keep_some h
    exact Runs.value s (by simp [execOp, ho]) (hρ x v h1)
  · rename_i c a b ho
    split at h
    · rename_i hc
      obtain ⟨h1, rfl⟩ := keep_some h
      have hb := (hρ c _ hc).bool_inv
      exact Runs.value s (by simp [execOp, ho, hb, asBool]) (hρ a v h1)
    · rename_i hc
      obtain ⟨h1, rfl⟩ := keep_some h
      have hb := (hρ c _ hc).bool_inv
      exact Runs.value s (by simp [execOp, ho, hb, asBool]) (hρ b v h1)
    · cases h
  · rename_i t ho
    split at h
    · rename_i z hz
      cases h
      obtain ⟨zc, hzr, hzrel⟩ := zeroV_run hz β
      refine ⟨_, .pointer (some ⟨w.heap.size, 0, none⟩), _, _, ?_, .inl rfl, Ext.row s hzrel.cells t, ?_⟩
      · simp [execOp, ho, Instr.alloc, hzr, newVar, newRow]
      · have := VRel.ptr (o := 0) (upd_same β H.length (w.heap.size, 0, zc.cells.size))
        simpa using this
    · cases h
  · rename_i t x ho
    split at h
    · rename_i v' hv'
      cases h
      have hr := hρ x v' hv'
      refine ⟨_, .pointer (some ⟨w.heap.size, 0, none⟩), _, _, ?_, .inl rfl, Ext.row s hr.cells t, ?_⟩
      · simp [execOp, ho, Instr.box, newVar, newRow]
      · have := VRel.ptr (o := 0) (upd_same β H.length (w.heap.size, 0, (e x).cells.size))
        simpa using this
    · cases h
  · rename_i t ps ho
    split at h
    · rename_i vs hvs
      obtain ⟨h1, rfl⟩ := keep_some h
      obtain ⟨c, hc, hr⟩ := evBuild_run h1 (partsV_rel hρ _ _ hvs) w
      refine Runs.value s ?_ hr
      have hps : (ps.map fun (i, x) => (i, e x)) = (ps.toList.map fun (i, x) => (i, e x)).toArray := by
        apply Array.ext'
        simp
      simp only [execOp, ho, hps, Sem.run_bind, hc, Result.andThen_ok, Sem.run_pure]
    · cases h
  · rename_i t n ps ho
    split at h
    · rename_i vs hvs
      obtain ⟨β', c, w', h1, h2, h3⟩ := evBuildSlice_run (P := P) s h (partsV_rel hρ _ _ hvs)
      refine ⟨β', c, w', _, ?_, .inl rfl, h2, h3⟩
      have hps : (ps.map fun (i, x) => (i, e x)) = (ps.toList.map fun (i, x) => (i, e x)).toArray := by
        apply Array.ext'
        simp
      simp only [execOp, ho, hps, Sem.run_bind, h1, Result.andThen_ok, Sem.run_pure]
    · cases h
  · rename_i t x ho
    split at h
    · rename_i b o' hx
      obtain ⟨h1, rfl⟩ := keep_some h
      obtain ⟨B, O, Z, hp, hb⟩ := (hρ x _ hx).ptr_inv
      obtain ⟨c, hc, hr⟩ := evLoad_run (P := P) s h1 hb
      exact Runs.value s (by simp [execOp, ho, hp, Instr.loadAt, Instr.sureAddr, hc]) hr
    · cases h
  · rename_i t x y ho
    split at h
    · rename_i b o' v' hx hy
      split at h
      · rename_i hsz
        split at h
        · rename_i H2 hH2
          cases h
          obtain ⟨B, O, Z, hp, hb⟩ := (hρ x _ hx).ptr_inv
          have hr := (hρ y _ hy).cells
          obtain ⟨w', hw', hE⟩ := stCells_run (P := P) (cs := (e y).cells.toList) s hH2 hb (by simpa using hr)
          have hl := hr.1
          refine ⟨β, undef, w', .skip, ?_, .inr ⟨rfl, rfl⟩, hE, undefV_rel β⟩
          simp [execOp, ho, hp, Instr.storeAt, Instr.sureAddr, storeVar, tsize_run hsz, hl, hw']
        · cases h
      · cases h
    · cases h
  · rename_i x ho
    split at h
    · rename_i p hx
      cases h
      have hr := hρ x _ hx
      obtain ⟨b, o'⟩ := p
      obtain ⟨B, O, Z, hp, hb⟩ := hr.ptr_inv
      exact Runs.value s (by simp [execOp, ho, hp]) (hp ▸ hr)
    · rename_i f vs hx
      cases h
      have hr := hρ x _ hx
      obtain ⟨cs, hp, _⟩ := hr.fn_inv
      exact Runs.value s (by simp [execOp, ho, hp]) (hp ▸ hr)
    · rename_i t v' hx
      cases h
      have hr := hρ x _ hx
      have hp : ∃ c, e x = .iface t c := by
        generalize e x = q at hr
        cases hr
        exact ⟨_, rfl⟩
      obtain ⟨c, hp⟩ := hp
      exact Runs.value s (by simp [execOp, ho, hp]) (hp ▸ hr)
    · cases h
  · rename_i op t x y yt ho
    split at h
    · rename_i v' hv'
      cases h
      exact pureOp_sound s hρ hv'
    · split at h
      · rename_i vx vy hx hy
        split at h
        · rename_i b hb
          obtain ⟨h1, h2⟩ := nilEq_run hb (hρ x vx hx) (hρ y vy hy) w
          have hbin : ∀ op', (op' = BinOp.eql ∨ op' = BinOp.neq) → (binOp op' t (e x) (e y)).run P w = .ok (.bool (if op' = BinOp.eql then b else !b)) w := by
            intro op' hop
            have hkinds : (∃ n m, e x = .int n m) ∨ (∃ a, e x = .string a) ∨ (binOp .eql t (e x) (e y) = (do pure (.bool (← Op.equal t (e x) (e y)))) ∧ binOp .neq t (e x) (e y) = (do pure (.bool (!(← Op.equal t (e x) (e y)))))) := by
              have hrx := hρ x vx hx
              have hry := hρ y vy hy
              generalize e x = cx at hrx
              generalize e y = cy at hry
              unfold nilEq at hb
              split at hb <;> (try (cases hb; done)) <;> (split at hb <;> (try (cases hb; done)) <;> (cases hrx; cases hry; exact .inr (.inr ⟨rfl, rfl⟩)))
            rcases hkinds with ⟨n, m, hn⟩ | ⟨a, hn⟩ | ⟨h3, h4⟩
            · have hrx := hρ x vx hx
              rw [hn] at hrx
              cases hrx
              unfold nilEq at hb
              split at hb <;> (try (cases hb; done)) <;> (split at hb <;> (cases hb; done))
            · have hrx := hρ x vx hx
              rw [hn] at hrx
              cases hrx
              unfold nilEq at hb
              split at hb <;> (try (cases hb; done)) <;> (split at hb <;> (cases hb; done))
            · rcases hop with rfl | rfl
              · simp [h3, h1]
              · simp [h4, h1]
          split at h
          · cases h
            exact Runs.value s (by simp [execOp, ho, h2, hbin .eql (.inl rfl)]) (.bool _)
          · cases h
            exact Runs.value s (by simp [execOp, ho, h2, hbin .neq (.inr rfl)]) (.bool _)
          · cases h
        · cases h
      · cases h
  · rename_i src dst x ho
    split at h
    · rename_i v' hv'
      split at h
      · rename_i r hr
        cases h
        obtain ⟨β', c, w', h1, h2, h3⟩ := evBytes_run (P := P) s hr (hρ x _ hv')
        exact ⟨β', c, w', _, by simp [execOp, ho, h1], .inl rfl, h2, h3⟩
      · split at h
        · rename_i r hr
          cases h
          obtain ⟨c, h1, h2⟩ := evString_run (P := P) s hr (hρ x _ hv')
          exact Runs.value s (by simp [execOp, ho, h1]) h2
        · exact hpure h
    · cases h
  · rename_i t x ho
    split at h
    · rename_i ht
      split at h
      · rename_i v' hv'
        cases h
        have hr := hρ x _ hv'
        refine Runs.value (c := .iface t (e x)) s ?_ (.ifc hr)
        unfold tconc at ht
        cases hu : P.underlying t with
        | none => rw [hu] at ht; cases ht
        | some d =>
          rw [hu] at ht
          cases d <;> first | (cases ht; done) | simp [execOp, ho, Instr.makeInterface, run_underlying hu]
      · cases h
    · cases h
  · rename_i f first caps ho
    split at h
    · rename_i hf
      obtain rfl : first = #[] := Array.eq_empty_of_size_eq_zero hf
      split at h
      · rename_i vs hvs
        cases h
        have hr := listV_rel hρ _ _ hvs
        have hcs : (caps.map e) = (caps.toList.map e).toArray := by apply Array.ext'; simp
        refine Runs.value (c := .func (.func f) #[] (caps.map e)) s (by simp [execOp, ho, Instr.makeFunc]) ?_
        rw [hcs]
        exact .fn hr.1 hr.2
      · cases h
    · cases h
  · rename_i t l c ho
    split at h
    · rename_i vl vc hl hc
      obtain ⟨β', c', w', h1, h2, h3⟩ := evMake_run (P := P) s h (hρ l _ hl) (hρ c _ hc)
      exact ⟨β', c', w', _, by simp [execOp, ho, h1], .inl rfl, h2, h3⟩
    · cases h
  · rename_i t x lo hi ho
    split at h
    · rename_i vx vlo vhi hx hlo hhi
      split at h
      · rename_i v' hv'
        cases h
        obtain ⟨a1, a2⟩ := optV_spec hρ hlo
        obtain ⟨b1, b2⟩ := optV_spec hρ hhi
        obtain ⟨c, h1, h2⟩ := evCut_run (P := P) s hv' (hρ x _ hx) a1 a2 b1 b2
        exact Runs.value s (by simp [execOp, ho, h1]) h2
      · exact hpure h
    · cases h
  · rename_i t x f ho
    split at h
    · rename_i v' hv'
      obtain ⟨h1, rfl⟩ := keep_some h
      obtain ⟨c, h2, h3⟩ := evFieldAddr_run h1 (hρ x _ hv') w
      exact Runs.value s (by simp [execOp, ho, h2]) h3
    · cases h
  · rename_i t x f ho
    split at h
    · rename_i v' hv'
      obtain ⟨h1, rfl⟩ := keep_some h
      obtain ⟨c, h2, h3⟩ := evField_run h1 (hρ x _ hv') w
      exact Runs.value s (by simp [execOp, ho, h2]) h3
    · cases h
  · rename_i t x i ho
    split at h
    · rename_i v' vi hv' hi
      obtain ⟨h1, rfl⟩ := keep_some h
      obtain ⟨c, h2, h3⟩ := evIndexAddr_run h1 (hρ x _ hv') (hρ i _ hi) w
      exact Runs.value s (by simp [execOp, ho, h2]) h3
    · cases h
  · rename_i t x i ho
    split at h
    · rename_i v' vi hv' hi
      split at h
      · rename_i r hr
        cases h
        obtain ⟨c, h2, h3⟩ := evIndex_run hr (hρ x _ hv') (hρ i _ hi) w
        exact Runs.value s (by simp [execOp, ho, h2]) h3
      · exact hpure h
    · cases h
  · rename_i x i ho
    split at h
    · rename_i vs hx
      obtain ⟨h1, rfl⟩ := keep_some h
      obtain ⟨cs, hc, hr⟩ := (hρ x _ hx).tup_inv
      obtain ⟨c, hc', hv⟩ := hr.get h1
      exact Runs.value s (by simp [execOp, ho, hc, Instr.extract, hc']) hv
    · cases h
  · rename_i t m k ho
    split at h
    · rename_i kd e' b vk ht hm hk
      split at h
      · rename_i z hz
        obtain ⟨h1, rfl⟩ := keep_some h
        obtain ⟨c, h2, h3⟩ := evGet_run s ht hz (hρ m _ hm) (hρ k _ hk) h1
        exact Runs.value s (by simp [execOp, ho, h2]) h3
      · cases h
    · cases h
  · rename_i x xt a ok ho
    split at h
    · rename_i v' hv'
      split at h
      · rename_i r hr
        cases h
        obtain ⟨c, h1, h2⟩ := evAssert_run (xt := xt) hr (hρ x _ hv') w
        exact Runs.value s (by simp [execOp, ho, h1]) h2
      · exact hpure h
    · cases h
  · rename_i c ho
    split at h
    · rename_i b hb
      exact evBuiltin_run s hρ ho hb h
    · cases h
  · exact hpure h

/-- Maps are made, written, counted. -/
def isM (P : Program) (o : Oper) : Bool := match o.op with
  | .makeMap _ none => true
  | .mapUpdate .. => true
  | .call c => match c.callee, c.argTypes.toList with
    | .builtin .len, [t] => (tmap P t).isSome
    | _, _ => false
  | _ => false

def evM (P : Program) (ρ : Operand → Option V) (o : Oper) (H : Heap) : Option (V × Heap) := match o.op with
  | .makeMap _ none => some (.mp H.length, H ++ [⟨[], 0⟩] ++ [⟨[], 4⟩])
  | .mapUpdate t m k x => match tmap P t, ρ m, ρ k, ρ x with
    | some (kd, _), some (.mp b), some vk, some vx => match evSet H[b + 1]? kd vk vx with
      | some vs => some (undefV, H.set (b + 1) ⟨vs, 4⟩)
      | none => none
    | _, _, _, _ => none
  | .call c => match c.callee, c.args.toList, c.argTypes.toList with
    | .builtin .len, [x], [t] => match tmap P t, ρ x with
      | some _, some (.mp b) => match H[b + 1]? with
        | some g => some (.int .i64 g.cells.length, H)
        | none => none
      | _, _ => none
    | _, _, _ => none
  | _ => none

theorem evM_run (s : Sim β H w) (hρ : RelO β ρ e) (h : evM P ρ o H = some (v, H')) : Runs P e o w β H v H' := by
  unfold evM at h
  split at h
  · rename_i t ho
    cases h
    exact ⟨_, _, _, _, by simp [execOp, ho, run_makeMap], .inl rfl, Ext.mkmap s, .mp (upd_same _ _ _)⟩
  · rename_i t m k x ho
    split at h
    · rename_i kd e' b vk vx ht hm hk hx
      split at h
      · rename_i vs hvs
        cases h
        obtain ⟨w', h1, h2⟩ := evSet_run s ht (hρ m _ hm) (hρ k _ hk) (hρ x _ hx) hvs
        exact ⟨β, undef, w', .skip, by simp [execOp, ho, h1], .inr ⟨rfl, rfl⟩, h2, undefV_rel β⟩
      · cases h
    · cases h
  · rename_i c ho
    split at h
    · rename_i x t hc ha ht
      split at h
      · rename_i b htm hx
        split at h
        · rename_i g hg
          cases h
          have h1 := evMlen_run (ty := o.type) s htm (hρ x _ hx) hg
          refine Runs.value s ?_ (.int _ _)
          have hex : execOp e o = builtin .len c.argTypes o.type (c.args.map fun | .const _ => true | _ => false) (c.args.map e) := by
            simp only [execOp, ho, resolve, hc]
            rfl
          rw [hex, args1 ha, args1 ht]
          simp [builtin, h1]
        · cases h
      · cases h
    · cases h
  · cases h

end

end Go.Proofs.Ev

namespace Go.Proofs.Ev
open Go Go.RowKit

abbrev CallF := Nat → List V → Heap → Option (V × Heap)

def evalO (T : List V) : Operand → Option V
  | .tmp t => some (T.getD t undefV)
  | .const c => absN 9 c
  | .global g => some (.raw ⟨g, 0, none⟩)
  | .func f => some (.fn f [])

theorem evalO_rel {β : Inj} {T : List V} {a : Act} (h : LRel β T a.tmps) : RelO β (evalO T) a.eval := by
  intro x v hx
  cases x with
  | tmp t =>
    simp only [evalO, Option.some.injEq] at hx
    subst hx
    show VRel β (T.getD t undefV) (a.tmps.getD t undef)
    rw [List.getD_eq_getElem?_getD, Array.getD_eq_getD_getElem?]
    rcases Nat.lt_or_ge t T.length with ht | ht
    · obtain ⟨c, hc, hr⟩ := h.get (List.getElem?_eq_getElem ht)
      rw [List.getElem?_eq_getElem ht, hc]
      exact hr
    · rw [List.getElem?_eq_none ht, Array.getElem?_eq_none (by rw [← h.1]; exact ht)]
      exact undefV_rel β
  | const c => exact absN_rel 9 c v hx
  | global g => simp only [evalO, Option.some.injEq] at hx; subst hx; exact .raw _
  | func f => simp only [evalO, Option.some.injEq] at hx; subst hx; exact .fn rfl (fun i v c hv _ => by simp at hv)

def putV (T : List V) : Option Tmp → V → List V
  | some d, v => T.set d v
  | none, _ => T

theorem putV_rel {β : Inj} {T : List V} {a : Act} (h : LRel β T a.tmps) (d : Option Tmp) {v : V} {c : Value} (hv : VRel β v c) : LRel β (putV T d v) (a.put d c).tmps := by
  cases d with
  | none => exact h
  | some d => exact h.set d hv

def yieldedV (ops : Array Oper) (T : List V) (j : Nat) : Option Bool := match ops[j]? with
  | some o => match o.dst with
    | some d => match T[d]? with
      | some (.bool b) => some b
      | _ => none
    | none => none
  | none => none

theorem yieldedV_eq {β : Inj} {T : List V} {tmps : Array Value} (h : LRel β T tmps) (ops : Array Oper) (j : Nat) : yielded ops tmps j = yieldedV ops T j := by
  unfold yielded yieldedV
  cases ho : ops[j]? with
  | none => rfl
  | some o =>
    cases hd : o.dst with
    | none => simp [hd]
    | some d =>
      simp only [Option.bind_some, hd]
      rcases Nat.lt_or_ge d T.length with ht | ht
      · obtain ⟨c, hc, hr⟩ := h.get (List.getElem?_eq_getElem ht)
        rw [hc, List.getElem?_eq_getElem ht]
        generalize T[d] = v at hr
        cases hr <;> rfl
      · rw [List.getElem?_eq_none ht, Array.getElem?_eq_none (by rw [← h.1]; exact ht)]

def wantedV (ops : Array Oper) (o : Oper) (T : List V) : Bool := match o.guard with
  | none => true
  | some (j, b) => yieldedV ops T j == some b

theorem wantedV_eq {β : Inj} {T : List V} {tmps : Array Value} (h : LRel β T tmps) (ops : Array Oper) (o : Oper) : Region.wanted o (yielded ops tmps) = wantedV ops o T := by
  unfold Region.wanted wantedV
  cases o.guard with
  | none => rfl
  | some p => obtain ⟨j, b⟩ := p; simp only [yieldedV_eq h]

/-- What a called function must do. -/
def CallOK (P : Program) (call : CallF) : Prop := ∀ (f : Nat) (vs : List V) (H : Heap) (v : V) (H' : Heap), call f vs H = some (v, H') →
  ∀ (β : Inj) (cs : Array Value) (w : World), LRel β vs cs → Sim β H w →
    Calls P f cs w fun e w' => ∃ β' c, e = .returned c ∧ Ext β H w β' H' w' ∧ VRel β' v c

/-- A function that is entered by a call. -/
def enterable (P : Program) (f : Nat) : Bool := match P.funcs[f]? with
  | some fn => match fn.body with
    | some _ => fn.name != "runtime.NumGoroutine"
    | none => false
  | none => false

/-- A call whose operands name no block: what the model's own dispatch finds. -/
def pureCall (P : Program) (call : CallF) (ρ : Operand → Option V) (o : Oper) (H : Heap) : Option (V × Heap) :=
  if isSelect o.op = false then
    if o.op.operands.all (fun x => (concO ρ x).isSome) = true then
      match pureRun P (execOp (fun x => (concO ρ x).getD undef) o) with
      | some (.value c) => keep H (absN 9 c)
      | some (.enter f cs) => match absN.absL (absN 9) cs.toList with
        | some vs => call f vs H
        | none => none
      | _ => none
    else none
  else none

/-- A method of an interface value: the function, where its receiver is the value itself. -/
def methodOf (P : Program) (t : TypeId) (name : String) : Option Nat := match P.info? t with
  | some i => match i.methods.find? (·.name == name) with
    | some m => if m.path.size = 0 then (match m.func with
      | some (f, ptr) => match P.underlying t with
        | some (.pointer _) => if ptr = true then some f else none
        | some _ => if ptr = true then none else some f
        | none => none
      | none => none) else none
    | none => none
  | none => none

def evOp (P : Program) (call : CallF) (ρ : Operand → Option V) (o : Oper) (H : Heap) : Option (V × Heap) := if isM P o = true then evM P ρ o H else match o.op with
  | .call c => match c.callee with
    | .builtin b => evBuiltin P ρ o H b c.args.toList c.argTypes.toList
    | .value f => match ρ f, listV ρ c.args.toList with
      | some (.fn g cap), some vs => if enterable P g = true then call g (vs ++ cap) H else pureCall P call ρ o H
      | _, _ => none
    | .invoke x name => match ρ x, listV ρ c.args.toList with
      | some (.ifc t v), some vs => match methodOf P t name with
        | some f => if enterable P f = true then call f (v :: vs) H else pureCall P call ρ o H
        | none => pureCall P call ρ o H
      | _, _ => none
  | _ => evA P ρ o H

section
variable {P : Program} {call : CallF} {T : List V} {o : Oper} {β : Inj} {H H' : Heap} {w : World} {v : V} {a : Act} {K : Act → World → Prop} {Q : Exit → Act → World → Prop}

theorem put_defers (a : Act) (d : Option Tmp) (c : Value) : (a.put d c).defers = a.defers := by cases d <;> rfl

theorem Runs.wp {e : Operand → Value} (hr : Runs P a.eval o w β H v H')
    (hK : ∀ β' c w', Ext β H w β' H' w' → VRel β' v c → K (a.put o.dst c) w') : o.wp P a w K Q := by
  obtain ⟨β', c, w', n, h1, h2, h3, h4⟩ := hr
  unfold Oper.wp
  rw [h1]
  rcases h2 with rfl | ⟨rfl, rfl⟩
  · exact hK β' c w' h3 h4
  · exact hK β' undef w' h3 h4

theorem Calls.op {cs : Array Value} {f : Nat} (hrun : (execOp a.eval o).run P w = .ok (.enter f cs) w)
    (hc : Calls P f cs w fun e w' => ∃ β' c, e = .returned c ∧ Ext β H w β' H' w' ∧ VRel β' v c)
    (hK : ∀ β' c w', Ext β H w β' H' w' → VRel β' v c → K (a.put o.dst c) w') : o.wp P a w K Q := by
  unfold Oper.wp
  rw [hrun]
  refine hc.mono ?_
  rintro e w' ⟨β', c, rfl, h1, h2⟩
  exact hK β' c w' h1 h2

theorem pureCall_wp (hcall : CallOK P call) (hT : LRel β T a.tmps) (s : Sim β H w) (h : pureCall P call (evalO T) o H = some (v, H'))
    (hK : ∀ β' c w', Ext β H w β' H' w' → VRel β' v c → K (a.put o.dst c) w') : o.wp P a w K Q := by
  have hρ := evalO_rel hT
  unfold pureCall at h
  split at h
  · rename_i hsel
    split at h
    · rename_i hall
      have hcongr : execOp a.eval o = execOp (fun x => (concO (evalO T) x).getD undef) o := by
        refine execOp_congr o (fun cs b he => by rw [he] at hsel; simp [isSelect] at hsel) (fun x hx => ?_)
        have hx' : (concO (evalO T) x).isSome = true := by
          rw [Array.all_eq_true_iff_forall_mem] at hall
          exact hall x hx
        unfold concO at hx' ⊢
        cases hρx : evalO T x with
        | none => rw [hρx] at hx'; simp at hx'
        | some v =>
          rw [hρx] at hx'
          simp only at hx' ⊢
          obtain ⟨c, hc⟩ := Option.isSome_iff_exists.1 hx'
          rw [hc]
          exact (hρ x v hρx).conc c hc
      split at h
      · rename_i c hc
        obtain ⟨h1, rfl⟩ := keep_some h
        exact Runs.wp (e := a.eval) (Runs.value s (by rw [hcongr]; exact pureRun_run _ _ hc w) (absN_rel 9 c v h1)) hK
      · rename_i f cs hc
        split at h
        · rename_i vs hvs
          have hr := absL_rel (β := β) (absN_rel 9) _ _ hvs
          exact Calls.op (by rw [hcongr]; exact pureRun_run _ _ hc w) (hcall f vs H v H' h β cs w (by simpa using hr) s) hK
        · cases h
      · cases h
    · cases h
  · cases h

theorem cons_get (x : Value) (cs : Array Value) : (#[x] ++ cs)[0]? = some x := by simp [Array.getElem?_append]
theorem cons_extract (x : Value) (cs : Array Value) : (#[x] ++ cs).extract 1 (#[x] ++ cs).size = cs := by
  apply Array.ext'
  simp

theorem methodOf_run {t : TypeId} {name : String} {f : Nat} (h : methodOf P t name = some f) (c : Value) (n : Nat) (w : World) : (method (n + 1) t c name).run P w = .ok (f, c) w := by
  unfold methodOf at h
  split at h
  · rename_i i hi
    split at h
    · rename_i m hm
      split at h
      · rename_i hp
        have hp' : m.path = #[] := Array.eq_empty_of_size_eq_zero hp
        split at h
        · rename_i f' ptr hf
          split at h
          · rename_i e hu
            split at h
            · rename_i hptr
              cases h
              subst hptr
              simp [method, typeInfo, hi, hm, hp', follow, hf, receiverAt, run_underlying hu, Place.get]
            · cases h
          · rename_i d hnp hu
            split at h
            · cases h
            · rename_i hptr
              cases h
              have hptr' : ptr = false := by simpa using hptr
              subst hptr'
              have hfo : (follow m.path.toList t (.val c)).run P w = .ok (t, .val c) w := by rw [hp']; rfl
              have hrec : ∀ wr, (receiverAt t (.val c) false wr).run P w = .ok c w := by
                intro wr
                unfold receiverAt
                cases d <;> first | exact (hnp _ rfl).elim | simp [run_underlying hu, Place.get]
              simp only [method, typeInfo, Sem.run_bind, run_program, Result.andThen_ok, hi, Sem.run_pure, hm, hfo, hf, hrec]
          · cases h
        · cases h
      · cases h
    · cases h
  · cases h

theorem evOp_wp (hcall : CallOK P call) (hT : LRel β T a.tmps) (s : Sim β H w) (h : evOp P call (evalO T) o H = some (v, H'))
    (hK : ∀ β' c w', Ext β H w β' H' w' → VRel β' v c → K (a.put o.dst c) w') : o.wp P a w K Q := by
  have hρ := evalO_rel hT
  unfold evOp at h
  split at h
  · exact Runs.wp (e := a.eval) (evM_run s hρ h) hK
  split at h
  · rename_i c ho
    split at h
    · rename_i b hb
      exact Runs.wp (e := a.eval) (evBuiltin_run s hρ ho hb h) hK
    · rename_i f hf
      split at h
      · rename_i g cap vs hg hvs
        split at h
        · rename_i hen
          obtain ⟨cs, hfc, hcr⟩ := (hρ f _ hg).fn_inv
          have hr := listV_rel hρ _ _ hvs
          unfold enterable at hen
          split at hen
          · rename_i fn hfn
            split at hen
            · rename_i body hbody
              have hname : (fn.name == "runtime.NumGoroutine") = false := by
                rw [bne, Bool.not_eq_true'] at hen
                exact hen
              have hargs : (c.args.map a.eval) = (c.args.toList.map a.eval).toArray := by apply Array.ext'; simp
              refine Calls.op (f := g) (cs := c.args.map a.eval ++ cs) ?_ (hcall g _ H v H' h β _ w (by rw [hargs]; exact hr.append hcr) s) hK
              simp only [execOp, ho, resolve, hf, Sem.run_bind, Deferred.ofValue, hfc, Sem.run_pure, Result.andThen_ok, invoke, callFunc, run_program, hfn, hname, Bool.false_eq_true, if_false, hbody, Option.isNone_some, Array.empty_append]
            · cases hen
          · cases hen
        · exact pureCall_wp hcall hT s h hK
      · cases h
    · rename_i x name hx
      split at h
      · rename_i t u vs ht hvs
        split at h
        · rename_i f hf
          split at h
          · rename_i hen
            have hri := hρ x _ ht
            obtain ⟨cu, hcu, hru⟩ : ∃ cu, a.eval x = .iface t cu ∧ VRel β u cu := by
              generalize a.eval x = q at hri
              cases hri with
              | ifc h => exact ⟨_, rfl, h⟩
            have hr := listV_rel hρ _ _ hvs
            unfold enterable at hen
            split at hen
            · rename_i fn hfn
              split at hen
              · rename_i body hbody
                have hname : (fn.name == "runtime.NumGoroutine") = false := by
                  rw [bne, Bool.not_eq_true'] at hen
                  exact hen
                have hargs : (#[cu] ++ c.args.map a.eval) = (cu :: c.args.toList.map a.eval).toArray := by apply Array.ext'; simp
                refine Calls.op (f := f) (cs := #[cu] ++ c.args.map a.eval) ?_ (hcall f _ H v H' h β _ w (by rw [hargs]; exact LRel.cons hru hr) s) hK
                have hmeth : ∀ n, (method (n + 1) t cu name).run P w = .ok (f, cu) w := fun n => methodOf_run hf cu n w
                have hsz : ∃ n, P.types.size + Made.depth = n + 1 := ⟨P.types.size + Made.depth - 1, by unfold Made.depth; omega⟩
                obtain ⟨n, hn⟩ := hsz
                have hm' : (method (P.types.size + Made.depth) t cu name).run P w = .ok (f, cu) w := by rw [hn]; exact hmeth n
                have hcm : (callMethod (.iface t cu) name (c.args.map a.eval)).run P w = .ok (.enter f (#[cu] ++ c.args.map a.eval)) w := by
                  simp only [callMethod, Sem.run_bind, run_program, Result.andThen_ok, hm', callFunc, hfn, hname, Bool.false_eq_true, if_false, hbody, Option.isNone_some, Sem.run_pure]
                have hin : invoke (.fn (.method name) #[]) (#[Value.iface t cu] ++ c.args.map a.eval) = callMethod (.iface t cu) name (c.args.map a.eval) := by
                  simp only [invoke, cons_get, cons_extract]
                simp only [execOp, ho, resolve, hx, hcu, Sem.run_bind, Sem.run_pure, Result.andThen_ok, hin, hcm]
              · cases hen
            · cases hen
          · exact pureCall_wp hcall hT s h hK
        · exact pureCall_wp hcall hT s h hK
      · cases h
  · exact Runs.wp (e := a.eval) (evA_run s hρ h) hK

end

/-- Operations one behind another. -/
def evOps (P : Program) (call : CallF) (ops : Array Oper) : List Nat → List V → Heap → Option (List V × Heap)
  | [], T, H => some (T, H)
  | i :: r, T, H => match ops[i]? with
    | none => none
    | some o => if wantedV ops o T = true then (match evOp P call (evalO T) o H with
      | some (v, H') => evOps P call ops r (putV T o.dst v) H'
      | none => none) else evOps P call ops r (putV T o.dst undefV) H

/-- What a piece of text leaves. -/
def Leaves (β : Inj) (H : Heap) (w : World) (ds : List Deferred) (T' : List V) (H' : Heap) (a' : Act) (w' : World) : Prop :=
  ∃ β', LRel β' T' a'.tmps ∧ a'.defers = ds ∧ Ext β H w β' H' w'

theorem evOps_wp {P : Program} {call : CallF} (hcall : CallOK P call) {ops : Array Oper} {Q : Exit → Act → World → Prop} : ∀ (l : List Nat) (T : List V) (H : Heap) (T' : List V) (H' : Heap) (β : Inj) (a : Act) (w : World),
    evOps P call ops l T H = some (T', H') → LRel β T a.tmps → Sim β H w → (∀ a' w', Leaves β H w a.defers T' H' a' w' → Q .normal a' w') → wpOps P ops Q l a w
  | [], T, H, T', H', β, a, w, h, hT, s, hQ => by
    simp only [evOps, Option.some.injEq, Prod.mk.injEq] at h
    obtain ⟨rfl, rfl⟩ := h
    exact hQ a w ⟨β, hT, rfl, Ext.refl s⟩
  | i :: r, T, H, T', H', β, a, w, h, hT, s, hQ => by
    simp only [evOps] at h
    simp only [wpOps]
    cases ho : ops[i]? with
    | none => rw [ho] at h; cases h
    | some o =>
      rw [ho] at h
      simp only at h ⊢
      rw [wantedV_eq hT]
      by_cases hw : wantedV ops o T = true
      · rw [if_pos hw] at h ⊢
        split at h
        · rename_i v H2 hv
          refine .inl (evOp_wp hcall hT s hv fun β' c w' hE hvr => ?_)
          exact evOps_wp hcall r _ H2 T' H' β' (a.put o.dst c) w' h (putV_rel (hT.mono (hE.le s)) o.dst hvr) hE.sim (fun a' w'' ⟨β'', h1, h2, h3⟩ => hQ a' w'' ⟨β'', h1, h2.trans (put_defers a o.dst c), hE.trans h3⟩)
        · cases h
      · rw [if_neg hw] at h ⊢
        exact evOps_wp hcall r _ H T' H' β (a.put o.dst undef) w h (putV_rel hT o.dst (undefV_rel β)) s (fun a' w'' ⟨β'', h1, h2, h3⟩ => hQ a' w'' ⟨β'', h1, h2.trans (put_defers a o.dst undef), h3⟩)

end Go.Proofs.Ev

namespace Go.Proofs.Ev
open Go Go.RowKit

/-! ### Values that are alike -/

mutual
def V.beq : V → V → Bool
  | .bool a, .bool b => a == b
  | .int k a, .int j b => decide (k = j) && decide (a = b)
  | .str a, .str b => a == b
  | .ptr a, .ptr b => decide (a = b)
  | .sl a n, .sl b m => decide (a = b) && decide (n = m)
  | .fn f a, .fn g b => decide (f = g) && V.beqL a b
  | .nilfn, .nilfn => true
  | .ifc t a, .ifc u b => decide (t = u) && V.beq a b
  | .nilifc, .nilifc => true
  | .agg a, .agg b => V.beqL a b
  | .tup a, .tup b => V.beqL a b
  | .raw a, .raw b => decide (a = b)
  | .mp a, .mp b => decide (a = b)
  | _, _ => false
def V.beqL : List V → List V → Bool
  | [], [] => true
  | a :: r, b :: q => V.beq a b && V.beqL r q
  | _, _ => false
end

mutual
theorem V.beq_eq : ∀ (a b : V), V.beq a b = true → a = b
  | .bool a, b, h => by cases b <;> simp [V.beq] at h; subst h; rfl
  | .int k a, b, h => by cases b <;> simp [V.beq] at h; obtain ⟨rfl, rfl⟩ := h; rfl
  | .str a, b, h => by cases b <;> simp [V.beq] at h; subst h; rfl
  | .ptr a, b, h => by cases b <;> simp [V.beq] at h; subst h; rfl
  | .sl a n, b, h => by cases b <;> simp [V.beq] at h; obtain ⟨rfl, rfl⟩ := h; rfl
  | .fn f a, b, h => by
    cases b <;> simp [V.beq] at h
    obtain ⟨rfl, h⟩ := h
    rw [V.beqL_eq a _ h]
  | .nilfn, b, h => by cases b <;> simp [V.beq] at h; rfl
  | .ifc t a, b, h => by
    cases b <;> simp [V.beq] at h
    obtain ⟨rfl, h⟩ := h
    rw [V.beq_eq a _ h]
  | .nilifc, b, h => by cases b <;> simp [V.beq] at h; rfl
  | .agg a, b, h => by
    cases b <;> simp [V.beq] at h
    rw [V.beqL_eq a _ h]
  | .tup a, b, h => by
    cases b <;> simp [V.beq] at h
    rw [V.beqL_eq a _ h]
  | .raw a, b, h => by cases b <;> simp [V.beq] at h; subst h; rfl
  | .mp a, b, h => by cases b <;> simp [V.beq] at h; subst h; rfl
theorem V.beqL_eq : ∀ (a b : List V), V.beqL a b = true → a = b
  | [], b, h => by cases b <;> simp [V.beqL] at h; rfl
  | a :: r, b, h => by
    cases b <;> simp [V.beqL] at h
    rw [V.beq_eq a _ h.1, V.beqL_eq r _ h.2]
end

/-! ### Which operation does what -/

def isX (P : Program) (o : Oper) : Bool := if isM P o = true then true else match o.op with
  | .assign _ => true
  | .store .. => true
  | .makeSlice .. => true
  | .convert _ dst _ => (telem P dst).isSome
  | .call c => match c.callee with
    | .builtin b => match b with
      | .append => true
      | .copy => true
      | .clear => true
      | _ => false
    | _ => true
  | _ => false
def isA (o : Oper) : Bool := match o.op with
  | .alloc _ => true
  | .box .. => true
  | .buildSlice .. => true
  | _ => false
def isL (o : Oper) : Bool := match o.op with
  | .load .. => true
  | .slice .. => true
  | .convert .. => true
  | .lookup .. => true
  | _ => false

/-- A new block: its cells, and the value that names it. -/
def evAl (P : Program) (ρ : Operand → Option V) (o : Oper) : Option (Blk × (Nat → V)) := match o.op with
  | .alloc t => match zeroV P t with
    | some z => some (⟨z.cells, 2⟩, fun b => .ptr (some (b, 0)))
    | none => none
  | .box t x => match ρ x with
    | some v => some (⟨v.cells, 2⟩, fun b => .ptr (some (b, 0)))
    | none => none
  | .buildSlice t n ps => match partsV ρ ps.toList with
    | some vs => match evBuildSlice P [] t n vs, telem P t with
      | some (_, [k]), some e => match tsize P e with
        | some z => some (k, fun b => .sl (some (b, 0, z)) n)
        | none => none
      | _, _ => none
    | none => none
  | _ => none

def vblk : V → Option Nat
  | .ptr (some (b, _)) => some b
  | .sl (some (b, _, _)) _ => some b
  | _ => none

theorem evAl_blk {P : Program} {ρ : Operand → Option V} {o : Oper} {k : Blk} {mk : Nat → V} (h : evAl P ρ o = some (k, mk)) (b : Nat) : vblk (mk b) = some b := by
  unfold evAl at h
  split at h
  · split at h
    · cases h; rfl
    · cases h
  · split at h
    · cases h; rfl
    · cases h
  · split at h
    · split at h
      · split at h
        · cases h; rfl
        · cases h
      · cases h
    · cases h
  · cases h

theorem evA_al {P : Program} {ρ : Operand → Option V} {o : Oper} {H H' : Heap} {v : V} (ha : isA o = true) (h : evA P ρ o H = some (v, H')) :
    ∃ k mk, evAl P ρ o = some (k, mk) ∧ v = mk H.length ∧ H' = H ++ [k] := by
  unfold isA at ha
  unfold evA at h
  unfold evAl
  split at ha
  · rename_i t ho
    simp only [ho] at h ⊢
    cases hz : zeroV P t with
    | none => rw [hz] at h; cases h
    | some z => rw [hz] at h; cases h; exact ⟨_, _, rfl, rfl, rfl⟩
  · rename_i t x ho
    simp only [ho] at h ⊢
    cases hx : ρ x with
    | none => rw [hx] at h; cases h
    | some z => rw [hx] at h; cases h; exact ⟨_, _, rfl, rfl, rfl⟩
  · rename_i t n ps ho
    simp only [ho] at h ⊢
    cases hp : partsV ρ ps.toList with
    | none => rw [hp] at h; cases h
    | some vs =>
      rw [hp] at h
      simp only at h ⊢
      unfold evBuildSlice at h ⊢
      cases he : telem P t with
      | none => rw [he] at h; cases h
      | some e =>
        rw [he] at h
        simp only at h ⊢
        cases hs : tsize P e with
        | none => rw [hs] at h; cases h
        | some z =>
          rw [hs] at h
          simp only at h ⊢
          cases hz : zeroV P e with
          | none => rw [hz] at h; cases h
          | some zv =>
            rw [hz] at h
            simp only at h ⊢
            split at h
            · rename_i hc
              rw [if_pos hc]
              cases hf : fillV (fun i => some (i * z, z)) (zrow zv.cells (n * z)) vs with
              | none => rw [hf] at h; cases h
              | some cells =>
                rw [hf] at h
                cases h
                refine ⟨⟨cells, 2⟩, fun b => .sl (some (b, 0, z)) n, ?_, rfl, rfl⟩
                simp [hs]
            · cases h
  · cases ha

/-- .. and in the model: the block is there behind the operation, whatever else there is. -/
theorem evAl_run {P : Program} {ρ : Operand → Option V} {e : Operand → Value} {o : Oper} {β : Inj} {H : Heap} {w : World} {k : Blk} {mk : Nat → V} (s : Sim β H w) (hρ : RelO β ρ e)
    (h : evAl P ρ o = some (k, mk)) : k.st = 2 ∧ ∃ cs t c, (execOp e o).run P w = .ok (.value c) (w.alloc (.cells cs t)) ∧ LRel β k.cells cs ∧
      ∀ b, VRel (upd β b (w.heap.size, 0, cs.size)) (mk b) c := by
  have hptr : ∀ (b n : Nat), VRel (upd β b (w.heap.size, 0, n)) (.ptr (some (b, 0))) (.pointer (some ⟨w.heap.size, 0, none⟩)) := by
    intro b n
    have := VRel.ptr (o := 0) (upd_same β b (w.heap.size, 0, n))
    simpa using this
  unfold evAl at h
  split at h
  · rename_i t ho
    split at h
    · rename_i z hz
      cases h
      obtain ⟨zc, hzr, hzrel⟩ := zeroV_run hz β
      exact ⟨rfl, zc.cells, t, _, by simp [execOp, ho, Instr.alloc, hzr, newVar, newRow], hzrel.cells, fun b => hptr b _⟩
    · cases h
  · rename_i t x ho
    split at h
    · rename_i v hv
      cases h
      exact ⟨rfl, (e x).cells, t, _, by simp [execOp, ho, Instr.box, newVar, newRow], (hρ x v hv).cells, fun b => hptr b _⟩
    · cases h
  · rename_i t n ps ho
    split at h
    · rename_i vs hvs
      split at h
      · rename_i v0 k0 e' hk he
        split at h
        · rename_i z hz
          cases h
          have hp := partsV_rel hρ _ _ hvs
          unfold evBuildSlice at hk
          rw [he] at hk
          simp only at hk
          rw [hz] at hk
          simp only at hk
          cases hzv : zeroV P e' with
          | none => rw [hzv] at hk; cases hk
          | some zv =>
            rw [hzv] at hk
            simp only at hk
            split at hk
            · rename_i hc
              obtain ⟨hpos, hzl, hlim⟩ := hc
              obtain ⟨zc, hzr, hzrel⟩ := zeroV_run hzv β
              cases hf : fillV (fun i => some (i * z, z)) (zrow zv.cells (n * z)) vs with
              | none => rw [hf] at hk; cases hk
              | some cells =>
                rw [hf] at hk
                simp only [Option.some.injEq, Prod.mk.injEq, List.nil_append, List.cons.injEq, and_true] at hk
                obtain ⟨_, rfl⟩ := hk
                have hrow := zrow_rel hzrel.cells (n * z) (by omega)
                obtain ⟨cs, h1, h2⟩ := fillV_rel _ vs _ _ cells _ hp hrow hf
                have hcs : cs.size = n * z := by rw [← h2.1, fillV_length _ vs _ cells hf]; simp [zrow]
                refine ⟨rfl, cs, e', .slice (some ⟨w.heap.size, 0, none⟩) n n, ?_, h2, fun b => VRel.sl (x := 0) (upd_same _ _ _) (Nat.le_refl _) (fun _ => rfl) (by omega)⟩
                have hps : (ps.map fun (i, x) => (i, e x)) = (ps.toList.map fun (i, x) => (i, e x)).toArray := by
                  apply Array.ext'
                  simp
                have hlim' : ¬ (2 ^ 24 < n * z) := by simp; omega
                have hb : (Instr.buildSlice t n (ps.toList.map fun (i, x) => (i, e x)).toArray).run P w = .ok (.slice (some ⟨w.heap.size, 0, none⟩) n n) (w.alloc (.cells cs e')) := by
                  simp only [Instr.buildSlice, Sem.run_bind, run_underlying (telem_spec he), Result.andThen_ok, tsize_run hz, gt_iff_lt, hlim', if_false]
                  by_cases h0 : n * z = 0
                  · have hr0 : ∀ f : Nat → Value, (Array.range (n * z)).map f = #[] := fun f => Array.eq_empty_of_size_eq_zero (by simp [h0])
                    rw [hr0] at h1
                    rw [if_pos h0]
                    simp only [Sem.run_bind, Sem.run_pure, Result.andThen_ok, hr0, h1, newRow, run_newObj, World.alloc_eq]
                  · rw [if_neg h0]
                    simp only [Sem.run_bind, hzr, Sem.run_pure, Result.andThen_ok, h1, newRow, run_newObj, World.alloc_eq]
                simp only [execOp, ho, hps, Sem.run_bind, hb, Result.andThen_ok, Sem.run_pure]
            · cases hk
        · cases h
      · cases h
    · cases h
  · cases h

/-! ### What neither makes nor writes -/

theorem evBytes_none {P : Program} {H : Heap} {src dst : TypeId} {x : V} (h : (telem P dst).isSome = false) : evBytes P H src dst x = none := by
  unfold evBytes
  cases hd : telem P dst with
  | none => split <;> simp_all
  | some e => rw [hd] at h; cases h

theorem evBuiltin_still {P : Program} {ρ : Operand → Option V} {o : Oper} {H H' : Heap} {b : Builtin} {args : List Operand} {ts : List TypeId} {v : V} (hb : b ≠ .append ∧ b ≠ .copy ∧ b ≠ .clear)
    (h : evBuiltin P ρ o H b args ts = some (v, H')) : H' = H ∧ ∀ H0, evBuiltin P ρ o H0 b args ts = some (v, H0) := by
  have hk : ∀ (x : Option V) (v : V) (H H' : Heap), keep H x = some (v, H') → H' = H ∧ ∀ H0, keep H0 x = some (v, H0) := by
    intro x v H H' h
    obtain ⟨h1, h2⟩ := keep_some h
    exact ⟨h2, fun H0 => by rw [h1]; rfl⟩
  unfold evBuiltin at h ⊢
  split at h
  · exact absurd rfl hb.1
  · exact absurd rfl hb.2.1
  · exact absurd rfl hb.2.2
  · split at h
    · split at h
      · split at h
        · rename_i v' hv'
          cases h
          simp_all
        · rename_i hv'
          obtain ⟨h1, h2⟩ := hk _ _ _ _ h
          refine ⟨h1, fun H0 => ?_⟩
          simp_all
      · cases h
    · exact hk _ _ _ _ h
  · exact hk _ _ _ _ h

theorem evA_still {P : Program} {ρ : Operand → Option V} {o : Oper} {H H' : Heap} {v : V} (hx : isX P o = false) (ha : isA o = false) (h : evA P ρ o H = some (v, H')) :
    H' = H ∧ (isL o = false → ∀ H0, evA P ρ o H0 = some (v, H0)) := by
  have hk : ∀ (x : Option V) (v : V) (H H' : Heap), keep H x = some (v, H') → H' = H ∧ ∀ H0, keep H0 x = some (v, H0) := by
    intro x v H H' h
    obtain ⟨h1, h2⟩ := keep_some h
    exact ⟨h2, fun H0 => by rw [h1]; rfl⟩
  unfold isX at hx
  split at hx
  · cases hx
  unfold isA at ha
  unfold isL
  unfold evA at h ⊢
  cases ho : o.op with
  | call c =>
    simp only [ho] at h hx ⊢
    cases hc : c.callee with
    | builtin b =>
      simp only [hc] at h hx ⊢
      have := evBuiltin_still (by refine ⟨?_, ?_, ?_⟩ <;> (rintro rfl; simp at hx)) h
      exact ⟨this.1, fun _ => this.2⟩
    | value f => simp [hc] at h
    | invoke r m => simp [hc] at h
  | convert src dst x =>
    simp only [ho] at h hx ⊢
    split at h
    · rw [evBytes_none hx] at h
      simp only at h
      split at h
      · cases h
        exact ⟨rfl, fun h => by cases h⟩
      · exact ⟨(hk _ _ _ _ h).1, fun h => by cases h⟩
    · cases h
  | slice t x lo hi mx =>
    simp only [ho] at h ⊢
    cases mx with
    | none =>
      simp only at h
      split at h
      · split at h
        · cases h
          exact ⟨rfl, fun h => by cases h⟩
        · exact ⟨(hk _ _ _ _ h).1, fun h => by cases h⟩
      · cases h
    | some m => exact ⟨(hk _ _ _ _ h).1, fun h => by cases h⟩
  | load t x =>
    simp only [ho] at h ⊢
    split at h
    · exact ⟨(hk _ _ _ _ h).1, fun h => by cases h⟩
    · cases h
  | lookup t m k c =>
    simp only [ho] at h ⊢
    cases c with
    | true => exact ⟨(hk _ _ _ _ h).1, fun h => by cases h⟩
    | false =>
      simp only at h
      split at h
      · split at h
        · exact ⟨(hk _ _ _ _ h).1, fun h => by cases h⟩
        · cases h
      · cases h
  | alloc t => simp [ho] at ha
  | box t x => simp [ho] at ha
  | buildSlice t n ps => simp [ho] at ha
  | assign x => simp [ho] at hx
  | store t x y => simp [ho] at hx
  | makeSlice t l c => simp [ho] at hx
  | makeFunc fn first caps =>
    simp only [ho] at h ⊢
    cases fn <;> (simp only at h ⊢; (repeat' split at h) <;> first
      | (cases h; done)
      | (obtain ⟨h1, h2⟩ := keep_some h; subst h2; exact ⟨rfl, fun _ H0 => by simp_all [keep]⟩)
      | (cases h; exact ⟨by trivial, fun _ H0 => by simp_all⟩))
  | binOp op t x y yt =>
    simp only [ho] at h ⊢
    (repeat' split at h) <;> first
      | (cases h; done)
      | (cases h; exact ⟨by trivial, fun _ H0 => by simp_all⟩)
  | _ =>
    simp only [ho] at h ⊢
    (repeat' split at h) <;> first
      | (cases h; done)
      | (obtain ⟨h1, h2⟩ := keep_some h; subst h2; exact ⟨rfl, fun _ H0 => by simp_all [keep]⟩)
      | (cases h; exact ⟨by trivial, fun _ H0 => by simp_all⟩)

/-! ### Operands alone count -/

theorem concO_congr {ρ ρ' : Operand → Option V} {x : Operand} (h : ρ x = ρ' x) : concO ρ x = concO ρ' x := by unfold concO; rw [h]

theorem all_congr {xs : Array Operand} {p q : Operand → Bool} (h : ∀ x ∈ xs, p x = q x) : xs.all p = xs.all q := by
  rw [Bool.eq_iff_iff, Array.all_eq_true_iff_forall_mem, Array.all_eq_true_iff_forall_mem]
  exact ⟨fun k x hx => (h x hx) ▸ k x hx, fun k x hx => (h x hx).symm ▸ k x hx⟩

theorem pureOp_congr {P : Program} {ρ ρ' : Operand → Option V} {o : Oper} (h : ∀ x ∈ o.op.operands, ρ x = ρ' x) : pureOp P ρ o = pureOp P ρ' o := by
  unfold pureOp
  split
  · rename_i hsel
    have hs : ∀ cs b, o.op ≠ .select cs b := fun cs b he => by rw [he] at hsel; simp [isSelect] at hsel
    rw [all_congr (q := fun x => (concO ρ' x).isSome) (fun x hx => by rw [concO_congr (h x hx)]),
      execOp_congr (ρ' := fun x => (concO ρ' x).getD undef) o hs (fun x hx => by rw [concO_congr (h x hx)])]
  · rfl

theorem pureCall_congr {P : Program} {call : CallF} {ρ ρ' : Operand → Option V} {o : Oper} {H : Heap} (h : ∀ x ∈ o.op.operands, ρ x = ρ' x) : pureCall P call ρ o H = pureCall P call ρ' o H := by
  unfold pureCall
  split
  · rename_i hsel
    have hs : ∀ cs b, o.op ≠ .select cs b := fun cs b he => by rw [he] at hsel; simp [isSelect] at hsel
    rw [all_congr (q := fun x => (concO ρ' x).isSome) (fun x hx => by rw [concO_congr (h x hx)]),
      execOp_congr (ρ' := fun x => (concO ρ' x).getD undef) o hs (fun x hx => by rw [concO_congr (h x hx)])]
  · rfl

theorem partsV_congr {ρ ρ' : Operand → Option V} : ∀ (ps : List (Nat × Operand)), (∀ p ∈ ps, ρ p.2 = ρ' p.2) → partsV ρ ps = partsV ρ' ps
  | [], _ => rfl
  | (i, x) :: r, h => by
    simp only [partsV]
    rw [h (i, x) (by simp), partsV_congr r (fun p hp => h p (by simp [hp]))]

theorem listV_congr {ρ ρ' : Operand → Option V} : ∀ (xs : List Operand), (∀ x ∈ xs, ρ x = ρ' x) → listV ρ xs = listV ρ' xs
  | [], _ => rfl
  | x :: r, h => by
    simp only [listV]
    rw [h x (by simp), listV_congr r (fun p hp => h p (by simp [hp]))]

theorem optV_congr {ρ ρ' : Operand → Option V} (x : Option Operand) (h : ∀ y ∈ x.toArray, ρ y = ρ' y) : optV ρ x = optV ρ' x := by
  cases x with
  | none => rfl
  | some x => simp only [optV]; rw [h x (by simp)]

theorem evBuiltin_congr {P : Program} {ρ ρ' : Operand → Option V} {o : Oper} {H : Heap} {b : Builtin} {args : List Operand} {ts : List TypeId} (h : ∀ x ∈ o.op.operands, ρ x = ρ' x) (ha : ∀ x ∈ args, ρ x = ρ' x) :
    evBuiltin P ρ o H b args ts = evBuiltin P ρ' o H b args ts := by
  have hp := pureOp_congr (P := P) h
  unfold evBuiltin
  rw [hp]
  match args, ha with
  | [], _ => rfl
  | [x], ha =>
    have e1 := ha x (by simp)
    cases b <;> rcases ts with _ | ⟨t, _ | ⟨tx, _ | _⟩⟩ <;> first | rfl | simp only [e1]
  | [x, y], ha =>
    have e1 := ha x (by simp)
    have e2 := ha y (by simp)
    cases b <;> rcases ts with _ | ⟨t, _ | ⟨tx, _ | _⟩⟩ <;> first | rfl | simp only [e1, e2]
  | x :: y :: z :: r, _ => rfl

theorem evA_congr {P : Program} {ρ ρ' : Operand → Option V} {o : Oper} {H : Heap} (h : ∀ x ∈ o.op.operands, ρ x = ρ' x) : evA P ρ o H = evA P ρ' o H := by
  have hp := pureOp_congr (P := P) h
  unfold evA
  cases ho : o.op <;> simp only [ho, Op.operands] at h ⊢
  case build t ps => rw [partsV_congr ps.toList fun p hp => h p.2 (by simp; exact ⟨p.1, by simpa using hp⟩)]
  case buildSlice t n ps => rw [partsV_congr ps.toList fun p hp => h p.2 (by simp; exact ⟨p.1, by simpa using hp⟩)]
  case makeFunc fn first caps =>
    cases fn <;> simp only [hp]
    rw [listV_congr caps.toList fun x hx => h x (by simp; exact .inr (by simpa using hx))]
  case call c =>
    split
    · exact evBuiltin_congr (by rw [ho]; exact h) (fun x hx => h x (by simp [Call.operands]; exact .inr (by simpa using hx)))
    · rfl
  case lookup t m k c =>
    cases c <;> simp only [hp]
    rw [h m (by simp), h k (by simp)]
  case slice t x lo hi mx =>
    cases mx <;> simp only [hp]
    rw [optV_congr lo fun y hy => h y (by simp at hy ⊢; simp [hy]), optV_congr hi fun y hy => h y (by simp at hy ⊢; simp [hy]), h x (by simp)]
  all_goals (first | rfl | (simp_all; done) | (simp only [hp]; done) | skip)

theorem evM_congr {P : Program} {ρ ρ' : Operand → Option V} {o : Oper} {H : Heap} (h : ∀ x ∈ o.op.operands, ρ x = ρ' x) : evM P ρ o H = evM P ρ' o H := by
  unfold evM
  cases ho : o.op <;> simp only [ho, Op.operands] at h ⊢
  case makeMap t r => cases r <;> rfl
  case mapUpdate t m k x => rw [h m (by simp), h k (by simp), h x (by simp)]
  case call c =>
    split
    · rename_i x t hc ha ht
      rw [h x (by simp [Call.operands]; exact .inr (by have : x ∈ c.args.toList := by rw [ha]; simp
                                                       simpa using this))]
    · rfl

theorem evOp_congr {P : Program} {call : CallF} {ρ ρ' : Operand → Option V} {o : Oper} {H : Heap} (h : ∀ x ∈ o.op.operands, ρ x = ρ' x) : evOp P call ρ o H = evOp P call ρ' o H := by
  have hA := evA_congr (P := P) (H := H) h
  have hC := pureCall_congr (P := P) (call := call) (H := H) h
  have hM := evM_congr (P := P) (H := H) h
  unfold evOp
  rw [hM]
  split
  · rfl
  cases ho : o.op <;> simp only [hA]
  rename_i c
  simp only [ho, Op.operands] at h
  have hargs : ∀ x ∈ c.args.toList, ρ x = ρ' x := fun x hx => h x (by simp [Call.operands]; exact .inr (by simpa using hx))
  cases hc : c.callee with
  | builtin b => exact evBuiltin_congr (by rw [ho]; exact h) hargs
  | value f =>
    simp only [hC]
    rw [listV_congr _ hargs, h f (by simp [Call.operands, hc])]
  | invoke r m =>
    simp only [hC]
    rw [listV_congr _ hargs, h r (by simp [Call.operands, hc])]

end Go.Proofs.Ev
