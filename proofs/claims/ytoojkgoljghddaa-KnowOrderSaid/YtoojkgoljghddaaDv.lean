/-
  What is proved here: a run of a program's text on values that stay, are owned or are variables, is followed by the run on blocks.
  Conditions: none.
-/
import Derived.Test.YtoojkgoljghddaaEv2
set_option linter.unusedVariables false
set_option linter.unusedSimpArgs false
namespace Go.Proofs.Dv
open Go Go.RowKit Go.Proofs.Ev

/-- A value that stays: a slice is its elements' cells, a pointer the cells from there on. -/
inductive F where
  | bool (b : Bool)
  | int (k : IntKind) (n : Int)
  | str (s : List UInt8)
  | nilp
  | fp (cs : List F)
  | list (es : List (List F))
  | fn (f : Nat) (cs : List F)
  | nilfn
  | ifc (t : Nat) (x : F)
  | nilifc
  | agg (cs : List F)
  | tup (cs : List F)
  | raw (a : Addr)
  deriving Inhabited

/-- A value of the run that goes with one that stays; fz: the blocks that stay. -/
inductive FR (fz : Nat → Prop) (H : Heap) : F → V → Prop
  | bool (b : Bool) : FR fz H (.bool b) (.bool b)
  | int (k : IntKind) (n : Int) : FR fz H (.int k n) (.int k n)
  | str (s : List UInt8) : FR fz H (.str s) (.str s)
  | nilp : FR fz H .nilp (.ptr none)
  | fp {cs : List F} {b o : Nat} {k : Blk} (hf : fz b) (hk : H[b]? = some k) (hs : k.st ≠ 0) (hl : o + cs.length ≤ k.cells.length)
      (h : ∀ (j : Nat) (x : F) (u : V), cs[j]? = some x → k.cells[o + j]? = some u → FR fz H x u) : FR fz H (.fp cs) (.ptr (some (b, o)))
  | nil0 : FR fz H (.list []) (.sl none 0)
  | nil1 (p : Nat × Nat × Nat) : FR fz H (.list []) (.sl (some p) 0)
  | list {es : List (List F)} {b o z : Nat} {k : Blk} (hf : fz b) (hk : H[b]? = some k) (hs : k.st ≠ 0) (hl : o + es.length * z ≤ k.cells.length) (hz : ∀ (i : Nat) (e : List F), es[i]? = some e → e.length = z)
      (h : ∀ (i j : Nat) (e : List F) (x : F) (u : V), es[i]? = some e → e[j]? = some x → k.cells[o + i * z + j]? = some u → FR fz H x u) : FR fz H (.list es) (.sl (some (b, o, z)) es.length)
  | fn {f : Nat} {cs : List F} {vs : List V} (hl : cs.length = vs.length) (h : ∀ (j : Nat) (x : F) (u : V), cs[j]? = some x → vs[j]? = some u → FR fz H x u) : FR fz H (.fn f cs) (.fn f vs)
  | nilfn : FR fz H .nilfn .nilfn
  | ifc {t : Nat} {x : F} {v : V} (h : FR fz H x v) : FR fz H (.ifc t x) (.ifc t v)
  | nilifc : FR fz H .nilifc .nilifc
  | agg {cs : List F} {vs : List V} (hl : cs.length = vs.length) (h : ∀ (j : Nat) (x : F) (u : V), cs[j]? = some x → vs[j]? = some u → FR fz H x u) : FR fz H (.agg cs) (.agg vs)
  | tup {cs : List F} {vs : List V} (hl : cs.length = vs.length) (h : ∀ (j : Nat) (x : F) (u : V), cs[j]? = some x → vs[j]? = some u → FR fz H x u) : FR fz H (.tup cs) (.tup vs)
  | raw (a : Addr) : FR fz H (.raw a) (.raw a)

theorem FR.mono {fz fz' : Nat → Prop} {H H' : Heap} (h1 : ∀ b, fz b → fz' b) (h2 : ∀ b, fz b → b < H.length → H'[b]? = H[b]?) {x : F} {v : V} (h : FR fz H x v) : FR fz' H' x v := by
  have lt : ∀ b k, H[b]? = some k → b < H.length := fun b k hk => by
    rcases Nat.lt_or_ge b H.length with h' | h'
    · exact h'
    · rw [List.getElem?_eq_none h'] at hk; cases hk
  induction h with
  | bool b => exact .bool b
  | int k n => exact .int k n
  | str s => exact .str s
  | nilp => exact .nilp
  | fp hf hk hs hl h ih => exact .fp (h1 _ hf) ((h2 _ hf (lt _ _ hk)).trans hk) hs hl ih
  | nil0 => exact .nil0
  | nil1 p => exact .nil1 p
  | list hf hk hs hl hz h ih => exact .list (h1 _ hf) ((h2 _ hf (lt _ _ hk)).trans hk) hs hl hz ih
  | fn hl h ih => exact .fn hl ih
  | nilfn => exact .nilfn
  | ifc h ih => exact .ifc ih
  | nilifc => exact .nilifc
  | agg hl h ih => exact .agg hl ih
  | tup hl h ih => exact .tup hl ih
  | raw a => exact .raw a

/-- Rows that go together. -/
def Row {α β : Type} (R : α → β → Prop) (xs : List α) (ys : List β) : Prop := xs.length = ys.length ∧ ∀ (i : Nat) (x : α) (y : β), xs[i]? = some x → ys[i]? = some y → R x y

section
variable {α β : Type} {R : α → β → Prop}
theorem lt_of {α : Type} {xs : List α} {i : Nat} {x : α} (h : xs[i]? = some x) : i < xs.length := by
  rcases Nat.lt_or_ge i xs.length with h' | h'
  · exact h'
  · rw [List.getElem?_eq_none h'] at h; cases h
theorem at_of {α : Type} {xs : List α} {i : Nat} (h : i < xs.length) : ∃ x, xs[i]? = some x := ⟨_, List.getElem?_eq_getElem h⟩
theorem Row.nil : Row R [] [] := ⟨rfl, fun i x y h => by simp at h⟩
theorem Row.cons {x : α} {y : β} {xs : List α} {ys : List β} (h : R x y) (k : Row R xs ys) : Row R (x :: xs) (y :: ys) := by
  refine ⟨by simp [k.1], fun i a b ha hb => ?_⟩
  cases i with
  | zero => simp at ha hb; subst ha; subst hb; exact h
  | succ i => exact k.2 i a b (by simpa using ha) (by simpa using hb)
theorem Row.cons_inv {x : α} {xs : List α} {ys : List β} (h : Row R (x :: xs) ys) : ∃ y zs, ys = y :: zs ∧ R x y ∧ Row R xs zs := by
  cases ys with
  | nil => have := h.1; simp at this
  | cons y zs => exact ⟨y, zs, rfl, h.2 0 x y rfl rfl, by have := h.1; simpa using this, fun i a b ha hb => h.2 (i + 1) a b (by simpa using ha) (by simpa using hb)⟩
theorem Row.nil_inv {ys : List β} (h : Row R [] ys) : ys = [] := List.eq_nil_of_length_eq_zero h.1.symm
theorem Row.get {xs : List α} {ys : List β} (h : Row R xs ys) {i : Nat} {x : α} (hx : xs[i]? = some x) : ∃ y, ys[i]? = some y ∧ R x y := by
  obtain ⟨y, hy⟩ := at_of (xs := ys) (by rw [← h.1]; exact lt_of hx)
  exact ⟨y, hy, h.2 i x y hx hy⟩
theorem Row.append {xs us : List α} {ys vs : List β} (h : Row R xs ys) (k : Row R us vs) : Row R (xs ++ us) (ys ++ vs) := by
  refine ⟨by simp [h.1, k.1], fun i a b ha hb => ?_⟩
  rcases Nat.lt_or_ge i xs.length with hi | hi
  · rw [List.getElem?_append_left hi] at ha
    rw [List.getElem?_append_left (by rw [← h.1]; exact hi)] at hb
    exact h.2 i a b ha hb
  · rw [List.getElem?_append_right hi] at ha
    rw [List.getElem?_append_right (by rw [← h.1]; exact hi), ← h.1] at hb
    exact k.2 _ a b ha hb
theorem Row.take {xs : List α} {ys : List β} (h : Row R xs ys) (n : Nat) : Row R (xs.take n) (ys.take n) := by
  refine ⟨by simp [h.1], fun i a b ha hb => ?_⟩
  rw [List.getElem?_take] at ha hb
  split at ha
  · rename_i hi
    rw [if_pos hi] at hb
    exact h.2 i a b ha hb
  · cases ha
theorem Row.drop {xs : List α} {ys : List β} (h : Row R xs ys) (n : Nat) : Row R (xs.drop n) (ys.drop n) := by
  refine ⟨by simp [h.1], fun i a b ha hb => ?_⟩
  rw [List.getElem?_drop] at ha hb
  exact h.2 _ a b ha hb
theorem Row.set {xs : List α} {ys : List β} (h : Row R xs ys) (n : Nat) {x : α} {y : β} (hxy : R x y) : Row R (xs.set n x) (ys.set n y) := by
  refine ⟨by simp [h.1], fun i a b ha hb => ?_⟩
  rw [List.getElem?_set] at ha hb
  by_cases hn : n = i
  · subst hn
    simp only [if_true] at ha hb
    split at ha
    · split at hb
      · cases ha; cases hb; exact hxy
      · cases hb
    · cases ha
  · rw [if_neg hn] at ha hb
    exact h.2 i a b ha hb
theorem Row.mono {R' : α → β → Prop} {xs : List α} {ys : List β} (h : Row R xs ys) (k : ∀ x y, R x y → R' x y) : Row R' xs ys := ⟨h.1, fun i x y hx hy => k _ _ (h.2 i x y hx hy)⟩
end

/-- The blocks' part that goes with cells. -/
theorem Row.of_cells {R : F → V → Prop} {cs : List F} {ws : List V} {o : Nat} (hl : o + cs.length ≤ ws.length) (h : ∀ (j : Nat) (x : F) (u : V), cs[j]? = some x → ws[o + j]? = some u → R x u) : Row R cs ((ws.drop o).take cs.length) := by
  refine ⟨by simp; omega, fun i x y hx hy => h i x y hx ?_⟩
  rw [List.getElem?_take_of_lt (lt_of hx), List.getElem?_drop] at hy
  exact hy

/-! ### The run's own values -/

inductive D where
  | fz (x : F)
  | ow (t q z : Nat) (es : List (List F))
  | nils
  | ptr (i o : Nat)
  | ep (t k : Nat) (cs : List F) (o : Nat)
  | agg (ds : List D)
  | tup (ds : List D)
  | fn (f : Nat) (ds : List D)
  | dead
  | mp (i : Nat)
  deriving Inhabited

/-- What is known of the blocks: which stay; where a slice of one's own lies (some none: it is nil); where a variable lies. -/
structure Ct where
  fz : Nat → Prop
  tk : Nat → Option (Option (Nat × Nat × Nat))
  vr : Nat → Option Nat
  nx : Nat

inductive DR (c : Ct) (H : Heap) : D → V → Prop
  | fz {x : F} {v : V} (h : FR c.fz H x v) : DR c H (.fz x) v
  | ow0 {t q z : Nat} {es : List (List F)} {v : V} (h : c.tk t = none) (hn : t < c.nx) : DR c H (.ow t q z es) v
  | own {t q z : Nat} (h : c.tk t = some none) (hn : t < c.nx) : DR c H (.ow t q z []) (.sl none 0)
  | ow {t q b o z : Nat} {es : List (List F)} {k : Blk} (ht : c.tk t = some (some (b, o, z))) (hn : t < c.nx) (hk : H[b]? = some k) (hl : o + (q + es.length) * z ≤ k.cells.length)
      (hz : ∀ (i : Nat) (e : List F), es[i]? = some e → e.length = z)
      (h : ∀ (i j : Nat) (e : List F) (x : F) (u : V), es[i]? = some e → e[j]? = some x → k.cells[o + (q + i) * z + j]? = some u → FR c.fz H x u) : DR c H (.ow t q z es) (.sl (some (b, o + q * z, z)) es.length)
  | nils : DR c H .nils (.sl none 0)
  | ptr {i o b : Nat} (h : c.vr i = some b) : DR c H (.ptr i o) (.ptr (some (b, o)))
  | ep0 {t k o : Nat} {cs : List F} {v : V} (h : c.tk t = none) (hn : t < c.nx) : DR c H (.ep t k cs o) v
  | ep {t k b o z p : Nat} {cs : List F} {kb : Blk} (ht : c.tk t = some (some (b, o, z))) (hn : t < c.nx) (hk : H[b]? = some kb) (hl : o + (k + 1) * z ≤ kb.cells.length) (hz : cs.length = z)
      (h : ∀ (j : Nat) (x : F) (u : V), cs[j]? = some x → kb.cells[o + k * z + j]? = some u → FR c.fz H x u) : DR c H (.ep t k cs p) (.ptr (some (b, o + k * z + p)))
  | agg {ds : List D} {vs : List V} (hl : ds.length = vs.length) (h : ∀ (j : Nat) (x : D) (u : V), ds[j]? = some x → vs[j]? = some u → DR c H x u) : DR c H (.agg ds) (.agg vs)
  | tup {ds : List D} {vs : List V} (hl : ds.length = vs.length) (h : ∀ (j : Nat) (x : D) (u : V), ds[j]? = some x → vs[j]? = some u → DR c H x u) : DR c H (.tup ds) (.tup vs)
  | fn {f : Nat} {ds : List D} {vs : List V} (hl : ds.length = vs.length) (h : ∀ (j : Nat) (x : D) (u : V), ds[j]? = some x → vs[j]? = some u → DR c H x u) : DR c H (.fn f ds) (.fn f vs)
  | dead {v : V} : DR c H .dead v
  | mp {i b : Nat} (h : c.vr i = some (b + 1)) : DR c H (.mp i) (.mp b)

/-- Blocks that the run may turn. -/
def Ct.own (c : Ct) (b : Nat) : Prop := (∃ t o z, c.tk t = some (some (b, o, z))) ∨ ∃ i, c.vr i = some b

/-- What stays known. -/
structure Step (c : Ct) (H : Heap) (c' : Ct) (H' : Heap) : Prop where
  fz : ∀ b, c.fz b → c'.fz b
  keep : ∀ b, c.fz b → b < H.length → H'[b]? = H[b]?
  nx : c.nx ≤ c'.nx
  tk : ∀ t, t < c.nx → c'.tk t = none ∨ (c'.tk t = c.tk t ∧ ∀ b o z, c.tk t = some (some (b, o, z)) → H'[b]? = H[b]?)
  vr : ∀ i b, c.vr i = some b → c'.vr i = some b

theorem Step.refl (c : Ct) (H : Heap) : Step c H c H := ⟨fun _ h => h, fun _ _ _ => rfl, Nat.le_refl _, fun _ _ => .inr ⟨rfl, fun _ _ _ _ => rfl⟩, fun _ _ h => h⟩

theorem DR.mono {c c' : Ct} {H H' : Heap} (s : Step c H c' H') {d : D} {v : V} (h : DR c H d v) : DR c' H' d v := by
  induction h with
  | fz h => exact .fz (h.mono s.fz s.keep)
  | ow0 h hn =>
    refine .ow0 ?_ (Nat.lt_of_lt_of_le hn s.nx)
    rcases s.tk _ hn with h' | ⟨h', _⟩
    · exact h'
    · rw [h']; exact h
  | own h hn =>
    rcases s.tk _ hn with h' | ⟨h', _⟩
    · exact .ow0 h' (Nat.lt_of_lt_of_le hn s.nx)
    · exact .own (h'.trans h) (Nat.lt_of_lt_of_le hn s.nx)
  | ow ht hn hk hl hz h =>
    rcases s.tk _ hn with h' | ⟨h', hb⟩
    · exact .ow0 h' (Nat.lt_of_lt_of_le hn s.nx)
    · exact .ow (h'.trans ht) (Nat.lt_of_lt_of_le hn s.nx) ((hb _ _ _ ht).trans hk) hl hz fun i j e x u h1 h2 h3 => (h i j e x u h1 h2 h3).mono s.fz s.keep
  | nils => exact .nils
  | ptr h => exact .ptr (s.vr _ _ h)
  | ep0 h hn =>
    refine .ep0 ?_ (Nat.lt_of_lt_of_le hn s.nx)
    rcases s.tk _ hn with h' | ⟨h', _⟩
    · exact h'
    · rw [h']; exact h
  | ep ht hn hk hl hz h =>
    rcases s.tk _ hn with h' | ⟨h', hb⟩
    · exact .ep0 h' (Nat.lt_of_lt_of_le hn s.nx)
    · exact .ep (h'.trans ht) (Nat.lt_of_lt_of_le hn s.nx) ((hb _ _ _ ht).trans hk) hl hz fun j x u h1 h2 => (h j x u h1 h2).mono s.fz s.keep
  | agg hl h ih => exact .agg hl ih
  | tup hl h ih => exact .tup hl ih
  | fn hl h ih => exact .fn hl ih
  | dead => exact .dead
  | mp h => exact .mp (s.vr _ _ h)

/-- The state: the variables (may it be written?), the slices of one's own that are alive, the next name. -/
structure St where
  S : List (Bool × List D)
  L : List Nat
  c : Nat

structure SR (c : Ct) (st : St) (H : Heap) : Prop where
  nx : c.nx = st.c
  tl : ∀ t, t ∈ st.L ↔ c.tk t ≠ none
  tlt : ∀ t, c.tk t ≠ none → t < c.nx
  tok : ∀ t b o z, c.tk t = some (some (b, o, z)) → ¬ c.fz b ∧ ∃ k, H[b]? = some k ∧ k.st = 2
  tinj : ∀ t t' b o z o' z', c.tk t = some (some (b, o, z)) → c.tk t' = some (some (b, o', z')) → t = t'
  var : ∀ i w ds, st.S[i]? = some (w, ds) → ∃ b k, c.vr i = some b ∧ H[b]? = some k ∧ Row (DR c H) ds k.cells ∧ (w = true → 2 ≤ k.st ∧ ¬ c.fz b) ∧ (w = false → k.st ≠ 0 ∧ c.fz b)
  vlt : ∀ i b, c.vr i = some b → i < st.S.length
  vinj : ∀ i j b, c.vr i = some b → c.vr j = some b → i = j
  vt : ∀ i t b o z, c.vr i = some b → c.tk t = some (some (b, o, z)) → False
  flt : ∀ b, c.fz b → b < H.length

/-- The run goes on; W: the variables that are written. -/
structure Goes (W : List Nat) (c : Ct) (st : St) (H : Heap) (c' : Ct) (st' : St) (H' : Heap) : Prop where
  sr : SR c' st' H'
  step : Step c H c' H'
  len : H.length ≤ H'.length
  frame : ∀ b, b < H.length → ¬ c.own b → H'[b]? = H[b]?
  own : ∀ b, c'.own b → c.own b ∨ H.length ≤ b
  fzn : ∀ b, c'.fz b → c.fz b ∨ c.own b ∨ H.length ≤ b
  vkeep : ∀ i b, c.vr i = some b → i ∉ W → H'[b]? = H[b]?

theorem SR.own_lt {c : Ct} {st : St} {H : Heap} (s : SR c st H) {b : Nat} (h : c.own b) : b < H.length := by
  rcases h with ⟨t, o, z, h⟩ | ⟨i, h⟩
  · obtain ⟨_, k, hk, _⟩ := s.tok t b o z h
    exact lt_of hk
  · have hi := s.vlt i b h
    obtain ⟨⟨w, ds⟩, hx⟩ := at_of hi
    obtain ⟨b', k, h1, h2, _⟩ := s.var i w ds hx
    rw [h] at h1
    cases h1
    exact lt_of h2

theorem Goes.refl {c : Ct} {st : St} {H : Heap} (s : SR c st H) : Goes [] c st H c st H :=
  ⟨s, Step.refl c H, Nat.le_refl _, fun _ _ _ => rfl, fun _ h => .inl h, fun _ h => .inl h, fun _ _ _ _ => rfl⟩

theorem Goes.trans {W W' : List Nat} {c c' c'' : Ct} {st st' st'' : St} {H H' H'' : Heap} (s : SR c st H) (g : Goes W c st H c' st' H') (k : Goes W' c' st' H' c'' st'' H'') : Goes (W ++ W') c st H c'' st'' H'' where
  sr := k.sr
  step := {
    fz := fun b h => k.step.fz b (g.step.fz b h)
    keep := fun b h hl => (k.step.keep b (g.step.fz b h) (Nat.lt_of_lt_of_le hl g.len)).trans (g.step.keep b h hl)
    nx := Nat.le_trans g.step.nx k.step.nx
    tk := fun t ht => by
      rcases k.step.tk t (Nat.lt_of_lt_of_le ht g.step.nx) with h | ⟨h1, h2⟩
      · exact .inl h
      · rcases g.step.tk t ht with h | ⟨h3, h4⟩
        · exact .inl (h1.trans h)
        · exact .inr ⟨h1.trans h3, fun b o z hb => (h2 b o z (h3.trans hb)).trans (h4 b o z hb)⟩
    vr := fun i b h => k.step.vr i b (g.step.vr i b h) }
  len := Nat.le_trans g.len k.len
  frame b hb hn := by
    have hn' : ¬ c'.own b := fun h => by
      rcases g.own b h with h | h
      · exact hn h
      · omega
    exact (k.frame b (Nat.lt_of_lt_of_le hb g.len) hn').trans (g.frame b hb hn)
  own b h := by
    rcases k.own b h with h | h
    · exact g.own b h
    · exact .inr (Nat.le_trans g.len h)
  fzn b h := by
    rcases k.fzn b h with h | h | h
    · exact g.fzn b h
    · rcases g.own b h with h | h
      · exact .inr (.inl h)
      · exact .inr (.inr h)
    · exact .inr (.inr (Nat.le_trans g.len h))
  vkeep i b h hW := by
    simp only [List.mem_append, not_or] at hW
    exact (k.vkeep i b (g.step.vr i b h) hW.2).trans (g.vkeep i b h hW.1)

/-! ### Steps of a state -/

theorem get_append_lt {H : Heap} {k : Blk} {b : Nat} (h : b < H.length) : (H ++ [k])[b]? = H[b]? := List.getElem?_append_left h
theorem get_append_eq {H : Heap} {k : Blk} : (H ++ [k])[H.length]? = some k := by rw [List.getElem?_append_right (Nat.le_refl _)]; simp

/-- A new variable. -/
theorem Goes.var {c : Ct} {st : St} {H : Heap} (s : SR c st H) (ds : List D) (vs : List V) (n : Nat) (hn : 2 ≤ n) (hr : Row (DR c H) ds vs) :
    Goes [] c st H { c with vr := fun i => if i = st.S.length then some H.length else c.vr i } { st with S := st.S ++ [(true, ds)] } (H ++ [⟨vs, n⟩]) := by
  have hstep : Step c H { c with vr := fun i => if i = st.S.length then some H.length else c.vr i } (H ++ [⟨vs, n⟩]) := by
    refine ⟨fun _ h => h, fun b _ hb => get_append_lt hb, Nat.le_refl _, fun t _ => .inr ⟨rfl, fun b o z h => ?_⟩, fun i b h => ?_⟩
    · exact get_append_lt (s.own_lt (.inl ⟨t, o, z, h⟩))
    · have := s.vlt i b h
      show (if i = st.S.length then _ else _) = _
      rw [if_neg (by omega)]
      exact h
  have hvr : ∀ i b, (if i = st.S.length then some H.length else c.vr i) = some b → (i = st.S.length ∧ b = H.length) ∨ (i < st.S.length ∧ c.vr i = some b) := fun i b h => by
    split at h
    · rename_i hi; cases h; exact .inl ⟨hi, rfl⟩
    · exact .inr ⟨s.vlt i b h, h⟩
  refine ⟨⟨s.nx, s.tl, s.tlt, fun t b o z h => ?_, s.tinj, ?_, ?_, ?_, ?_, fun b h => by have := s.flt b h; simp; omega⟩, hstep, by simp, fun b hb _ => get_append_lt hb, ?_, fun b h => .inl h, fun i b h _ => get_append_lt (s.own_lt (.inr ⟨i, h⟩))⟩
  · obtain ⟨h1, k, hk, h2⟩ := s.tok t b o z h
    exact ⟨h1, k, by rw [get_append_lt (lt_of hk)]; exact hk, h2⟩
  · intro i w ds' h
    rw [List.getElem?_append] at h
    split at h
    · rename_i hlt
      obtain ⟨b, k, h1, h2, h3, h4, h5⟩ := s.var i w ds' h
      refine ⟨b, k, hstep.vr i b h1, by rw [get_append_lt (lt_of h2)]; exact h2, h3.mono fun _ _ h => h.mono hstep, h4, h5⟩
    · rename_i hge
      have hi : i = st.S.length := by
        have := lt_of h
        simp at this
        omega
      subst hi
      simp at h
      obtain ⟨rfl, rfl⟩ := h
      refine ⟨H.length, ⟨vs, n⟩, by simp, get_append_eq, hr.mono fun _ _ h => h.mono hstep, fun _ => ⟨hn, fun hf => ?_⟩, fun h => by cases h⟩
      have := s.flt _ hf
      omega
  · intro i b h
    rcases hvr i b h with ⟨rfl, _⟩ | ⟨h, _⟩ <;> simp <;> omega
  · intro i j b hi hj
    rcases hvr i b hi with ⟨rfl, rfl⟩ | ⟨h1, h2⟩ <;> rcases hvr j _ hj with ⟨rfl, h3⟩ | ⟨h3, h4⟩
    · rfl
    · have := s.own_lt (.inr ⟨j, h4⟩); omega
    · subst h3
      have := s.own_lt (.inr ⟨i, h2⟩); omega
    · exact s.vinj i j b h2 h4
  · intro i t b o z hi ht
    rcases hvr i b hi with ⟨rfl, rfl⟩ | ⟨h1, h2⟩
    · have := s.own_lt (.inl ⟨t, o, z, ht⟩); omega
    · exact s.vt i t b o z h2 ht
  · intro b h
    rcases h with ⟨t, o, z, h⟩ | ⟨i, h⟩
    · exact .inl (.inl ⟨t, o, z, h⟩)
    · rcases hvr i b h with ⟨rfl, rfl⟩ | ⟨_, h2⟩
      · exact .inr (Nat.le_refl _)
      · exact .inl (.inr ⟨i, h2⟩)

/-- A block that nothing names. -/
theorem Goes.junk {c : Ct} {st : St} {H : Heap} (s : SR c st H) (k : Blk) : Goes [] c st H c st (H ++ [k]) := by
  have hstep : Step c H c (H ++ [k]) := ⟨fun _ h => h, fun b _ hb => get_append_lt hb, Nat.le_refl _, fun t _ => .inr ⟨rfl, fun b o z h => get_append_lt (s.own_lt (.inl ⟨t, o, z, h⟩))⟩, fun _ _ h => h⟩
  refine ⟨⟨s.nx, s.tl, s.tlt, fun t b o z h => ?_, s.tinj, fun i w ds h => ?_, s.vlt, s.vinj, s.vt, fun b h => by have := s.flt b h; simp; omega⟩, hstep, by simp, fun b hb _ => get_append_lt hb, fun b h => .inl h, fun b h => .inl h, fun i b h _ => get_append_lt (s.own_lt (.inr ⟨i, h⟩))⟩
  · obtain ⟨h1, k', hk', h2⟩ := s.tok t b o z h
    exact ⟨h1, k', by rw [get_append_lt (lt_of hk')]; exact hk', h2⟩
  · obtain ⟨b, k', h1, h2, h3, h4, h5⟩ := s.var i w ds h
    exact ⟨b, k', h1, by rw [get_append_lt (lt_of h2)]; exact h2, h3.mono fun _ _ h => h.mono hstep, h4, h5⟩

/-- Names that end. -/
def Ct.drop (c : Ct) (ts : List Nat) : Ct := { c with tk := fun t => if t ∈ ts then none else c.tk t }
def St.drop (st : St) (ts : List Nat) : St := { st with L := st.L.filter fun t => !decide (t ∈ ts) }

theorem Step.drop (c : Ct) (H : Heap) (ts : List Nat) : Step c H (c.drop ts) H := by
  refine ⟨fun _ h => h, fun _ _ _ => rfl, Nat.le_refl _, fun t _ => ?_, fun _ _ h => h⟩
  show (if t ∈ ts then none else c.tk t) = none ∨ _
  by_cases h : t ∈ ts
  · rw [if_pos h]; exact .inl rfl
  · right
    refine ⟨?_, fun _ _ _ _ => rfl⟩
    show (if t ∈ ts then none else c.tk t) = _
    rw [if_neg h]

theorem drop_tk {c : Ct} {ts : List Nat} {t : Nat} {x : Option (Nat × Nat × Nat)} (h : (c.drop ts).tk t = some x) : t ∉ ts ∧ c.tk t = some x := by
  unfold Ct.drop at h
  simp only at h
  split at h
  · cases h
  · exact ⟨‹_›, h⟩

theorem SR.drop {c : Ct} {st : St} {H : Heap} (s : SR c st H) (ts : List Nat) : SR (c.drop ts) (st.drop ts) H := by
  refine ⟨s.nx, fun t => ?_, fun t h => ?_, fun t b o z h => s.tok t b o z (drop_tk h).2, fun t t' b o z o' z' h h' => s.tinj t t' b o z o' z' (drop_tk h).2 (drop_tk h').2, fun i w ds h => ?_, s.vlt, s.vinj,
    fun i t b o z h h' => s.vt i t b o z h (drop_tk h').2, s.flt⟩
  · show t ∈ st.L.filter _ ↔ (if t ∈ ts then none else c.tk t) ≠ none
    rw [List.mem_filter, s.tl]
    by_cases h : t ∈ ts
    · simp [h]
    · simp [h]
  · have h' : (if t ∈ ts then none else c.tk t) ≠ none := h
    split at h'
    · exact absurd rfl h'
    · exact s.tlt t h'
  · obtain ⟨b, k, h1, h2, h3, h4⟩ := s.var i w ds h
    exact ⟨b, k, h1, h2, h3.mono fun _ _ h => h.mono (Step.drop c H ts), h4⟩

theorem Goes.drop {c : Ct} {st : St} {H : Heap} (s : SR c st H) (ts : List Nat) : Goes [] c st H (c.drop ts) (st.drop ts) H := by
  refine ⟨s.drop ts, Step.drop c H ts, Nat.le_refl _, fun _ _ _ => rfl, fun b h => ?_, fun b h => .inl h, fun _ _ _ _ => rfl⟩
  rcases h with ⟨t, o, z, h⟩ | h
  · exact .inl (.inl ⟨t, o, z, (drop_tk h).2⟩)
  · exact .inl (.inr h)

/-- A new slice of one's own, in a new block (or nil). -/
def Ct.fresh (c : Ct) (x : Option (Nat × Nat × Nat)) : Ct := { c with tk := fun t => if t = c.nx then some x else c.tk t, nx := c.nx + 1 }
def St.fresh (st : St) : St := { st with L := st.c :: st.L, c := st.c + 1 }

theorem fresh_tk {c : Ct} {x y : Option (Nat × Nat × Nat)} {t : Nat} (h : (c.fresh x).tk t = some y) : (t = c.nx ∧ x = y) ∨ (t ≠ c.nx ∧ c.tk t = some y) := by
  unfold Ct.fresh at h
  simp only at h
  split at h
  · cases h; exact .inl ⟨‹_›, rfl⟩
  · exact .inr ⟨‹_›, h⟩

theorem Step.fresh {c : Ct} {H H' : Heap} (x : Option (Nat × Nat × Nat)) (hH : ∀ b, b < H.length → H'[b]? = H[b]?) (hlt : ∀ t b o z, c.tk t = some (some (b, o, z)) → b < H.length) : Step c H (c.fresh x) H' := by
  refine ⟨fun _ h => h, fun b _ hb => hH b hb, Nat.le_succ _, fun t ht => .inr ⟨?_, fun b o z h => hH b (hlt t b o z h)⟩, fun _ _ h => h⟩
  show (if t = c.nx then some x else c.tk t) = c.tk t
  rw [if_neg (by omega)]

theorem Goes.fresh {c : Ct} {st : St} {H : Heap} (s : SR c st H) (x : Option (Nat × Nat × Nat)) (H' : Heap) (hH : ∀ b, b < H.length → H'[b]? = H[b]?) (hle : H.length ≤ H'.length)
    (hx : ∀ b o z, x = some (b, o, z) → H.length ≤ b ∧ ∃ k, H'[b]? = some k ∧ k.st = 2) : Goes [] c st H (c.fresh x) st.fresh H' := by
  have hstep : Step c H (c.fresh x) H' := Step.fresh x hH fun t b o z h => s.own_lt (.inl ⟨t, o, z, h⟩)
  refine ⟨⟨by show c.nx + 1 = st.c + 1; rw [s.nx], fun t => ?_, fun t h => ?_, fun t b o z h => ?_, fun t t' b o z o' z' h h' => ?_, fun i w ds h => ?_, s.vlt, s.vinj, fun i t b o z h h' => ?_, fun b h => Nat.lt_of_lt_of_le (s.flt b h) hle⟩,
    hstep, hle, fun b hb _ => hH b hb, fun b h => ?_, fun b h => .inl h, fun i b h _ => hH b (s.own_lt (.inr ⟨i, h⟩))⟩
  · show t ∈ st.c :: st.L ↔ (if t = c.nx then some x else c.tk t) ≠ none
    rw [List.mem_cons, s.tl, s.nx]
    by_cases ht : t = st.c
    · simp [ht]
    · simp [ht]
  · show t < c.nx + 1
    have h' : (if t = c.nx then some x else c.tk t) ≠ none := h
    split at h'
    · omega
    · have := s.tlt t h'; omega
  · rcases fresh_tk h with ⟨rfl, hxb⟩ | ⟨_, h2⟩
    · obtain ⟨h3, h4⟩ := hx b o z hxb
      exact ⟨fun hf => by have := s.flt b hf; omega, h4⟩
    · obtain ⟨h3, k, hk, h4⟩ := s.tok t b o z h2
      exact ⟨h3, k, by rw [hH b (lt_of hk)]; exact hk, h4⟩
  · rcases fresh_tk h with ⟨rfl, hxb⟩ | ⟨_, h2⟩ <;> rcases fresh_tk h' with ⟨rfl, hxb'⟩ | ⟨_, h2'⟩
    · rfl
    · have := s.own_lt (.inl ⟨t', o', z', h2'⟩)
      have := (hx b o z hxb).1
      omega
    · have := s.own_lt (.inl ⟨t, o, z, h2⟩)
      have := (hx b o' z' hxb').1
      omega
    · exact s.tinj t t' b o z o' z' h2 h2'
  · obtain ⟨b, k, h1, h2, h3, h4⟩ := s.var i w ds h
    exact ⟨b, k, h1, by rw [hH b (lt_of h2)]; exact h2, h3.mono fun _ _ h => h.mono hstep, h4⟩
  · rcases fresh_tk h' with ⟨rfl, hxb⟩ | ⟨_, h2⟩
    · have := s.own_lt (.inr ⟨i, h⟩)
      have := (hx b o z hxb).1
      omega
    · exact s.vt i t b o z h h2
  · rcases h with ⟨t, o, z, h⟩ | h
    · rcases fresh_tk h with ⟨rfl, hxb⟩ | ⟨_, h2⟩
      · exact .inr (hx b o z hxb).1
      · exact .inl (.inl ⟨t, o, z, h2⟩)
    · exact .inl (.inr h)

/-- A slice of one's own whose name ends: its block may turn. -/
theorem Goes.kill {c : Ct} {st : St} {H : Heap} (s : SR c st H) {t b o z : Nat} (ht : c.tk t = some (some (b, o, z))) (k' : Blk) : Goes [] c st H (c.drop [t]) (st.drop [t]) (H.set b k') := by
  have hother : ∀ x, x ≠ b → (H.set b k')[x]? = H[x]? := fun x hx => List.getElem?_set_ne (fun e => hx e.symm)
  have hnf := (s.tok t b o z ht).1
  have hstep : Step c H (c.drop [t]) (H.set b k') := by
    refine ⟨fun _ h => h, fun x hx _ => hother x fun e => hnf (e ▸ hx), Nat.le_refl _, fun u _ => ?_, fun _ _ h => h⟩
    show (if u ∈ [t] then none else c.tk u) = none ∨ _
    by_cases h : u = t
    · subst h; simp
    · right
      refine ⟨?_, fun x o' z' hx => hother x fun e => ?_⟩
      · show (if u ∈ [t] then none else c.tk u) = _
        simp [h]
      · subst e
        exact h (s.tinj u t _ _ _ _ _ hx ht)
  have d := s.drop [t]
  refine ⟨⟨d.nx, d.tl, d.tlt, fun u x o' z' h => ?_, d.tinj, fun i w ds h => ?_, d.vlt, d.vinj, d.vt, fun x h => by rw [List.length_set]; exact d.flt x h⟩, hstep, by simp, fun x _ hx => hother x fun e => hx (e ▸ .inl ⟨t, o, z, ht⟩), fun x h => ?_, fun x h => .inl h,
    fun i x h _ => hother x fun e => s.vt i t b o z (e ▸ h) ht⟩
  · obtain ⟨h1, h2⟩ := drop_tk h
    obtain ⟨h3, k, hk, h4⟩ := s.tok u x o' z' h2
    refine ⟨h3, k, ?_, h4⟩
    rw [hother x fun e => ?_]
    · exact hk
    · subst e
      exact h1 (by rw [s.tinj u t _ _ _ _ _ h2 ht]; simp)
  · obtain ⟨x, k, h1, h2, h3, h4⟩ := s.var i w ds h
    refine ⟨x, k, h1, ?_, h3.mono fun _ _ h => h.mono hstep, h4⟩
    rw [hother x fun e => s.vt i t b o z (e ▸ h1) ht]
    exact h2
  · rcases h with ⟨u, o', z', h⟩ | h
    · exact .inl (.inl ⟨u, o', z', (drop_tk h).2⟩)
    · exact .inl (.inr h)

/-- A variable is written. -/
theorem Goes.write {c : Ct} {st : St} {H : Heap} (s : SR c st H) {i b : Nat} {ds : List D} {k : Blk} (hi : st.S[i]? = some (true, ds)) (hb : c.vr i = some b) (hk : H[b]? = some k) (ds' : List D) (vs' : List V)
    (hr : Row (DR c H) ds' vs') : Goes [i] c st H c { st with S := st.S.set i (true, ds') } (H.set b ⟨vs', k.st⟩) := by
  have hother : ∀ x, x ≠ b → (H.set b ⟨vs', k.st⟩)[x]? = H[x]? := fun x hx => List.getElem?_set_ne (fun e => hx e.symm)
  obtain ⟨b0, k0, h1, h2, h3, h4, h5⟩ := s.var i true ds hi
  rw [hb] at h1
  cases h1
  rw [hk] at h2
  cases h2
  obtain ⟨hst, hnf⟩ := h4 rfl
  have hstep : Step c H c (H.set b ⟨vs', k.st⟩) := by
    refine ⟨fun _ h => h, fun x hx _ => hother x fun e => hnf (e ▸ hx), Nat.le_refl _, fun t _ => .inr ⟨rfl, fun x o z hx => hother x fun e => s.vt i t b o z hb (e ▸ hx)⟩, fun _ _ h => h⟩
  refine ⟨⟨s.nx, s.tl, s.tlt, fun t x o z h => ?_, s.tinj, fun j w es h => ?_, fun j x h => by simp only [List.length_set]; exact s.vlt j x h, s.vinj, s.vt, fun x h => by rw [List.length_set]; exact s.flt x h⟩, hstep, by simp,
    fun x _ hx => hother x fun e => hx (e ▸ .inr ⟨i, hb⟩), fun x h => .inl h, fun x h => .inl h, fun j x h hW => hother x fun e => ?_⟩
  · obtain ⟨h6, k', hk', h7⟩ := s.tok t x o z h
    refine ⟨h6, k', ?_, h7⟩
    rw [hother x fun e => s.vt i t b o z hb (e ▸ h)]
    exact hk'
  · rw [List.getElem?_set] at h
    by_cases hij : i = j
    · subst hij
      rw [if_pos rfl, if_pos (lt_of hi)] at h
      cases h
      refine ⟨b, ⟨vs', k.st⟩, hb, List.getElem?_set_self (lt_of hk), hr.mono fun _ _ h => h.mono hstep, fun _ => ⟨hst, hnf⟩, fun h => by cases h⟩
    · rw [if_neg hij] at h
      obtain ⟨x, k', h6, h7, h8, h9⟩ := s.var j w es h
      refine ⟨x, k', h6, ?_, h8.mono fun _ _ h => h.mono hstep, h9⟩
      rw [hother x fun e => ?_]
      · exact h7
      · subst e
        exact hij (s.vinj i j _ hb h6)
  · subst e
    have := s.vinj i j _ hb h
    subst this
    exact hW (by simp)

/-- A map's entries are written. -/
theorem Goes.write4 {c : Ct} {st : St} {H : Heap} (s : SR c st H) {i b : Nat} {ds : List D} {k : Blk} (hi : st.S[i]? = some (true, ds)) (hb : c.vr i = some b) (hk : H[b]? = some k) (ds' : List D) (vs' : List V)
    (hr : Row (DR c H) ds' vs') : Goes [i] c st H c { st with S := st.S.set i (true, ds') } (H.set b ⟨vs', 4⟩) := by
  have hother : ∀ x, x ≠ b → (H.set b ⟨vs', 4⟩)[x]? = H[x]? := fun x hx => List.getElem?_set_ne (fun e => hx e.symm)
  obtain ⟨b0, k0, h1, h2, h3, h4, h5⟩ := s.var i true ds hi
  rw [hb] at h1
  cases h1
  rw [hk] at h2
  cases h2
  obtain ⟨hst, hnf⟩ := h4 rfl
  have hstep : Step c H c (H.set b ⟨vs', 4⟩) := by
    refine ⟨fun _ h => h, fun x hx _ => hother x fun e => hnf (e ▸ hx), Nat.le_refl _, fun t _ => .inr ⟨rfl, fun x o z hx => hother x fun e => s.vt i t b o z hb (e ▸ hx)⟩, fun _ _ h => h⟩
  refine ⟨⟨s.nx, s.tl, s.tlt, fun t x o z h => ?_, s.tinj, fun j w es h => ?_, fun j x h => by simp only [List.length_set]; exact s.vlt j x h, s.vinj, s.vt, fun x h => by rw [List.length_set]; exact s.flt x h⟩, hstep, by simp,
    fun x _ hx => hother x fun e => hx (e ▸ .inr ⟨i, hb⟩), fun x h => .inl h, fun x h => .inl h, fun j x h hW => hother x fun e => ?_⟩
  · obtain ⟨h6, k', hk', h7⟩ := s.tok t x o z h
    refine ⟨h6, k', ?_, h7⟩
    rw [hother x fun e => s.vt i t b o z hb (e ▸ h)]
    exact hk'
  · rw [List.getElem?_set] at h
    by_cases hij : i = j
    · subst hij
      rw [if_pos rfl, if_pos (lt_of hi)] at h
      cases h
      refine ⟨b, ⟨vs', 4⟩, hb, List.getElem?_set_self (lt_of hk), hr.mono fun _ _ h => h.mono hstep, fun _ => ⟨by show 2 ≤ 4; decide, hnf⟩, fun h => by cases h⟩
    · rw [if_neg hij] at h
      obtain ⟨x, k', h6, h7, h8, h9⟩ := s.var j w es h
      refine ⟨x, k', h6, ?_, h8.mono fun _ _ h => h.mono hstep, h9⟩
      rw [hother x fun e => ?_]
      · exact h7
      · subst e
        exact hij (s.vinj i j _ hb h6)
  · subst e
    have := s.vinj i j _ hb h
    subst this
    exact hW (by simp)

end Go.Proofs.Dv

namespace Go.Proofs.Dv
open Go Go.RowKit Go.Proofs.Ev

/-! ### Temporaries -/

abbrev Tm := List (Nat × D)
def Tm.at : Tm → Nat → D
  | [], _ => .dead
  | (k, x) :: r, i => if k = i then x else Tm.at r i
def Tm.put : Tm → Nat → D → Tm
  | [], i, d => [(i, d)]
  | (k, x) :: r, i, d => if k = i then (i, d) :: r else if i < k then (i, d) :: (k, x) :: r else (k, x) :: Tm.put r i d
def Tm.keep (live : List Nat) : Tm → Tm
  | [] => []
  | (k, x) :: r => if k ∈ live then (k, x) :: Tm.keep live r else Tm.keep live r

theorem Tm.at_put (i : Nat) (d : D) (j : Nat) : ∀ (T : Tm), (T.put i d).at j = if j = i then d else T.at j
  | [] => by
    simp only [Tm.put, Tm.at]
    by_cases h : i = j
    · subst h; simp
    · rw [if_neg h, if_neg (fun e => h e.symm)]
  | (k, x) :: r => by
    simp only [Tm.put]
    by_cases h1 : k = i
    · subst h1
      rw [if_pos rfl]
      simp only [Tm.at]
      by_cases h : k = j
      · subst h; simp
      · rw [if_neg h, if_neg (fun e => h e.symm), if_neg h]
    · rw [if_neg h1]
      by_cases h2 : i < k
      · rw [if_pos h2]
        by_cases h : j = i
        · subst h; simp [Tm.at]
        · have h' : ¬ i = j := fun e => h e.symm
          simp [Tm.at, h, h']
      · rw [if_neg h2]
        simp only [Tm.at]
        rw [Tm.at_put i d j r]
        by_cases h : k = j
        · subst h; rw [if_pos rfl, if_neg (fun e => h1 e), if_pos rfl]
        · rw [if_neg h, if_neg h]

theorem Tm.at_keep (live : List Nat) (j : Nat) : ∀ (T : Tm), (T.keep live).at j = T.at j ∨ (T.keep live).at j = .dead
  | [] => .inl rfl
  | (k, x) :: r => by
    simp only [Tm.keep]
    by_cases h : k ∈ live
    · rw [if_pos h]
      simp only [Tm.at]
      by_cases hk : k = j
      · rw [if_pos hk, if_pos hk]; exact .inl rfl
      · rw [if_neg hk, if_neg hk]; exact Tm.at_keep live j r
    · rw [if_neg h]
      simp only [Tm.at]
      by_cases hk : k = j
      · subst hk
        right
        have : ∀ (T : Tm), (T.keep live).at k = .dead := by
          intro T
          induction T with
          | nil => rfl
          | cons p r ih =>
            obtain ⟨k', x'⟩ := p
            simp only [Tm.keep]
            by_cases h' : k' ∈ live
            · rw [if_pos h']
              simp only [Tm.at]
              rw [if_neg (fun e => h (by rw [← e]; exact h')), ih]
            · rw [if_neg h', ih]
        exact this r
      · rw [if_neg hk]; exact Tm.at_keep live j r

/-- The temporaries go together. -/
def TR (c : Ct) (H : Heap) (T : Tm) (TE : TT) : Prop := ∀ i, DR c H (T.at i) (TE.at i)

theorem TR.mono {c c' : Ct} {H H' : Heap} {T : Tm} {TE : TT} (s : Step c H c' H') (h : TR c H T TE) : TR c' H' T TE := fun i => (h i).mono s

def Tm.set (T : Tm) (d : Nat) (v : D) : Tm := if d < 512 then Tm.put T d v else []
def Tm.dst (T : Tm) : Option Nat → D → Tm
  | some d, v => T.set d v
  | none, _ => T

theorem TT.at_put_far (t : TT) (i j : Nat) (v : V) (hi : i < 512) (hj : j < 16000) : (t.put i v).at j = if j = i then v else t.at j := by
  unfold TT.at TT.put
  rw [Tr.get_set TD t i j v (by omega) (by omega)]
  by_cases h : j = i
  · rw [if_pos h, if_pos h]
  · rw [if_neg h, if_neg h]

/-- .. of which those of more than 511 are not told. -/
def Small (T : Tm) : Prop := ∀ i, 512 ≤ i → T.at i = .dead

theorem Small.put {T : Tm} (h : Small T) {d : Nat} (hd : d < 512) (v : D) : Small (T.put d v) := fun i hi => by
  rw [Tm.at_put, if_neg (by omega)]
  exact h i hi

theorem Small.dst {T : Tm} (h : Small T) (d : Option Nat) (v : D) : Small (T.dst d v) := by
  cases d with
  | none => exact h
  | some d =>
    show Small (T.set d v)
    unfold Tm.set
    split
    · rename_i hd; exact h.put hd v
    · exact fun i _ => rfl

theorem Small.keep {T : Tm} (h : Small T) (l : List Nat) : Small (T.keep l) := fun i hi => by
  rcases Tm.at_keep l i T with h' | h'
  · rw [h', h i hi]
  · exact h'

theorem TR.dst {c : Ct} {H : Heap} {T : Tm} {TE : TT} (h : TR c H T TE) (hs : Small T) (d : Option Nat) {x : D} {v : V} (hx : DR c H x v) : TR c H (T.dst d x) (ePut TE d v) := by
  cases d with
  | none => exact h
  | some d =>
    show TR c H (T.set d x) (TE.put d v)
    unfold Tm.set
    split
    · rename_i hd
      intro i
      rw [Tm.at_put]
      by_cases hi : i < 512
      · rw [TT.at_put TE d i v hd hi]
        split
        · exact hx
        · exact h i
      · rw [if_neg (by omega), hs i (by omega)]
        exact .dead
    · exact fun i => .dead

theorem TR.keep {c : Ct} {H : Heap} {T : Tm} {TE : TT} (h : TR c H T TE) (l : List Nat) : TR c H (T.keep l) TE := fun i => by
  rcases Tm.at_keep l i T with h' | h'
  · rw [h']; exact h i
  · rw [h']; exact .dead

/-! ### Constants -/

mutual
def vF : V → Option F
  | .bool b => some (.bool b)
  | .int k n => some (.int k n)
  | .str s => some (.str s)
  | .ptr none => some .nilp
  | .ptr (some _) => none
  | .sl none n => if n = 0 then some (.list []) else none
  | .sl (some _) _ => none
  | .fn f vs => match vFL vs with
    | some xs => some (.fn f xs)
    | none => none
  | .nilfn => some .nilfn
  | .ifc t v => match vF v with
    | some x => some (.ifc t x)
    | none => none
  | .nilifc => some .nilifc
  | .agg vs => match vFL vs with
    | some xs => some (.agg xs)
    | none => none
  | .tup vs => match vFL vs with
    | some xs => some (.tup xs)
    | none => none
  | .raw a => some (.raw a)
  | .mp _ => none
def vFL : List V → Option (List F)
  | [] => some []
  | v :: r => match vF v with
    | some x => match vFL r with
      | some xs => some (x :: xs)
      | none => none
    | none => none
end

mutual
theorem vF_rel (fz : Nat → Prop) (H : Heap) : ∀ (v : V) (x : F), vF v = some x → FR fz H x v
  | .bool b, x, h => by simp [vF] at h; subst h; exact .bool b
  | .int k n, x, h => by simp [vF] at h; subst h; exact .int k n
  | .str s, x, h => by simp [vF] at h; subst h; exact .str s
  | .ptr none, x, h => by simp [vF] at h; subst h; exact .nilp
  | .ptr (some _), x, h => by simp [vF] at h
  | .sl none n, x, h => by
    simp [vF] at h
    obtain ⟨rfl, rfl⟩ := h
    exact .nil0
  | .sl (some _) _, x, h => by simp [vF] at h
  | .fn f vs, x, h => by
    simp only [vF] at h
    split at h
    · rename_i xs hxs
      cases h
      have := vFL_rel fz H vs xs hxs
      exact .fn this.1 this.2
    · cases h
  | .nilfn, x, h => by simp [vF] at h; subst h; exact .nilfn
  | .ifc t v, x, h => by
    simp only [vF] at h
    split at h
    · rename_i y hy
      cases h
      exact .ifc (vF_rel fz H v y hy)
    · cases h
  | .nilifc, x, h => by simp [vF] at h; subst h; exact .nilifc
  | .agg vs, x, h => by
    simp only [vF] at h
    split at h
    · rename_i xs hxs
      cases h
      have := vFL_rel fz H vs xs hxs
      exact .agg this.1 this.2
    · cases h
  | .tup vs, x, h => by
    simp only [vF] at h
    split at h
    · rename_i xs hxs
      cases h
      have := vFL_rel fz H vs xs hxs
      exact .tup this.1 this.2
    · cases h
  | .raw a, x, h => by simp [vF] at h; subst h; exact .raw a
  | .mp _, x, h => by simp [vF] at h
theorem vFL_rel (fz : Nat → Prop) (H : Heap) : ∀ (vs : List V) (xs : List F), vFL vs = some xs → Row (FR fz H) xs vs
  | [], xs, h => by simp [vFL] at h; subst h; exact Row.nil
  | v :: r, xs, h => by
    simp only [vFL] at h
    split at h
    · rename_i x hx
      split at h
      · rename_i ys hys
        cases h
        exact Row.cons (vF_rel fz H v x hx) (vFL_rel fz H r ys hys)
      · cases h
    · cases h
end

def allF : List D → Option (List F)
  | [] => some []
  | .fz x :: r => match allF r with
    | some xs => some (x :: xs)
    | none => none
  | _ :: _ => none
def mkAgg (ds : List D) : D := match allF ds with
  | some xs => .fz (.agg xs)
  | none => .agg ds
def mkTup (ds : List D) : D := match allF ds with
  | some xs => .fz (.tup xs)
  | none => .tup ds
def mkFn (f : Nat) (ds : List D) : D := match allF ds with
  | some xs => .fz (.fn f xs)
  | none => .fn f ds

theorem DR.fz_inv {c : Ct} {H : Heap} {x : F} {v : V} (h : DR c H (.fz x) v) : FR c.fz H x v := by cases h; assumption

theorem allF_rel {c : Ct} {H : Heap} : ∀ (ds : List D) (xs : List F) (vs : List V), allF ds = some xs → Row (DR c H) ds vs → Row (FR c.fz H) xs vs
  | [], xs, vs, h, r => by simp [allF] at h; subst h; rw [r.nil_inv]; exact Row.nil
  | d :: ds, xs, vs, h, r => by
    obtain ⟨y, zs, rfl, h1, h2⟩ := r.cons_inv
    cases d <;> simp only [allF] at h <;> try (cases h; done)
    split at h
    · rename_i ys hys
      cases h
      exact Row.cons h1.fz_inv (allF_rel ds ys zs hys h2)
    · cases h

theorem mkAgg_rel {c : Ct} {H : Heap} {ds : List D} {vs : List V} (h : Row (DR c H) ds vs) : DR c H (mkAgg ds) (.agg vs) := by
  unfold mkAgg
  split
  · rename_i xs hxs
    have := allF_rel ds xs vs hxs h
    exact .fz (.agg this.1 this.2)
  · exact .agg h.1 h.2
theorem mkTup_rel {c : Ct} {H : Heap} {ds : List D} {vs : List V} (h : Row (DR c H) ds vs) : DR c H (mkTup ds) (.tup vs) := by
  unfold mkTup
  split
  · rename_i xs hxs
    have := allF_rel ds xs vs hxs h
    exact .fz (.tup this.1 this.2)
  · exact .tup h.1 h.2
theorem mkFn_rel {c : Ct} {H : Heap} (f : Nat) {ds : List D} {vs : List V} (h : Row (DR c H) ds vs) : DR c H (mkFn f ds) (.fn f vs) := by
  unfold mkFn
  split
  · rename_i xs hxs
    have := allF_rel ds xs vs hxs h
    exact .fz (.fn this.1 this.2)
  · exact .fn h.1 h.2

def vD1 : V → D
  | .sl none n => if n = 0 then .nils else .dead
  | v => match vF v with
    | some x => .fz x
    | none => .dead
def vD : V → D
  | .agg vs => mkAgg (vs.map vD1)
  | v => vD1 v

theorem vD1_rel (c : Ct) (H : Heap) (v : V) : DR c H (vD1 v) v := by
  unfold vD1
  split
  · rename_i n
    split
    · rename_i hn; subst hn; exact .nils
    · exact .dead
  · split
    · rename_i x hx; exact .fz (vF_rel _ _ _ x hx)
    · exact .dead

theorem Row.map_left {α β γ : Type} {R : γ → β → Prop} (f : β → γ) (h : ∀ y, R (f y) y) (ys : List β) : Row R (ys.map f) ys := by
  refine ⟨by simp, fun i x y hx hy => ?_⟩
  rw [List.getElem?_map, hy] at hx
  cases hx
  exact h y

theorem vD1s_rel (c : Ct) (H : Heap) (vs : List V) : Row (DR c H) (vs.map vD1) vs := Row.map_left (α := V) vD1 (vD1_rel c H) vs

theorem vD_rel (c : Ct) (H : Heap) (v : V) : DR c H (vD v) v := by
  unfold vD
  split
  · exact mkAgg_rel (vD1s_rel c H _)
  · exact vD1_rel c H v

def deo (T : Tm) : EO → D
  | .t i => T.at i
  | .c v => vD v

theorem deo_rel {c : Ct} {H : Heap} {T : Tm} {TE : TT} (h : TR c H T TE) (x : EO) : DR c H (deo T x) (eo TE x) := by
  cases x with
  | t i => exact h i
  | c v => exact vD_rel c H v

theorem deos_rel {c : Ct} {H : Heap} {T : Tm} {TE : TT} (h : TR c H T TE) : ∀ (xs : List EO), Row (DR c H) (xs.map (deo T)) (xs.map (eo TE))
  | [] => Row.nil
  | x :: r => Row.cons (deo_rel h x) (deos_rel h r)

/-! ### Cells -/

def F.one : F → Bool
  | .agg _ => false
  | .tup _ => false
  | _ => true

theorem F.one_rel {fz : Nat → Prop} {H : Heap} {x : F} {v : V} (h : FR fz H x v) (h1 : x.one = true) : v.one = true := by
  cases h <;> first | rfl | (simp [F.one] at h1)

/-- Is it one cell, and alive? -/
def oneD (st : St) : D → Bool
  | .fz x => x.one
  | .ow t _ _ _ => decide (t ∈ st.L)
  | .nils => true
  | .ptr _ _ => true
  | .ep t _ _ _ => decide (t ∈ st.L)
  | .fn _ _ => true
  | _ => false

section
variable {c : Ct} {st : St} {H : Heap}

theorem SR.live (s : SR c st H) {t : Nat} (h : t ∈ st.L) : c.tk t ≠ none := (s.tl t).1 h

theorem oneD_rel (s : SR c st H) {d : D} {v : V} (h : DR c H d v) (h1 : oneD st d = true) : v.one = true := by
  cases h with
  | fz h => exact F.one_rel h h1
  | ow0 h hn => exact absurd h (s.live (by simpa [oneD] using h1))
  | own h hn => rfl
  | ow ht hn hk hl hz h => rfl
  | nils => rfl
  | ptr h => rfl
  | ep0 h hn => exact absurd h (s.live (by simpa [oneD] using h1))
  | ep ht hn hk hl hz h => rfl
  | agg hl h => simp [oneD] at h1
  | tup hl h => simp [oneD] at h1
  | fn hl h => rfl
  | dead => simp [oneD] at h1
  | mp h => simp [oneD] at h1

def cellsD (st : St) : D → Option (List D)
  | .fz (.agg cs) => some (cs.map .fz)
  | .agg ds => some ds
  | d => if oneD st d = true then some [d] else none

theorem one_cells {v : V} (h : v.one = true) : v.cells = [v] := by cases v <;> first | rfl | (simp [V.one] at h)

theorem Row.fz {cs : List F} {vs : List V} (h : Row (FR c.fz H) cs vs) : Row (DR c H) (cs.map .fz) vs := by
  refine ⟨by simp [h.1], fun i x y hx hy => ?_⟩
  rw [List.getElem?_map] at hx
  cases hc : cs[i]? with
  | none => rw [hc] at hx; cases hx
  | some x' => rw [hc] at hx; cases hx; exact .fz (h.2 i x' y hc hy)

theorem cellsD_rel (s : SR c st H) {d : D} {v : V} {ds : List D} (h : DR c H d v) (h1 : cellsD st d = some ds) : Row (DR c H) ds v.cells := by
  unfold cellsD at h1
  split at h1
  · rename_i cs
    cases h1
    cases h with
    | fz h =>
      cases h with
      | agg hl h => exact Row.fz ⟨hl, h⟩
  · cases h1
    cases h with
    | agg hl h => exact ⟨hl, h⟩
  · split at h1
    · rename_i ho
      cases h1
      rw [one_cells (oneD_rel s h ho)]
      exact Row.cons h Row.nil
    · cases h1

/-! ### What is made to stay -/

def frL (f : D → Option (F × List Nat × List Nat)) : List D → Option (List F × List Nat × List Nat)
  | [] => some ([], [], [])
  | d :: r => match f d with
    | some (x, ts, is) => match frL f r with
      | some (xs, us, js) => some (x :: xs, ts ++ us, is ++ js)
      | none => none
    | none => none

def fr (st : St) : Nat → D → Option (F × List Nat × List Nat)
  | _, .fz x => some (x, [], [])
  | _, .nils => some (.list [], [], [])
  | _, .ow t q z es => if t ∈ st.L then some (.list es, [t], []) else none
  | _, .ep t k cs o => if t ∈ st.L then (if o ≤ cs.length then some (.fp (cs.drop o), [t], []) else none) else none
  | n + 1, .ptr i o => match st.S[i]? with
    | some (_, ds) => if o ≤ ds.length then (match frL (fr st n) ds with
      | some (xs, ts, is) => some (.fp (xs.drop o), ts, i :: is)
      | none => none) else none
    | none => none
  | n + 1, .agg ds => match frL (fr st n) ds with
    | some (xs, ts, is) => some (.agg xs, ts, is)
    | none => none
  | n + 1, .tup ds => match frL (fr st n) ds with
    | some (xs, ts, is) => some (.tup xs, ts, is)
    | none => none
  | n + 1, .fn f ds => match frL (fr st n) ds with
    | some (xs, ts, is) => some (.fn f xs, ts, is)
    | none => none
  | _, _ => none

/-- The blocks that stay then. -/
def Ct.frz (c : Ct) (ts is : List Nat) (b : Nat) : Prop := c.fz b ∨ (∃ t ∈ ts, ∃ o z, c.tk t = some (some (b, o, z))) ∨ ∃ i ∈ is, c.vr i = some b

theorem Ct.frz_mono {c : Ct} {ts ts' is is' : List Nat} (h1 : ∀ t ∈ ts, t ∈ ts') (h2 : ∀ i ∈ is, i ∈ is') {b : Nat} (h : c.frz ts is b) : c.frz ts' is' b := by
  rcases h with h | ⟨t, ht, h⟩ | ⟨i, hi, h⟩
  · exact .inl h
  · exact .inr (.inl ⟨t, h1 t ht, h⟩)
  · exact .inr (.inr ⟨i, h2 i hi, h⟩)

theorem FR.up {fz fz' : Nat → Prop} {H : Heap} {x : F} {v : V} (h : FR fz H x v) (h1 : ∀ b, fz b → fz' b) : FR fz' H x v := h.mono h1 fun _ _ _ => rfl

theorem frL_rel {f : D → Option (F × List Nat × List Nat)} (hf : ∀ d v x ts is, f d = some (x, ts, is) → DR c H d v → FR (c.frz ts is) H x v) :
    ∀ (ds : List D) (vs : List V) (xs : List F) (ts is : List Nat), frL f ds = some (xs, ts, is) → Row (DR c H) ds vs → Row (FR (c.frz ts is) H) xs vs
  | [], vs, xs, ts, is, h, r => by simp [frL] at h; obtain ⟨rfl, rfl, rfl⟩ := h; rw [r.nil_inv]; exact Row.nil
  | d :: ds, vs, xs, ts, is, h, r => by
    obtain ⟨y, zs, rfl, h1, h2⟩ := r.cons_inv
    simp only [frL] at h
    split at h
    · rename_i x ts1 is1 hx
      split at h
      · rename_i ys us js hys
        cases h
        refine Row.cons ((hf d y x ts1 is1 hx h1).up fun b hb => Ct.frz_mono (fun t ht => List.mem_append_left _ ht) (fun i hi => List.mem_append_left _ hi) hb) ?_
        exact (frL_rel hf ds zs ys us js hys h2).mono fun a b h => h.up fun b hb => Ct.frz_mono (fun t ht => List.mem_append_right _ ht) (fun i hi => List.mem_append_right _ hi) hb
      · cases h
    · cases h

theorem fr_rel (s : SR c st H) : ∀ (n : Nat) (d : D) (v : V) (x : F) (ts is : List Nat), fr st n d = some (x, ts, is) → DR c H d v → FR (c.frz ts is) H x v := by
  have flat : ∀ (n : Nat) (d : D) (v : V) (x : F) (ts is : List Nat), (∀ i o, d ≠ .ptr i o) → (∀ l, d ≠ .agg l) → (∀ l, d ≠ .tup l) → (∀ f l, d ≠ .fn f l) → fr st n d = some (x, ts, is) → DR c H d v → FR (c.frz ts is) H x v := by
    intro n d v x ts is n1 n2 n3 n4 h hr
    cases d with
    | fz y =>
      have : some (y, ([] : List Nat), ([] : List Nat)) = some (x, ts, is) := by cases n <;> exact h
      cases this
      exact hr.fz_inv.up fun b hb => .inl hb
    | nils =>
      have : some (F.list [], ([] : List Nat), ([] : List Nat)) = some (x, ts, is) := by cases n <;> exact h
      cases this
      cases hr
      exact .nil0
    | ow t q z es =>
      have : (if t ∈ st.L then some (F.list es, [t], ([] : List Nat)) else none) = some (x, ts, is) := by cases n <;> exact h
      split at this
      · rename_i ht
        cases this
        cases hr with
        | ow0 h0 hn => exact absurd h0 (s.live ht)
        | own h0 hn => exact .nil0
        | ow ht' hn hk hl hz h0 =>
          rename_i b o k
          obtain ⟨_, k', hk', hst⟩ := s.tok t b o z ht'
          rw [hk] at hk'
          cases hk'
          refine .list (k := k) (.inr (.inl ⟨t, by simp, o, z, ht'⟩)) hk (by omega) (by rw [Nat.add_mul] at hl; omega) hz fun i j e x u h1 h2 h3 => (h0 i j e x u h1 h2 ?_).up fun b hb => .inl hb
          rw [Nat.add_mul, ← Nat.add_assoc]
          exact h3
      · cases this
    | ep t k cs o =>
      have : (if t ∈ st.L then (if o ≤ cs.length then some (F.fp (cs.drop o), [t], ([] : List Nat)) else none) else none) = some (x, ts, is) := by cases n <;> exact h
      split at this
      · rename_i ht
        split at this
        · rename_i ho
          cases this
          cases hr with
          | ep0 h0 hn => exact absurd h0 (s.live ht)
          | ep ht' hn hk hl hz h0 =>
            rename_i b o' z kb
            obtain ⟨_, k', hk', hst⟩ := s.tok t b o' z ht'
            rw [hk] at hk'
            cases hk'
            have e1 : (k + 1) * z = k * z + z := by rw [Nat.add_mul, Nat.one_mul]
            refine .fp (k := kb) (.inr (.inl ⟨t, by simp, o', z, ht'⟩)) hk (by omega) (by rw [List.length_drop]; omega) fun j x u h1 h2 => ?_
            rw [List.getElem?_drop] at h1
            refine (h0 (o + j) x u h1 ?_).up fun b hb => .inl hb
            rw [← Nat.add_assoc]
            exact h2
        · cases this
      · cases this
    | ptr i o => exact absurd rfl (n1 i o)
    | agg l => exact absurd rfl (n2 l)
    | tup l => exact absurd rfl (n3 l)
    | fn f l => exact absurd rfl (n4 f l)
    | dead => cases n <;> cases h
    | mp i => cases n <;> cases h
  intro n
  induction n with
  | zero =>
    intro d v x ts is h hr
    refine flat 0 d v x ts is ?_ ?_ ?_ ?_ h hr
    · rintro i o rfl; cases h
    · rintro l rfl; cases h
    · rintro l rfl; cases h
    · rintro f l rfl; cases h
  | succ n ih =>
    intro d v x ts is h hr
    cases d with
    | ptr i o =>
      simp only [fr] at h
      split at h
      · rename_i w ds hS
        split at h
        · rename_i ho
          split at h
          · rename_i xs ts' is' hxs
            cases h
            cases hr with
            | ptr hv =>
              rename_i b
              obtain ⟨b', k, h1, h2, h3, h4, h5⟩ := s.var i w ds hS
              rw [hv] at h1
              cases h1
              have hrow := frL_rel ih ds k.cells xs ts is' hxs h3
              have hl : xs.length = k.cells.length := hrow.1
              have hst : k.st ≠ 0 := by
                cases w with
                | true => have := (h4 rfl).1; omega
                | false => exact (h5 rfl).1
              have hdl : ds.length = k.cells.length := h3.1
              refine .fp (k := k) (.inr (.inr ⟨i, by simp, hv⟩)) h2 hst (by rw [List.length_drop]; omega) fun j y u h6 h7 => ?_
              rw [List.getElem?_drop] at h6
              exact (hrow.2 _ y u h6 h7).up fun b hb => Ct.frz_mono (fun _ h => h) (fun _ h => List.mem_cons_of_mem _ h) hb
          · cases h
        · cases h
      · cases h
    | agg l =>
      simp only [fr] at h
      split at h
      · rename_i xs ts' is' hxs
        cases h
        cases hr with
        | agg hl h0 =>
          have hrow := frL_rel ih l _ xs ts is hxs ⟨hl, h0⟩
          exact .agg hrow.1 hrow.2
      · cases h
    | tup l =>
      simp only [fr] at h
      split at h
      · rename_i xs ts' is' hxs
        cases h
        cases hr with
        | tup hl h0 =>
          have hrow := frL_rel ih l _ xs ts is hxs ⟨hl, h0⟩
          exact .tup hrow.1 hrow.2
      · cases h
    | fn f l =>
      simp only [fr] at h
      split at h
      · rename_i xs ts' is' hxs
        cases h
        cases hr with
        | fn hl h0 =>
          have hrow := frL_rel ih l _ xs ts is hxs ⟨hl, h0⟩
          exact .fn hrow.1 hrow.2
      · cases h
    | _ => exact flat (n + 1) _ v x ts is (fun _ _ e => by cases e) (fun _ e => by cases e) (fun _ e => by cases e) (fun _ _ e => by cases e) h hr

/-- What is left of a variable that stays. -/
def strip : D → D
  | .fz x => .fz x
  | _ => .dead

def St.still (st : St) (ts is : List Nat) : St := { st.drop ts with S := st.S.mapIdx fun i p => if i ∈ is then (false, p.2.map strip) else p }
def Ct.still (c : Ct) (ts is : List Nat) : Ct := { c.drop ts with fz := c.frz ts is }

theorem strip_rel {c : Ct} {H : Heap} {d : D} {v : V} (h : DR c H d v) : DR c H (strip d) v := by
  cases d <;> first | exact h | exact .dead

theorem Goes.still (s : SR c st H) (ts is : List Nat) : Goes [] c st H (c.still ts is) (st.still ts is) H := by
  have hstep : Step c H (c.still ts is) H := ⟨fun b h => .inl h, fun _ _ _ => rfl, Nat.le_refl _, (Step.drop c H ts).tk, fun _ _ h => h⟩
  have d := s.drop ts
  refine ⟨⟨d.nx, d.tl, d.tlt, fun t b o z h => ?_, d.tinj, fun i w ds h => ?_, fun i b h => by simp only [St.still, List.length_mapIdx]; exact s.vlt i b h, s.vinj, d.vt, fun b h => ?_⟩, hstep, Nat.le_refl _, fun _ _ _ => rfl, fun b h => ?_, fun b h => ?_, fun _ _ _ _ => rfl⟩
  · obtain ⟨h1, h2⟩ := drop_tk h
    obtain ⟨h3, h4⟩ := s.tok t b o z h2
    refine ⟨?_, h4⟩
    rintro (h5 | ⟨u, hu, o', z', h5⟩ | ⟨i, hi, h5⟩)
    · exact h3 h5
    · exact h1 (by rw [s.tinj t u _ _ _ _ _ h2 h5]; exact hu)
    · exact s.vt i t b o z h5 h2
  · simp only [St.still, List.getElem?_mapIdx] at h
    cases hS : st.S[i]? with
    | none => rw [hS] at h; cases h
    | some p =>
      obtain ⟨w0, ds0⟩ := p
      rw [hS] at h
      simp only [Option.map_some, Option.some.injEq] at h
      obtain ⟨b, k, h1, h2, h3, h4, h5⟩ := s.var i w0 ds0 hS
      have hst : k.st ≠ 0 := by
        cases w0 with
        | true => have := (h4 rfl).1; omega
        | false => exact (h5 rfl).1
      by_cases hi : i ∈ is
      · rw [if_pos hi] at h
        cases h
        refine ⟨b, k, h1, h2, ⟨by simp [h3.1], fun j x y hx hy => ?_⟩, (fun h => by cases h), fun _ => ⟨hst, .inr (.inr ⟨i, hi, h1⟩)⟩⟩
        rw [List.getElem?_map] at hx
        cases hd : ds0[j]? with
        | none => rw [hd] at hx; cases hx
        | some d0 => rw [hd] at hx; cases hx; exact strip_rel ((h3.2 j d0 y hd hy).mono hstep)
      · rw [if_neg hi] at h
        cases h
        refine ⟨b, k, h1, h2, h3.mono fun _ _ h => h.mono hstep, fun hw => ?_, fun hw => ⟨hst, .inl (h5 hw).2⟩⟩
        obtain ⟨h6, h7⟩ := h4 hw
        refine ⟨h6, ?_⟩
        rintro (h8 | ⟨u, hu, o', z', h8⟩ | ⟨j, hj, h8⟩)
        · exact h7 h8
        · exact s.vt i u b o' z' h1 h8
        · exact hi (by rw [s.vinj i j b h1 h8]; exact hj)
  · rcases h with h | ⟨t, _, o, z, h⟩ | ⟨i, _, h⟩
    · exact s.flt b h
    · exact s.own_lt (.inl ⟨t, o, z, h⟩)
    · exact s.own_lt (.inr ⟨i, h⟩)
  · rcases h with ⟨t, o, z, h⟩ | h
    · exact .inl (.inl ⟨t, o, z, (drop_tk h).2⟩)
    · exact .inl (.inr h)
  · rcases h with h | ⟨t, _, o, z, h⟩ | ⟨i, _, h⟩
    · exact .inl h
    · exact .inr (.inl (.inl ⟨t, o, z, h⟩))
    · exact .inr (.inl (.inr ⟨i, h⟩))

end

end Go.Proofs.Dv

namespace Go.Proofs.Dv
open Go Go.RowKit Go.Proofs.Ev

def F.cv : F → Option V
  | .bool b => some (.bool b)
  | .int k n => some (.int k n)
  | .str s => some (.str s)
  | .nilp => some (.ptr none)
  | .nilfn => some .nilfn
  | .nilifc => some .nilifc
  | _ => none

theorem F.cv_rel {fz : Nat → Prop} {H : Heap} {x : F} {v u : V} (h : FR fz H x v) (hc : x.cv = some u) : v = u := by
  cases h <;> simp [F.cv] at hc <;> exact hc

def chunk (z : Nat) : Nat → List F → List (List F)
  | 0, _ => []
  | n + 1, xs => xs.take z :: chunk z n (xs.drop z)

theorem chunk_length (z : Nat) : ∀ (n : Nat) (xs : List F), (chunk z n xs).length = n
  | 0, _ => rfl
  | n + 1, xs => by simp [chunk, chunk_length z n]

theorem chunk_get (z : Nat) : ∀ (n : Nat) (xs : List F) (i : Nat) (e : List F), (chunk z n xs)[i]? = some e → i < n ∧ e = (xs.drop (i * z)).take z
  | 0, xs, i, e, h => by simp [chunk] at h
  | n + 1, xs, 0, e, h => by simp [chunk] at h; subst h; simp
  | n + 1, xs, i + 1, e, h => by
    simp only [chunk, List.getElem?_cons_succ] at h
    obtain ⟨h1, h2⟩ := chunk_get z n _ i e h
    refine ⟨by omega, ?_⟩
    rw [h2, List.drop_drop, Nat.add_mul, Nat.one_mul, Nat.add_comm]

/-- Cells as elements. -/
theorem chunk_cells {R : F → V → Prop} {z n : Nat} {xs : List F} {ws : List V} {o : Nat} (hl : n * z ≤ xs.length) (h : ∀ (j : Nat) (x : F) (u : V), xs[j]? = some x → ws[o + j]? = some u → R x u) :
    (∀ (i : Nat) (e : List F), (chunk z n xs)[i]? = some e → e.length = z) ∧
    ∀ (i j : Nat) (e : List F) (x : F) (u : V), (chunk z n xs)[i]? = some e → e[j]? = some x → ws[o + i * z + j]? = some u → R x u := by
  constructor
  · intro i e he
    obtain ⟨h1, rfl⟩ := chunk_get z n xs i e he
    have : i * z + z ≤ n * z := by
      have := Nat.mul_le_mul_right z (show i + 1 ≤ n by omega)
      rw [Nat.add_mul, Nat.one_mul] at this
      exact this
    simp
    omega
  · intro i j e x u he hx hu
    obtain ⟨h1, rfl⟩ := chunk_get z n xs i e he
    rw [List.getElem?_take] at hx
    split at hx
    · rw [List.getElem?_drop] at hx
      exact h _ x u hx (by rw [← Nat.add_assoc]; exact hu)
    · cases hx

def putAtD (off : Nat) : List D → List D → List D
  | [], cells => cells
  | v :: r, cells => putAtD (off + 1) r (cells.set off v)

def dFill (T : Tm) (st : St) (cells : List D) : List (Nat × Nat × EO) → Option (List D)
  | [] => some cells
  | (off, size, x) :: r => match cellsD st (deo T x) with
    | some ds => if ds.length = size ∧ off + ds.length ≤ cells.length then dFill T st (putAtD off ds cells) r else none
    | none => none

def dNil (st : St) : Nat → D → Option Bool
  | 1, .nils => some true
  | 1, .fz (.list (_ :: _)) => some false
  | 1, .ow t _ _ (_ :: _) => if t ∈ st.L then some false else none
  | 2, .fz .nilp => some true
  | 2, .fz (.fp _) => some false
  | 2, .ptr _ _ => some false
  | 2, .ep t _ _ _ => if t ∈ st.L then some false else none
  | 3, .fz .nilfn => some true
  | 3, .fz (.fn _ _) => some false
  | 3, .fn _ _ => some false
  | 4, .fz .nilifc => some true
  | 4, .fz (.ifc _ _) => some false
  | _, _ => none

def isNilD : Nat → D → Bool
  | 1, .nils => true
  | 2, .fz .nilp => true
  | 3, .fz .nilfn => true
  | 4, .fz .nilifc => true
  | _, _ => false

def dEq (op : BinOp) : Option Bool → Option D
  | some b => match op with
    | .eql => some (.fz (.bool b))
    | .neq => some (.fz (.bool (!b)))
    | _ => none
  | none => none

def dScal (op : BinOp) (nk : Nat) (x y : F) : Option D := match x.cv, y.cv with
  | some u, some v => match eBin op nk u v with
    | some r => match vF r with
      | some z => some (.fz z)
      | none => none
    | none => none
  | _, _ => none

def dBin (st : St) (op : BinOp) (nk : Nat) (x y : D) : Option D :=
  if isNilD nk y = true then dEq op (dNil st nk x) else if isNilD nk x = true then dEq op (dNil st nk y) else
  match x, y with
  | .fz a, .fz b => dScal op nk a b
  | _, _ => none

def bytesF : List (List F) → Option (List UInt8)
  | [] => some []
  | [.int .u8 n] :: r => match bytesF r with
    | some s => some (UInt8.ofNat n.toNat :: s)
    | none => none
  | _ => none

def dbnd (T : Tm) : Option EO → Nat → Option Nat
  | none, d => some d
  | some x, _ => match deo T x with
    | .fz (.int _ i) => if 0 ≤ i then some i.toNat else none
    | _ => none

def allLen (z : Nat) (es : List (List F)) : Bool := es.all fun e => decide (e.length = z)
def allOne (es : List (List F)) : Bool := es.all fun e => e.all F.one

/-- What is appended. -/
def dSrc (st : St) (str : Bool) (z : Nat) (y : D) : Option (List (List F)) := match str, y with
  | false, .fz (.list es) => if allLen z es = true ∧ allOne es = true then some es else none
  | false, .ow t _ z' es => if t ∈ st.L ∧ z' = z ∧ allLen z es = true ∧ allOne es = true then some es else none
  | false, .nils => some []
  | true, .fz (.str s) => if z = 1 then some (s.map fun b => [.int .u8 b.toNat]) else none
  | _, _ => none

def roomOK (bytes m : Nat) : Prop := m * bytes ≤ 140737488355328 ∧ m ≤ 4611686018427387904
instance (bytes m : Nat) : Decidable (roomOK bytes m) := inferInstanceAs (Decidable (_ ∧ _))

def St.own (st : St) (z : Nat) (es : List (List F)) : D × St × List Nat := (.ow st.c 0 z es, st.fresh, [])

mutual
def F.full : F → Option V
  | .bool b => some (.bool b)
  | .int k n => some (.int k n)
  | .str s => some (.str s)
  | .nilp => some (.ptr none)
  | .fp _ => none
  | .list _ => none
  | .fn f cs => match F.fullL cs with
    | some vs => some (.fn f vs)
    | none => none
  | .nilfn => some .nilfn
  | .ifc t x => match F.full x with
    | some v => some (.ifc t v)
    | none => none
  | .nilifc => some .nilifc
  | .agg cs => match F.fullL cs with
    | some vs => some (.agg vs)
    | none => none
  | .tup cs => match F.fullL cs with
    | some vs => some (.tup vs)
    | none => none
  | .raw a => some (.raw a)
def F.fullL : List F → Option (List V)
  | [] => some []
  | x :: r => match F.full x with
    | some v => match F.fullL r with
      | some vs => some (v :: vs)
      | none => none
    | none => none
end

mutual
theorem F.full_rel {fz : Nat → Prop} {H : Heap} : ∀ (x : F) (v u : V), FR fz H x v → x.full = some u → v = u
  | .bool b, v, u, h, hu => by cases h; simp [F.full] at hu; exact hu
  | .int k n, v, u, h, hu => by cases h; simp [F.full] at hu; exact hu
  | .str s, v, u, h, hu => by cases h; simp [F.full] at hu; exact hu
  | .nilp, v, u, h, hu => by cases h; simp [F.full] at hu; exact hu
  | .fp _, v, u, h, hu => by simp [F.full] at hu
  | .list _, v, u, h, hu => by simp [F.full] at hu
  | .fn f cs, v, u, h, hu => by
    simp only [F.full] at hu
    split at hu
    · rename_i vs hvs
      cases hu
      cases h with
      | fn hl h => rw [F.fullL_rel cs _ vs ⟨hl, h⟩ hvs]
    · cases hu
  | .nilfn, v, u, h, hu => by cases h; simp [F.full] at hu; exact hu
  | .ifc t x, v, u, h, hu => by
    simp only [F.full] at hu
    split at hu
    · rename_i v' hv'
      cases hu
      cases h with
      | ifc h => rw [F.full_rel x _ v' h hv']
    · cases hu
  | .nilifc, v, u, h, hu => by cases h; simp [F.full] at hu; exact hu
  | .agg cs, v, u, h, hu => by
    simp only [F.full] at hu
    split at hu
    · rename_i vs hvs
      cases hu
      cases h with
      | agg hl h => rw [F.fullL_rel cs _ vs ⟨hl, h⟩ hvs]
    · cases hu
  | .tup cs, v, u, h, hu => by
    simp only [F.full] at hu
    split at hu
    · rename_i vs hvs
      cases hu
      cases h with
      | tup hl h => rw [F.fullL_rel cs _ vs ⟨hl, h⟩ hvs]
    · cases hu
  | .raw a, v, u, h, hu => by cases h; simp [F.full] at hu; exact hu
theorem F.fullL_rel {fz : Nat → Prop} {H : Heap} : ∀ (xs : List F) (vs us : List V), Row (FR fz H) xs vs → F.fullL xs = some us → vs = us
  | [], vs, us, h, hu => by simp [F.fullL] at hu; subst hu; exact h.nil_inv
  | x :: r, vs, us, h, hu => by
    obtain ⟨y, zs, rfl, h1, h2⟩ := h.cons_inv
    simp only [F.fullL] at hu
    split at hu
    · rename_i v hv
      split at hu
      · rename_i ws hws
        cases hu
        rw [F.full_rel x y v h1 hv, F.fullL_rel r zs ws h2 hws]
      · cases hu
    · cases hu
end

def D.full : D → Option V
  | .fz x => x.full
  | .nils => some (.sl none 0)
  | _ => none

def dEnv (T : Tm) : Operand → Option V
  | .tmp i => (T.at i).full
  | .const c => absN 9 c
  | .global g => some (.raw ⟨g, 0, none⟩)
  | .func f => some (.fn f [])

def toD : Option V → Option D
  | some v => match vF v with
    | some x => some (.fz x)
    | none => none
  | none => none

def dSlow (P : Program) (T : Tm) (o : Oper) : Option D :=
  if o.op.operands.all (fun x => (dEnv T x).isSome) = true then (match evA P (dEnv T) o [] with
    | some (v, []) => toD (some v)
    | _ => none) else none

/-- A type's assertion. -/
def dAssert (P : Program) (x : F) (a : TypeId) (ok : Bool) : Option F := match x with
  | .ifc t v => match P.underlying a with
    | some (.interface want) => match P.info? t with
      | some i => match bearsAll want i.methods with
        | true => some (if ok = true then .tup [.ifc t v, .bool true] else .ifc t v)
        | false => if ok = true then (match zeroV P a with
          | some z => match vF z with
            | some z => some (.tup [z, .bool false])
            | none => none
          | none => none) else none
      | none => none
    | some _ => if t = a then some (if ok = true then .tup [v, .bool true] else v) else if ok = true then (match zeroV P a with
        | some z => match vF z with
          | some z => some (.tup [z, .bool false])
          | none => none
        | none => none) else none
    | none => none
  | _ => none

def dOpnd (T : Tm) : Operand → D
  | .tmp i => T.at i
  | _ => .dead

/-- Two interface values of two types, one of them with a pointer. -/
def dDiff (P : Program) (t : TypeId) (x y : D) : Bool := match P.underlying t with
  | some (.interface _) => match x, y with
    | .fz (.ifc t1 (.fp _)), .fz (.ifc t2 _) => decide (t1 ≠ t2)
    | .fz (.ifc t1 _), .fz (.ifc t2 (.fp _)) => decide (t1 ≠ t2)
    | _, _ => false
  | _ => false

def dSlowX (P : Program) (T : Tm) (o : Oper) : Option D := match dSlow P T o with
  | some d => some d
  | none => match o.op with
    | .typeAssert x _ a ok => match dOpnd T x with
      | .fz y => match dAssert P y a ok with
        | some r => some (.fz r)
        | none => none
      | _ => none
    | .binOp .eql t x y _ => if dDiff P t (dOpnd T x) (dOpnd T y) = true then some (.fz (.bool false)) else none
    | .binOp .neq t x y _ => if dDiff P t (dOpnd T x) (dOpnd T y) = true then some (.fz (.bool true)) else none
    | _ => none

/-- Where a key stands in a map, and what stands there. -/
def findF (kd : IntKind) (n : Int) : List D → Nat → Option (Option (Nat × F))
  | [], _ => some none
  | .fz (.tup [.int k m, x]) :: r, i => if k = kd then (if n = m then some (some (i, x)) else findF kd n r (i + 1)) else none
  | _ :: _, _ => none

theorem findF_rel {c : Ct} {H : Heap} {kd : IntKind} {n : Int} : ∀ (ds : List D) (vs : List V) (i : Nat) (r : Option (Nat × F)), Row (DR c H) ds vs → findF kd n ds i = some r →
    (r = none ∧ findV kd n vs i = some none) ∨ ∃ j x u, r = some (j, x) ∧ findV kd n vs i = some (some (j, u)) ∧ FR c.fz H x u
  | [], vs, i, r, hr, h => by
    simp [findF] at h
    rw [hr.nil_inv]
    exact .inl ⟨h.symm, rfl⟩
  | d :: ds, vs, i, r, hr, h => by
    obtain ⟨v, vs', rfl, hd, hr'⟩ := hr.cons_inv
    unfold findF at h
    split at h
    · rename_i h0; cases h0
    · rename_i i0 k m x r' h0
      cases h0
      have hx := hd.fz_inv
      cases hx with
      | tup hl hc =>
        rename_i us
        match us, hl, hc with
        | [a, u], _, hc =>
          have h1 := hc 0 _ a rfl rfl
          cases h1
          have h2 := hc 1 _ u rfl rfl
          split at h
          · rename_i hk
            subst hk
            split at h
            · rename_i hn
              cases h
              exact .inr ⟨_, x, u, rfl, by simp [findV, hn], h2⟩
            · rename_i hn
              rcases findF_rel _ vs' _ r hr' h with ⟨h3, h4⟩ | ⟨j, y, w, h3, h4, h5⟩
              · exact .inl ⟨h3, by simp [findV, hn, h4]⟩
              · exact .inr ⟨j, y, w, h3, by simp [findV, hn, h4], h5⟩
          · cases h
    · cases h

def dA (P : Program) (T : Tm) (st : St) : EOp → Option (D × St × List Nat)
  | .mv x => some (deo T x, st, [])
  | .pick c a b => match deo T c with
    | .fz (.bool true) => some (deo T a, st, [])
    | .fz (.bool false) => some (deo T b, st, [])
    | _ => none
  | .new k => some (.ptr st.S.length 0, { st with S := st.S ++ [(true, k.map vD1)] }, [])
  | .box x => match cellsD st (deo T x) with
    | some ds => some (.ptr st.S.length 0, { st with S := st.S ++ [(true, ds)] }, [])
    | none => none
  | .build z ps => match dFill T st (z.map vD1) ps with
    | some ds => some (mkAgg ds, st, [])
    | none => none
  | .bslice z n zs ps => match dFill T st (zs.map vD1) ps with
    | some ds => match frL (fr st 6) ds with
      | some (xs, ts, is) => if n * z = xs.length then some ((st.still ts is).own z (chunk z n xs)) else none
      | none => none
    | none => none
  | .ld1 x => match deo T x with
    | .fz (.fp (c :: _)) => some (.fz c, st, [])
    | .ptr i o => match st.S[i]? with
      | some (_, ds) => match ds[o]? with
        | some d => some (d, st, [])
        | none => none
      | none => none
    | .ep t _ cs o => if t ∈ st.L then (match cs[o]? with
      | some x => some (.fz x, st, [])
      | none => none) else none
    | _ => none
  | .ldn n x => match deo T x with
    | .fz (.fp cs) => if n ≤ cs.length then some (.fz (.agg (cs.take n)), st, []) else none
    | .ptr i o => match st.S[i]? with
      | some (_, ds) => if o + n ≤ ds.length then some (mkAgg ((ds.drop o).take n), st, []) else none
      | none => none
    | .ep t _ cs o => if t ∈ st.L ∧ o + n ≤ cs.length then some (.fz (.agg ((cs.drop o).take n)), st, []) else none
    | _ => none
  | .st n x y => match deo T x with
    | .ptr i o => match st.S[i]?, cellsD st (deo T y) with
      | some (true, ds), some cs => if n = cs.length ∧ o + cs.length ≤ ds.length ∧ cs.all (oneD st) = true then
          some (.fz (.tup []), { st with S := st.S.set i (true, ds.take o ++ cs ++ ds.drop (o + cs.length)) }, [i]) else none
      | _, _ => none
    | _ => none
  | .nilchk x => match deo T x with
    | .fz (.fp cs) => some (.fz (.fp cs), st, [])
    | .ptr i o => some (.ptr i o, st, [])
    | .ep t k cs o => if t ∈ st.L then some (.ep t k cs o, st, []) else none
    | .fz (.fn f cs) => some (.fz (.fn f cs), st, [])
    | .fn f ds => some (.fn f ds, st, [])
    | .fz (.ifc t x) => some (.fz (.ifc t x), st, [])
    | _ => none
  | .bin op nk x y => match dBin st op nk (deo T x) (deo T y) with
    | some d => some (d, st, [])
    | none => none
  | .not x => match deo T x with
    | .fz (.bool b) => some (.fz (.bool (!b)), st, [])
    | _ => none
  | .conv k x => match deo T x with
    | .fz (.int _ n) => some (.fz (.int k (wrapF k n)), st, [])
    | _ => none
  | .bytes x => match deo T x with
    | .fz (.str s) => some (.fz (.list (s.map fun b => [.int .u8 b.toNat])), st, [])
    | _ => none
  | .string x => match deo T x with
    | .fz (.list es) => match bytesF es with
      | some s => some (.fz (.str s), st, [])
      | none => none
    | .ow t _ _ es => if t ∈ st.L then (match bytesF es with
      | some s => some (.fz (.str s), st, [])
      | none => none) else none
    | .nils => some (.fz (.str []), st, [])
    | _ => none
  | .ifc t x => match fr st 5 (deo T x) with
    | some (x, ts, is) => some (.fz (.ifc t x), st.still ts is, [])
    | none => none
  | .fn f xs => some (mkFn f (xs.map (deo T)), st, [])
  | .cut z arr x lo hi => match arr, deo T x with
    | none, .fz (.list es) => match dbnd T hi es.length, dbnd T lo 0 with
      | some h, some l => if l ≤ h ∧ h ≤ es.length ∧ allLen z es = true then some (.fz (.list ((es.drop l).take (h - l))), st, []) else none
      | _, _ => none
    | none, .ow t q z' es => match dbnd T hi es.length, dbnd T lo 0 with
      | some h, some l => if t ∈ st.L ∧ z' = z ∧ l ≤ h ∧ h ≤ es.length then some (.ow t (q + l) z ((es.drop l).take (h - l)), st, []) else none
      | _, _ => none
    | none, .nils => match dbnd T hi 0, dbnd T lo 0 with
      | some h, some l => if l ≤ h ∧ h ≤ 0 then some (.nils, st, []) else none
      | _, _ => none
    | some n, .ptr i o => match fr st 4 (.ptr i o), dbnd T hi n, dbnd T lo 0 with
      | some (.fp xs, ts, is), some h, some l => if l ≤ h ∧ h ≤ n ∧ n * z ≤ xs.length then some (.fz (.list (((chunk z n xs).drop l).take (h - l))), st.still ts is, []) else none
      | _, _, _ => none
    | some n, .fz (.fp xs) => match dbnd T hi n, dbnd T lo 0 with
      | some h, some l => if l ≤ h ∧ h ≤ n ∧ n * z ≤ xs.length then some (.fz (.list (((chunk z n xs).drop l).take (h - l))), st, []) else none
      | _, _ => none
    | _, _ => none
  | .cuts x lo hi => match deo T x with
    | .fz (.str s) => match dbnd T hi s.length, dbnd T lo 0 with
      | some h, some l => if l ≤ h ∧ h ≤ s.length then some (.fz (.str ((s.drop l).take (h - l))), st, []) else none
      | _, _ => none
    | _ => none
  | .fa off x => match deo T x with
    | .fz (.fp cs) => if off ≤ cs.length then some (.fz (.fp (cs.drop off)), st, []) else none
    | .ptr i o => some (.ptr i (o + off), st, [])
    | .ep t k cs o => if t ∈ st.L then some (.ep t k cs (o + off), st, []) else none
    | _ => none
  | .fld n off x => match deo T x with
    | .fz (.agg cs) => match n with
      | some n => some (.fz (.agg ((cs.drop off).take n)), st, [])
      | none => match cs[off]? with
        | some x => some (.fz x, st, [])
        | none => none
    | .agg ds => match n with
      | some n => some (mkAgg ((ds.drop off).take n), st, [])
      | none => match ds[off]? with
        | some d => some (d, st, [])
        | none => none
    | _ => none
  | .ia z arr x i => match deo T i with
    | .fz (.int _ k) => match arr, deo T x with
      | none, .fz (.list es) => if 0 ≤ k then (match es[k.toNat]? with
        | some e => if e.length = z then some (.fz (.fp e), st, []) else none
        | none => none) else none
      | none, .ow t q z' es => if t ∈ st.L ∧ z' = z ∧ 0 ≤ k then (match es[k.toNat]? with
        | some e => if e.length = z then some (.ep t (q + k.toNat) e 0, st, []) else none
        | none => none) else none
      | some n, .fz (.fp cs) => if 0 ≤ k ∧ k < n ∧ k.toNat * z ≤ cs.length then some (.fz (.fp (cs.drop (k.toNat * z))), st, []) else none
      | some n, .ptr i o => if 0 ≤ k ∧ k < n then some (.ptr i (o + k.toNat * z), st, []) else none
      | _, _ => none
    | _ => none
  | .idx z n arr x i => match deo T i with
    | .fz (.int _ k) => match deo T x with
      | .fz (.agg cs) => if 0 ≤ k ∧ k < arr then (match n with
        | some n => some (.fz (.agg ((cs.drop (k.toNat * z)).take n)), st, [])
        | none => match cs[k.toNat * z]? with
          | some x => some (.fz x, st, [])
          | none => none) else none
      | _ => none
    | _ => none
  | .idxs x i => match deo T x, deo T i with
    | .fz (.str s), .fz (.int _ i) => if 0 ≤ i then (match s[i.toNat]? with
      | some b => some (.fz (.int .u8 b.toNat), st, [])
      | none => none) else none
    | _, _ => none
  | .ext x i => match deo T x with
    | .fz (.tup xs) => match xs[i]? with
      | some x => some (.fz x, st, [])
      | none => none
    | .tup ds => match ds[i]? with
      | some d => some (d, st, [])
      | none => none
    | _ => none
  | .len x => match deo T x with
    | .fz (.list es) => some (.fz (.int .i64 (es.length : Nat)), st, [])
    | .ow t _ _ es => if t ∈ st.L then some (.fz (.int .i64 (es.length : Nat)), st, []) else none
    | .nils => some (.fz (.int .i64 0), st, [])
    | _ => none
  | .lenstr x => match deo T x with
    | .fz (.str s) => some (.fz (.int .i64 (s.length : Nat)), st, [])
    | _ => none
  | .app z bytes str x y => if 0 < z then (match dSrc st str z (deo T y) with
    | some es => match deo T x with
      | .nils => if roomOK bytes es.length then some (st.own z es) else none
      | .ow t q z' es0 => if t ∈ st.L ∧ z' = z ∧ allOne es0 = true ∧ roomOK bytes (es0.length + es.length) then some ((st.drop [t]).own z (es0 ++ es)) else none
      | _ => none
    | none => none) else none
  | .mget kd z m k => match deo T m, deo T k, vF z with
    | .mp i, .fz (.int kd' n), some zx => if kd' = kd then (match st.S[i]? with
      | some (_, ds) => match findF kd n ds 0 with
        | some (some (_, x)) => some (.fz x, st, [])
        | some none => some (.fz zx, st, [])
        | none => none
      | none => none) else none
    | _, _, _ => none
  | .slow o => match dSlowX P T o with
    | some d => some (d, st, [])
    | none => none
  | .mks z bytes zero l k => match deo T l, deo T k, vFL zero with
    | .fz (.int _ l), .fz (.int _ k), some zx => if 0 < z ∧ zx.length = z ∧ IntKind.i64.wrap l = l ∧ IntKind.i64.wrap k = k ∧ 0 ≤ l ∧ l ≤ k ∧ (bytes : Int) * k ≤ 140737488355328 then some (st.own z (List.replicate l.toNat zx)) else none
    | _, _, _ => none
  | .grow z bytes zero x y => match deo T x, deo T y, vFL zero with
    | .nils, .fz (.int _ l), some zx => if 0 < z ∧ zx.length = z ∧ IntKind.i64.wrap l = l ∧ 0 ≤ l ∧ l * bytes ≤ 140737488355328 ∧ l ≤ 1152921504606846976 then some (st.own z (List.replicate l.toNat zx)) else none
    | _, _, _ => none
  | _ => none

/-- The run's operation follows. -/
def Fol (c : Ct) (st : St) (H : Heap) (r : D × St × List Nat) (E : Option (V × Heap)) : Prop := ∃ c' v H', E = some (v, H') ∧ Goes r.2.2 c st H c' r.2.1 H' ∧ DR c' H' r.1 v

section
variable {P : Program} {c : Ct} {st : St} {H : Heap} {T : Tm} {TE : TT}

theorem Fol.same (s : SR c st H) {d : D} {v : V} (h : DR c H d v) : Fol c st H (d, st, []) (some (v, H)) := ⟨c, v, H, rfl, Goes.refl s, h⟩

/-- A new slice of one's own. -/
theorem Fol.own (s : SR c st H) {es : List (List F)} {ws : List V} {z n : Nat} (hst : n = 2) (hl : es.length * z ≤ ws.length) (hz : ∀ (i : Nat) (e : List F), es[i]? = some e → e.length = z)
    (h : ∀ (i j : Nat) (e : List F) (x : F) (u : V), es[i]? = some e → e[j]? = some x → ws[i * z + j]? = some u → FR c.fz H x u) :
    Fol c st H (st.own z es) (some (.sl (some (H.length, 0, z)) es.length, H ++ [⟨ws, n⟩])) := by
  have g := Goes.fresh s (some (H.length, 0, z)) (H ++ [⟨ws, n⟩]) (fun b hb => get_append_lt hb) (by simp) (fun b o z' h => by
    cases h
    exact ⟨Nat.le_refl _, _, get_append_eq, hst⟩)
  refine ⟨_, _, _, rfl, g, ?_⟩
  have ht : (c.fresh (some (H.length, 0, z))).tk st.c = some (some (H.length, 0, z)) := by
    show (if st.c = c.nx then _ else _) = _
    rw [if_pos s.nx.symm]
  have hr := DR.ow (c := c.fresh (some (H.length, 0, z))) (H := H ++ [⟨ws, n⟩]) (q := 0) (es := es) ht (by show st.c < c.nx + 1; rw [s.nx]; omega) get_append_eq (by simpa using hl) hz (fun i j e x u h1 h2 h3 => (h i j e x u h1 h2 (by simpa using h3)).mono g.step.fz g.step.keep)
  simpa [St.own] using hr

/-- .. that is nil. -/
theorem Fol.ownNil (s : SR c st H) (z : Nat) : Fol c st H (st.own z []) (some (.sl none 0, H)) := by
  have g := Goes.fresh s none H (fun b hb => rfl) (Nat.le_refl _) (fun b o z' h => by cases h)
  refine ⟨_, _, _, rfl, g, ?_⟩
  refine DR.own ?_ (by show st.c < c.nx + 1; rw [s.nx]; omega)
  show (if st.c = c.nx then _ else _) = _
  rw [if_pos s.nx.symm]

theorem Fol.then {c' : Ct} {st' : St} {H' : Heap} {r : D × St × List Nat} {E : Option (V × Heap)} (s : SR c st H) (g : Goes [] c st H c' st' H') (h : Fol c' st' H' r E) : Fol c st H r E := by
  obtain ⟨c2, v, H2, h1, h2, h3⟩ := h
  exact ⟨c2, v, H2, h1, by simpa using g.trans s h2, h3⟩

theorem eLd_some {k : Blk} {o n : Nat} (h1 : k.st ≠ 0) (h2 : o + n ≤ k.cells.length) : eLd (some k) o n = some ((k.cells.drop o).take n) := by
  simp only [eLd]
  rw [if_pos h1, if_pos h2]

theorem take_one {α : Type} {xs : List α} {o : Nat} {x : α} (h : xs[o]? = some x) : ((xs.drop o).take 1).head? = some x := by
  have hlt := lt_of h
  rw [List.drop_eq_getElem_cons hlt]
  rw [List.getElem?_eq_getElem hlt] at h
  cases h
  rfl

theorem SR.var_st (s : SR c st H) {i : Nat} {w : Bool} {ds : List D} (h : st.S[i]? = some (w, ds)) : ∃ b k, c.vr i = some b ∧ H[b]? = some k ∧ Row (DR c H) ds k.cells ∧ k.st ≠ 0 := by
  obtain ⟨b, k, h1, h2, h3, h4, h5⟩ := s.var i w ds h
  refine ⟨b, k, h1, h2, h3, ?_⟩
  cases w with
  | true => have := (h4 rfl).1; omega
  | false => exact (h5 rfl).1

theorem putAtD_rel : ∀ (off : Nat) (ds : List D) (vs : List V) (cs : List D) (ws : List V), Row (DR c H) ds vs → Row (DR c H) cs ws → Row (DR c H) (putAtD off ds cs) (fillV.putAt off vs ws)
  | off, [], vs, cs, ws, h, k => by rw [h.nil_inv]; exact k
  | off, d :: ds, vs, cs, ws, h, k => by
    obtain ⟨y, zs, rfl, h1, h2⟩ := h.cons_inv
    exact putAtD_rel (off + 1) ds zs _ _ h2 (k.set off h1)

theorem dFill_rel (s : SR c st H) (hT : TR c H T TE) : ∀ (ps : List (Nat × Nat × EO)) (cs ds : List D) (ws : List V), dFill T st cs ps = some ds → Row (DR c H) cs ws → ∃ vs, eFill TE ws ps = some vs ∧ Row (DR c H) ds vs
  | [], cs, ds, ws, h, r => by cases h; exact ⟨ws, rfl, r⟩
  | (off, size, x) :: ps, cs, ds, ws, h, r => by
    simp only [dFill] at h
    split at h
    · rename_i es hes
      split at h
      · rename_i hc
        have hr := cellsD_rel s (deo_rel hT x) hes
        have e1 : (eo TE x).cells.length = size ∧ off + (eo TE x).cells.length ≤ ws.length := by rw [← hr.1, ← r.1]; exact hc
        simp only [eFill]
        rw [if_pos e1]
        exact dFill_rel s hT ps _ ds _ h (putAtD_rel off es _ cs ws hr r)
      · cases h
    · cases h

theorem dbnd_rel (hT : TR c H T TE) {x : Option EO} {d l : Nat} (h : dbnd T x d = some l) : bndV (eOpt TE x) d = some l := by
  cases x with
  | none => exact h
  | some x =>
    simp only [dbnd] at h
    have hx := deo_rel hT x
    split at h
    · rename_i k i hd
      rw [hd] at hx
      have h2 := hx.fz_inv
      simp only [eOpt]
      generalize eo TE x = vx at h2
      cases h2
      exact h
    · cases h

end

end Go.Proofs.Dv

namespace Go.Proofs.Dv
open Go Go.RowKit Go.Proofs.Ev

section
variable {P : Program} {c : Ct} {st : St} {H : Heap} {T : Tm} {TE : TT}

theorem allLen_spec {z : Nat} {es : List (List F)} (h : allLen z es = true) : ∀ (i : Nat) (e : List F), es[i]? = some e → e.length = z := by
  intro i e he
  unfold allLen at h
  rw [List.all_eq_true] at h
  have := h e (List.mem_of_getElem? he)
  simpa using this

theorem allOne_spec {es : List (List F)} (h : allOne es = true) {i j : Nat} {e : List F} {x : F} (he : es[i]? = some e) (hx : e[j]? = some x) : x.one = true := by
  unfold allOne at h
  rw [List.all_eq_true] at h
  have := h e (List.mem_of_getElem? he)
  rw [List.all_eq_true] at this
  exact this x (List.mem_of_getElem? hx)

/-- What a slice's value is, seen from the run. -/
theorem FR.list_inv {fz : Nat → Prop} {es : List (List F)} {v : V} (h : FR fz H (.list es) v) : (es = [] ∧ (v = .sl none 0 ∨ ∃ p, v = .sl (some p) 0)) ∨
    ∃ b o z k, v = .sl (some (b, o, z)) es.length ∧ fz b ∧ H[b]? = some k ∧ k.st ≠ 0 ∧ o + es.length * z ≤ k.cells.length ∧ (∀ (i : Nat) (e : List F), es[i]? = some e → e.length = z) ∧
      ∀ (i j : Nat) (e : List F) (x : F) (u : V), es[i]? = some e → e[j]? = some x → k.cells[o + i * z + j]? = some u → FR fz H x u := by
  cases h with
  | nil0 => exact .inl ⟨rfl, .inl rfl⟩
  | nil1 p => exact .inl ⟨rfl, .inr ⟨p, rfl⟩⟩
  | list hf hk hs hl hz h => exact .inr ⟨_, _, _, _, rfl, hf, hk, hs, hl, hz, h⟩

/-- What is alive. -/
theorem DR.ow_inv (s : SR c st H) {t q z : Nat} {es : List (List F)} {v : V} (h : DR c H (.ow t q z es) v) (ht : t ∈ st.L) : (c.tk t = some none ∧ es = [] ∧ v = .sl none 0) ∨
    ∃ b o k, c.tk t = some (some (b, o, z)) ∧ v = .sl (some (b, o + q * z, z)) es.length ∧ H[b]? = some k ∧ k.st = 2 ∧ o + (q + es.length) * z ≤ k.cells.length ∧ (∀ (i : Nat) (e : List F), es[i]? = some e → e.length = z) ∧
      ∀ (i j : Nat) (e : List F) (x : F) (u : V), es[i]? = some e → e[j]? = some x → k.cells[o + (q + i) * z + j]? = some u → FR c.fz H x u := by
  cases h with
  | ow0 h0 hn => exact absurd h0 (s.live ht)
  | own h0 hn => exact .inl ⟨h0, rfl, rfl⟩
  | ow h0 hn hk hl hz h =>
    obtain ⟨_, k', hk', hst⟩ := s.tok _ _ _ _ h0
    rw [hk] at hk'
    cases hk'
    exact .inr ⟨_, _, _, h0, rfl, hk, hst, hl, hz, h⟩

theorem DR.ep_inv (s : SR c st H) {t k p : Nat} {cs : List F} {v : V} (h : DR c H (.ep t k cs p) v) (ht : t ∈ st.L) : ∃ b o z kb, c.tk t = some (some (b, o, z)) ∧ v = .ptr (some (b, o + k * z + p)) ∧ H[b]? = some kb ∧ kb.st = 2 ∧
    o + (k + 1) * z ≤ kb.cells.length ∧ cs.length = z ∧ ∀ (j : Nat) (x : F) (u : V), cs[j]? = some x → kb.cells[o + k * z + j]? = some u → FR c.fz H x u := by
  cases h with
  | ep0 h0 hn => exact absurd h0 (s.live ht)
  | ep h0 hn hk hl hz h =>
    obtain ⟨_, k', hk', hst⟩ := s.tok _ _ _ _ h0
    rw [hk] at hk'
    cases hk'
    exact ⟨_, _, _, _, h0, rfl, hk, hst, hl, hz, h⟩

theorem bytesF_rel {R : F → V → Prop} (hR : ∀ k n v, R (.int k n) v → v = .int k n) : ∀ (es : List (List F)) (s : List UInt8) (vs : List V), bytesF es = some s → es.length = vs.length →
    (∀ (i j : Nat) (e : List F) (x : F) (u : V), es[i]? = some e → e[j]? = some x → vs[i * 1 + j]? = some u → R x u) → toBytes vs = some s
  | [], s, vs, h, hl, _ => by
    cases h
    have : vs = [] := List.eq_nil_of_length_eq_zero hl.symm
    subst this
    rfl
  | e :: es, s, vs, h, hl, hr => by
    cases vs with
    | nil => simp at hl
    | cons v vs =>
      unfold bytesF at h
      split at h
      · rename_i heq; cases heq
      · rename_i n r heq
        cases heq
        split at h
        · rename_i s' hs'
          cases h
          have h0 := hr 0 0 [.int .u8 n] (.int .u8 n) v rfl rfl rfl
          rw [hR _ _ _ h0]
          simp only [toBytes]
          rw [bytesF_rel hR es s' vs hs' (by simpa using hl) fun i j e x u h1 h2 h3 => hr (i + 1) j e x u (by simpa using h1) h2 (by
            have : (i + 1) * 1 + j = (i * 1 + j) + 1 := by omega
            rw [this]
            simpa using h3)]
        · cases h
      · cases h

theorem FR.int_inv {fz : Nat → Prop} {k : IntKind} {n : Int} {v : V} (h : FR fz H (.int k n) v) : v = .int k n := by cases h; rfl

/-- Cells of a block, as they lie. -/
theorem cells_at {ws : List V} {o i z j n : Nat} {u : V} (h : ((ws.drop o).take n)[i * z + j]? = some u) : ws[o + i * z + j]? = some u := by
  rw [List.getElem?_take] at h
  split at h
  · rw [List.getElem?_drop] at h
    rw [Nat.add_assoc]
    exact h
  · cases h

theorem dSrc_rel (s : SR c st H) {str : Bool} {z : Nat} {d : D} {v : V} {es : List (List F)} (hz : 0 < z) (h : dSrc st str z d = some es) (hd : DR c H d v) :
    ∃ news, eSrc listHP H str z v = some (es.length, news) ∧ news.all V.one = true ∧ news.length = es.length * z ∧ (∀ (i : Nat) (e : List F), es[i]? = some e → e.length = z) ∧
      ∀ (i j : Nat) (e : List F) (x : F) (u : V), es[i]? = some e → e[j]? = some x → news[i * z + j]? = some u → FR c.fz H x u := by
  have ones : ∀ (news : List V), news.length = es.length * z → (∀ (i : Nat) (e : List F), es[i]? = some e → e.length = z) → allOne es = true →
      (∀ (i j : Nat) (e : List F) (x : F) (u : V), es[i]? = some e → e[j]? = some x → news[i * z + j]? = some u → FR c.fz H x u) → news.all V.one = true := by
    intro news h1 h2 h3 h4
    rw [List.all_eq_true]
    intro u hu
    obtain ⟨n, hn⟩ := List.mem_iff_getElem?.1 hu
    have hlt := lt_of hn
    rw [h1] at hlt
    have hq : n / z < es.length := by rw [Nat.div_lt_iff_lt_mul hz]; exact hlt
    obtain ⟨e, he⟩ := at_of hq
    have hr : n % z < e.length := by rw [h2 _ e he]; exact Nat.mod_lt _ hz
    obtain ⟨x, hx⟩ := at_of hr
    have hdm : n / z * z + n % z = n := by rw [Nat.mul_comm]; exact Nat.div_add_mod n z
    exact F.one_rel (h4 _ _ e x u he hx (by rw [hdm]; exact hn)) (allOne_spec h3 he hx)
  unfold dSrc at h
  split at h
  · rename_i es'
    split at h
    · rename_i hc
      cases h
      have hz' := allLen_spec hc.1
      rcases hd.fz_inv.list_inv with ⟨rfl, h1⟩ | ⟨b, o, z', k, rfl, hf, hk, hs, hl, hz2, hcell⟩
      · refine ⟨[], ?_, rfl, by simp, hz', fun i j e x u h => by simp at h⟩
        rcases h1 with rfl | ⟨p, rfl⟩ <;> simp [eSrc]
      · by_cases hn : es.length = 0
        · have : es = [] := List.eq_nil_of_length_eq_zero hn
          subst this
          refine ⟨[], ?_, rfl, by simp, hz', fun i j e x u h => by simp at h⟩
          simp [eSrc]
        · obtain ⟨e0, he0⟩ := at_of (xs := es) (i := 0) (by omega)
          have hzz : z' = z := by rw [← hz2 0 e0 he0, hz' 0 e0 he0]
          subst hzz
          have hlen : ((k.cells.drop o).take (es.length * z')).length = es.length * z' := by simp; omega
          have hcells : ∀ (i j : Nat) (e : List F) (x : F) (u : V), es[i]? = some e → e[j]? = some x → ((k.cells.drop o).take (es.length * z'))[i * z' + j]? = some u → FR c.fz H x u := fun i j e x u h1 h2 h3 => hcell i j e x u h1 h2 (cells_at h3)
          refine ⟨(k.cells.drop o).take (es.length * z'), ?_, ones _ hlen hz' hc.2 hcells, hlen, hz', hcells⟩
          simp only [eSrc, if_neg hn, if_true, listHP, hk, eLd_some hs hl]
    · cases h
  · rename_i t q z' es'
    split at h
    · rename_i hc
      cases h
      obtain rfl := hc.2.1
      have hz' := allLen_spec hc.2.2.1
      rcases hd.ow_inv s hc.1 with ⟨h1, rfl, rfl⟩ | ⟨b, o, k, ht, rfl, hk, hs, hl, hz2, hcell⟩
      · refine ⟨[], ?_, rfl, by simp, hz', fun i j e x u h => by simp at h⟩
        simp [eSrc]
      · by_cases hn : es.length = 0
        · have : es = [] := List.eq_nil_of_length_eq_zero hn
          subst this
          refine ⟨[], ?_, rfl, by simp, hz', fun i j e x u h => by simp at h⟩
          simp [eSrc]
        · have hl' : o + q * z' + es.length * z' ≤ k.cells.length := by rw [Nat.add_mul] at hl; omega
          have hlen : ((k.cells.drop (o + q * z')).take (es.length * z')).length = es.length * z' := by simp; omega
          have hcells : ∀ (i j : Nat) (e : List F) (x : F) (u : V), es[i]? = some e → e[j]? = some x → ((k.cells.drop (o + q * z')).take (es.length * z'))[i * z' + j]? = some u → FR c.fz H x u := fun i j e x u h1 h2 h3 => hcell i j e x u h1 h2 (by
            have := cells_at h3
            rw [Nat.add_mul, ← Nat.add_assoc]
            exact this)
          refine ⟨(k.cells.drop (o + q * z')).take (es.length * z'), ?_, ones _ hlen hz' hc.2.2.2 hcells, hlen, hz', hcells⟩
          simp only [eSrc, if_neg hn, if_true, listHP, hk, eLd_some (by omega : k.st ≠ 0) hl']
    · cases h
  · cases h
    cases hd
    exact ⟨[], by simp [eSrc], rfl, by simp, fun i e h => by simp at h, fun i j e x u h => by simp at h⟩
  · rename_i str'
    split at h
    · rename_i hz1
      subst hz1
      cases h
      have hd' := hd.fz_inv
      cases hd'
      have hz' : ∀ (i : Nat) (e : List F), (str'.map fun b => [F.int .u8 b.toNat])[i]? = some e → e.length = 1 := by
        intro i e he
        rw [List.getElem?_map] at he
        cases hs : str'[i]? with
        | none => rw [hs] at he; cases he
        | some b => rw [hs] at he; cases he; rfl
      refine ⟨str'.map fun b => .int .u8 b.toNat, by simp [eSrc], by simp [V.one], by simp, hz', ?_⟩
      intro i j e x u he hx hu
      rw [List.getElem?_map] at he
      cases hs : str'[i]? with
      | none => rw [hs] at he; cases he
      | some b =>
        rw [hs] at he
        cases he
        have hj : j = 0 := by
          have := lt_of hx
          simp at this
          exact this
        subst hj
        simp at hx
        subst hx
        simp only [Nat.mul_one, Nat.add_zero, List.getElem?_map, hs, Option.map_some, Option.some.injEq] at hu
        subst hu
        exact .int _ _
    · cases h
  · cases h

end

end Go.Proofs.Dv

namespace Go.Proofs.Dv
open Go Go.RowKit Go.Proofs.Ev

section
variable {P : Program} {c : Ct} {st : St} {H : Heap} {T : Tm} {TE : TT}

theorem dNil_rel (s : SR c st H) {nk : Nat} {d n : D} {v u : V} {b : Bool} (h : dNil st nk d = some b) (hn : isNilD nk n = true) (hd : DR c H d v) (hnu : DR c H n u) : eNil nk v u = some b ∧ eNil nk u v = some b := by
  unfold isNilD at hn
  split at hn
  · cases hnu
    unfold dNil at h
    split at h <;> try (rename_i h1; cases h1; done)
    · cases h; cases hd; exact ⟨rfl, rfl⟩
    · rename_i e es _
      cases h
      rcases hd.fz_inv.list_inv with ⟨h1, _⟩ | ⟨b, o, z, k, rfl, _⟩
      · cases h1
      · exact ⟨rfl, rfl⟩
    · rename_i t q z e es _
      split at h
      · rename_i ht
        cases h
        rcases hd.ow_inv s ht with ⟨_, h1, _⟩ | ⟨b, o, k, _, rfl, _⟩
        · cases h1
        · exact ⟨rfl, rfl⟩
      · cases h
    · cases h
  · have hu := hnu.fz_inv
    cases hu
    unfold dNil at h
    split at h <;> try (rename_i h1; cases h1; done)
    · cases h; have := hd.fz_inv; cases this; exact ⟨rfl, rfl⟩
    · cases h; have := hd.fz_inv; cases this; exact ⟨rfl, rfl⟩
    · cases h; cases hd; exact ⟨rfl, rfl⟩
    · split at h
      · rename_i ht
        cases h
        obtain ⟨b, o, z, kb, _, rfl, _⟩ := hd.ep_inv s ht
        exact ⟨rfl, rfl⟩
      · cases h
    · cases h
  · have hu := hnu.fz_inv
    cases hu
    unfold dNil at h
    split at h <;> try (rename_i h1; cases h1; done)
    · cases h; have := hd.fz_inv; cases this; exact ⟨rfl, rfl⟩
    · cases h; have := hd.fz_inv; cases this; exact ⟨rfl, rfl⟩
    · cases h; cases hd; exact ⟨rfl, rfl⟩
    · cases h
  · have hu := hnu.fz_inv
    cases hu
    unfold dNil at h
    split at h <;> try (rename_i h1; cases h1; done)
    · cases h; have := hd.fz_inv; cases this; exact ⟨rfl, rfl⟩
    · cases h; have := hd.fz_inv; cases this; exact ⟨rfl, rfl⟩
    · cases h
  · cases hn

theorem dNil_kinds {nk : Nat} {v u : V} {b : Bool} {op : BinOp} (h : eNil nk v u = some b) : eBin op nk v u = (match op with | .eql => some (.bool b) | .neq => some (.bool (!b)) | _ => none) := by
  unfold eBin
  split
  · simp [eNil] at h
  · simp [eNil] at h
  · simp [eNil] at h
  · rw [h]
    rfl

theorem dBin_rel (s : SR c st H) {op : BinOp} {nk : Nat} {x y d : D} {v u : V} (h : dBin st op nk x y = some d) (hx : DR c H x v) (hy : DR c H y u) : ∃ r, eBin op nk v u = some r ∧ DR c H d r := by
  have eq : ∀ (o : Option Bool), dEq op o = some d → (∀ b, o = some b → eNil nk v u = some b) → ∃ r, eBin op nk v u = some r ∧ DR c H d r := by
    intro o ho hb
    unfold dEq at ho
    split at ho
    · rename_i b
      rw [dNil_kinds (hb b rfl)]
      split at ho
      · cases ho; exact ⟨_, rfl, .fz (.bool _)⟩
      · cases ho; exact ⟨_, rfl, .fz (.bool _)⟩
      · cases ho
    · cases ho
  unfold dBin at h
  split at h
  · rename_i hn
    exact eq _ h fun b hb => (dNil_rel s hb hn hx hy).1
  · split at h
    · rename_i hn
      exact eq _ h fun b hb => (dNil_rel s hb hn hy hx).2
    · split at h
      · rename_i a b
        unfold dScal at h
        split at h
        · rename_i va vb hva hvb
          obtain rfl := F.cv_rel hx.fz_inv hva
          obtain rfl := F.cv_rel hy.fz_inv hvb
          split at h
          · rename_i r hr
            split at h
            · rename_i z hz
              cases h
              exact ⟨r, hr, .fz (vF_rel _ _ r z hz)⟩
            · cases h
          · cases h
        · cases h
      · cases h

theorem dEnv_rel (hT : TR c H T TE) {x : Operand} {v : V} (h : dEnv T x = some v) : evT TE x = some v := by
  cases x with
  | tmp i =>
    simp only [dEnv] at h
    have hi := hT i
    unfold D.full at h
    split at h
    · rename_i x hx
      rw [hx] at hi
      simp only [evT]
      rw [F.full_rel x _ v hi.fz_inv h]
    · rename_i hx
      rw [hx] at hi
      cases h
      simp only [evT]
      generalize hv : TE.at i = w at hi
      cases hi
      rfl
    · cases h
  | const k => exact h
  | global g => exact h
  | func f => exact h

theorem dSlow_rel (hT : TR c H T TE) {o : Oper} {d : D} (h : dSlow P T o = some d) : ∃ v, evA P (evT TE) o [] = some (v, []) ∧ DR c H d v := by
  unfold dSlow at h
  split at h
  · rename_i hall
    rw [Array.all_eq_true_iff_forall_mem] at hall
    split at h
    · rename_i v hv
      have hcongr : evA P (dEnv T) o [] = evA P (evT TE) o [] := evA_congr fun x hx => by
        obtain ⟨w, hw⟩ := Option.isSome_iff_exists.1 (hall x hx)
        rw [hw, dEnv_rel hT hw]
      refine ⟨v, by rw [← hcongr]; exact hv, ?_⟩
      simp only [toD] at h
      split at h
      · rename_i x hx
        cases h
        exact .fz (vF_rel _ _ v x hx)
      · cases h
    · cases h
  · cases h

theorem dAssert_rel {fz : Nat → Prop} {x r : F} {v : V} {a : TypeId} {ok : Bool} (hx : FR fz H x v) (h : dAssert P x a ok = some r) : ∃ u, evAssert P v a ok = some u ∧ FR fz H r u := by
  have pair : ∀ (x : F) (v : V) (b : Bool), FR fz H x v → FR fz H (.tup [x, .bool b]) (.tup [v, .bool b]) := fun x v b hx => by
    have := Row.cons hx (Row.cons (.bool b) (Row.nil (R := FR fz H)))
    exact .tup this.1 this.2
  unfold dAssert at h
  split at h
  · rename_i t y
    cases hx with
    | ifc hy =>
      rename_i w
      simp only [evAssert]
      split at h
      · rename_i want hu
        simp only [hu]
        split at h
        · rename_i i hi
          simp only [hi]
          split at h
          · rename_i hb
            simp only [hb]
            cases h
            cases ok with
            | true => exact ⟨_, rfl, pair _ _ true (.ifc hy)⟩
            | false => exact ⟨_, rfl, .ifc hy⟩
          · rename_i hb
            simp only [hb]
            split at h
            · rename_i hok
              rw [if_pos hok]
              split at h
              · rename_i z hz
                simp only [hz]
                split at h
                · rename_i z' hz'
                  cases h
                  exact ⟨_, rfl, pair _ _ false (vF_rel fz H z z' hz')⟩
                · cases h
              · cases h
            · cases h
        · cases h
      · rename_i d hd hu
        simp only [hu]
        cases d
        case interface want => exact (hd want rfl).elim
        all_goals
          split at h
          · rename_i hta
            rw [if_pos hta]
            cases h
            cases ok with
            | true => exact ⟨_, rfl, pair _ _ true hy⟩
            | false => exact ⟨_, rfl, hy⟩
          · rename_i hta
            rw [if_neg hta]
            split at h
            · rename_i hok
              rw [if_pos hok]
              split at h
              · rename_i z hz
                simp only [hz]
                split at h
                · rename_i z' hz'
                  cases h
                  exact ⟨_, rfl, pair _ _ false (vF_rel fz H z z' hz')⟩
                · cases h
              · cases h
            · cases h
      · cases h
  · cases h

theorem dOpnd_rel (hT : TR c H T TE) {x : Operand} {y : F} (h : dOpnd T x = .fz y) : ∃ v, evT TE x = some v ∧ FR c.fz H y v := by
  cases x with
  | tmp i =>
    have hi := hT i
    have h' : T.at i = .fz y := h
    rw [h'] at hi
    exact ⟨_, rfl, hi.fz_inv⟩
  | const k => cases h
  | global g => cases h
  | func f => cases h

theorem dDiff_rel (hT : TR c H T TE) {t yt : TypeId} {x y : Operand} {o : Oper} {op : BinOp} (ho : o.op = .binOp op t x y yt) (h : dDiff P t (dOpnd T x) (dOpnd T y) = true) :
    ∃ vx vy, evT TE x = some vx ∧ evT TE y = some vy ∧ pureOp P (evT TE) o = none ∧ nilEq P t vx vy = some false := by
  unfold dDiff at h
  split at h
  · rename_i ms hu
    split at h
    · rename_i t1 cs t2 z hx hy
      obtain ⟨vx, h1, h2⟩ := dOpnd_rel hT hx
      obtain ⟨vy, h3, h4⟩ := dOpnd_rel hT hy
      cases h2 with
      | ifc h2 =>
        cases h2 with
        | fp hf hk hs hl hc =>
          cases h4 with
          | ifc h4 =>
            have hne : t1 ≠ t2 := by simpa using h
            refine ⟨_, _, h1, h3, pureOp_none ho h1 h3 (.inl (by simp [conc])), ?_⟩
            simp [nilEq, hu, hne]
    · rename_i t1 z t2 cs _ hx hy
      obtain ⟨vx, h1, h2⟩ := dOpnd_rel hT hx
      obtain ⟨vy, h3, h4⟩ := dOpnd_rel hT hy
      cases h4 with
      | ifc h4 =>
        cases h4 with
        | fp hf hk hs hl hc =>
          cases h2 with
          | ifc h2 =>
            have hne : t1 ≠ t2 := by simpa using h
            refine ⟨_, _, h1, h3, pureOp_none ho h1 h3 (.inr (by simp [conc])), ?_⟩
            simp [nilEq, hu, hne]
    · cases h
  · cases h

theorem dSlowX_rel (hT : TR c H T TE) {o : Oper} {d : D} (h : dSlowX P T o = some d) : ∃ v, evA P (evT TE) o [] = some (v, []) ∧ DR c H d v := by
  unfold dSlowX at h
  split at h
  · rename_i d' hd
    cases h
    exact dSlow_rel hT hd
  · split at h
    · rename_i x xt a ok ho
      split at h
      · rename_i y hy
        split at h
        · rename_i r hr
          cases h
          obtain ⟨v, h1, h2⟩ := dOpnd_rel hT hy
          obtain ⟨u, h3, h4⟩ := dAssert_rel h2 hr
          refine ⟨u, ?_, .fz h4⟩
          unfold evA
          simp only [ho, h1, h3]
        · cases h
      · cases h
    · rename_i t x y yt ho
      split at h
      · rename_i hd
        cases h
        obtain ⟨vx, vy, h1, h2, h3, h4⟩ := dDiff_rel hT ho hd
        refine ⟨.bool false, ?_, .fz (.bool _)⟩
        unfold evA
        simp only [ho, h3, h1, h2, h4]
      · cases h
    · rename_i t x y yt ho
      split at h
      · rename_i hd
        cases h
        obtain ⟨vx, vy, h1, h2, h3, h4⟩ := dDiff_rel hT ho hd
        refine ⟨.bool true, ?_, .fz (.bool _)⟩
        unfold evA
        simp only [ho, h3, h1, h2, h4]
        rfl
      · cases h
    · cases h

theorem evT_eq' (TE : TT) : (fun
      | .tmp i => some (TE.at i)
      | .const c => absN 9 c
      | .global g => some (.raw ⟨g, 0, none⟩)
      | .func f => some (.fn f []) : Operand → Option V) = evT TE := by funext x; cases x <;> rfl

/-- A new block that stays. -/
theorem Goes.stay (s : SR c st H) (k : Blk) : Goes [] c st H { c with fz := fun b => c.fz b ∨ b = H.length } st (H ++ [k]) := by
  have hstep : Step c H { c with fz := fun b => c.fz b ∨ b = H.length } (H ++ [k]) :=
    ⟨fun _ h => .inl h, fun b _ hb => get_append_lt hb, Nat.le_refl _, fun t _ => .inr ⟨rfl, fun b o z h => get_append_lt (s.own_lt (.inl ⟨t, o, z, h⟩))⟩, fun _ _ h => h⟩
  refine ⟨⟨s.nx, s.tl, s.tlt, fun t b o z h => ?_, s.tinj, fun i w ds h => ?_, s.vlt, s.vinj, s.vt, fun b h => ?_⟩, hstep, by simp, fun b hb _ => get_append_lt hb, fun b h => .inl h, fun b h => ?_, fun i b h _ => get_append_lt (s.own_lt (.inr ⟨i, h⟩))⟩
  · obtain ⟨h1, k', hk, h2⟩ := s.tok t b o z h
    have hlt := lt_of hk
    refine ⟨?_, k', by rw [get_append_lt hlt]; exact hk, h2⟩
    rintro (h3 | h3)
    · exact h1 h3
    · omega
  · obtain ⟨b, k', h1, h2, h3, h4, h5⟩ := s.var i w ds h
    have hlt := lt_of h2
    refine ⟨b, k', h1, by rw [get_append_lt hlt]; exact h2, h3.mono fun _ _ h => h.mono hstep, fun hw => ⟨(h4 hw).1, ?_⟩, fun hw => ⟨(h5 hw).1, .inl (h5 hw).2⟩⟩
    rintro (h6 | h6)
    · exact (h4 hw).2 h6
    · omega
  · rcases h with h | rfl
    · have := s.flt b h; simp; omega
    · simp
  · rcases h with h | rfl
    · exact .inl h
    · exact .inr (.inr (Nat.le_refl _))

/-- A slice of one's own under a new name. -/
theorem Goes.again (s : SR c st H) {t b o z o' z' : Nat} (ht : c.tk t = some (some (b, o, z))) : Goes [] c st H ((c.drop [t]).fresh (some (b, o', z'))) (st.drop [t]).fresh H := by
  have d := s.drop [t]
  have g := Goes.drop s [t]
  have hown : ∀ u x o1 z1, c.tk u = some (some (x, o1, z1)) → x < H.length := fun u x o1 z1 h => s.own_lt (.inl ⟨u, o1, z1, h⟩)
  have hstep : Step c H ((c.drop [t]).fresh (some (b, o', z'))) H := by
    refine ⟨fun _ h => h, fun _ _ _ => rfl, Nat.le_succ _, fun u hu => ?_, fun _ _ h => h⟩
    show (if u = c.nx then _ else (c.drop [t]).tk u) = none ∨ _
    rw [if_neg (by omega)]
    rcases g.step.tk u hu with h | ⟨h, _⟩
    · exact .inl h
    · right
      refine ⟨?_, fun _ _ _ _ => rfl⟩
      show (if u = c.nx then _ else (c.drop [t]).tk u) = _
      rw [if_neg (by omega)]
      exact h
  have key : ∀ u y, ((c.drop [t]).fresh (some (b, o', z'))).tk u = some y → (u = c.nx ∧ y = some (b, o', z')) ∨ (u ≠ c.nx ∧ u ≠ t ∧ c.tk u = some y) := fun u y h => by
    rcases fresh_tk h with ⟨h1, h2⟩ | ⟨h1, h2⟩
    · exact .inl ⟨h1, h2.symm⟩
    · obtain ⟨h3, h4⟩ := drop_tk h2
      exact .inr ⟨h1, fun e => h3 (by simp [e]), h4⟩
  refine ⟨⟨by show c.nx + 1 = st.c + 1; rw [s.nx], fun u => ?_, fun u h => ?_, fun u x o1 z1 h => ?_, fun u u' x o1 z1 o2 z2 h h' => ?_, fun i w ds h => ?_, s.vlt, s.vinj, fun i u x o1 z1 h h' => ?_, s.flt⟩, hstep, Nat.le_refl _, fun _ _ _ => rfl, fun x h => ?_, fun _ h => .inl h, fun _ _ _ _ => rfl⟩
  · show u ∈ st.c :: (st.drop [t]).L ↔ (if u = c.nx then _ else (c.drop [t]).tk u) ≠ none
    rw [List.mem_cons, d.tl, s.nx]
    by_cases hu : u = st.c
    · simp [hu]
    · simp [hu]
  · show u < c.nx + 1
    have h' : (if u = c.nx then some (some (b, o', z')) else (c.drop [t]).tk u) ≠ none := h
    split at h'
    · omega
    · have : u < c.nx := d.tlt u h'
      omega
  · rcases key u _ h with ⟨_, h2⟩ | ⟨_, _, h2⟩
    · cases h2
      exact s.tok t b o z ht
    · exact s.tok u x o1 z1 h2
  · rcases key u _ h with ⟨h1, h2⟩ | ⟨h1, h3, h2⟩ <;> rcases key u' _ h' with ⟨h1', h2'⟩ | ⟨h1', h3', h2'⟩
    · rw [h1, h1']
    · cases h2
      exact absurd (s.tinj u' t _ _ _ _ _ h2' ht) h3'
    · cases h2'
      exact absurd (s.tinj u t _ _ _ _ _ h2 ht) h3
    · exact s.tinj u u' x o1 z1 o2 z2 h2 h2'
  · obtain ⟨x, k, h1, h2, h3, h4⟩ := s.var i w ds h
    exact ⟨x, k, h1, h2, h3.mono fun _ _ h => h.mono hstep, h4⟩
  · rcases key u _ h' with ⟨_, h2⟩ | ⟨_, _, h2⟩
    · cases h2
      exact s.vt i t b o z h ht
    · exact s.vt i u x o1 z1 h h2
  · rcases h with ⟨u, o1, z1, h⟩ | h
    · rcases key u _ h with ⟨_, h2⟩ | ⟨_, _, h2⟩
      · cases h2
        exact .inl (.inl ⟨t, o, z, ht⟩)
      · exact .inl (.inl ⟨u, o1, z1, h2⟩)
    · exact .inl (.inr h)

theorem Fol.again (s : SR c st H) {t q b o z : Nat} {es : List (List F)} {k : Blk} (ht : c.tk t = some (some (b, o, z))) (hk : H[b]? = some k) (hl : o + (q + es.length) * z ≤ k.cells.length)
    (hz : ∀ (i : Nat) (e : List F), es[i]? = some e → e.length = z)
    (h : ∀ (i j : Nat) (e : List F) (x : F) (u : V), es[i]? = some e → e[j]? = some x → k.cells[o + (q + i) * z + j]? = some u → FR c.fz H x u) :
    Fol c st H ((st.drop [t]).own z es) (some (.sl (some (b, o + q * z, z)) es.length, H)) := by
  have g := Goes.again s (o' := o + q * z) (z' := z) ht
  refine ⟨_, _, _, rfl, g, ?_⟩
  have hn : (st.drop [t]).c = c.nx := s.nx.symm
  have ht' : ((c.drop [t]).fresh (some (b, o + q * z, z))).tk (st.drop [t]).c = some (some (b, o + q * z, z)) := by
    show (if (st.drop [t]).c = c.nx then _ else _) = _
    rw [if_pos hn]
  have hr := DR.ow (c := (c.drop [t]).fresh (some (b, o + q * z, z))) (H := H) (q := 0) (es := es) ht' (by show (st.drop [t]).c < c.nx + 1; rw [hn]; omega) hk (by rw [Nat.add_mul] at hl; rw [Nat.zero_add]; omega) hz
    (fun i j e x u h1 h2 h3 => (h i j e x u h1 h2 (by
      rw [Nat.zero_add] at h3
      rw [Nat.add_mul, ← Nat.add_assoc]
      exact h3)))
  simpa [St.own] using hr

set_option maxHeartbeats 4000000 in
theorem dA_ok (s : SR c st H) (hT : TR c H T TE) {op : EOp} {r : D × St × List Nat} (h : dA P T st op = some r) : Fol c st H r (eA P listHP TE H op) := by
  cases op with
  | mv x =>
    cases h
    exact Fol.same s (deo_rel hT x)
  | pick x a b =>
    have hx := deo_rel hT x
    have ha := deo_rel hT a
    have hb := deo_rel hT b
    simp only [dA] at h
    simp only [eA]
    split at h
    · rename_i hd
      rw [hd] at hx
      have := hx.fz_inv
      generalize eo TE x = vx at this ⊢
      cases this
      cases h
      exact Fol.same s ha
    · rename_i hd
      rw [hd] at hx
      have := hx.fz_inv
      generalize eo TE x = vx at this ⊢
      cases this
      cases h
      exact Fol.same s hb
    · cases h
  | new k =>
    cases h
    have g := Goes.var s (k.map vD1) k 2 (Nat.le_refl _) (vD1s_rel c H k)
    refine ⟨_, _, _, rfl, g, .ptr ?_⟩
    show (if st.S.length = st.S.length then _ else _) = _
    rw [if_pos rfl]
    rfl
  | box x =>
    have hx := deo_rel hT x
    simp only [dA] at h
    split at h
    · rename_i ds hds
      cases h
      have g := Goes.var s ds (eo TE x).cells 2 (Nat.le_refl _) (cellsD_rel s hx hds)
      refine ⟨_, _, _, rfl, g, .ptr ?_⟩
      show (if st.S.length = st.S.length then _ else _) = _
      rw [if_pos rfl]
      rfl
    · cases h
  | build z ps =>
    simp only [dA] at h
    simp only [eA]
    split at h
    · rename_i ds hds
      cases h
      obtain ⟨vs, h1, h2⟩ := dFill_rel s hT ps _ ds z hds (vD1s_rel c H z)
      rw [h1]
      exact Fol.same s (mkAgg_rel h2)
    · cases h
  | bslice z n zs ps =>
    simp only [dA] at h
    simp only [eA]
    split at h
    · rename_i ds hds
      obtain ⟨vs, h1, h2⟩ := dFill_rel s hT ps _ ds zs hds (vD1s_rel c H zs)
      rw [h1]
      split at h
      · rename_i xs ts is hxs
        split at h
        · rename_i hlen
          cases h
          have g := Goes.still s ts is
          have hrow := frL_rel (fr_rel s 6) ds vs xs ts is hxs h2
          have hcc := chunk_cells (R := FR (c.still ts is).fz H) (z := z) (n := n) (xs := xs) (ws := vs) (o := 0) (by omega) (fun j x u h3 h4 => hrow.2 j x u h3 (by simpa using h4))
          have hw := Fol.own (n := 2) g.sr (es := chunk z n xs) (ws := vs) rfl (by rw [chunk_length, ← hrow.1]; omega) hcc.1 (fun i j e x u h3 h4 h5 => hcc.2 i j e x u h3 h4 (by simpa using h5))
          rw [chunk_length] at hw
          exact hw.then s g
        · cases h
      · cases h
    · cases h
  | ld1 x =>
    have hx := deo_rel hT x
    simp only [dA] at h
    simp only [eA]
    generalize eo TE x = vx at hx ⊢
    split at h
    · rename_i c0 cs hd
      rw [hd] at hx
      cases h
      have := hx.fz_inv
      cases this with
      | fp hf hk hs hl hc =>
        rename_i b o k
        simp only [List.length_cons] at hl
        obtain ⟨u, hu⟩ := at_of (xs := k.cells) (i := o) (by omega)
        simp only [listHP, hk, eLd_some hs (by omega : o + 1 ≤ k.cells.length), take_one hu]
        exact Fol.same s (.fz (hc 0 c0 u rfl (by simpa using hu)))
    · rename_i i o hd
      rw [hd] at hx
      split at h
      · rename_i w ds hS
        split at h
        · rename_i d hdo
          cases h
          cases hx with
          | ptr hv =>
            rename_i b
            obtain ⟨b', k, h1, h2, h3, h4⟩ := s.var_st hS
            rw [hv] at h1
            cases h1
            obtain ⟨u, hu, hr⟩ := h3.get hdo
            have := lt_of hu
            simp only [listHP, h2, eLd_some h4 (by omega : o + 1 ≤ k.cells.length), take_one hu]
            exact Fol.same s hr
        · cases h
      · cases h
    · rename_i t k cs o hd
      rw [hd] at hx
      split at h
      · rename_i ht
        split at h
        · rename_i x' hx'
          cases h
          obtain ⟨b, o', z, kb, h1, rfl, h2, h3, h4, h5, h6⟩ := hx.ep_inv s ht
          have hlt := lt_of hx'
          have e1 : (k + 1) * z = k * z + z := by rw [Nat.add_mul, Nat.one_mul]
          obtain ⟨u, hu⟩ := at_of (xs := kb.cells) (i := o' + k * z + o) (by omega)
          simp only [listHP, h2, eLd_some (by omega : kb.st ≠ 0) (by omega : o' + k * z + o + 1 ≤ kb.cells.length), take_one hu]
          exact Fol.same s (.fz (h6 o x' u hx' hu))
        · cases h
      · cases h
    · cases h
  | ldn n x =>
    have hx := deo_rel hT x
    simp only [dA] at h
    simp only [eA]
    generalize eo TE x = vx at hx ⊢
    split at h
    · rename_i cs hd
      rw [hd] at hx
      split at h
      · rename_i hn
        cases h
        have := hx.fz_inv
        cases this with
        | fp hf hk hs hl hc =>
          rename_i b o k
          simp only [listHP, hk, eLd_some hs (by omega : o + n ≤ k.cells.length)]
          have hrow := (Row.of_cells hl hc).take n
          rw [List.take_take, Nat.min_eq_left hn] at hrow
          exact Fol.same s (.fz (.agg hrow.1 hrow.2))
      · cases h
    · rename_i i o hd
      rw [hd] at hx
      split at h
      · rename_i w ds hS
        split at h
        · rename_i hn
          cases h
          cases hx with
          | ptr hv =>
            rename_i b
            obtain ⟨b', k, h1, h2, h3, h4⟩ := s.var_st hS
            rw [hv] at h1
            cases h1
            have hl := h3.1
            simp only [listHP, h2, eLd_some h4 (by omega : o + n ≤ k.cells.length)]
            exact Fol.same s (mkAgg_rel ((h3.drop o).take n))
        · cases h
      · cases h
    · rename_i t k cs o hd
      rw [hd] at hx
      split at h
      · rename_i ht
        cases h
        obtain ⟨b, o', z, kb, h1, rfl, h2, h3, h4, h5, h6⟩ := hx.ep_inv s ht.1
        have e1 : (k + 1) * z = k * z + z := by rw [Nat.add_mul, Nat.one_mul]
        have := ht.2
        simp only [listHP, h2, eLd_some (by omega : kb.st ≠ 0) (by omega : o' + k * z + o + n ≤ kb.cells.length)]
        have hrow := ((Row.of_cells (by omega) h6).drop o).take n
        have e2 : (((kb.cells.drop (o' + k * z)).take cs.length).drop o).take n = (kb.cells.drop (o' + k * z + o)).take n := by
          rw [List.drop_take, List.drop_drop, List.take_take, Nat.min_eq_left (by omega)]
        rw [e2] at hrow
        exact Fol.same s (.fz (.agg hrow.1 hrow.2))
      · cases h
    · cases h
  | st n x y =>
    have hx := deo_rel hT x
    have hy := deo_rel hT y
    simp only [dA] at h
    simp only [eA]
    generalize eo TE x = vx at hx ⊢
    split at h
    · rename_i i o hd
      rw [hd] at hx
      split at h
      · rename_i ds cs hS hcs
        split at h
        · rename_i hc
          cases h
          cases hx with
          | ptr hv =>
            rename_i b
            obtain ⟨b', k, h1, h2, h3, h4, h5⟩ := s.var i true ds hS
            rw [hv] at h1
            cases h1
            have hrow := cellsD_rel s hy hcs
            have hl := h3.1
            have hl2 := hrow.1
            have hall : (eo TE y).cells.all V.one = true := by
              rw [List.all_eq_true]
              intro u hu
              obtain ⟨j, hj⟩ := List.mem_iff_getElem?.1 hu
              obtain ⟨d, hdj⟩ := at_of (xs := cs) (i := j) (by rw [hl2]; exact lt_of hj)
              have := hc.2.2
              rw [List.all_eq_true] at this
              exact oneD_rel s (hrow.2 j d u hdj hj) (this d (List.mem_of_getElem? hdj))
            have e1 : n = (eo TE y).cells.length := by rw [← hl2]; exact hc.1
            simp only [eSt, listHP, h2]
            rw [if_pos e1, if_pos (h4 rfl).1, if_pos (by rw [← hl2, ← hl]; exact hc.2.1), if_pos hall]
            refine ⟨c, _, _, rfl, Goes.write s hS hv h2 _ _ ?_, .fz (.tup rfl (fun j x u h => by simp at h))⟩
            have := ((h3.take o).append hrow).append (h3.drop (o + cs.length))
            rw [hl2] at this ⊢
            exact this
        · cases h
      · cases h
    · cases h
  | nilchk x =>
    have hx := deo_rel hT x
    simp only [dA] at h
    simp only [eA]
    generalize eo TE x = vx at hx ⊢
    split at h
    · rename_i cs hd
      rw [hd] at hx
      cases h
      have := hx.fz_inv
      cases this with
      | fp hf hk hs hl hc => exact Fol.same s (.fz (.fp hf hk hs hl hc))
    · rename_i i o hd
      rw [hd] at hx
      cases h
      cases hx with
      | ptr hv => exact Fol.same s (.ptr hv)
    · rename_i t k cs o hd
      rw [hd] at hx
      split at h
      · rename_i ht
        cases h
        obtain ⟨b, o', z, kb, h1, rfl, h2, h3, h4, h5, h6⟩ := hx.ep_inv s ht
        exact Fol.same s hx
      · cases h
    · rename_i f cs hd
      rw [hd] at hx
      cases h
      have := hx.fz_inv
      cases this with
      | fn hl hc => exact Fol.same s (.fz (.fn hl hc))
    · rename_i f ds hd
      rw [hd] at hx
      cases h
      cases hx with
      | fn hl hc => exact Fol.same s (.fn hl hc)
    · rename_i t y hd
      rw [hd] at hx
      cases h
      have := hx.fz_inv
      cases this with
      | ifc hc => exact Fol.same s (.fz (.ifc hc))
    · cases h
  | bin op nk x y =>
    simp only [dA] at h
    simp only [eA]
    split at h
    · rename_i d hd
      cases h
      obtain ⟨r, h1, h2⟩ := dBin_rel s hd (deo_rel hT x) (deo_rel hT y)
      rw [h1]
      exact Fol.same s h2
    · cases h
  | not x =>
    have hx := deo_rel hT x
    simp only [dA] at h
    simp only [eA]
    generalize eo TE x = vx at hx ⊢
    split at h
    · rename_i b hd
      rw [hd] at hx
      cases h
      have := hx.fz_inv
      cases this
      exact Fol.same s (.fz (.bool _))
    · cases h
  | conv k x =>
    have hx := deo_rel hT x
    simp only [dA] at h
    simp only [eA]
    generalize eo TE x = vx at hx ⊢
    split at h
    · rename_i b n hd
      rw [hd] at hx
      cases h
      have := hx.fz_inv
      cases this
      exact Fol.same s (.fz (.int _ _))
    · cases h
  | bytes x =>
    have hx := deo_rel hT x
    simp only [dA] at h
    simp only [eA]
    generalize eo TE x = vx at hx ⊢
    split at h
    · rename_i str hd
      rw [hd] at hx
      cases h
      have := hx.fz_inv
      cases this
      have g := Goes.stay s ⟨str.map fun b => V.int .u8 b.toNat, 3⟩
      refine ⟨_, _, _, rfl, g, .fz ?_⟩
      have hr : FR (fun b => c.fz b ∨ b = H.length) (H ++ [⟨str.map fun b => V.int .u8 b.toNat, 3⟩]) (.list (str.map fun b => [F.int .u8 b.toNat])) (.sl (some (H.length, 0, 1)) (str.map fun b => [F.int .u8 b.toNat]).length) :=
        .list (.inr rfl) get_append_eq (by simp) (by simp) (fun i e he => by
          rw [List.getElem?_map] at he
          cases hs : str[i]? with
          | none => rw [hs] at he; cases he
          | some b => rw [hs] at he; cases he; rfl) (fun i j e x u he hx hu => by
          rw [List.getElem?_map] at he
          cases hs : str[i]? with
          | none => rw [hs] at he; cases he
          | some b =>
            rw [hs] at he
            cases he
            have hj : j = 0 := by
              have := lt_of hx
              simp at this
              exact this
            subst hj
            simp at hx
            subst hx
            simp only [Nat.zero_add, Nat.mul_one, Nat.add_zero, List.getElem?_map, hs, Option.map_some, Option.some.injEq] at hu
            subst hu
            exact .int _ _)
      simpa [listHP] using hr
    · cases h
  | string x =>
    have hx := deo_rel hT x
    simp only [dA] at h
    simp only [eA]
    generalize eo TE x = vx at hx ⊢
    have one : ∀ (es : List (List F)) (str : List UInt8), bytesF es = some str → ∀ (i : Nat) (e : List F), es[i]? = some e → e.length = 1 := by
      intro es
      induction es with
      | nil => intro str _ i e he; simp at he
      | cons e0 es ih =>
        intro str hs i e he
        unfold bytesF at hs
        split at hs
        · rename_i heq; cases heq
        · rename_i n r heq
          cases heq
          split at hs
          · rename_i s' hs'
            cases i with
            | zero => simp at he; subst he; rfl
            | succ i => exact ih s' hs' i e (by simpa using he)
          · cases hs
        · cases hs
    split at h
    · rename_i es hd
      rw [hd] at hx
      split at h
      · rename_i str hs
        cases h
        rcases hx.fz_inv.list_inv with ⟨rfl, h1⟩ | ⟨b, o, z', k, rfl, hf, hk, hst, hl, hz2, hcell⟩
        · cases hs
          rcases h1 with rfl | ⟨⟨b, o, z⟩, rfl⟩
          · exact Fol.same s (.fz (.str _))
          · exact Fol.same s (.fz (.str _))
        · by_cases hn : es.length = 0
          · have : es = [] := List.eq_nil_of_length_eq_zero hn
            subst this
            cases hs
            exact Fol.same s (.fz (.str _))
          · obtain ⟨e0, he0⟩ := at_of (xs := es) (i := 0) (by omega)
            have hzz : z' = 1 := by rw [← hz2 0 e0 he0, one es str hs 0 e0 he0]
            subst hzz
            rw [Nat.mul_one] at hl
            simp only [if_neg hn, listHP, hk, eLd_some hst hl]
            rw [bytesF_rel (R := FR c.fz H) (fun k n v h => h.int_inv) es str _ hs (by simp; omega) (fun i j e x u h1 h2 h3 => hcell i j e x u h1 h2 (cells_at h3))]
            exact Fol.same s (.fz (.str _))
      · cases h
    · rename_i t q z' es hd
      rw [hd] at hx
      split at h
      · rename_i ht
        split at h
        · rename_i str hs
          cases h
          rcases hx.ow_inv s ht with ⟨h1, rfl, rfl⟩ | ⟨b, o, k, htk, rfl, hk, hst, hl, hz2, hcell⟩
          · cases hs
            exact Fol.same s (.fz (.str _))
          · by_cases hn : es.length = 0
            · have : es = [] := List.eq_nil_of_length_eq_zero hn
              subst this
              cases hs
              exact Fol.same s (.fz (.str _))
            · obtain ⟨e0, he0⟩ := at_of (xs := es) (i := 0) (by omega)
              have hzz : z' = 1 := by rw [← hz2 0 e0 he0, one es str hs 0 e0 he0]
              subst hzz
              rw [Nat.mul_one] at hl
              simp only [Nat.mul_one]
              simp only [if_neg hn, listHP, hk, eLd_some (by omega : k.st ≠ 0) (by omega : o + q + es.length ≤ k.cells.length)]
              rw [bytesF_rel (R := FR c.fz H) (fun k n v h => h.int_inv) es str _ hs (by simp; omega) (fun i j e x u h1 h2 h3 => hcell i j e x u h1 h2 (by
                have := cells_at h3
                rw [Nat.mul_one] at this ⊢
                rw [← Nat.add_assoc o q i]
                exact this))]
              exact Fol.same s (.fz (.str _))
        · cases h
      · cases h
    · rename_i hd
      rw [hd] at hx
      cases h
      cases hx
      exact Fol.same s (.fz (.str _))
    · cases h
  | ifc t x =>
    have hx := deo_rel hT x
    simp only [dA] at h
    simp only [eA]
    split at h
    · rename_i y ts is hfr
      cases h
      have g := Goes.still s ts is
      exact (Fol.same g.sr (.fz (.ifc (fr_rel s 5 _ _ y ts is hfr hx)))).then s g
    · cases h
  | fn f xs =>
    cases h
    exact Fol.same s (mkFn_rel f (deos_rel hT xs))
  | cut z arr x lo hi =>
    have hx := deo_rel hT x
    simp only [dA] at h
    simp only [eA]
    generalize eo TE x = vx at hx ⊢
    split at h
    · rename_i es hd
      rw [hd] at hx
      split at h
      · rename_i hh l hbh hbl
        split at h
        · rename_i hc
          obtain ⟨hc1, hc2, hc3⟩ := hc
          cases h
          have bh := dbnd_rel hT hbh
          have bl := dbnd_rel hT hbl
          have hz' := allLen_spec hc3
          rcases hx.fz_inv.list_inv with ⟨rfl, h1⟩ | ⟨b, o, z', k, rfl, hf, hk, hst, hl, hz2, hcell⟩
          · simp only [List.length_nil, Nat.le_zero] at hc2 bh
            subst hc2
            have hl0 : l = 0 := by omega
            subst hl0
            rcases h1 with rfl | ⟨⟨b, o, z1⟩, rfl⟩
            · simp only [bh, bl]
              exact Fol.same s (by simpa using DR.fz .nil0)
            · simp only [bh, bl]
              by_cases hzz : z1 = z
              · simp only [if_pos hzz, Nat.le_refl, and_self, if_true]
                exact Fol.same s (by simpa using DR.fz (.nil1 _))
              · simp only [if_neg hzz, Nat.le_refl, and_self, if_true]
                exact Fol.same s (by simpa using DR.fz (.nil1 _))
          · simp only [bh, bl, if_pos (And.intro hc1 hc2)]
            by_cases hn : es.length = 0
            · have : es = [] := List.eq_nil_of_length_eq_zero hn
              subst this
              simp only [List.length_nil, Nat.le_zero] at hc2
              subst hc2
              have hl0 : l = 0 := by omega
              subst hl0
              by_cases hzz : z' = z
              · simp only [if_pos hzz]
                exact Fol.same s (by simpa using DR.fz (.nil1 _))
              · simp only [if_neg hzz, List.length_nil, if_true]
                exact Fol.same s (by simpa using DR.fz (.nil1 _))
            · obtain ⟨e0, he0⟩ := at_of (xs := es) (i := 0) (by omega)
              have hzz : z' = z := by rw [← hz2 0 e0 he0, hz' 0 e0 he0]
              subst hzz
              simp only [if_true]
              have hlen : ((es.drop l).take (hh - l)).length = hh - l := by simp; omega
              have hg : ∀ (i : Nat) (e : List F), ((es.drop l).take (hh - l))[i]? = some e → es[l + i]? = some e := fun i e he => by
                rw [List.getElem?_take] at he
                split at he
                · rw [List.getElem?_drop] at he; exact he
                · cases he
              have hmul : l * z' + (hh - l) * z' ≤ es.length * z' := by rw [← Nat.add_mul]; exact Nat.mul_le_mul_right _ (by omega)
              have hr : FR c.fz H (.list ((es.drop l).take (hh - l))) (.sl (some (b, o + l * z', z')) ((es.drop l).take (hh - l)).length) :=
                .list hf hk hst (by rw [hlen]; omega) (fun i e he => hz' _ e (hg i e he)) (fun i j e x u he hx hu => hcell (l + i) j e x u (hg i e he) hx (by
                  rw [Nat.add_mul, ← Nat.add_assoc]
                  exact hu))
              rw [hlen] at hr
              exact Fol.same s (.fz hr)
        · cases h
      · cases h
    · rename_i t q z' es hd
      rw [hd] at hx
      split at h
      · rename_i hh l hbh hbl
        split at h
        · rename_i hc
          obtain ⟨ht, rfl, hc1, hc2⟩ := hc
          cases h
          have bh := dbnd_rel hT hbh
          have bl := dbnd_rel hT hbl
          have hlt : t < c.nx := s.tlt t (s.live ht)
          rcases hx.ow_inv s ht with ⟨h1, rfl, rfl⟩ | ⟨b, o, k, htk, rfl, hk, hst, hl, hz2, hcell⟩
          · simp only [List.length_nil, Nat.le_zero] at hc2 bh
            subst hc2
            have hl0 : l = 0 := by omega
            subst hl0
            simp only [bh, bl, Nat.le_refl, and_self, if_true]
            exact Fol.same s (by simpa using DR.own h1 hlt)
          · simp only [bh, bl, if_pos (And.intro hc1 hc2), if_true]
            have hlen : ((es.drop l).take (hh - l)).length = hh - l := by simp; omega
            have hg : ∀ (i : Nat) (e : List F), ((es.drop l).take (hh - l))[i]? = some e → es[l + i]? = some e := fun i e he => by
              rw [List.getElem?_take] at he
              split at he
              · rw [List.getElem?_drop] at he; exact he
              · cases he
            have hmul : (q + l + (hh - l)) * z' ≤ (q + es.length) * z' := Nat.mul_le_mul_right _ (by omega)
            have hr : DR c H (.ow t (q + l) z' ((es.drop l).take (hh - l))) (.sl (some (b, o + (q + l) * z', z')) ((es.drop l).take (hh - l)).length) :=
              .ow htk hlt hk (by rw [hlen]; omega) (fun i e he => hz2 _ e (hg i e he)) (fun i j e x u he hx hu => hcell (l + i) j e x u (hg i e he) hx (by
                rw [← Nat.add_assoc q l i]
                exact hu))
            rw [hlen] at hr
            have e1 : o + q * z' + l * z' = o + (q + l) * z' := by rw [Nat.add_mul]; omega
            rw [e1]
            exact Fol.same s hr
        · cases h
      · cases h
    · rename_i hd
      rw [hd] at hx
      split at h
      · rename_i hh l hbh hbl
        split at h
        · rename_i hc
          cases h
          have bh := dbnd_rel hT hbh
          have bl := dbnd_rel hT hbl
          cases hx
          simp only [bh, bl, if_pos hc, if_true]
          exact Fol.same s .nils
        · cases h
      · cases h
    · rename_i n i o hd
      rw [hd] at hx
      split at h
      · rename_i xs ts is hh l hfr hbh hbl
        split at h
        · rename_i hc
          obtain ⟨hc1, hc2, hc3⟩ := hc
          cases h
          have bh := dbnd_rel hT hbh
          have bl := dbnd_rel hT hbl
          have g := Goes.still s ts is
          have hfp := fr_rel s 4 _ _ _ ts is hfr hx
          generalize hvx : vx = v0 at hfp
          cases hfp with
          | fp hf hk hst hl hcell =>
            rename_i b o' k
            subst hvx
            have hcc := chunk_cells (R := FR (c.frz ts is) H) (z := z) (n := n) (xs := xs) (ws := k.cells) (o := o') hc3 hcell
            simp only [bh, bl, if_pos (And.intro hc1 hc2), listHP, hk, eLd_some hst (by omega : o' + n * z ≤ k.cells.length)]
            have hlen : (((chunk z n xs).drop l).take (hh - l)).length = hh - l := by simp [chunk_length]; omega
            have hg : ∀ (i : Nat) (e : List F), (((chunk z n xs).drop l).take (hh - l))[i]? = some e → (chunk z n xs)[l + i]? = some e := fun i e he => by
              rw [List.getElem?_take] at he
              split at he
              · rw [List.getElem?_drop] at he; exact he
              · cases he
            have hmul : l * z + (hh - l) * z ≤ n * z := by rw [← Nat.add_mul]; exact Nat.mul_le_mul_right _ (by omega)
            have hr : FR (c.frz ts is) H (.list (((chunk z n xs).drop l).take (hh - l))) (.sl (some (b, o' + l * z, z)) (((chunk z n xs).drop l).take (hh - l)).length) :=
              .list hf hk hst (by rw [hlen]; omega) (fun i e he => hcc.1 _ e (hg i e he)) (fun i j e x u he hx hu => hcc.2 (l + i) j e x u (hg i e he) hx (by
                rw [Nat.add_mul, ← Nat.add_assoc]
                exact hu))
            rw [hlen] at hr
            exact (Fol.same g.sr (.fz hr)).then s g
        · cases h
      · cases h
    · rename_i n xs hd
      rw [hd] at hx
      split at h
      · rename_i hh l hbh hbl
        split at h
        · rename_i hc
          obtain ⟨hc1, hc2, hc3⟩ := hc
          cases h
          have bh := dbnd_rel hT hbh
          have bl := dbnd_rel hT hbl
          have hfp := hx.fz_inv
          cases hfp with
          | fp hf hk hst hl hcell =>
            rename_i b o' k
            have hcc := chunk_cells (R := FR c.fz H) (z := z) (n := n) (xs := xs) (ws := k.cells) (o := o') hc3 hcell
            simp only [bh, bl, if_pos (And.intro hc1 hc2), listHP, hk, eLd_some hst (by omega : o' + n * z ≤ k.cells.length)]
            have hlen : (((chunk z n xs).drop l).take (hh - l)).length = hh - l := by simp [chunk_length]; omega
            have hg : ∀ (i : Nat) (e : List F), (((chunk z n xs).drop l).take (hh - l))[i]? = some e → (chunk z n xs)[l + i]? = some e := fun i e he => by
              rw [List.getElem?_take] at he
              split at he
              · rw [List.getElem?_drop] at he; exact he
              · cases he
            have hmul : l * z + (hh - l) * z ≤ n * z := by rw [← Nat.add_mul]; exact Nat.mul_le_mul_right _ (by omega)
            have hr : FR c.fz H (.list (((chunk z n xs).drop l).take (hh - l))) (.sl (some (b, o' + l * z, z)) (((chunk z n xs).drop l).take (hh - l)).length) :=
              .list hf hk hst (by rw [hlen]; omega) (fun i e he => hcc.1 _ e (hg i e he)) (fun i j e x u he hx hu => hcc.2 (l + i) j e x u (hg i e he) hx (by
                rw [Nat.add_mul, ← Nat.add_assoc]
                exact hu))
            rw [hlen] at hr
            exact Fol.same s (.fz hr)
        · cases h
      · cases h
    · cases h
  | cuts x lo hi =>
    have hx := deo_rel hT x
    simp only [dA] at h
    simp only [eA]
    generalize eo TE x = vx at hx ⊢
    split at h
    · rename_i str hd
      rw [hd] at hx
      have := hx.fz_inv
      cases this
      split at h
      · rename_i hh l hbh hbl
        split at h
        · rename_i hc
          cases h
          simp only [dbnd_rel hT hbh, dbnd_rel hT hbl, if_pos hc]
          exact Fol.same s (.fz (.str _))
        · cases h
      · cases h
    · cases h
  | fa off x =>
    have hx := deo_rel hT x
    simp only [dA] at h
    simp only [eA]
    generalize eo TE x = vx at hx ⊢
    split at h
    · rename_i cs hd
      rw [hd] at hx
      split at h
      · rename_i ho
        cases h
        have hfp := hx.fz_inv
        cases hfp with
        | fp hf hk hst hl hcell =>
          refine Fol.same s (.fz (.fp hf hk hst (by rw [List.length_drop]; omega) fun j x u h1 h2 => ?_))
          rw [List.getElem?_drop] at h1
          exact hcell _ x u h1 (by rw [← Nat.add_assoc]; exact h2)
      · cases h
    · rename_i i o hd
      rw [hd] at hx
      cases h
      cases hx with
      | ptr hv => exact Fol.same s (.ptr hv)
    · rename_i t k cs o hd
      rw [hd] at hx
      split at h
      · rename_i ht
        cases h
        obtain ⟨b, o', z, kb, h1, rfl, h2, h3, h4, h5, h6⟩ := hx.ep_inv s ht
        simp only [Nat.add_assoc]
        refine Fol.same s ?_
        have := DR.ep (c := c) (H := H) (p := o + off) h1 (s.tlt t (s.live ht)) h2 h4 h5 h6
        simpa [Nat.add_assoc] using this
      · cases h
    · cases h
  | fld n off x =>
    have hx := deo_rel hT x
    simp only [dA] at h
    simp only [eA]
    generalize eo TE x = vx at hx ⊢
    split at h
    · rename_i cs hd
      rw [hd] at hx
      have := hx.fz_inv
      cases this with
      | agg hl hc =>
        rename_i vs
        have hrow : Row (FR c.fz H) cs vs := ⟨hl, hc⟩
        split at h
        · rename_i n'
          cases h
          have := (hrow.drop off).take n'
          exact Fol.same s (.fz (.agg this.1 this.2))
        · split at h
          · rename_i y hy
            cases h
            obtain ⟨u, hu, hr⟩ := hrow.get hy
            simp only [hu]
            exact Fol.same s (.fz hr)
          · cases h
    · rename_i ds hd
      rw [hd] at hx
      cases hx with
      | agg hl hc =>
        rename_i vs
        have hrow : Row (DR c H) ds vs := ⟨hl, hc⟩
        split at h
        · rename_i n'
          cases h
          exact Fol.same s (mkAgg_rel ((hrow.drop off).take n'))
        · split at h
          · rename_i y hy
            cases h
            obtain ⟨u, hu, hr⟩ := hrow.get hy
            simp only [hu]
            exact Fol.same s hr
          · cases h
    · cases h
  | ia z arr x i =>
    have hx := deo_rel hT x
    have hi := deo_rel hT i
    simp only [dA] at h
    simp only [eA]
    generalize eo TE x = vx at hx ⊢
    generalize eo TE i = vi at hi ⊢
    split at h
    · rename_i ik k hdi
      rw [hdi] at hi
      have := hi.fz_inv
      cases this
      simp only
      split at h
      · rename_i es hd
        rw [hd] at hx
        split at h
        · rename_i h0
          split at h
          · rename_i e he
            split at h
            · rename_i hez
              cases h
              have hlt := lt_of he
              rcases hx.fz_inv.list_inv with ⟨rfl, h1⟩ | ⟨b, o, z', kb, rfl, hf, hk, hst, hl, hz2, hcell⟩
              · simp at hlt
              · have hzz : z' = z := by rw [← hz2 _ e he, hez]
                subst hzz
                have hc : z' = z' ∧ 0 ≤ k ∧ k < (es.length : Nat) := ⟨rfl, h0, by omega⟩
                show Fol c st H _ (if z' = z' ∧ 0 ≤ k ∧ k < ((es.length : Nat) : Int) then some (V.ptr (some (b, o + k.toNat * z')), H) else none)
                rw [if_pos hc]
                have hmul : k.toNat * z' + z' ≤ es.length * z' := by
                  have := Nat.mul_le_mul_right z' (show k.toNat + 1 ≤ es.length by omega)
                  rw [Nat.add_mul, Nat.one_mul] at this
                  exact this
                exact Fol.same s (.fz (.fp hf hk hst (by omega) fun j x u h1 h2 => hcell _ j e x u he h1 h2))
            · cases h
          · cases h
        · cases h
      · rename_i t q z' es hd
        rw [hd] at hx
        split at h
        · rename_i ht
          split at h
          · rename_i e he
            split at h
            · rename_i hez
              cases h
              have hlt := lt_of he
              obtain ⟨ht, rfl, hk0⟩ := ht
              rcases hx.ow_inv s ht with ⟨h1, rfl, rfl⟩ | ⟨b, o, kb, htk, rfl, hk, hst, hl, hz2, hcell⟩
              · simp at hlt
              · have hc : z' = z' ∧ 0 ≤ k ∧ k < (es.length : Nat) := ⟨rfl, hk0, by omega⟩
                show Fol c st H _ (if z' = z' ∧ 0 ≤ k ∧ k < ((es.length : Nat) : Int) then some (V.ptr (some (b, o + q * z' + k.toNat * z')), H) else none)
                rw [if_pos hc]
                have hmul : (q + k.toNat + 1) * z' ≤ (q + es.length) * z' := Nat.mul_le_mul_right _ (by omega)
                have := DR.ep (c := c) (H := H) (p := 0) (k := q + k.toNat) (cs := e) htk (s.tlt t (s.live ht)) hk (by omega) hez (fun j x u h1 h2 => hcell _ j e x u he h1 h2)
                have e1 : o + q * z' + k.toNat * z' = o + (q + k.toNat) * z' + 0 := by rw [Nat.add_mul]; omega
                rw [e1]
                exact Fol.same s this
            · cases h
          · cases h
        · cases h
      · rename_i n cs hd
        rw [hd] at hx
        split at h
        · rename_i hc
          cases h
          have hfp := hx.fz_inv
          cases hfp with
          | fp hf hk hst hl hcell =>
            simp only [if_pos (And.intro hc.1 hc.2.1)]
            refine Fol.same s (.fz (.fp hf hk hst (by rw [List.length_drop]; have := hc.2.2; omega) fun j x u h1 h2 => ?_))
            rw [List.getElem?_drop] at h1
            exact hcell _ x u h1 (by rw [← Nat.add_assoc]; exact h2)
        · cases h
      · rename_i n j o hd
        rw [hd] at hx
        split at h
        · rename_i hc
          cases h
          cases hx with
          | ptr hv =>
            simp only [if_pos hc]
            exact Fol.same s (.ptr hv)
        · cases h
      · cases h
    · cases h
  | idx z n arr x i =>
    have hx := deo_rel hT x
    have hi := deo_rel hT i
    simp only [dA] at h
    simp only [eA]
    generalize eo TE x = vx at hx ⊢
    generalize eo TE i = vi at hi ⊢
    split at h
    · rename_i ik k hdi
      rw [hdi] at hi
      have := hi.fz_inv
      cases this
      split at h
      · rename_i cs hd
        rw [hd] at hx
        have := hx.fz_inv
        cases this with
        | agg hl hc =>
          rename_i vs
          have hrow : Row (FR c.fz H) cs vs := ⟨hl, hc⟩
          split at h
          · rename_i hk
            simp only [if_pos hk]
            split at h
            · rename_i n'
              cases h
              have := (hrow.drop (k.toNat * z)).take n'
              exact Fol.same s (.fz (.agg this.1 this.2))
            · split at h
              · rename_i y hy
                cases h
                obtain ⟨u, hu, hr⟩ := hrow.get hy
                simp only [hu]
                exact Fol.same s (.fz hr)
              · cases h
          · cases h
      · cases h
    · cases h
  | idxs x i =>
    have hx := deo_rel hT x
    have hi := deo_rel hT i
    simp only [dA] at h
    simp only [eA]
    generalize eo TE x = vx at hx ⊢
    generalize eo TE i = vi at hi ⊢
    split at h
    · rename_i str ik k hd hdi
      rw [hd] at hx
      rw [hdi] at hi
      have h1 := hx.fz_inv
      have h2 := hi.fz_inv
      cases h1
      cases h2
      simp only
      split at h
      · rename_i h0
        rw [if_pos h0]
        split at h
        · rename_i b hb
          cases h
          simp only [hb]
          exact Fol.same s (.fz (.int _ _))
        · cases h
      · cases h
    · cases h
  | ext x i =>
    have hx := deo_rel hT x
    simp only [dA] at h
    simp only [eA]
    generalize eo TE x = vx at hx ⊢
    split at h
    · rename_i cs hd
      rw [hd] at hx
      have := hx.fz_inv
      cases this with
      | tup hl hc =>
        rename_i vs
        have hrow : Row (FR c.fz H) cs vs := ⟨hl, hc⟩
        split at h
        · rename_i y hy
          cases h
          obtain ⟨u, hu, hr⟩ := hrow.get hy
          simp only [hu]
          exact Fol.same s (.fz hr)
        · cases h
    · rename_i ds hd
      rw [hd] at hx
      cases hx with
      | tup hl hc =>
        rename_i vs
        have hrow : Row (DR c H) ds vs := ⟨hl, hc⟩
        split at h
        · rename_i y hy
          cases h
          obtain ⟨u, hu, hr⟩ := hrow.get hy
          simp only [hu]
          exact Fol.same s hr
        · cases h
    · cases h
  | len x =>
    have hx := deo_rel hT x
    simp only [dA] at h
    simp only [eA]
    generalize eo TE x = vx at hx ⊢
    split at h
    · rename_i es hd
      rw [hd] at hx
      cases h
      rcases hx.fz_inv.list_inv with ⟨rfl, h1⟩ | ⟨b, o, z', kb, rfl, _⟩
      · rcases h1 with rfl | ⟨p, rfl⟩ <;> exact Fol.same s (.fz (.int _ _))
      · exact Fol.same s (.fz (.int _ _))
    · rename_i t q z' es hd
      rw [hd] at hx
      split at h
      · rename_i ht
        cases h
        rcases hx.ow_inv s ht with ⟨h1, rfl, rfl⟩ | ⟨b, o, kb, htk, rfl, _⟩
        · exact Fol.same s (.fz (.int _ _))
        · exact Fol.same s (.fz (.int _ _))
      · cases h
    · rename_i hd
      rw [hd] at hx
      cases h
      cases hx
      exact Fol.same s (.fz (.int _ _))
    · cases h
  | lenstr x =>
    have hx := deo_rel hT x
    simp only [dA] at h
    simp only [eA]
    generalize eo TE x = vx at hx ⊢
    split at h
    · rename_i str hd
      rw [hd] at hx
      cases h
      have := hx.fz_inv
      cases this
      exact Fol.same s (.fz (.int _ _))
    · cases h
  | app z bytes str x y =>
    have hx := deo_rel hT x
    have hy := deo_rel hT y
    simp only [dA] at h
    simp only [eA]
    generalize eo TE x = vx at hx ⊢
    generalize eo TE y = vy at hy ⊢
    split at h
    · rename_i hzp
      split at h
      · rename_i es hsrc
        obtain ⟨news, e1, e2, e3, e4, e5⟩ := dSrc_rel s hzp hsrc hy
        split at h
        · rename_i hd
          rw [hd] at hx
          split at h
          · rename_i hroom
            cases h
            cases hx
            simp only [e1, if_pos e2, if_true]
            by_cases hn : es.length = 0
            · have : es = [] := List.eq_nil_of_length_eq_zero hn
              subst this
              simp only [List.length_nil, if_true]
              exact Fol.ownNil s z
            · simp only [if_neg hn, if_pos (show es.length * bytes ≤ 140737488355328 ∧ es.length ≤ 4611686018427387904 from hroom)]
              have hw := Fol.own (n := 2) s (es := es) (ws := news) (z := z) rfl (by omega) e4 e5
              simpa [eNew, listHP] using hw
          · cases h
        · rename_i t q z' es0 hd
          rw [hd] at hx
          split at h
          · rename_i hc
            obtain ⟨ht, rfl, ho0, hroom⟩ := hc
            cases h
            simp only [e1, if_pos e2]
            rcases hx.ow_inv s ht with ⟨h1, rfl, rfl⟩ | ⟨b, o, k, htk, rfl, hk, hst, hl, hz2, hcell⟩
            · simp only [if_true, List.nil_append]
              have g := Goes.drop s [t]
              simp only [List.length_nil, Nat.zero_add] at hroom
              by_cases hn : es.length = 0
              · have : es = [] := List.eq_nil_of_length_eq_zero hn
                subst this
                simp only [List.length_nil, if_true]
                exact (Fol.ownNil g.sr z').then s g
              · simp only [if_neg hn, if_pos (show es.length * bytes ≤ 140737488355328 ∧ es.length ≤ 4611686018427387904 from hroom)]
                have hw := Fol.own (n := 2) g.sr (es := es) (ws := news) (z := z') rfl (by omega) e4 e5
                refine Fol.then s g ?_
                simpa [eNew, listHP] using hw
            · by_cases hn : es.length = 0
              · have : es = [] := List.eq_nil_of_length_eq_zero hn
                subst this
                simp only [List.length_nil, if_true, List.append_nil]
                exact Fol.again s htk hk hl hz2 hcell
              · have hl' : o + q * z' + es0.length * z' ≤ k.cells.length := by rw [Nat.add_mul] at hl; omega
                simp only [if_neg hn, if_true, listHP, hk, if_pos (show 2 ≤ k.st by omega), eLd_some (by omega : k.st ≠ 0) hl']
                rw [if_pos (show (es0.length + es.length) * bytes ≤ 140737488355328 ∧ es0.length + es.length ≤ 4611686018427387904 from hroom)]
                have g := Goes.kill s htk dead
                refine Fol.then s g ?_
                have hlen : ((k.cells.drop (o + q * z')).take (es0.length * z')).length = es0.length * z' := by simp; omega
                have hw := Fol.own (n := k.st) g.sr (es := es0 ++ es) (ws := (k.cells.drop (o + q * z')).take (es0.length * z') ++ news) (z := z') hst (by rw [List.length_append, List.length_append, hlen, e3, Nat.add_mul]; omega)
                  (fun i e he => by
                    rw [List.getElem?_append] at he
                    split at he
                    · exact hz2 i e he
                    · exact e4 _ e he)
                  (fun i j e x u he hx hu => by
                    rw [List.getElem?_append] at he
                    split at he
                    · rename_i hi
                      have hjz : j < z' := by rw [← hz2 i e he]; exact lt_of hx
                      have hmul : i * z' + z' ≤ es0.length * z' := by
                        have := Nat.mul_le_mul_right z' (show i + 1 ≤ es0.length by omega)
                        rw [Nat.add_mul, Nat.one_mul] at this
                        exact this
                      rw [List.getElem?_append_left (by omega)] at hu
                      refine (hcell i j e x u he hx ?_).mono g.step.fz g.step.keep
                      have := cells_at hu
                      rw [Nat.add_mul, ← Nat.add_assoc]
                      exact this
                    · rename_i hi
                      have hmul : es0.length * z' ≤ i * z' := Nat.mul_le_mul_right _ (by omega)
                      rw [List.getElem?_append_right (by omega), hlen] at hu
                      refine (e5 _ j e x u he hx ?_).mono g.step.fz g.step.keep
                      rw [Nat.sub_mul, show i * z' - es0.length * z' + j = i * z' + j - es0.length * z' by omega]
                      exact hu)
                simpa [eNew, listHP] using hw
          · cases h
        · cases h
      · cases h
    · cases h
  | mget kd z m k =>
    have hm := deo_rel hT m
    have hk := deo_rel hT k
    simp only [dA] at h
    simp only [eA]
    generalize eo TE m = vm at hm ⊢
    generalize eo TE k = vk at hk ⊢
    split at h
    · rename_i i kd' n zx hdm hdk hz
      rw [hdm] at hm
      rw [hdk] at hk
      have hk' := hk.fz_inv
      cases hk'
      cases hm with
      | mp hv =>
        rename_i b
        split at h
        · rename_i hkd
          subst hkd
          split at h
          · rename_i w ds hS
            obtain ⟨b', g, h1, h2, h3, _⟩ := s.var i w ds hS
            rw [hv] at h1
            cases h1
            have hg : listHP.get H (b + 1) = some g := h2
            simp only [hg, evGet, if_true]
            split at h
            · rename_i j x hf
              cases h
              rcases findF_rel ds g.cells 0 _ h3 hf with ⟨h4, _⟩ | ⟨j', x', u, h4, h5, h6⟩
              · cases h4
              · cases h4
                rw [h5]
                exact Fol.same s (.fz h6)
            · rename_i hf
              cases h
              rcases findF_rel ds g.cells 0 _ h3 hf with ⟨_, h5⟩ | ⟨j', x', u, h4, _⟩
              · rw [h5]
                exact Fol.same s (.fz (vF_rel _ _ z zx hz))
              · cases h4
            · cases h
          · cases h
        · cases h
    · cases h
  | slow o =>
    simp only [dA] at h
    split at h
    · rename_i d hd
      cases h
      obtain ⟨v, h1, h2⟩ := dSlowX_rel hT hd
      have h3 : eA P listHP TE H (.slow o) = some (v, H) := by
        have : ∀ ρ : Operand → Option V, (∀ x, ρ x = evT TE x) → evA P ρ o [] = some (v, []) := fun ρ hρ => by rw [show ρ = evT TE from funext hρ]; exact h1
        simp only [eA]
        rw [this _ (fun x => by cases x <;> rfl)]
        rfl
      rw [h3]
      exact Fol.same s h2
    · cases h
  | mks z bytes zero l k =>
    have hl := deo_rel hT l
    have hk := deo_rel hT k
    simp only [dA] at h
    simp only [eA]
    generalize eo TE l = vl at hl ⊢
    generalize eo TE k = vk at hk ⊢
    split at h
    · rename_i i1 l i2 k zx hdl hdk hzx
      rw [hdl] at hl
      rw [hdk] at hk
      have hl' := hl.fz_inv
      have hk' := hk.fz_inv
      cases hl'
      cases hk'
      split at h
      · rename_i hc
        obtain ⟨hzp, hzl, w1, w2, h0, hlk, hb⟩ := hc
        cases h
        have hrow := vFL_rel c.fz H zero zx hzx
        have hzz : zero.length = z := by rw [← hrow.1]; exact hzl
        simp only
        rw [if_pos ⟨w1, w2, h0, hlk, hb⟩]
        have hw := Fol.own (n := 2) s (es := List.replicate l.toNat zx) (ws := zrow zero (k.toNat * z)) (z := z) rfl (by
          simp only [List.length_replicate, zrow, List.length_map, List.length_range]
          exact Nat.mul_le_mul_right _ (by omega)) (fun i e he => by
          rw [List.getElem?_replicate] at he
          split at he
          · cases he; exact hzl
          · cases he) (fun i j e x u he hx hu => by
          rw [List.getElem?_replicate] at he
          split at he
          · cases he
            have hj : j < z := by rw [← hzl]; exact lt_of hx
            rw [zrow, List.getElem?_map] at hu
            cases hr : (List.range (k.toNat * z))[i * z + j]? with
            | none => rw [hr] at hu; cases hu
            | some q =>
              rw [hr] at hu
              have hq : q = i * z + j := by
                have hlt := lt_of hr
                rw [List.getElem?_eq_getElem hlt] at hr
                simp at hr
                exact hr.symm
              subst hq
              have hmod : (i * z + j) % zero.length = j := by
                rw [hzz, Nat.add_comm, Nat.add_mul_mod_self_right, Nat.mod_eq_of_lt hj]
              simp only [Option.map_some, Option.some.injEq, hmod] at hu
              obtain ⟨v, hv, hvr⟩ := hrow.get hx
              simp only [List.getD_eq_getElem?_getD, hv, Option.getD_some] at hu
              subst hu
              exact hvr
          · cases he)
        simp only [List.length_replicate] at hw
        simpa [eNew, listHP] using hw
      · cases h
    · cases h
  | grow z bytes zero x y =>
    have hx := deo_rel hT x
    have hy := deo_rel hT y
    simp only [dA] at h
    simp only [eA]
    generalize eo TE x = vx at hx ⊢
    generalize eo TE y = vy at hy ⊢
    split at h
    · rename_i i1 l zx hdx hdy hzx
      rw [hdx] at hx
      rw [hdy] at hy
      have hy' := hy.fz_inv
      cases hx
      cases hy'
      split at h
      · rename_i hc
        obtain ⟨hzp, hzl, w1, h0, hb, hbig⟩ := hc
        cases h
        have hrow := vFL_rel c.fz H zero zx hzx
        have hzz : zero.length = z := by rw [← hrow.1]; exact hzl
        simp only
        rw [if_pos ⟨trivial, w1, h0, hb, hbig⟩]
        by_cases hl0 : l = 0
        · subst hl0
          rw [if_pos rfl]
          exact Fol.ownNil s z
        rw [if_neg hl0]
        have hw := Fol.own (n := 2) s (es := List.replicate l.toNat zx) (ws := zrow zero (l.toNat * z)) (z := z) rfl (by
          simp only [List.length_replicate, zrow, List.length_map, List.length_range]
          exact Nat.le_refl _) (fun i e he => by
          rw [List.getElem?_replicate] at he
          split at he
          · cases he; exact hzl
          · cases he) (fun i j e x u he hx hu => by
          rw [List.getElem?_replicate] at he
          split at he
          · cases he
            have hj : j < z := by rw [← hzl]; exact lt_of hx
            rw [zrow, List.getElem?_map] at hu
            cases hr : (List.range (l.toNat * z))[i * z + j]? with
            | none => rw [hr] at hu; cases hu
            | some q =>
              rw [hr] at hu
              have hq : q = i * z + j := by
                have hlt := lt_of hr
                rw [List.getElem?_eq_getElem hlt] at hr
                simp at hr
                exact hr.symm
              subst hq
              have hmod : (i * z + j) % zero.length = j := by
                rw [hzz, Nat.add_comm, Nat.add_mul_mod_self_right, Nat.mod_eq_of_lt hj]
              simp only [Option.map_some, Option.some.injEq, hmod] at hu
              obtain ⟨v, hv, hvr⟩ := hrow.get hx
              simp only [List.getD_eq_getElem?_getD, hv, Option.getD_some] at hu
              subst hu
              exact hvr
          · cases he)
        simp only [List.length_replicate] at hw
        simpa [eNew, listHP] using hw
      · cases h
    · cases h
  | cpy z x y => cases h
  | clr z zero x => cases h

end

end Go.Proofs.Dv

namespace Go.Proofs.Dv
open Go Go.RowKit Go.Proofs.Ev

abbrev RowTurn := Nat → List F → List F

def turnRows (u : RowTurn) : Nat → List (List F) → List (List F)
  | _, [] => []
  | q, e :: r => u q e :: turnRows u (q + 1) r

mutual
def D.turn (t t' : Nat) (u : RowTurn) : D → D
  | .ow s q z es => if s = t then .ow t' q z (turnRows u q es) else .ow s q z es
  | .ep s k cs o => if s = t then .ep t' k (u k cs) o else .ep s k cs o
  | .agg ds => .agg (turnL t t' u ds)
  | .tup ds => .tup (turnL t t' u ds)
  | .fn f ds => .fn f (turnL t t' u ds)
  | .fz x => .fz x
  | .nils => .nils
  | .ptr i o => .ptr i o
  | .dead => .dead
  | .mp i => .mp i
def turnL (t t' : Nat) (u : RowTurn) : List D → List D
  | [] => []
  | d :: r => D.turn t t' u d :: turnL t t' u r
end

def Tm.turn (t t' : Nat) (u : RowTurn) : Tm → Tm
  | [] => []
  | (k, d) :: r => (k, d.turn t t' u) :: Tm.turn t t' u r
def turnS (t t' : Nat) (u : RowTurn) : List (Bool × List D) → List (Bool × List D)
  | [] => []
  | (w, ds) :: r => (w, turnL t t' u ds) :: turnS t t' u r
def St.turn (st : St) (t : Nat) (u : RowTurn) : St := { S := turnS t st.c u st.S, L := st.c :: st.L.filter (fun s => !decide (s = t)), c := st.c + 1 }

def rowU (k p : Nat) (xs : List F) : RowTurn := fun i e => if i = k then e.take p ++ xs ++ e.drop (p + xs.length) else e
def rowsU (q : Nat) (rs : List (List F)) : RowTurn := fun i e => if q ≤ i ∧ i < q + rs.length then rs.getD (i - q) [] else e

def dU (T : Tm) (st : St) : EAct → Option (D × Tm × St)
  | .op (.st n x y) => match deo T x with
    | .ep t k cs p => match cellsD st (deo T y) with
      | some ds => match allF ds with
        | some xs => if t ∈ st.L ∧ n = xs.length ∧ p + xs.length ≤ cs.length ∧ xs.all F.one = true then some (.fz (.tup []), T.turn t st.c (rowU k p xs), st.turn t (rowU k p xs)) else none
        | none => none
      | none => none
    | _ => none
  | .op (.clr z zero x) => match deo T x, vFL zero with
    | .ow t q z' es, some zs => if t ∈ st.L ∧ z' = z ∧ zs.length = z ∧ zero.length = z ∧ zs.all F.one = true ∧ 0 < es.length then some (.fz (.tup []), T.turn t st.c (rowsU q (List.replicate es.length zs)), st.turn t (rowsU q (List.replicate es.length zs)))
        else if t ∈ st.L ∧ es.length = 0 then some (.fz (.tup []), T, st) else none
    | .nils, _ => some (.fz (.tup []), T, st)
    | _, _ => none
  | .op (.cpy z x y) => match deo T x, dSrc st false z (deo T y) with
    | .ow t q z' es, some fs => if t ∈ st.L ∧ z' = z ∧ 0 < z ∧ 0 < es.length ∧ 0 < fs.length then some (.fz (.int .i64 (min fs.length es.length : Nat)), T.turn t st.c (rowsU q (fs.take es.length)), st.turn t (rowsU q (fs.take es.length)))
        else none
    | _, _ => none
  | _ => none

def isU : EAct → Bool
  | .op (.st _ _ _) => true
  | .op (.clr _ _ _) => true
  | .op (.cpy _ _ _) => true
  | _ => false

theorem dU_none {T : Tm} {st : St} {a : EAct} (h : isU a = false) : dU T st a = none := by
  cases a with
  | op e => cases e <;> first | rfl | (simp [isU] at h)
  | _ => rfl

theorem turnRows_length (u : RowTurn) : ∀ (q : Nat) (es : List (List F)), (turnRows u q es).length = es.length
  | _, [] => rfl
  | q, e :: r => by simp [turnRows, turnRows_length u (q + 1) r]
theorem turnRows_get (u : RowTurn) : ∀ (q : Nat) (es : List (List F)) (i : Nat) (e : List F), (turnRows u q es)[i]? = some e → ∃ e0, es[i]? = some e0 ∧ e = u (q + i) e0
  | q, [], i, e, h => by simp [turnRows] at h
  | q, e0 :: r, 0, e, h => by simp [turnRows] at h; exact ⟨e0, rfl, h.symm⟩
  | q, e0 :: r, i + 1, e, h => by
    simp only [turnRows, List.getElem?_cons_succ] at h
    obtain ⟨e1, h1, h2⟩ := turnRows_get u (q + 1) r i e h
    exact ⟨e1, by simpa using h1, by rw [h2]; congr 1; omega⟩

theorem turnL_map (t t' : Nat) (u : RowTurn) : ∀ (ds : List D), turnL t t' u ds = ds.map (D.turn t t' u)
  | [] => rfl
  | d :: r => by simp [turnL, turnL_map t t' u r]
theorem Tm.turn_at (t t' : Nat) (u : RowTurn) (i : Nat) : ∀ (T : Tm), (T.turn t t' u).at i = (T.at i).turn t t' u
  | [] => by simp [Tm.turn, Tm.at, D.turn]
  | (k, d) :: r => by
    simp only [Tm.turn, Tm.at]
    split
    · rfl
    · exact Tm.turn_at t t' u i r
theorem turnS_get (t t' : Nat) (u : RowTurn) : ∀ (S : List (Bool × List D)) (i : Nat), (turnS t t' u S)[i]? = (S[i]?).map fun p => (p.1, turnL t t' u p.2)
  | [], i => by simp [turnS]
  | (w, ds) :: r, 0 => by simp [turnS]
  | (w, ds) :: r, i + 1 => by simp [turnS, turnS_get t t' u r i]
theorem turnS_length (t t' : Nat) (u : RowTurn) : ∀ (S : List (Bool × List D)), (turnS t t' u S).length = S.length
  | [] => rfl
  | (w, ds) :: r => by simp [turnS, turnS_length t t' u r]

def Ct.turn (c : Ct) (t : Nat) (x : Nat × Nat × Nat) : Ct := { c with tk := fun s => if s = c.nx then some (some x) else if s = t then none else c.tk s, nx := c.nx + 1 }

section
variable {P : Program} {c : Ct} {st : St} {H : Heap} {T : Tm} {TE : TT}

theorem Ct.turn_tk {t : Nat} {x : Nat × Nat × Nat} {s : Nat} {y : Option (Nat × Nat × Nat)} (h : (c.turn t x).tk s = some y) : (s = c.nx ∧ y = some x) ∨ (s ≠ c.nx ∧ s ≠ t ∧ c.tk s = some y) := by
  have h' : (if s = c.nx then some (some x) else if s = t then none else c.tk s) = some y := h
  split at h'
  · cases h'; exact .inl ⟨‹_›, rfl⟩
  · split at h'
    · cases h'
    · exact .inr ⟨‹_›, ‹_›, h'⟩

/-- The rows, turned. -/
def TurnOK (c : Ct) (H : Heap) (o z : Nat) (old new : List V) (u : RowTurn) : Prop := ∀ (i : Nat) (e : List F), e.length = z → o + (i + 1) * z ≤ old.length →
  (∀ (j : Nat) (x : F) (v : V), e[j]? = some x → old[o + i * z + j]? = some v → FR c.fz H x v) → (u i e).length = z ∧ ∀ (j : Nat) (x : F) (v : V), (u i e)[j]? = some x → new[o + i * z + j]? = some v → FR c.fz H x v

theorem turn_rel (s : SR c st H) {t b o z : Nat} {kb : Blk} (ht : c.tk t = some (some (b, o, z))) (hk : H[b]? = some kb) {new : List V} (hl : new.length = kb.cells.length) {u : RowTurn} (hu : TurnOK c H o z kb.cells new u) {d : D} {v : V} (h : DR c H d v) :
    DR (c.turn t (b, o, z)) (H.set b ⟨new, kb.st⟩) (d.turn t st.c u) v := by
  have hother : ∀ x, x ≠ b → (H.set b ⟨new, kb.st⟩)[x]? = H[x]? := fun x hx => List.getElem?_set_ne (fun e => hx e.symm)
  have hself : (H.set b ⟨new, kb.st⟩)[b]? = some ⟨new, kb.st⟩ := List.getElem?_set_self (lt_of hk)
  have hnf := (s.tok t b o z ht).1
  have up : ∀ {x : F} {w : V}, FR c.fz H x w → FR c.fz (H.set b ⟨new, kb.st⟩) x w := fun h => h.mono (fun _ h => h) fun x hx _ => hother x fun e => hnf (e ▸ hx)
  have htlt : t < c.nx := s.tlt t (by rw [ht]; simp)
  have tkt : (c.turn t (b, o, z)).tk st.c = some (some (b, o, z)) := by
    show (if st.c = c.nx then _ else _) = _
    rw [if_pos s.nx.symm]
  have tko : ∀ q, q < c.nx → q ≠ t → (c.turn t (b, o, z)).tk q = c.tk q := fun q h1 h2 => by
    show (if q = c.nx then _ else if q = t then none else c.tk q) = _
    rw [if_neg (by omega), if_neg h2]
  have lt' : ∀ {q}, q < c.nx → q < (c.turn t (b, o, z)).nx := fun h => Nat.lt_succ_of_lt h
  have ltn : st.c < (c.turn t (b, o, z)).nx := by show st.c < c.nx + 1; rw [s.nx]; omega
  have listmap : ∀ (ds : List D) (vs : List V), (∀ (j : Nat) (x : D) (w : V), ds[j]? = some x → vs[j]? = some w → DR (c.turn t (b, o, z)) (H.set b ⟨new, kb.st⟩) (x.turn t st.c u) w) →
      ∀ (j : Nat) (x : D) (w : V), (turnL t st.c u ds)[j]? = some x → vs[j]? = some w → DR (c.turn t (b, o, z)) (H.set b ⟨new, kb.st⟩) x w := by
    intro ds vs ih j x w hx hw
    rw [turnL_map, List.getElem?_map] at hx
    cases hd : ds[j]? with
    | none => rw [hd] at hx; cases hx
    | some x0 => rw [hd] at hx; cases hx; exact ih j x0 w hd hw
  induction h with
  | fz h => simp only [D.turn]; exact .fz (up h)
  | ow0 h hn =>
    simp only [D.turn]
    split
    · rename_i e; subst e; rw [ht] at h; cases h
    · rename_i e; exact .ow0 ((tko _ hn e).trans h) (lt' hn)
  | own h hn =>
    simp only [D.turn]
    split
    · rename_i e; subst e; rw [ht] at h; cases h
    · rename_i e; exact .own ((tko _ hn e).trans h) (lt' hn)
  | @ow t1 q b1 o1 z1 es k ht1 hn hk1 hl1 hz1 h1 =>
    simp only [D.turn]
    split
    · rename_i e
      subst e
      rw [ht] at ht1
      cases ht1
      rw [hk] at hk1
      cases hk1
      have hrow : ∀ i e, es[i]? = some e → (u (q + i) e).length = z ∧ ∀ (j : Nat) (x : F) (v : V), (u (q + i) e)[j]? = some x → new[o + (q + i) * z + j]? = some v → FR c.fz H x v := fun i e he => by
        refine hu (q + i) e (hz1 i e he) ?_ (fun j x v hx hv => h1 i j e x v he hx hv)
        have := lt_of he
        have : (q + i + 1) * z ≤ (q + es.length) * z := Nat.mul_le_mul_right _ (by omega)
        omega
      have := DR.ow (c := c.turn t1 (b, o, z)) (H := H.set b ⟨new, kb.st⟩) (q := q) (es := turnRows u q es) tkt ltn hself (by rw [turnRows_length]; show _ ≤ new.length; rw [hl]; exact hl1)
        (fun i e he => by
          obtain ⟨e0, h2, rfl⟩ := turnRows_get u q es i e he
          exact (hrow i e0 h2).1)
        (fun i j e x w he hx hw => by
          obtain ⟨e0, h2, rfl⟩ := turnRows_get u q es i e he
          exact up ((hrow i e0 h2).2 j x w hx hw))
      rw [turnRows_length] at this
      exact this
    · rename_i e
      have hne : b1 ≠ b := fun e2 => e (s.tinj _ _ _ _ _ _ _ (e2 ▸ ht1) ht)
      exact .ow ((tko _ hn e).trans ht1) (lt' hn) (by rw [hother _ hne]; exact hk1) hl1 hz1 fun i j e x w h2 h3 h4 => up (h1 i j e x w h2 h3 h4)
  | nils => simp only [D.turn]; exact .nils
  | ptr h => simp only [D.turn]; exact .ptr h
  | ep0 h hn =>
    simp only [D.turn]
    split
    · rename_i e; subst e; rw [ht] at h; cases h
    · rename_i e; exact .ep0 ((tko _ hn e).trans h) (lt' hn)
  | @ep t1 k1 b1 o1 z1 p cs kb1 ht1 hn hk1 hl1 hz1 h1 =>
    simp only [D.turn]
    split
    · rename_i e
      subst e
      rw [ht] at ht1
      cases ht1
      rw [hk] at hk1
      cases hk1
      have hrow := hu k1 cs hz1 hl1 h1
      exact .ep (kb := ⟨new, kb.st⟩) tkt ltn hself (by show _ ≤ new.length; rw [hl]; exact hl1) hrow.1 fun j x w hx hw => up (hrow.2 j x w hx hw)
    · rename_i e
      have hne : b1 ≠ b := fun e2 => e (s.tinj _ _ _ _ _ _ _ (e2 ▸ ht1) ht)
      exact .ep ((tko _ hn e).trans ht1) (lt' hn) (by rw [hother _ hne]; exact hk1) hl1 hz1 fun j x w h2 h3 => up (h1 j x w h2 h3)
  | agg hl h ih => simp only [D.turn]; exact .agg (by rw [turnL_map, List.length_map]; exact hl) (listmap _ _ ih)
  | tup hl h ih => simp only [D.turn]; exact .tup (by rw [turnL_map, List.length_map]; exact hl) (listmap _ _ ih)
  | fn hl h ih => simp only [D.turn]; exact .fn (by rw [turnL_map, List.length_map]; exact hl) (listmap _ _ ih)
  | dead => simp only [D.turn]; exact .dead
  | mp h => simp only [D.turn]; exact .mp h

theorem Goes.turn (s : SR c st H) {t b o z : Nat} {kb : Blk} (ht : c.tk t = some (some (b, o, z))) (hk : H[b]? = some kb) {new : List V} (hl : new.length = kb.cells.length) {u : RowTurn} (hu : TurnOK c H o z kb.cells new u) :
    Goes [] c st H (c.turn t (b, o, z)) (st.turn t u) (H.set b ⟨new, kb.st⟩) := by
  have hother : ∀ x, x ≠ b → (H.set b ⟨new, kb.st⟩)[x]? = H[x]? := fun x hx => List.getElem?_set_ne (fun e => hx e.symm)
  have hself : (H.set b ⟨new, kb.st⟩)[b]? = some ⟨new, kb.st⟩ := List.getElem?_set_self (lt_of hk)
  obtain ⟨hnf, k0, hk0, hst⟩ := s.tok t b o z ht
  rw [hk] at hk0
  cases hk0
  have htlt : t < c.nx := s.tlt t (by rw [ht]; simp)
  refine ⟨⟨?_, fun q => ?_, fun q h => ?_, fun q b1 o1 z1 h => ?_, fun q q' b1 o1 z1 o2 z2 h h' => ?_, fun i w ds h => ?_, fun i b1 h => ?_, s.vinj, fun i q b1 o1 z1 hi hq => ?_, fun b1 h => ?_⟩, ⟨fun _ h => h, fun x hx _ => hother x fun e => hnf (e ▸ hx), Nat.le_succ _, fun q hq => ?_, fun _ _ h => h⟩, by simp, fun x _ hx => hother x fun e => hx (e ▸ .inl ⟨t, o, z, ht⟩), fun x h => ?_, fun x h => .inl h, fun i x h _ => hother x fun e => s.vt i t b o z (e ▸ h) ht⟩
  · show c.nx + 1 = st.c + 1
    rw [s.nx]
  · show q ∈ st.c :: st.L.filter (fun s => !decide (s = t)) ↔ (if q = c.nx then some (some (b, o, z)) else if q = t then none else c.tk q) ≠ none
    rw [List.mem_cons, List.mem_filter, s.tl, s.nx]
    by_cases h1 : q = st.c
    · simp [h1]
    · by_cases h2 : q = t
      · subst h2; simp [h1]
      · simp [h1, h2]
  · have h' : (if q = c.nx then some (some (b, o, z)) else if q = t then none else c.tk q) ≠ none := h
    show q < c.nx + 1
    split at h'
    · omega
    · split at h'
      · exact absurd rfl h'
      · have := s.tlt q h'; omega
  · rcases Ct.turn_tk h with ⟨rfl, h1⟩ | ⟨h1, h2, h3⟩
    · cases h1
      exact ⟨hnf, _, hself, hst⟩
    · obtain ⟨h4, k, h5, h6⟩ := s.tok q b1 o1 z1 h3
      exact ⟨h4, k, by rw [hother _ fun e => h2 (s.tinj _ _ _ _ _ _ _ (e ▸ h3) ht)]; exact h5, h6⟩
  · rcases Ct.turn_tk h with ⟨rfl, h1⟩ | ⟨h1, h2, h3⟩ <;> rcases Ct.turn_tk h' with ⟨rfl, h1'⟩ | ⟨h1', h2', h3'⟩
    · rfl
    · cases h1
      exact absurd (s.tinj _ _ _ _ _ _ _ h3' ht) h2'
    · cases h1'
      exact absurd (s.tinj _ _ _ _ _ _ _ h3 ht) h2
    · exact s.tinj _ _ _ _ _ _ _ h3 h3'
  · have h' : (turnS t st.c u st.S)[i]? = some (w, ds) := h
    rw [turnS_get] at h'
    cases hS : st.S[i]? with
    | none => rw [hS] at h'; cases h'
    | some p =>
      obtain ⟨w0, ds0⟩ := p
      rw [hS] at h'
      cases h'
      obtain ⟨b1, k, h1, h2, h3, h4, h5⟩ := s.var i w0 ds0 hS
      have hne : b1 ≠ b := fun e => s.vt i t b o z (e ▸ h1) ht
      refine ⟨b1, k, h1, by rw [hother _ hne]; exact h2, ⟨by rw [turnL_map, List.length_map]; exact h3.1, fun j x y hx hy => ?_⟩, h4, h5⟩
      rw [turnL_map, List.getElem?_map] at hx
      cases hd : ds0[j]? with
      | none => rw [hd] at hx; cases hx
      | some x0 =>
        rw [hd] at hx
        cases hx
        exact turn_rel s ht hk hl hu (h3.2 j x0 y hd hy)
  · show i < (turnS t st.c u st.S).length
    rw [turnS_length]
    exact s.vlt i b1 h
  · rcases Ct.turn_tk hq with ⟨rfl, h1⟩ | ⟨h1, h2, h3⟩
    · cases h1
      exact s.vt i t b o z hi ht
    · exact s.vt i q b1 o1 z1 hi h3
  · rw [List.length_set]; exact s.flt b1 h
  · show (if q = c.nx then some (some (b, o, z)) else if q = t then none else c.tk q) = none ∨ (if q = c.nx then some (some (b, o, z)) else if q = t then none else c.tk q) = _ ∧ _
    rw [if_neg (by omega)]
    by_cases h2 : q = t
    · rw [if_pos h2]; exact .inl rfl
    · rw [if_neg h2]
      exact .inr ⟨rfl, fun b1 o1 z1 h => hother _ fun e => h2 (s.tinj _ _ _ _ _ _ _ (e ▸ h) ht)⟩
  · rcases h with ⟨q, o1, z1, h⟩ | h
    · rcases Ct.turn_tk h with ⟨rfl, h1⟩ | ⟨h1, h2, h3⟩
      · cases h1
        exact .inl (.inl ⟨t, o, z, ht⟩)
      · exact .inl (.inl ⟨q, o1, z1, h3⟩)
    · exact .inl (.inr h)

theorem TR.turn (s : SR c st H) (hT : TR c H T TE) {t b o z : Nat} {kb : Blk} (ht : c.tk t = some (some (b, o, z))) (hk : H[b]? = some kb) {new : List V} (hl : new.length = kb.cells.length) {u : RowTurn} (hu : TurnOK c H o z kb.cells new u) :
    TR (c.turn t (b, o, z)) (H.set b ⟨new, kb.st⟩) (T.turn t st.c u) TE := fun i => by
  rw [Tm.turn_at]
  exact turn_rel s ht hk hl hu (hT i)

theorem Small.turn (hs : Small T) (t t' : Nat) (u : RowTurn) : Small (T.turn t t' u) := fun i hi => by
  rw [Tm.turn_at, hs i hi]
  simp [D.turn]

theorem List.getElem?_splice {α : Type} {l m : List α} {a : Nat} (h : a + m.length ≤ l.length) (i : Nat) : (l.take a ++ m ++ l.drop (a + m.length))[i]? = if i < a then l[i]? else if i < a + m.length then m[i - a]? else l[i]? := by
  have h1 : (l.take a).length = a := by simp; omega
  split
  · rename_i hi
    rw [List.append_assoc, List.getElem?_append_left (by omega), List.getElem?_take_of_lt hi]
  · rename_i hi
    split
    · rename_i hi2
      rw [List.append_assoc, List.getElem?_append_right (by omega), h1, List.getElem?_append_left (by omega)]
    · rename_i hi2
      rw [List.getElem?_append_right (by simp; omega), List.getElem?_drop]
      congr 1
      simp
      omega

/-- Cells into a row. -/
theorem turnOK_row {o z k p : Nat} {old ws : List V} {xs : List F} (hr : Row (FR c.fz H) xs ws) (hp : p + xs.length ≤ z) (hk : o + (k + 1) * z ≤ old.length) :
    TurnOK c H o z old (old.take (o + k * z + p) ++ ws ++ old.drop (o + k * z + p + ws.length)) (rowU k p xs) := by
  intro i e hz hi he
  have hl := hr.1
  have e1 : (k + 1) * z = k * z + z := by rw [Nat.add_mul, Nat.one_mul]
  have hb : o + k * z + p + ws.length ≤ old.length := by omega
  unfold rowU
  split
  · rename_i hik
    subst hik
    refine ⟨by simp; omega, fun j x v hx hv => ?_⟩
    have hjz : j < z := by
      have := lt_of hx
      simp at this
      omega
    have hjz' : j < (e.take p ++ xs ++ e.drop (p + xs.length)).length := lt_of hx
    rw [List.getElem?_splice (by omega)] at hx
    rw [List.getElem?_splice hb] at hv
    by_cases h1 : j < p
    · rw [if_pos h1] at hx
      rw [if_pos (by omega)] at hv
      exact he j x v hx hv
    · rw [if_neg h1] at hx
      rw [if_neg (by omega)] at hv
      by_cases h2 : j < p + xs.length
      · rw [if_pos h2] at hx
        rw [if_pos (by omega), show o + i * z + j - (o + i * z + p) = j - p by omega] at hv
        exact hr.2 _ x v hx hv
      · rw [if_neg h2] at hx
        rw [if_neg (by omega)] at hv
        exact he j x v hx hv
  · rename_i hik
    refine ⟨hz, fun j x v hx hv => ?_⟩
    have hjz : j < z := by rw [← hz]; exact lt_of hx
    rw [List.getElem?_splice hb] at hv
    rcases Nat.lt_or_ge i k with h | h
    · have : (i + 1) * z ≤ k * z := Nat.mul_le_mul_right _ h
      rw [Nat.add_mul, Nat.one_mul] at this
      rw [if_pos (by omega)] at hv
      exact he j x v hx hv
    · have : (k + 1) * z ≤ i * z := Nat.mul_le_mul_right _ (by omega)
      rw [if_neg (by omega), if_neg (by omega)] at hv
      exact he j x v hx hv

/-- Rows into rows. -/
theorem turnOK_rows {o z q : Nat} {old ws : List V} {rs : List (List F)} (hzr : ∀ (i : Nat) (e : List F), rs[i]? = some e → e.length = z) (hwl : ws.length = rs.length * z)
    (hr : ∀ (i j : Nat) (e : List F) (x : F) (v : V), rs[i]? = some e → e[j]? = some x → ws[i * z + j]? = some v → FR c.fz H x v) (hq : o + (q + rs.length) * z ≤ old.length) :
    TurnOK c H o z old (old.take (o + q * z) ++ ws ++ old.drop (o + q * z + ws.length)) (rowsU q rs) := by
  intro i e hz hi he
  have hb : o + q * z + ws.length ≤ old.length := by rw [Nat.add_mul] at hq; omega
  unfold rowsU
  split
  · rename_i hiq
    obtain ⟨e', he'⟩ := at_of (xs := rs) (i := i - q) (by omega)
    have hd : rs.getD (i - q) [] = e' := by rw [List.getD_eq_getElem?_getD, he']; rfl
    rw [hd]
    refine ⟨hzr _ _ he', fun j x v hx hv => ?_⟩
    have hjz : j < z := by rw [← hzr _ _ he']; exact lt_of hx
    rw [List.getElem?_splice hb] at hv
    have m1 : q * z ≤ i * z := Nat.mul_le_mul_right _ hiq.1
    have m2 : (i + 1) * z ≤ (q + rs.length) * z := Nat.mul_le_mul_right _ (by omega)
    rw [Nat.add_mul, Nat.one_mul, Nat.add_mul] at m2
    rw [if_neg (by omega), if_pos (by omega)] at hv
    refine hr (i - q) j e' x v he' hx ?_
    rw [Nat.sub_mul, show i * z - q * z + j = o + i * z + j - (o + q * z) by omega]
    exact hv
  · rename_i hiq
    refine ⟨hz, fun j x v hx hv => ?_⟩
    have hjz : j < z := by rw [← hz]; exact lt_of hx
    rw [List.getElem?_splice hb] at hv
    by_cases h : i < q
    · have : (i + 1) * z ≤ q * z := Nat.mul_le_mul_right _ h
      rw [Nat.add_mul, Nat.one_mul] at this
      rw [if_pos (by omega)] at hv
      exact he j x v hx hv
    · have : (q + rs.length) * z ≤ i * z := Nat.mul_le_mul_right _ (by omega)
      rw [Nat.add_mul] at this
      rw [if_neg (by omega), if_neg (by omega)] at hv
      exact he j x v hx hv

theorem splice_length {α : Type} {l m : List α} {a : Nat} (h : a + m.length ≤ l.length) : (l.take a ++ m ++ l.drop (a + m.length)).length = l.length := by
  simp; omega

theorem zrow_length (zero : List V) : ∀ (n : Nat), (Ev.zrow zero n).length = n := fun n => by
  unfold Ev.zrow
  simp

theorem cells_at0 {ws : List V} {o i z j n : Nat} {u : V} (h : ((ws.drop o).take n)[i * z + j]? = some u) : ws[o + i * z + j]? = some u := by
  rw [List.getElem?_take] at h
  split at h
  · rw [List.getElem?_drop] at h
    rw [Nat.add_assoc]
    exact h
  · cases h
theorem allOne_spec0 {es : List (List F)} (h : allOne es = true) {i j : Nat} {e : List F} {x : F} (he : es[i]? = some e) (hx : e[j]? = some x) : x.one = true := allOne_spec h he hx

theorem all_one_row {R : F → V → Prop} (hR : ∀ x v, R x v → x.one = true → v.one = true) {xs : List F} {vs : List V} (h : Row R xs vs) (h1 : xs.all F.one = true) : vs.all V.one = true := by
  rw [List.all_eq_true] at h1 ⊢
  intro u hu
  obtain ⟨j, hj⟩ := List.mem_iff_getElem?.1 hu
  obtain ⟨x, hx⟩ := at_of (xs := xs) (i := j) (by rw [h.1]; exact lt_of hj)
  exact hR x u (h.2 j x u hx hj) (h1 x (List.mem_of_getElem? hx))

theorem zrow_cells {zero : List V} {zx : List F} {z n : Nat} (hrow : Row (FR c.fz H) zx zero) (hz : zero.length = z) (i j : Nat) (e : List F) (x : F) (u : V) (he : (List.replicate n zx)[i]? = some e) (hx : e[j]? = some x) (hu : (zrow zero (n * z))[i * z + j]? = some u) : FR c.fz H x u := by
  rw [List.getElem?_replicate] at he
  split at he
  · cases he
    have hj : j < z := by rw [← hz, ← hrow.1]; exact lt_of hx
    rw [zrow, List.getElem?_map] at hu
    cases hr : (List.range (n * z))[i * z + j]? with
    | none => rw [hr] at hu; cases hu
    | some q =>
      rw [hr] at hu
      have hq : q = i * z + j := by
        have hlt := lt_of hr
        rw [List.getElem?_eq_getElem hlt] at hr
        simp at hr
        exact hr.symm
      subst hq
      have hmod : (i * z + j) % zero.length = j := by
        rw [hz, Nat.add_comm, Nat.add_mul_mod_self_right, Nat.mod_eq_of_lt hj]
      simp only [Option.map_some, Option.some.injEq, hmod] at hu
      obtain ⟨v, hv, hvr⟩ := hrow.get hx
      simp only [List.getD_eq_getElem?_getD, hv, Option.getD_some] at hu
      subst hu
      exact hvr
  · cases he

theorem dU_ok (s : SR c st H) (hT : TR c H T TE) (hs : Small T) {ec : ECall listHP} {a : EAct} {d : D} {T1 : Tm} {st1 : St} (h : dU T st a = some (d, T1, st1)) :
    ∃ (c' : Ct) (v : V) (H' : Heap), eI P listHP ec TE H a = some (v, H') ∧ Goes [] c st H c' st1 H' ∧ DR c' H' d v ∧ TR c' H' T1 TE ∧ Small T1 := by
  have unit : ∀ (c' : Ct) (H' : Heap), DR c' H' (.fz (.tup [])) undefV := fun _ _ => .fz (.tup rfl fun j x u h => by simp at h)
  unfold dU at h
  split at h
  · rename_i n x y
    have hx := deo_rel hT x
    have hy := deo_rel hT y
    split at h
    case h_2 => cases h
    rename_i t k cs p hd
    rw [hd] at hx
    split at h
    case h_2 => cases h
    rename_i ds hds
    split at h
    case h_2 => cases h
    rename_i xs hxs
    split at h
    case isFalse => cases h
    rename_i hc
    obtain ⟨htL, hn, hp, hone⟩ := hc
    cases h
    have hrow := allF_rel ds xs _ hxs (cellsD_rel s hy hds)
    obtain ⟨b, o, z, kb, ht, hv, hk, hst, hl, hz, hcell⟩ := hx.ep_inv s htL
    have e1 : (k + 1) * z = k * z + z := by rw [Nat.add_mul, Nat.one_mul]
    have hbnd : o + k * z + p + (eo TE y).cells.length ≤ kb.cells.length := by rw [← hrow.1]; omega
    have hu := turnOK_row (c := c) (H := H) (o := o) (z := z) (k := k) (p := p) (old := kb.cells) hrow (by omega) hl
    have hlen := splice_length hbnd
    refine ⟨_, undefV, _, ?_, Goes.turn s ht hk hlen hu, unit _ _, TR.turn s hT ht hk hlen hu, hs.turn _ _ _⟩
    show eA P listHP TE H (.st n x y) = _
    simp only [eA, hv]
    rw [if_pos (by rw [← hrow.1]; exact hn)]
    simp only [eSt, listHP, hk]
    rw [if_pos (by omega), if_pos hbnd, if_pos (all_one_row (fun x v h h1 => F.one_rel h h1) hrow hone)]
  · rename_i z zero x
    have hx := deo_rel hT x
    split at h
    · rename_i t q z' es zs hd hzs
      rw [hd] at hx
      have hrow := vFL_rel c.fz H zero zs hzs
      split at h
      · rename_i hc
        obtain ⟨htL, rfl, hzl, hzl2, hone, hpos⟩ := hc
        cases h
        rcases hx.ow_inv s htL with ⟨_, rfl, _⟩ | ⟨b, o, kb, ht, hv, hk, hst, hl, hz, hcell⟩
        · simp at hpos
        have hwl : (zrow zero (es.length * z')).length = (List.replicate es.length zs).length * z' := by rw [zrow_length, List.length_replicate]
        have hbnd : o + q * z' + (zrow zero (es.length * z')).length ≤ kb.cells.length := by rw [zrow_length]; rw [Nat.add_mul] at hl; omega
        have hu := turnOK_rows (c := c) (H := H) (o := o) (z := z') (q := q) (old := kb.cells) (rs := List.replicate es.length zs) (ws := zrow zero (es.length * z')) (fun i e he => by
          rw [List.getElem?_replicate] at he
          split at he
          · cases he; exact hzl
          · cases he) hwl (fun i j e x u he hx hu => zrow_cells hrow hzl2 i j e x u he hx hu) (by rw [List.length_replicate]; exact hl)
        have hlen := splice_length hbnd
        refine ⟨_, undefV, _, ?_, Goes.turn s ht hk hlen hu, unit _ _, TR.turn s hT ht hk hlen hu, hs.turn _ _ _⟩
        show eA P listHP TE H (.clr z' zero x) = _
        simp only [eA, hv]
        rw [if_neg (by omega)]
        simp only [if_true, eSt, listHP, hk]
        have h1 : (zrow zero (es.length * z')).all V.one = true := by
          have hz1 := all_one_row (fun x v h h1 => F.one_rel h h1) hrow hone
          rw [List.all_eq_true] at hz1 ⊢
          intro u hu
          unfold zrow at hu
          rw [List.mem_map] at hu
          obtain ⟨i, hi, rfl⟩ := hu
          by_cases hz0 : zero.length = 0
          · have : es.length * z' = 0 := by rw [← hzl2, hz0, Nat.mul_zero]
            rw [this] at hi
            simp at hi
          · have hlt : i % zero.length < zero.length := Nat.mod_lt _ (by omega)
            rw [List.getD_eq_getElem?_getD, List.getElem?_eq_getElem hlt]
            exact hz1 _ (List.getElem_mem hlt)
        rw [if_pos (by omega), if_pos hbnd, if_pos h1]
      · split at h
        · rename_i hc
          obtain ⟨htL, he0⟩ := hc
          cases h
          refine ⟨c, undefV, H, ?_, Goes.refl s, unit _ _, hT, hs⟩
          show eA P listHP TE H (.clr z zero x) = _
          rcases hx.ow_inv s htL with ⟨_, rfl, hv⟩ | ⟨b, o, kb, ht, hv, _⟩
          · simp only [eA, hv]; rfl
          · simp only [eA, hv]
            exact if_pos he0
        · cases h
    · rename_i hd
      rw [hd] at hx
      cases h
      refine ⟨c, undefV, H, ?_, Goes.refl s, unit _ _, hT, hs⟩
      show eA P listHP TE H (.clr z zero x) = _
      generalize hv : eo TE x = vx at hx
      cases hx
      simp only [eA, hv]
      rfl
    · cases h
  · rename_i z x y
    have hx := deo_rel hT x
    have hy := deo_rel hT y
    split at h
    case h_2 => cases h
    rename_i t q z' es fs hd hfs
    rw [hd] at hx
    split at h
    case isFalse => cases h
    rename_i hc
    obtain ⟨htL, rfl, hzp, hpos, hposf⟩ := hc
    cases h
    rcases hx.ow_inv s htL with ⟨_, rfl, _⟩ | ⟨b, o, kb, ht, hv, hk, hst, hl, hz, hcell⟩
    · simp at hpos
    -- the cells that are read
    have hsrc : ∃ c2 y2 kc, eo TE y = .sl (some (c2, y2, z')) fs.length ∧ H[c2]? = some kc ∧ kc.st ≠ 0 ∧ y2 + fs.length * z' ≤ kc.cells.length ∧ (∀ (i : Nat) (e : List F), fs[i]? = some e → e.length = z') ∧ allOne fs = true ∧
        ∀ (i j : Nat) (e : List F) (x : F) (u : V), fs[i]? = some e → e[j]? = some x → kc.cells[y2 + i * z' + j]? = some u → FR c.fz H x u := by
      unfold dSrc at hfs
      split at hfs
      · rename_i es' hdy
        split at hfs
        · rename_i hc2
          cases hfs
          rw [hdy] at hy
          rcases hy.fz_inv.list_inv with ⟨rfl, _⟩ | ⟨b2, o2, z2, k2, h1, h2, h3, h4, h5, h6, h7⟩
          · simp at hposf
          · have hzz : z2 = z' := by
              obtain ⟨e0, he0⟩ := at_of (xs := fs) (i := 0) hposf
              rw [← h6 0 e0 he0, allLen_spec hc2.1 0 e0 he0]
            subst hzz
            exact ⟨b2, o2, k2, h1, h3, h4, h5, h6, hc2.2, h7⟩
        · cases hfs
      · rename_i t2 q2 z2 es' _ hdy
        split at hfs
        · rename_i hc2
          cases hfs
          rw [hdy] at hy
          obtain ⟨ht2, hzz, hal, hao⟩ := hc2
          subst hzz
          rcases hy.ow_inv s ht2 with ⟨_, rfl, _⟩ | ⟨b2, o2, k2, g1, g2, g3, g4, g5, g6, g7⟩
          · simp at hposf
          · refine ⟨b2, o2 + q2 * z2, k2, g2, g3, by omega, by rw [Nat.add_mul] at g5; omega, g6, hao, fun i j e x u a1 a2 a3 => g7 i j e x u a1 a2 ?_⟩
            rw [Nat.add_mul, ← Nat.add_assoc]
            exact a3
        · cases hfs
      · cases hfs; simp at hposf
      · rename_i hstr _; cases hstr
      · cases hfs
    obtain ⟨b2, o2, k2, g1, g2, g3, g4, g5, g6, g7⟩ := hsrc
    let m := min fs.length es.length
    have hm1 : m ≤ fs.length := Nat.min_le_left _ _
    have hm2 : m ≤ es.length := Nat.min_le_right _ _
    have htake : (fs.take es.length).length = m := by rw [List.length_take, Nat.min_comm]
    have hws : ((k2.cells.drop o2).take (m * z')).length = (fs.take es.length).length * z' := by
      have : m * z' ≤ fs.length * z' := Nat.mul_le_mul_right _ hm1
      rw [List.length_take, List.length_drop, htake]
      omega
    have hbnd : o + q * z' + ((k2.cells.drop o2).take (m * z')).length ≤ kb.cells.length := by
      rw [hws, htake]
      have : m * z' ≤ es.length * z' := Nat.mul_le_mul_right _ hm2
      rw [Nat.add_mul] at hl
      omega
    have gt : ∀ (i : Nat) (e : List F), (fs.take es.length)[i]? = some e → fs[i]? = some e := fun i e he => by
      rw [List.getElem?_take] at he
      split at he
      · exact he
      · cases he
    have hcells : ∀ (i j : Nat) (e : List F) (x : F) (u : V), (fs.take es.length)[i]? = some e → e[j]? = some x → ((k2.cells.drop o2).take (m * z'))[i * z' + j]? = some u → FR c.fz H x u :=
      fun i j e x u a1 a2 a3 => g7 i j e x u (gt i e a1) a2 (cells_at0 a3)
    have hu := turnOK_rows (c := c) (H := H) (o := o) (z := z') (q := q) (old := kb.cells) (rs := fs.take es.length) (ws := (k2.cells.drop o2).take (m * z')) (fun i e he => g5 i e (gt i e he)) hws hcells (by
      rw [htake]
      have : (q + m) * z' ≤ (q + es.length) * z' := Nat.mul_le_mul_right _ (by omega)
      omega)
    have hlen := splice_length hbnd
    refine ⟨_, .int .i64 (m : Nat), _, ?_, Goes.turn s ht hk hlen hu, .fz (.int _ _), TR.turn s hT ht hk hlen hu, hs.turn _ _ _⟩
    show eA P listHP TE H (.cpy z' x y) = _
    simp only [eA, hv, g1]
    rw [if_neg (by omega)]
    simp only [and_self, if_true, eLd, listHP, g2]
    rw [if_pos g3, if_pos (by have : min fs.length es.length * z' ≤ fs.length * z' := Nat.mul_le_mul_right _ hm1; omega)]
    have h1 : ((k2.cells.drop o2).take (m * z')).all V.one = true := by
      rw [List.all_eq_true]
      intro u hu
      obtain ⟨n, hn⟩ := List.mem_iff_getElem?.1 hu
      have hlt := lt_of hn
      rw [hws] at hlt
      have hq : n / z' < (fs.take es.length).length := by rw [Nat.div_lt_iff_lt_mul hzp]; exact hlt
      obtain ⟨e, he⟩ := at_of hq
      have hrr : n % z' < e.length := by rw [g5 _ e (gt _ e he)]; exact Nat.mod_lt _ hzp
      obtain ⟨x, hx⟩ := at_of hrr
      have hdm : n / z' * z' + n % z' = n := by rw [Nat.mul_comm]; exact Nat.div_add_mod n z'
      exact F.one_rel (hcells _ _ e x u he hx (by rw [hdm]; exact hn)) (allOne_spec0 g6 (gt _ e he) hx)
    simp only [eSt, hk]
    rw [if_pos (by omega), if_pos hbnd, if_pos h1]
  · cases h

end

end Go.Proofs.Dv

namespace Go.Proofs.Dv
open Go Go.RowKit Go.Proofs.Ev

mutual
theorem V.beq_refl : ∀ (a : V), V.beq a a = true
  | .bool a => by simp [V.beq]
  | .int k a => by simp [V.beq]
  | .str a => by simp [V.beq]
  | .ptr a => by simp [V.beq]
  | .sl a n => by simp [V.beq]
  | .fn f a => by simp [V.beq, V.beqL_refl a]
  | .nilfn => rfl
  | .ifc t a => by simp [V.beq, V.beq_refl a]
  | .nilifc => rfl
  | .agg a => by simp [V.beq, V.beqL_refl a]
  | .tup a => by simp [V.beq, V.beqL_refl a]
  | .raw a => by simp [V.beq]
  | .mp a => by simp [V.beq]
theorem V.beqL_refl : ∀ (a : List V), V.beqL a a = true
  | [] => rfl
  | a :: r => by simp [V.beqL, V.beq_refl a, V.beqL_refl r]
end

theorem Blk.alike_refl (k : Blk) : Blk.alike (some k) (some k) = true := by simp [Blk.alike, V.beqL_refl]

mutual
theorem F.full_any (fz : Nat → Prop) (H : Heap) : ∀ (x : F) (v : V), x.full = some v → FR fz H x v
  | .bool b, v, h => by simp [F.full] at h; subst h; exact .bool b
  | .int k n, v, h => by simp [F.full] at h; subst h; exact .int k n
  | .str s, v, h => by simp [F.full] at h; subst h; exact .str s
  | .nilp, v, h => by simp [F.full] at h; subst h; exact .nilp
  | .fp _, v, h => by simp [F.full] at h
  | .list _, v, h => by simp [F.full] at h
  | .fn f cs, v, h => by
    simp only [F.full] at h
    split at h
    · rename_i vs hvs
      cases h
      have := F.fullL_any fz H cs vs hvs
      exact .fn this.1 this.2
    · cases h
  | .nilfn, v, h => by simp [F.full] at h; subst h; exact .nilfn
  | .ifc t x, v, h => by
    simp only [F.full] at h
    split at h
    · rename_i v' hv'
      cases h
      exact .ifc (F.full_any fz H x v' hv')
    · cases h
  | .nilifc, v, h => by simp [F.full] at h; subst h; exact .nilifc
  | .agg cs, v, h => by
    simp only [F.full] at h
    split at h
    · rename_i vs hvs
      cases h
      have := F.fullL_any fz H cs vs hvs
      exact .agg this.1 this.2
    · cases h
  | .tup cs, v, h => by
    simp only [F.full] at h
    split at h
    · rename_i vs hvs
      cases h
      have := F.fullL_any fz H cs vs hvs
      exact .tup this.1 this.2
    · cases h
  | .raw a, v, h => by simp [F.full] at h; subst h; exact .raw a
theorem F.fullL_any (fz : Nat → Prop) (H : Heap) : ∀ (xs : List F) (vs : List V), F.fullL xs = some vs → Row (FR fz H) xs vs
  | [], vs, h => by simp [F.fullL] at h; subst h; exact Row.nil
  | x :: r, vs, h => by
    simp only [F.fullL] at h
    split at h
    · rename_i v hv
      split at h
      · rename_i ws hws
        cases h
        exact Row.cons (F.full_any fz H x v hv) (F.fullL_any fz H r ws hws)
      · cases h
    · cases h
end

/-! ### One instruction -/

abbrev DCall := Nat → List D → St → Option (D × St × List Nat)

def dExt (P : Program) (T : Tm) (st : St) (o : Oper) : Option (D × St × List Nat) :=
  if o.op.operands.all (fun x => (dEnv T x).isSome) = true then (match pureCall P (fun _ _ _ => none) (dEnv T) o [] with
    | some (v, []) => match toD (some v) with
      | some d => some (d, st, [])
      | none => none
    | _ => none) else none

def dM (T : Tm) (st : St) : MOp → Option (D × St × List Nat)
  | .mk => some (.mp st.S.length, { st with S := st.S ++ [(true, [])] }, [])
  | .set kd m k x => match deo T m, deo T k, deo T x with
    | .mp i, .fz (.int kd' n), .fz y => if kd' = kd then (match st.S[i]? with
      | some (true, ds) => match findF kd n ds 0 with
        | some (some (j, _)) => some (D.fz (.tup []), { st with S := st.S.set i (true, ds.set j (.fz (.tup [.int kd n, y]))) }, [i])
        | some none => some (D.fz (.tup []), { st with S := st.S.set i (true, ds ++ [.fz (.tup [.int kd n, y])]) }, [i])
        | none => none
      | _ => none) else none
    | _, _, _ => none
  | .len m => match deo T m with
    | .mp i => match st.S[i]? with
      | some (_, ds) => some (.fz (.int .i64 ds.length), st, [])
      | none => none
    | _ => none

def dI (P : Program) (call : DCall) (T : Tm) (st : St) : EAct → Option (D × St × List Nat)
  | .op e => dA P T st e
  | .call f xs => call f (xs.map (deo T)) st
  | .callv x xs => match deo T x with
    | .fz (.fn g cs) => call g (xs.map (deo T) ++ cs.map .fz) st
    | .fn g ds => call g (xs.map (deo T) ++ ds) st
    | _ => none
  | .inv x name xs o => match deo T x with
    | .fz (.ifc t v) => match methodOf P t name with
      | some f => if enterable P f = true then call f (.fz v :: xs.map (deo T)) st else dExt P T st o
      | none => none
    | _ => none
  | .ext o => dExt P T st o
  | .mop m => dM T st m

/-- Who sorts answers so when it is asked with a name that nobody has. -/
def aSrt (str : Bool) : D × St × List Nat := (.dead, ⟨[], [], if str = true then 1 else 0⟩, [])
def kSrt : Option (D × St × List Nat) → Option Bool
  | some (.dead, st, _) => some (Nat.beq st.c 1)
  | _ => none
def SrtFol (ec : ECall listHP) (call : DCall) : Prop := ∀ f str, kSrt (call f [.ptr 0 0] ⟨[], [], 0⟩) = some str → ∀ (vs : List V) (H : Heap), ec f vs H = eSrt listHP str vs H
def CallFol (ec : ECall listHP) (call : DCall) : Prop := (∀ f ds st r, call f ds st = some r → ∀ (c : Ct) (H : Heap) (vs : List V), SR c st H → Row (DR c H) ds vs → Fol c st H r (ec f vs H)) ∧ SrtFol ec call

section
variable {P : Program} {c : Ct} {st : St} {H : Heap} {T : Tm} {TE : TT} {ec : ECall listHP} {call : DCall}

theorem dExt_ok (s : SR c st H) (hT : TR c H T TE) {o : Oper} {r : D × St × List Nat} (h : dExt P T st o = some r) : Fol c st H r (eExt P listHP TE H o) := by
  unfold dExt at h
  split at h
  · rename_i hall
    rw [Array.all_eq_true_iff_forall_mem] at hall
    split at h
    · rename_i v hv
      split at h
      · rename_i d hd
        cases h
        have hcongr : pureCall P (fun _ _ _ => none) (dEnv T) o [] = pureCall P (fun _ _ _ => none) (evT TE) o [] := pureCall_congr fun x hx => by
          obtain ⟨w, hw⟩ := Option.isSome_iff_exists.1 (hall x hx)
          rw [hw, dEnv_rel hT hw]
        have h3 : eExt P listHP TE H o = some (v, H) := by
          unfold eExt
          rw [← hcongr, hv]
          rfl
        rw [h3]
        simp only [toD] at hd
        split at hd
        · rename_i x hx
          cases hd
          exact Fol.same s (.fz (vF_rel _ _ v x hx))
        · cases hd
      · cases h
    · cases h
  · cases h

theorem dM_ok (s : SR c st H) (hT : TR c H T TE) {m : MOp} {r : D × St × List Nat} (h : dM T st m = some r) : Fol c st H r (eM listHP TE H m) := by
  cases m with
  | mk =>
    simp only [dM] at h
    cases h
    have g1 := Goes.junk s ⟨[], 0⟩
    have g2 := Goes.var g1.sr [] [] 4 (by decide) Row.nil
    refine ⟨_, .mp H.length, H ++ [⟨[], 0⟩] ++ [⟨[], 4⟩], rfl, g1.trans s g2, .mp ?_⟩
    show (if st.S.length = st.S.length then some (H ++ [_]).length else _) = _
    rw [if_pos rfl]
    simp
  | set kd m k x =>
    have hm := deo_rel hT m
    have hk := deo_rel hT k
    have hx := deo_rel hT x
    simp only [dM] at h
    simp only [eM]
    generalize eo TE m = vm at hm ⊢
    generalize eo TE k = vk at hk ⊢
    generalize eo TE x = vx at hx ⊢
    split at h
    · rename_i i kd' n y hdm hdk hdx
      rw [hdm] at hm
      rw [hdk] at hk
      rw [hdx] at hx
      have hk' := hk.fz_inv
      cases hk'
      cases hm with
      | mp hv =>
        rename_i b
        split at h
        · rename_i hkd
          subst hkd
          split at h
          · rename_i ds hS
            obtain ⟨b', g, h1, h2, h3, h4, _⟩ := s.var i true ds hS
            rw [hv] at h1
            cases h1
            have hg : listHP.get H (b + 1) = some g := h2
            have hent : DR c H (.fz (.tup [.int kd' n, y])) (.tup [.int kd' n, vx]) := by
              have hx' := hx.fz_inv
              refine .fz (.tup rfl fun j a u ha hu => ?_)
              match j with
              | 0 => simp at ha hu; subst ha; subst hu; exact .int _ _
              | 1 => simp at ha hu; subst ha; subst hu; exact hx'
              | j + 2 => simp at ha
            simp only [hg, evSet, if_true]
            have gw : ∀ ds' vs', Row (DR c H) ds' vs' → Goes [i] c st H c { st with S := st.S.set i (true, ds') } (H.set (b + 1) ⟨vs', 4⟩) := fun ds' vs' hr => by
              have h41 := Goes.write4 s hS hv h2 ds' vs' hr
              exact h41
            split at h
            · rename_i j x' hf
              cases h
              rcases findF_rel ds g.cells 0 _ h3 hf with ⟨h5, _⟩ | ⟨j', x'', u, h5, h6, h7⟩
              · cases h5
              · cases h5
                rw [h6]
                exact ⟨c, undefV, _, rfl, gw _ _ (h3.set j hent), .fz (.tup rfl fun j x u h _ => by simp at h)⟩
            · rename_i hf
              cases h
              rcases findF_rel ds g.cells 0 _ h3 hf with ⟨_, h6⟩ | ⟨j', x', u, h5, _⟩
              · rw [h6]
                exact ⟨c, undefV, _, rfl, gw _ _ (h3.append (Row.cons hent Row.nil)), .fz (.tup rfl fun j x u h _ => by simp at h)⟩
              · cases h5
            · cases h
          · cases h
        · cases h
    · cases h
  | len m =>
    have hm := deo_rel hT m
    simp only [dM] at h
    simp only [eM]
    generalize eo TE m = vm at hm ⊢
    split at h
    · rename_i i hdm
      rw [hdm] at hm
      cases hm with
      | mp hv =>
        rename_i b
        split at h
        · rename_i w ds hS
          cases h
          obtain ⟨b', g, h1, h2, h3, _⟩ := s.var i w ds hS
          rw [hv] at h1
          cases h1
          have hg : listHP.get H (b + 1) = some g := h2
          simp only [hg]
          rw [h3.1]
          exact Fol.same s (.fz (.int _ _))
        · cases h
    · cases h

theorem dI_ok (hcall : CallFol ec call) (s : SR c st H) (hT : TR c H T TE) {a : EAct} {r : D × St × List Nat} (h : dI P call T st a = some r) : Fol c st H r (eI P listHP ec TE H a) := by
  cases a with
  | op e => exact dA_ok s hT h
  | call f xs => exact hcall.1 _ _ _ _ h c H _ s (deos_rel hT xs)
  | callv x xs =>
    have hx := deo_rel hT x
    simp only [dI] at h
    simp only [eI]
    generalize eo TE x = vx at hx ⊢
    split at h
    · rename_i g cs hd
      rw [hd] at hx
      have := hx.fz_inv
      cases this with
      | fn hl hc => exact hcall.1 _ _ _ _ h c H _ s ((deos_rel hT xs).append (Row.fz ⟨hl, hc⟩))
    · rename_i g ds hd
      rw [hd] at hx
      cases hx with
      | fn hl hc => exact hcall.1 _ _ _ _ h c H _ s ((deos_rel hT xs).append ⟨hl, hc⟩)
    · cases h
  | inv x name xs o =>
    have hx := deo_rel hT x
    simp only [dI] at h
    simp only [eI]
    generalize eo TE x = vx at hx ⊢
    split at h
    · rename_i t v hd
      rw [hd] at hx
      have := hx.fz_inv
      cases this with
      | ifc hc =>
        simp only
        split at h
        · rename_i f hf
          simp only [hf]
          split at h
          · rename_i he
            rw [if_pos he]
            exact hcall.1 _ _ _ _ h c H _ s (Row.cons (.fz hc) (deos_rel hT xs))
          · rename_i he
            rw [if_neg he]
            exact dExt_ok s hT h
        · cases h
    · cases h
  | ext o => exact dExt_ok s hT h
  | mop m => exact dM_ok s hT h

/-! ### Rows of instructions -/

def dW (T : Tm) : Option (Nat × Bool) → Option Bool
  | none => some true
  | some (t, b) => match T.at t with
    | .fz (.bool k) => some (k == b)
    | .fz (.tup []) => some false
    | _ => none

theorem dW_ok (hT : TR c H T TE) {g : Option (Nat × Bool)} {b : Bool} (h : dW T g = some b) : eW TE g = b := by
  cases g with
  | none => cases h; rfl
  | some p =>
    obtain ⟨t, b'⟩ := p
    simp only [dW] at h
    have ht := hT t
    simp only [eW]
    split at h
    · rename_i k hd
      rw [hd] at ht
      have := ht.fz_inv
      generalize TE.at t = v at this
      cases this
      cases h
      rfl
    · rename_i hd
      rw [hd] at ht
      have := ht.fz_inv
      generalize TE.at t = v at this
      cases this
      cases h
      rfl
    · cases h

def undefD : D := .fz (.tup [])
theorem undefD_rel : DR c H undefD undefV := .fz (.tup rfl fun j x u h => by simp at h)

/-- An instruction, and the temporaries behind it. -/
def addT (T : Tm) (r : Option (D × St × List Nat)) : Option (D × St × List Nat × Tm) := match r with
  | some (d, st', W) => some (d, st', W, T)
  | none => none
def dIT (P : Program) (call : DCall) (T : Tm) (st : St) (a : EAct) : Option (D × St × List Nat × Tm) := match dU T st a with
  | some (d, T1, st1) => some (d, st1, [], T1)
  | none => addT T (dI P call T st a)

theorem dIT_ok (hcall : CallFol ec call) (s : SR c st H) (hT : TR c H T TE) (hs : Small T) {a : EAct} {d : D} {st1 : St} {W : List Nat} {T1 : Tm} (h : dIT P call T st a = some (d, st1, W, T1)) :
    ∃ (c' : Ct) (v : V) (H' : Heap), eI P listHP ec TE H a = some (v, H') ∧ Goes W c st H c' st1 H' ∧ DR c' H' d v ∧ TR c' H' T1 TE ∧ Small T1 := by
  unfold dIT at h
  split at h
  · rename_i d' T' st' hu
    cases h
    exact dU_ok s hT hs hu
  · unfold addT at h
    split at h
    · rename_i d' st' W' hd
      cases h
      obtain ⟨c1, v, H1, h1, h2, h3⟩ := dI_ok hcall s hT hd
      exact ⟨c1, v, H1, h1, h2, h3, hT.mono h2.step, hs⟩
    · cases h

def dIs (P : Program) (call : DCall) : List EI → Tm → St → Option (Tm × St)
  | [], T, st => some (T, st)
  | i :: r, T, st => match dW T i.grd with
    | some true => match dIT P call T st i.act with
      | some (d, st', _, T1) => dIs P call r (T1.dst i.dst d) st'
      | none => none
    | some false => dIs P call r (T.dst i.dst undefD) st
    | none => none

/-- The run goes on, whatever is written. -/
def GoesE (c : Ct) (st : St) (H : Heap) (c' : Ct) (st' : St) (H' : Heap) : Prop := ∃ W, Goes W c st H c' st' H'

theorem dIs_ok (hcall : CallFol ec call) : ∀ (l : List EI) (T : Tm) (st : St) (T' : Tm) (st' : St) (c : Ct) (H : Heap) (TE : TT), dIs P call l T st = some (T', st') → SR c st H → TR c H T TE → Small T →
    ∃ c' TE' H', eIs P listHP ec l TE H = some (TE', H') ∧ GoesE c st H c' st' H' ∧ TR c' H' T' TE' ∧ Small T'
  | [], T, st, T', st', c, H, TE, h, s, hT, hs => by
    cases h
    exact ⟨c, TE, H, rfl, ⟨[], Goes.refl s⟩, hT, hs⟩
  | i :: r, T, st, T', st', c, H, TE, h, s, hT, hs => by
    simp only [dIs] at h
    simp only [eIs]
    split at h
    · rename_i hw
      rw [if_pos (dW_ok hT hw)]
      split at h
      · rename_i d st1 W T1 hd
        obtain ⟨c1, v, H1, h1, h2, h3, hT1, hs1⟩ := dIT_ok hcall s hT hs hd
        rw [h1]
        obtain ⟨c2, TE2, H2, h4, ⟨W2, h5⟩, h6⟩ := dIs_ok hcall r _ st1 T' st' c1 H1 _ h h2.sr (hT1.dst hs1 i.dst h3) (hs1.dst _ _)
        exact ⟨c2, TE2, H2, h4, ⟨_, h2.trans s h5⟩, h6⟩
      · cases h
    · rename_i hw
      rw [if_neg (by rw [dW_ok hT hw]; simp)]
      exact dIs_ok hcall r _ st T' st' c H _ h s (hT.dst hs i.dst undefD_rel) (hs.dst _ _)
    · cases h

/-! ### Sorting in place -/

def decFI : List F → Option Int
  | [.int .i64 z] => some z
  | _ => none
def decFS : List F → Option (List UInt8)
  | [.str s] => some s
  | _ => none
def srtF (str : Bool) (es : List (List F)) : Option (List (List F)) := bif str then (match mapO decFS es with
    | some l => some ((sortB leS l).map fun s => [.str s])
    | none => none) else (match mapO decFI es with
    | some l => some ((sortB leI l).map fun z => [.int .i64 z])
    | none => none)
def dSrt (str : Bool) (T : Tm) (st : St) : D → Option (Tm × St)
  | .nils => some (T, st)
  | .ow t q z es => if t ∈ st.L ∧ es.length = 0 then some (T, st) else if t ∈ st.L ∧ z = 1 ∧ 0 < es.length ∧ es.length < 4611686018427387904 then (match srtF str es with
    | some rs => some (T.turn t st.c (rowsU q rs), st.turn t (rowsU q rs))
    | none => none) else none
  | _ => none

theorem mapO_rows {α : Type} {f : List F → Option α} {enc : α → F} (hf : ∀ e a, f e = some a → e = [enc a]) : ∀ (es : List (List F)) (l : List α), mapO f es = some l → es = l.map fun a => [enc a]
  | [], l, h => by cases h; rfl
  | e :: r, l, h => by
    simp only [mapO] at h
    split at h
    · rename_i a ha
      split at h
      · rename_i m hm
        cases h
        rw [List.map_cons, ← hf e a ha, ← mapO_rows hf r m hm]
      · cases h
    · cases h
theorem mapO_map {α : Type} {f : V → Option α} {enc : α → V} (hf : ∀ a, f (enc a) = some a) : ∀ (l : List α), mapO f (l.map enc) = some l
  | [] => rfl
  | a :: r => by simp only [List.map_cons, mapO, hf, mapO_map hf r]
theorem insB_length {α : Type} (le : α → α → Bool) (a : α) : ∀ (l : List α), (insB le a l).length = l.length + 1
  | [] => rfl
  | b :: r => by
    simp only [insB]
    cases le a b with
    | true => rfl
    | false => simp only [cond_false, List.length_cons, insB_length le a r]
theorem sortB_len {α : Type} (le : α → α → Bool) : ∀ (l : List α), (sortB le l).length = l.length
  | [] => rfl
  | a :: r => by rw [sortB, insB_length, sortB_len le r]; rfl

theorem srt_cells {α : Type} {encF : α → F} {encV : α → V} (hrel : ∀ (fz : Nat → Prop) (H : Heap) (a : α) (u : V), FR fz H (encF a) u → u = encV a) {l : List α} {es : List (List F)} (hes : es = l.map fun a => [encF a]) {cells : List V} {o : Nat} (hl : o + es.length ≤ cells.length)
    (h : ∀ (i j : Nat) (e : List F) (x : F) (u : V), es[i]? = some e → e[j]? = some x → cells[o + i * 1 + j]? = some u → FR c.fz H x u) : (cells.drop o).take es.length = l.map encV := by
  subst hes
  simp only [List.length_map] at hl ⊢
  apply List.ext_getElem?
  intro i
  by_cases hi : i < l.length
  · rw [List.getElem?_take_of_lt hi, List.getElem?_drop, List.getElem?_map, List.getElem?_eq_getElem hi, List.getElem?_eq_getElem (show o + i < cells.length by omega)]
    have := h i 0 [encF l[i]] (encF l[i]) (cells[o + i]'(by omega)) (by rw [List.getElem?_map, List.getElem?_eq_getElem hi]; rfl) rfl (by rw [Nat.mul_one, Nat.add_zero, List.getElem?_eq_getElem])
    rw [hrel _ _ _ _ this]
    rfl
  · rw [List.getElem?_eq_none (by simp; omega), List.getElem?_eq_none (by simp; omega)]

theorem dSrt_core {α : Type} {encF : α → F} {encV : α → V} (hrel : ∀ (fz : Nat → Prop) (H : Heap) (a : α) (u : V), FR fz H (encF a) u → u = encV a) (hrel' : ∀ (fz : Nat → Prop) (H : Heap) (a : α), FR fz H (encF a) (encV a)) (s : SR c st H) (hT : TR c H T TE) (hs : Small T)
    {str : Bool} {i t q : Nat} {es : List (List F)} {l l' : List α} (hes : es = l.map fun a => [encF a]) (hll : l'.length = l.length) (hsv : srtV str (l.map encV) = some (l'.map encV)) (hd : T.at i = .ow t q 1 es) (htL : t ∈ st.L) (hpos : 0 < es.length) (hbig : es.length < 4611686018427387904) :
    ∃ (c' : Ct) (H' : Heap), eSrt listHP str [TE.at i] H = some (undefV, H') ∧ Goes [] c st H c' (st.turn t (rowsU q (l'.map fun a => [encF a]))) H' ∧ TR c' H' (T.turn t st.c (rowsU q (l'.map fun a => [encF a]))) TE ∧ Small (T.turn t st.c (rowsU q (l'.map fun a => [encF a]))) := by
  have hx := hT i
  rw [hd] at hx
  rcases hx.ow_inv s htL with ⟨_, rfl, _⟩ | ⟨b, o, kb, ht, hv, hk, hst, hl, hz, hcell⟩
  · simp at hpos
  rw [Nat.mul_one] at hl hv
  have hel : es.length = l.length := by rw [hes, List.length_map]
  have hus : (kb.cells.drop (o + q)).take es.length = l.map encV := srt_cells (c := c) (H := H) hrel hes (by omega) (fun i j e x u h1 h2 h3 => hcell i j e x u h1 h2 (by rw [Nat.mul_one]; rw [Nat.mul_one, Nat.add_assoc o] at h3; exact h3))
  have hwl : (l'.map encV).length = (l'.map fun a => [encF a]).length * 1 := by simp
  have hu := turnOK_rows (c := c) (H := H) (o := o) (z := 1) (q := q) (old := kb.cells) (rs := l'.map fun a => [encF a]) (ws := l'.map encV) (fun i e he => by
      rw [List.getElem?_map] at he
      cases hx : l'[i]? with
      | none => rw [hx] at he; cases he
      | some a => rw [hx] at he; cases he; rfl) hwl (fun i j e x v he hx hv => by
      rw [List.getElem?_map] at he
      cases ha : l'[i]? with
      | none => rw [ha] at he; cases he
      | some a =>
        rw [ha] at he
        cases he
        cases j with
        | zero =>
          cases hx
          rw [Nat.mul_one, Nat.add_zero, List.getElem?_map, ha] at hv
          cases hv
          exact hrel' _ _ _
        | succ j => simp at hx) (by rw [List.length_map, Nat.mul_one]; omega)
  have hbnd : o + q * 1 + (l'.map encV).length ≤ kb.cells.length := by rw [List.length_map, Nat.mul_one]; omega
  have hlen := splice_length hbnd
  refine ⟨_, _, ?_, Goes.turn s ht hk hlen hu, TR.turn s hT ht hk hlen hu, hs.turn _ _ _⟩
  rw [hv]
  unfold eSrt
  simp only
  rw [if_neg (by omega), if_pos ⟨trivial, hpos, hbig⟩, show listHP.get H b = some kb from hk]
  simp only
  rw [if_pos (by omega)]
  have hld : ldE listHP H b (o + q) es.length = some ((kb.cells.drop (o + q)).take es.length) := by
    unfold ldE
    rw [show listHP.get H b = some kb from hk]
    exact eLd_some (by omega) (by omega)
  rw [hld]
  simp only
  rw [hus, hsv]
  simp only [List.length_map, Nat.mul_one, hel, hll]
  rfl

theorem dSrt_ok (s : SR c st H) (hT : TR c H T TE) (hs : Small T) {str : Bool} {i : Nat} {T1 : Tm} {st1 : St} (h : dSrt str T st (T.at i) = some (T1, st1)) :
    ∃ (c' : Ct) (H' : Heap), eSrt listHP str [TE.at i] H = some (undefV, H') ∧ Goes [] c st H c' st1 H' ∧ TR c' H' T1 TE ∧ Small T1 := by
  unfold dSrt at h
  split at h
  · rename_i hd
    have hx := hT i
    rw [hd] at hx
    cases h
    refine ⟨c, H, ?_, Goes.refl s, hT, hs⟩
    generalize TE.at i = v at hx
    cases hx
    rfl
  · rename_i t q z es hd
    split at h
    · rename_i hc
      cases h
      have hx := hT i
      rw [hd] at hx
      refine ⟨c, H, ?_, Goes.refl s, hT, hs⟩
      rcases hx.ow_inv s hc.1 with ⟨_, _, hv⟩ | ⟨b, o, kb, ht, hv, _⟩
      · rw [hv]; rfl
      · rw [hv, hc.2]; rfl
    split at h
    case isFalse => cases h
    rename_i hc
    obtain ⟨htL, rfl, hpos, hbig⟩ := hc
    split at h
    case h_2 => cases h
    rename_i rs hrs
    cases h
    cases str with
    | false =>
      simp only [srtF, cond_false] at hrs
      split at hrs
      · rename_i l hl
        cases hrs
        have hes := mapO_rows (enc := fun z : Int => F.int .i64 z) (fun e a h => by
          unfold decFI at h
          split at h
          · cases h; rfl
          · cases h) es l hl
        refine dSrt_core (encF := fun z : Int => F.int .i64 z) (encV := fun z : Int => V.int .i64 z) (fun fz H a u h => by cases h; rfl) (fun fz H a => .int _ _) s hT hs hes (sortB_len _ _) ?_ hd htL hpos hbig
        simp only [srtV, cond_false, mapO_map (f := decI) (enc := fun z : Int => V.int .i64 z) (fun a => rfl)]
      · cases hrs
    | true =>
      simp only [srtF, cond_true] at hrs
      split at hrs
      · rename_i l hl
        cases hrs
        have hes := mapO_rows (enc := fun z : List UInt8 => F.str z) (fun e a h => by
          unfold decFS at h
          split at h
          · cases h; rfl
          · cases h) es l hl
        refine dSrt_core (encF := fun z : List UInt8 => F.str z) (encV := fun z : List UInt8 => V.str z) (fun fz H a u h => by cases h; rfl) (fun fz H a => .str _) s hT hs hes (sortB_len _ _) ?_ hd htL hpos hbig
        simp only [srtV, cond_true, mapO_map (f := decS) (enc := fun z : List UInt8 => V.str z) (fun a => rfl)]
      · cases hrs
  · cases h

/-- A row in which one thing sorts in place. -/
def dSrtR (P : Program) (call : DCall) (l1 : List EI) (f i : Nat) (d : Option Nat) (l2 : List EI) (T : Tm) (st : St) : Option (Tm × St) := match dIs P call l1 T st with
  | some (T1, st1) => match kSrt (call f [.ptr 0 0] ⟨[], [], 0⟩) with
    | some str => match dSrt str T1 st1 (T1.at i) with
      | some (T2, st2) => dIs P call l2 (T2.dst d undefD) st2
      | none => none
    | none => none
  | none => none

theorem eIs_append {ec : ECall listHP} : ∀ (l1 l2 : List EI) (T : TT) (H : Heap), eIs P listHP ec (l1 ++ l2) T H = match eIs P listHP ec l1 T H with
    | some (T', H') => eIs P listHP ec l2 T' H'
    | none => none
  | [], l2, T, H => rfl
  | i :: r, l2, T, H => by
    simp only [List.cons_append, eIs]
    split
    · split
      · exact eIs_append r l2 _ _
      · rfl
    · exact eIs_append r l2 _ _

theorem dSrtR_ok (hcall : CallFol ec call) {l1 : List EI} {f i : Nat} {d : Option Nat} {l2 : List EI} {T' : Tm} {st' : St} (h : dSrtR P call l1 f i d l2 T st = some (T', st')) (s : SR c st H) (hT : TR c H T TE) (hs : Small T) :
    ∃ c' TE' H', eIs P listHP ec (l1 ++ ⟨.call f [.t i], d, none⟩ :: l2) TE H = some (TE', H') ∧ GoesE c st H c' st' H' ∧ TR c' H' T' TE' ∧ Small T' := by
  unfold dSrtR at h
  split at h
  · rename_i T1 st1 h1
    split at h
    · rename_i str hk
      split at h
      · rename_i T2 st2 h2
        obtain ⟨c1, TE1, H1, a1, ⟨W1, a2⟩, a3, a4⟩ := dIs_ok hcall l1 T st T1 st1 c H TE h1 s hT hs
        obtain ⟨c2, H2, b1, b2, b3, b4⟩ := dSrt_ok a2.sr a3 a4 h2
        obtain ⟨c3, TE3, H3, e1, ⟨W3, e2⟩, e3⟩ := dIs_ok hcall l2 _ st2 T' st' c2 H2 _ h b2.sr (b3.dst b4 d undefD_rel) (b4.dst _ _)
        refine ⟨c3, TE3, H3, ?_, ⟨_, (a2.trans s b2).trans s e2⟩, e3⟩
        rw [eIs_append, a1]
        simp only [eIs, eW, if_true, eI]
        have e0 : ec f [TE1.at i] H1 = some (undefV, H2) := (hcall.2 f str hk _ _).trans b1
        rw [show ([EO.t i].map (eo TE1)) = [TE1.at i] from rfl, e0]
        exact e1
      · cases h
    · cases h
  · cases h

/-! ### Rows in an order of their own -/

structure QI where
  ins : EI
  kind : EK
  chk : List (Bool × Nat)

def qCk (l : List QI) : Bool × Nat → Ck
  | (b, j) => match l[j]? with
    | some q => match q.ins.dst with
      | some d => if b = true then (match q.ins.act with
        | .op e => .l e q.ins.grd d
        | _ => .l (.mv (.t 0)) none 0) else .a q.ins.grd d
      | none => .l (.mv (.t 0)) none 0
    | none => .l (.mv (.t 0)) none 0
def qDI (l : List QI) (q : QI) : DI := ⟨q.ins, q.kind, q.chk.map (qCk l)⟩

/-- Which operation is asked again, and what it reads. -/
def rdOf : EOp → Option (Option EO)
  | .ld1 x => some (some x)
  | .ldn _ x => some (some x)
  | .string x => some (some x)
  | .cut _ none _ _ _ => some none
  | .cut _ (some _) x _ _ => some (some x)
  | .cuts _ _ _ => some none
  | .conv _ _ => some none
  | .mget _ _ m _ => some (some m)
  | _ => none

def rdOK (T : Tm) (W L : List Nat) (e : EOp) : Bool := match rdOf e with
  | some none => true
  | some (some x) => match deo T x with
    | .fz _ => true
    | .nils => true
    | .ptr i _ => decide (i ∉ W)
    | .ep t _ _ _ => decide (t ∈ L)
    | .ow t _ _ _ => decide (t ∈ L)
    | .mp i => decide (i ∉ W)
    | _ => false
  | none => false

def vread : V → Option Nat
  | .ptr (some (b, _)) => some b
  | .sl (some (b, _, _)) n => if n = 0 then none else some b
  | .mp b => some (b + 1)
  | _ => none

theorem eA_again {K H' G : listHP.σ} {e : EOp} {v : V} (h : eA P listHP TE K e = some (v, G)) (hx : rdOf e = some none ∨ ∃ x, rdOf e = some (some x) ∧ ∀ b, vread (eo TE x) = some b → listHP.get H' b = listHP.get K b) :
    ∃ G', eA P listHP TE H' e = some (v, G') := by
  rcases hx with hx | ⟨x, hx, hb⟩
  · cases e with
    | cut z arr y lo hi =>
      cases arr with
      | some n => cases hx
      | none =>
        simp only [eA] at h ⊢
        generalize eo TE y = vy at h ⊢
        generalize eOpt TE hi = ohi at h ⊢
        generalize eOpt TE lo = olo at h ⊢
        cases vy with
        | sl a n =>
          simp only at h
          cases h1 : bndV ohi n with
          | none => rw [h1] at h; cases h
          | some hh =>
            cases h2 : bndV olo 0 with
            | none => rw [h1, h2] at h; cases h
            | some l =>
              rw [h1, h2] at h
              simp only at h
              split at h
              · rename_i hc
                cases a with
                | some p =>
                  obtain ⟨b, o, z1⟩ := p
                  simp only at h
                  split at h
                  · rename_i hz; cases h; refine ⟨H', ?_⟩; simp only [h1, h2, if_pos hc, if_pos hz]
                  · split at h
                    · rename_i hz hn; cases h; refine ⟨H', ?_⟩; simp only [h1, h2, if_pos hc, if_neg hz, if_pos hn]
                    · cases h
                | none =>
                  simp only at h
                  split at h
                  · rename_i hn; cases h; refine ⟨H', ?_⟩; simp only [h1, h2, if_pos hc, if_pos hn]
                  · cases h
              · cases h
        | _ => cases h
    | cuts y lo hi =>
      simp only [eA] at h ⊢
      generalize eo TE y = vy at h ⊢
      generalize eOpt TE hi = ohi at h ⊢
      generalize eOpt TE lo = olo at h ⊢
      cases vy with
      | str s =>
        simp only at h
        cases h1 : bndV ohi s.length with
        | none => rw [h1] at h; cases h
        | some hh =>
          cases h2 : bndV olo 0 with
          | none => rw [h1, h2] at h; cases h
          | some l =>
            rw [h1, h2] at h
            simp only at h
            split at h
            · rename_i hc; cases h; refine ⟨H', ?_⟩; simp only [h1, h2, if_pos hc]
            · cases h
      | _ => cases h
    | conv k y =>
      simp only [eA] at h ⊢
      generalize eo TE y = vy at h ⊢
      cases vy <;> first | (cases h; exact ⟨H', rfl⟩) | cases h
    | _ => cases hx
  · cases e with
    | ld1 y =>
      cases hx
      simp only [eA] at h ⊢
      generalize eo TE x = vy at h hb ⊢
      cases vy with
      | ptr a =>
        cases a with
        | none => cases h
        | some p =>
          obtain ⟨b, o⟩ := p
          have hg := hb b rfl
          simp only at h
          generalize hq : eLd (listHP.get K b) o 1 = q at h
          have hq' : eLd (listHP.get H' b) o 1 = q := by rw [hg]; exact hq
          simp only [hq']
          cases q with
          | none => cases h
          | some us =>
            simp only at h ⊢
            cases hu : us.head? with
            | none => rw [hu] at h; cases h
            | some w => rw [hu] at h; cases h; exact ⟨H', rfl⟩
      | _ => cases h
    | mget kd z y k =>
      cases hx
      simp only [eA] at h ⊢
      generalize eo TE x = vy at h hb ⊢
      cases vy with
      | mp b =>
        have hg := hb (b + 1) rfl
        simp only at h ⊢
        rw [hg]
        split at h
        · rename_i v' hv'
          cases h
          exact ⟨H', rfl⟩
        · cases h
      | _ => cases h
    | ldn n y =>
      cases hx
      simp only [eA] at h ⊢
      generalize eo TE x = vy at h hb ⊢
      cases vy with
      | ptr a =>
        cases a with
        | none => cases h
        | some p =>
          obtain ⟨b, o⟩ := p
          have hg := hb b rfl
          simp only at h
          generalize hq : eLd (listHP.get K b) o n = q at h
          have hq' : eLd (listHP.get H' b) o n = q := by rw [hg]; exact hq
          simp only [hq']
          cases q with
          | none => cases h
          | some us => cases h; exact ⟨H', rfl⟩
      | _ => cases h
    | string y =>
      cases hx
      simp only [eA] at h ⊢
      generalize eo TE x = vy at h hb ⊢
      cases vy with
      | sl a n =>
        cases a with
        | none =>
          simp only at h
          split at h
          · rename_i hn; cases h; exact ⟨H', if_pos hn⟩
          · cases h
        | some p =>
          obtain ⟨b, o, z⟩ := p
          simp only at h
          split at h
          · rename_i hn; cases h; exact ⟨H', if_pos hn⟩
          · rename_i hn
            have hg := hb b (by simp [vread, hn])
            generalize hq : eLd (listHP.get K b) o n = q at h
            have hq' : eLd (listHP.get H' b) o n = q := by rw [hg]; exact hq
            simp only [if_neg hn, hq']
            cases q with
            | none => cases h
            | some us =>
              simp only at h ⊢
              cases hu : toBytes us with
              | none => rw [hu] at h; cases h
              | some w => rw [hu] at h; cases h; exact ⟨H', rfl⟩
      | _ => cases h
    | cut z arr y lo hi =>
      cases arr with
      | none => cases hx
      | some n =>
        cases hx
        simp only [eA] at h ⊢
        generalize eo TE x = vy at h hb ⊢
        generalize eOpt TE hi = ohi at h ⊢
        generalize eOpt TE lo = olo at h ⊢
        cases vy with
        | ptr a =>
          cases a with
          | none => cases h
          | some p =>
            obtain ⟨b, o⟩ := p
            have hg := hb b rfl
            simp only at h
            generalize hq : eLd (listHP.get K b) o (n * z) = q at h
            have hq' : eLd (listHP.get H' b) o (n * z) = q := by rw [hg]; exact hq
            simp only [hq']
            cases h1 : bndV ohi n with
            | none => rw [h1] at h; cases h
            | some hh =>
              cases h2 : bndV olo 0 with
              | none => rw [h1, h2] at h; cases h
              | some l =>
                rw [h1, h2] at h
                simp only at h
                split at h
                · rename_i hc
                  cases q with
                  | none => cases h
                  | some us => cases h; refine ⟨H', ?_⟩; simp only [if_pos hc]
                · cases h
        | _ => cases h
    | _ => cases hx

/-- What an operation reads is as it was. -/
theorem rd_same {W : List Nat} {c' : Ct} {st' : St} {H' : Heap} (s : SR c st H) (g : Goes W c st H c' st' H') (hT : TR c H T TE) {e : EOp} (h : rdOK T W st'.L e = true) :
    rdOf e = some none ∨ ∃ x, rdOf e = some (some x) ∧ ∀ b, vread (eo TE x) = some b → H'[b]? = H[b]? := by
  unfold rdOK at h
  split at h
  · rename_i hr; exact .inl hr
  · rename_i x hr
    refine .inr ⟨x, hr, fun b hb => ?_⟩
    have hx := deo_rel hT x
    generalize eo TE x = vx at hx hb
    have live : ∀ t, t ∈ st'.L → ∀ o z, c.tk t = some (some (b, o, z)) → H'[b]? = H[b]? := fun t ht o z hc => by
      have hlt := s.tlt t (by rw [hc]; simp)
      rcases g.step.tk t hlt with h1 | ⟨h1, h2⟩
      · exact absurd h1 (g.sr.live ht)
      · exact h2 b o z hc
    have live0 : ∀ t, t ∈ st'.L → c.tk t = none → t < c.nx → False := fun t ht hc hn => by
      rcases g.step.tk t hn with h1 | ⟨h1, h2⟩
      · exact g.sr.live ht h1
      · exact g.sr.live ht (h1.trans hc)
    split at h
    · rename_i x' hd
      rw [hd] at hx
      have := hx.fz_inv
      cases this <;> simp [vread] at hb
      · rename_i hf hk hs hl hc
        subst hb
        exact g.step.keep _ hf (lt_of hk)
      · rename_i hf hk hs hl hz hc
        obtain ⟨_, rfl⟩ := hb
        exact g.step.keep _ hf (lt_of hk)
    · rename_i hd
      rw [hd] at hx
      cases hx
      simp [vread] at hb
    · rename_i i o hd
      rw [hd] at hx
      cases hx with
      | ptr hv =>
        simp only [vread, Option.some.injEq] at hb
        subst hb
        exact g.vkeep i _ hv (by simpa using h)
    · rename_i t k cs o hd
      rw [hd] at hx
      have ht : t ∈ st'.L := by simpa using h
      cases hx with
      | ep0 h0 hn => exact (live0 t ht h0 hn).elim
      | ep h0 hn hk hl hz hc =>
        simp only [vread, Option.some.injEq] at hb
        subst hb
        exact live t ht _ _ h0
    · rename_i t q z es hd
      rw [hd] at hx
      have ht : t ∈ st'.L := by simpa using h
      cases hx with
      | ow0 h0 hn => exact (live0 t ht h0 hn).elim
      | own h0 hn => simp [vread] at hb
      | ow h0 hn hk hl hz hc =>
        simp only [vread] at hb
        split at hb
        · cases hb
        · cases hb
          exact live t ht _ _ h0
    · rename_i i hd
      rw [hd] at hx
      cases hx with
      | mp hv =>
        simp only [vread, Option.some.injEq] at hb
        subst hb
        exact g.vkeep i _ hv (by simpa using h)
    · cases h
  · cases h

end

end Go.Proofs.Dv

namespace Go.Proofs.Dv
open Go Go.RowKit Go.Proofs.Ev

def eoT : EO → List Nat
  | .t i => [i]
  | .c _ => []
def eoTo : Option EO → List Nat
  | some x => eoT x
  | none => []
def usesE : EOp → List Nat
  | .ld1 x => eoT x
  | .ldn _ x => eoT x
  | .string x => eoT x
  | .conv _ x => eoT x
  | .cut _ _ x lo hi => eoT x ++ (eoTo lo ++ eoTo hi)
  | .cuts x lo hi => eoT x ++ (eoTo lo ++ eoTo hi)
  | .mget _ _ m k => eoT m ++ eoT k
  | _ => []
def usesG : Option (Nat × Bool) → List Nat
  | some (t, _) => [t]
  | none => []
def lOf (q : QI) : Option EOp := match q.ins.act with
  | .op e => if (rdOf e).isSome = true then some e else none
  | _ => none
/-- What is asked again hangs on nothing that m gives. -/
def apartQ (q m : QI) : Bool := match lOf q, m.ins.dst with
  | some e, some d => !(usesE e ++ usesG q.ins.grd).contains d && (usesE e ++ usesG q.ins.grd).all (fun i => decide (i < 512))
  | _, _ => true
def otherQ (q m : QI) : Bool := match lOf q, q.ins.dst, m.ins.dst with
  | some _, some d, some d' => !(d == d') && decide (d < 512)
  | _, _, _ => true
def smallQ (q : QI) : Bool := match q.ins.dst with
  | some d => decide (d < 512)
  | none => true
def wfQ : List QI → Bool
  | [] => true
  | q :: r => smallQ q && apartQ q q && r.all (fun m => apartQ q m && otherQ q m) && wfQ r

def stillQ (l : List QI) (T : Tm) (W L : List Nat) (j : Nat) : Bool := match l[j]? with
  | some q => match lOf q with
    | some e => rdOK T W L e
    | none => false
  | none => false

/-- A literal slice, made whatever happens. -/
def bsQ (q : QI) : Bool := match q.ins.act, q.ins.grd with
  | .op (.bslice _ _ _ _), none => true
  | _, _ => false
def onceQ (l : List QI) (d : Nat) : Bool := decide (d < 512) && decide ((l.filter fun m => m.ins.dst == some d).length ≤ 1)
def freshQ (l : List QI) (T : Tm) (W L : List Nat) (j : Nat) : Bool := match l[j]? with
  | some q => match q.ins.dst with
    | some d => match dW T q.ins.grd with
      | some false => true
      | some true => match T.at d with
        | .ptr i _ => decide (i ∉ W)
        | .ow t _ _ (_ :: _) => decide (t ∈ L)
        | .ow t _ _ [] => bsQ q && onceQ l d && decide (t ∈ L)
        | _ => false
      | none => false
    | none => false
  | none => false

def chkQ (l : List QI) (T : Tm) (W L pend : List Nat) (p : Bool × Nat) : Bool := match p with
  | (true, j) => decide (j ∈ pend)
  | (false, j) => freshQ l T W L j

def dOrd (P : Program) (call : DCall) (l : List QI) : List QI → Nat → List Nat → Tm → St → Option (Tm × St)
  | [], _, _, T, st => some (T, st)
  | q :: r, n, pend, T, st => match dW T q.ins.grd with
    | some true => match dIT P call T st q.ins.act with
      | some (d, st', W, T1) => if q.chk.all (chkQ l T W st'.L (pend.filter (stillQ l T W st'.L))) = true then
          dOrd P call l r (n + 1) (if (lOf q).isSome = true then n :: pend.filter (stillQ l T W st'.L) else pend.filter (stillQ l T W st'.L)) (T1.dst q.ins.dst d) st' else none
      | none => none
    | some false => dOrd P call l r (n + 1) (if (lOf q).isSome = true then n :: pend else pend) (T.dst q.ins.dst undefD) st
    | none => none

section
variable {P : Program} {c : Ct} {st : St} {H : Heap} {T : Tm} {TE : TT} {ec : ECall listHP} {call : DCall}

theorem lOf_spec {q : QI} {e : EOp} (h : lOf q = some e) : q.ins.act = .op e ∧ (rdOf e).isSome = true := by
  unfold lOf at h
  split at h
  · rename_i e' he
    split at h
    · rename_i hr; cases h; exact ⟨he, hr⟩
    · cases h
  · cases h

theorem eo_same {TE' : TT} {x : EO} (h : ∀ i ∈ eoT x, TE'.at i = TE.at i) : eo TE' x = eo TE x := by
  cases x with
  | t i => exact h i (by simp [eoT])
  | c v => rfl
theorem eOpt_same {TE' : TT} {x : Option EO} (h : ∀ i ∈ eoTo x, TE'.at i = TE.at i) : eOpt TE' x = eOpt TE x := by
  cases x with
  | none => rfl
  | some x => simp only [eOpt]; rw [eo_same h]

theorem eA_same {TE' : TT} {K : listHP.σ} {e : EOp} (hr : (rdOf e).isSome = true) (h : ∀ i ∈ usesE e, TE'.at i = TE.at i) : eA P listHP TE' K e = eA P listHP TE K e := by
  cases e with
  | ld1 x => simp only [eA]; rw [eo_same h]
  | ldn n x => simp only [eA]; rw [eo_same h]
  | string x => simp only [eA]; rw [eo_same h]
  | conv k x => simp only [eA]; rw [eo_same h]
  | mget kd z m k =>
    simp only [usesE, List.mem_append] at h
    simp only [eA]
    rw [eo_same fun i hi => h i (.inl hi), eo_same (x := k) fun i hi => h i (.inr hi)]
  | cut z arr x lo hi =>
    simp only [usesE, List.mem_append] at h
    simp only [eA]
    rw [eo_same fun i hi => h i (.inl hi), eOpt_same fun i hi => h i (.inr (.inl hi)), eOpt_same (x := hi) fun i hi' => h i (.inr (.inr hi'))]
  | cuts x lo hi =>
    simp only [usesE, List.mem_append] at h
    simp only [eA]
    rw [eo_same fun i hi => h i (.inl hi), eOpt_same fun i hi => h i (.inr (.inl hi)), eOpt_same (x := hi) fun i hi' => h i (.inr (.inr hi'))]
  | _ => simp [rdOf] at hr

theorem eW_same {TE' : TT} {g : Option (Nat × Bool)} (h : ∀ i ∈ usesG g, TE'.at i = TE.at i) : eW TE' g = eW TE g := by
  cases g with
  | none => rfl
  | some p =>
    obtain ⟨t, b⟩ := p
    simp only [eW]
    rw [h t (by simp [usesG])]

/-- What was read is what is read now. -/
def Pend (P : Program) (l : List QI) (TE : TT) (K : listHP.σ) (j : Nat) : Prop := ∀ q e d, l[j]? = some q → lOf q = some e → q.ins.dst = some d → eW TE q.ins.grd = true → ∃ G, eA P listHP TE K e = some (TE.at d, G)

theorem Pend.put {l : List QI} {K : listHP.σ} {j : Nat} {m : QI} (hp : Pend P l TE K j) (hwf : ∀ q, l[j]? = some q → apartQ q m = true ∧ otherQ q m = true) (hs : smallQ m = true) (v : V) : Pend P l (ePut TE m.ins.dst v) K j := by
  intro q e d hq he hd hw
  cases hm : m.ins.dst with
  | none =>
    rw [hm] at hw
    exact hp q e d hq he hd hw
  | some d' =>
    rw [hm] at hw
    obtain ⟨h1, h2⟩ := hwf q hq
    simp only [apartQ, he, hm, Bool.and_eq_true, Bool.not_eq_true', List.all_eq_true] at h1
    simp only [otherQ, he, hm, hd, Bool.and_eq_true, Bool.not_eq_true', beq_eq_false_iff_ne, ne_eq, decide_eq_true_eq] at h2
    obtain ⟨h2, hd5⟩ := h2
    simp only [smallQ, hm, decide_eq_true_eq] at hs
    obtain ⟨h1, h1s⟩ := h1
    have hat : ∀ i, i < 512 → i ≠ d' → (TE.put d' v).at i = TE.at i := fun i hi hne => by rw [TT.at_put TE d' i v hs hi, if_neg hne]
    have hu : ∀ i ∈ usesE e ++ usesG q.ins.grd, (TE.put d' v).at i = TE.at i := fun i hi => hat i (by simpa using h1s i hi) fun e => by
      subst e
      have := List.elem_iff.2 hi
      rw [List.contains_eq_mem] at h1
      simp [hi] at h1
    have e1 := eA_same (P := P) (TE := TE) (TE' := TE.put d' v) (K := K) (lOf_spec he).2 fun i hi => hu i (List.mem_append_left _ hi)
    have e2 := eW_same (TE := TE) (TE' := TE.put d' v) (g := q.ins.grd) fun i hi => hu i (List.mem_append_right _ hi)
    obtain ⟨G, hG⟩ := hp q e d hq he hd (by rw [← e2]; exact hw)
    refine ⟨G, ?_⟩
    show eA P listHP (TE.put d' v) K e = some ((TE.put d' v).at d, G)
    rw [e1, hG]
    rw [hat d hd5 h2]

theorem eA_L_heap {K G : listHP.σ} {e : EOp} {v : V} (hr : (rdOf e).isSome = true) (h : eA P listHP TE K e = some (v, G)) : G = K := by
  cases e with
  | ld1 x =>
    simp only [eA] at h
    split at h
    · split at h
      · split at h
        · cases h; rfl
        · cases h
      · cases h
    · cases h
  | ldn n x =>
    simp only [eA] at h
    split at h
    · split at h
      · cases h; rfl
      · cases h
    · cases h
  | string x =>
    simp only [eA] at h
    split at h
    · split at h
      · cases h; rfl
      · cases h
    · split at h
      · cases h; rfl
      · split at h
        · split at h
          · cases h; rfl
          · cases h
        · cases h
    · cases h
  | conv k x =>
    simp only [eA] at h
    split at h
    · cases h; rfl
    · cases h
  | mget kd z m k =>
    simp only [eA] at h
    split at h
    · split at h
      · cases h; rfl
      · cases h
    · cases h
  | cut z arr x lo hi =>
    simp only [eA] at h
    split at h
    · split at h
      · split at h
        · split at h
          · split at h
            · cases h; rfl
            · split at h
              · cases h; rfl
              · cases h
          · split at h
            · cases h; rfl
            · cases h
        · cases h
      · cases h
    · split at h
      · split at h
        · split at h
          · cases h; rfl
          · cases h
        · cases h
      · cases h
    · cases h
  | cuts x lo hi =>
    simp only [eA] at h
    split at h
    · split at h
      · split at h
        · cases h; rfl
        · cases h
      · cases h
    · cases h
  | _ => simp [rdOf] at hr

theorem mem_wfQ {q m : QI} {pre r : List QI} (h : wfQ (pre ++ m :: r) = true) (hq : q ∈ pre) : apartQ q m = true ∧ otherQ q m = true := by
  induction pre with
  | nil => cases hq
  | cons p pre ih =>
    simp only [List.cons_append, wfQ, Bool.and_eq_true] at h
    rcases List.mem_cons.1 hq with rfl | hq
    · have := h.1.2
      rw [List.all_eq_true] at this
      have := this m (by simp)
      simpa using this
    · exact ih h.2 hq

theorem self_wfQ {m : QI} {pre r : List QI} (h : wfQ (pre ++ m :: r) = true) : smallQ m = true ∧ apartQ m m = true := by
  induction pre with
  | nil =>
    simp only [List.nil_append, wfQ, Bool.and_eq_true] at h
    exact ⟨h.1.1.1, h.1.1.2⟩
  | cons p pre ih =>
    simp only [List.cons_append, wfQ, Bool.and_eq_true] at h
    exact ih h.2

/-- What is asked about came ahead. -/
def idxQ : Nat → List QI → Bool
  | _, [] => true
  | n, q :: r => q.chk.all (fun p => decide (p.2 < n)) && idxQ (n + 1) r
theorem idxQ_at : ∀ {pre : List QI} {n : Nat} {q : QI} {r : List QI}, idxQ n (pre ++ q :: r) = true → ∀ p ∈ q.chk, p.2 < n + pre.length
  | [], n, q, r, h, p, hp => by
    simp only [List.nil_append, idxQ, Bool.and_eq_true, List.all_eq_true, decide_eq_true_eq] at h
    exact h.1 p hp
  | m :: pre, n, q, r, h, p, hp => by
    simp only [List.cons_append, idxQ, Bool.and_eq_true] at h
    have := idxQ_at h.2 p hp
    simp only [List.length_cons]
    omega
/-- Literal slices stand somewhere, of no elements too. -/
def Home (l : List QI) (TE : TT) (n : Nat) : Prop := ∀ j q d, j < n → l[j]? = some q → bsQ q = true → q.ins.dst = some d → onceQ l d = true → (vblk (TE.at d)).isSome = true
theorem Home.put {l pre r : List QI} {q : QI} (hl : l = pre ++ q :: r) (h : Home l TE pre.length) (hs : smallQ q = true) {v : V} (hv : bsQ q = true → (vblk v).isSome = true) : Home l (ePut TE q.ins.dst v) (pre ++ [q]).length := by
  intro j q' d hj hq' hb hd ho
  have hlq : l[pre.length]? = some q := by rw [hl, List.getElem?_append_right (Nat.le_refl _)]; simp
  simp only [onceQ, Bool.and_eq_true, decide_eq_true_eq] at ho
  obtain ⟨hd5, ho⟩ := ho
  by_cases hjp : j = pre.length
  · subst hjp
    rw [hlq] at hq'
    cases hq'
    rw [hd]
    show (vblk ((TE.put d v).at d)).isSome = true
    rw [TT.at_put TE d d v hd5 hd5, if_pos rfl]
    exact hv hb
  · have hj' : j < pre.length := by simp at hj; omega
    have hat := h j q' d hj' hq' hb hd (by simp [onceQ, hd5, ho])
    cases hm : q.ins.dst with
    | none => exact hat
    | some d' =>
      have hne : d ≠ d' := by
        rintro rfl
        have hin : q' ∈ pre := by rw [hl, List.getElem?_append_left hj'] at hq'; exact List.mem_of_getElem? hq'
        have h1 : 0 < (pre.filter fun m => m.ins.dst == some d).length := List.length_pos_of_mem (List.mem_filter.2 ⟨hin, by simp [hd]⟩)
        have h2 : 0 < ((q :: r).filter fun m => m.ins.dst == some d).length := List.length_pos_of_mem (a := q) (List.mem_filter.2 ⟨by simp, by simp [hm]⟩)
        rw [hl, List.filter_append, List.length_append] at ho
        omega
      show (vblk ((TE.put d' v).at d)).isSome = true
      rw [TT.at_put TE d' d v (by simpa [smallQ, hm] using hs) hd5, if_neg hne]
      exact hat
theorem bs_home {q : QI} {v : V} {H1 : listHP.σ} {K : listHP.σ} (h : eI P listHP ec TE K q.ins.act = some (v, H1)) (hb : bsQ q = true) : (vblk v).isSome = true := by
  unfold bsQ at hb
  split at hb
  · rename_i z n zs ps ha hg
    rw [ha] at h
    simp only [eI, eA] at h
    split at h
    · obtain ⟨rfl, _⟩ := eNew_ok h
      rfl
    · cases h
  · cases hb

theorem dOrd_ok (hcall : CallFol ec call) {l : List QI} (hwf : wfQ l = true) (hix : idxQ 0 l = true) : ∀ (r pre : List QI) (pend : List Nat) (T : Tm) (st : St) (T' : Tm) (st' : St) (c : Ct) (H : Heap) (TE : TT), l = pre ++ r →
    dOrd P call l r pre.length pend T st = some (T', st') → SR c st H → TR c H T TE → Small T → (∀ j ∈ pend, j < pre.length ∧ Pend P l TE H j ∧ ∃ q, l[j]? = some q ∧ (lOf q).isSome = true) → Home l TE pre.length →
    ∃ c' TE' H', eOrd P listHP ec (r.map (qDI l)) TE H = some (TE', H') ∧ GoesE c st H c' st' H' ∧ TR c' H' T' TE' ∧ Small T'
  | [], pre, pend, T, st, T', st', c, H, TE, hl, h, s, hT, hs, hp, hh => by
    cases h
    exact ⟨c, TE, H, rfl, ⟨[], Goes.refl s⟩, hT, hs⟩
  | q :: r, pre, pend, T, st, T', st', c, H, TE, hl, h, s, hT, hs, hp, hh => by
    have hlq : l[pre.length]? = some q := by rw [hl, List.getElem?_append_right (Nat.le_refl _)]; simp
    obtain ⟨hsm, hself⟩ := self_wfQ (by rw [← hl]; exact hwf : wfQ (pre ++ q :: r) = true)
    have hpre : ∀ j, j < pre.length → ∀ q', l[j]? = some q' → apartQ q' q = true ∧ otherQ q' q = true := fun j hj q' hq' => by
      rw [hl, List.getElem?_append_left hj] at hq'
      exact mem_wfQ (by rw [← hl]; exact hwf) (List.mem_of_getElem? hq')
    simp only [dOrd] at h
    simp only [List.map_cons, eOrd]
    split at h
    · rename_i hw
      have hE : eW TE q.ins.grd = true := dW_ok hT hw
      rw [if_pos (by exact hE)]
      split at h
      · rename_i d st1 W T1 hd
        split at h
        · rename_i hchk
          obtain ⟨c1, v, H1, h1, h2, h3, hT1, hs1⟩ := dIT_ok hcall s hT hs hd
          -- what is still to be asked
          have hp1 : ∀ j ∈ pend.filter (stillQ l T W st1.L), j < pre.length ∧ Pend P l TE H1 j ∧ ∃ q, l[j]? = some q ∧ (lOf q).isSome = true := by
            intro j hj
            rw [List.mem_filter] at hj
            obtain ⟨hj1, hj2⟩ := hj
            obtain ⟨k1, k2, q', k3, k4⟩ := hp j hj1
            refine ⟨k1, ?_, q', k3, k4⟩
            intro q2 e d' hq2 he hd' hw'
            obtain ⟨G, hG⟩ := k2 q2 e d' hq2 he hd' hw'
            unfold stillQ at hj2
            rw [hq2] at hj2
            simp only [he] at hj2
            exact eA_again (K := H) (H' := H1) hG (rd_same s h2 hT hj2)
          have hall : (q.chk.map (qCk l)).all (eCk P listHP TE H H1) = true := by
            rw [List.all_eq_true]
            intro ck hck
            obtain ⟨⟨b, j⟩, hbj, rfl⟩ := List.mem_map.1 hck
            rw [List.all_eq_true] at hchk
            have hc := hchk (b, j) hbj
            cases b with
            | true =>
              simp only [chkQ, decide_eq_true_eq] at hc
              obtain ⟨k1, k2, q', k3, k4⟩ := hp1 j hc
              obtain ⟨e, he⟩ := Option.isSome_iff_exists.1 k4
              simp only [qCk, k3]
              cases hd' : q'.ins.dst with
              | none => simp [eCk, eW, eA, eo, V.beq_refl]
              | some d' =>
                simp only [if_true, (lOf_spec he).1, eCk]
                by_cases hw' : eW TE q'.ins.grd = true
                · obtain ⟨G, hG⟩ := k2 q' e d' k3 he hd' hw'
                  rw [if_pos hw', hG]
                  exact V.beq_refl _
                · rw [if_neg hw']
            | false =>
              simp only [chkQ, freshQ] at hc
              split at hc
              · rename_i q' hq'
                split at hc
                · rename_i d' hd'
                  simp only [qCk, hq', hd', Bool.false_eq_true, if_false, eCk]
                  split at hc
                  · rename_i hw'
                    rw [if_neg (by rw [dW_ok hT hw']; simp)]
                  · rename_i hw'
                    rw [if_pos (dW_ok hT hw')]
                    have hat := hT d'
                    have same : ∀ (vv : V) b, vblk vv = some b → H1[b]? = H[b]? → b < H.length → (match vblk vv with | some b => Blk.alike (listHP.get H b) (listHP.get H1 b) | none => false) = true := by
                      intro vv b hb hsame hlt
                      rw [hb]
                      show Blk.alike H[b]? H1[b]? = true
                      rw [hsame, List.getElem?_eq_getElem hlt]
                      exact Blk.alike_refl _
                    have hv0 := hh j q' d'
                    generalize TE.at d' = vv at hat hv0 ⊢
                    split at hc
                    · rename_i i o hd2
                      rw [hd2] at hat
                      cases hat with
                      | @ptr _ _ b hvr => exact same (.ptr (some (b, o))) b rfl (h2.vkeep i b hvr (by simpa using hc)) (s.own_lt (.inr ⟨i, hvr⟩))
                    · rename_i t qq z e0 es0 hd2
                      rw [hd2] at hat
                      have ht : t ∈ st1.L := by simpa using hc
                      have hlive : t < c.nx → c.tk t ≠ none := by
                        intro hn h0
                        rcases h2.step.tk t hn with h' | ⟨h', _⟩
                        · exact h2.sr.live ht h'
                        · exact h2.sr.live ht (h'.trans h0)
                      cases hat with
                      | ow0 h0 hn => exact absurd h0 (hlive hn)
                      | @ow _ _ b o z _ k h0 hn hk hl2 hz hc2 =>
                        rcases h2.step.tk t hn with h' | ⟨h', h''⟩
                        · exact absurd h' (h2.sr.live ht)
                        · exact same (.sl (some (b, o + qq * z, z)) (e0 :: es0).length) b rfl (h'' b o z h0) (lt_of hk)
                    · rename_i t qq z hd2
                      rw [hd2] at hat
                      simp only [Bool.and_eq_true, decide_eq_true_eq] at hc
                      obtain ⟨⟨hbs, hon⟩, ht⟩ := hc
                      have hlive : t < c.nx → c.tk t ≠ none := by
                        intro hn h0
                        rcases h2.step.tk t hn with h' | ⟨h', _⟩
                        · exact h2.sr.live ht h'
                        · exact h2.sr.live ht (h'.trans h0)
                      have hjl : j < pre.length := by
                        have := idxQ_at (n := 0) (by rw [← hl]; exact hix) (false, j) hbj
                        simpa using this
                      have hv1 := hv0 hjl hq' hbs hd' hon
                      cases hat with
                      | ow0 h0 hn => exact absurd h0 (hlive hn)
                      | own h0 hn => cases hv1
                      | @ow _ _ b o z _ k h0 hn hk hl2 hz hc2 =>
                        rcases h2.step.tk t hn with h' | ⟨h', h''⟩
                        · exact absurd h' (h2.sr.live ht)
                        · exact same (.sl (some (b, o + qq * z, z)) ([] : List (List F)).length) b rfl (h'' b o z h0) (lt_of hk)
                    · cases hc
                  · cases hc
                · cases hc
              · cases hc
          have hp2 : ∀ j ∈ (if (lOf q).isSome = true then pre.length :: pend.filter (stillQ l T W st1.L) else pend.filter (stillQ l T W st1.L)),
              j < (pre ++ [q]).length ∧ Pend P l (ePut TE q.ins.dst v) H1 j ∧ ∃ q, l[j]? = some q ∧ (lOf q).isSome = true := by
            have old : ∀ j ∈ pend.filter (stillQ l T W st1.L), j < (pre ++ [q]).length ∧ Pend P l (ePut TE q.ins.dst v) H1 j ∧ ∃ q, l[j]? = some q ∧ (lOf q).isSome = true := fun j hj => by
              have hj' := hp1 j hj
              have hl0 : j < (pre ++ [q]).length := by rw [List.length_append]; exact Nat.lt_of_lt_of_le hj'.1 (Nat.le_add_right _ _)
              exact ⟨hl0, Pend.put hj'.2.1 (fun q' hq' => hpre j hj'.1 q' hq') hsm v, hj'.2.2⟩
            intro j hj
            split at hj
            · rename_i hlo
              rcases List.mem_cons.1 hj with rfl | hj
              · refine ⟨by simp, ?_, q, hlq, hlo⟩
                intro q2 e d' hq2 he hd' hw'
                rw [hlq] at hq2
                cases hq2
                obtain ⟨hact, hrd⟩ := lOf_spec he
                rw [hact] at h1
                have h1' : eA P listHP TE H e = some (v, H1) := h1
                have hHH := eA_L_heap hrd h1'
                rw [hd'] at hw' ⊢
                simp only [apartQ, he, hd', Bool.and_eq_true, Bool.not_eq_true', List.all_eq_true] at hself
                simp only [smallQ, hd', decide_eq_true_eq] at hsm
                have hu : ∀ i ∈ usesE e, (TE.put d' v).at i = TE.at i := fun i hi => by
                  have hi' : i ∈ usesE e ++ usesG q.ins.grd := List.mem_append_left _ hi
                  rw [TT.at_put TE d' i v hsm (by simpa using hself.2 i hi'), if_neg fun e0 => by
                    subst e0
                    have := hself.1
                    rw [List.contains_eq_mem] at this
                    simp [hi] at this]
                refine ⟨H1, ?_⟩
                show eA P listHP (TE.put d' v) H1 e = some ((TE.put d' v).at d', H1)
                rw [eA_same (P := P) (TE := TE) (K := H1) hrd hu, TT.at_put TE d' d' v hsm hsm, if_pos rfl, hHH]
                exact h1'.trans (by rw [hHH])
              · exact old j hj
            · exact old j hj
          have hrest := dOrd_ok hcall hwf hix r (pre ++ [q]) _ _ st1 T' st' c1 H1 (ePut TE q.ins.dst v) (by rw [hl]; simp) (by simpa using h) h2.sr (hT1.dst hs1 q.ins.dst h3) (hs1.dst _ _) hp2 (Home.put hl hh hsm (bs_home h1))
          obtain ⟨c2, TE2, H2, h4, ⟨W2, h5⟩, h6⟩ := hrest
          refine ⟨c2, TE2, H2, ?_, ⟨_, h2.trans s h5⟩, h6⟩
          rw [show eI P listHP ec TE H (qDI l q).ins.act = some (v, H1) from h1]
          have hall' : (qDI l q).chk.all (eCk P listHP TE H H1) = true := hall
          simp only [hall', if_true]
          cases (qDI l q).kind <;> exact h4
        · cases h
      · cases h
    · rename_i hw
      have hE : eW TE q.ins.grd = false := dW_ok hT hw
      rw [if_neg (by show ¬ eW TE q.ins.grd = true; rw [hE]; simp)]
      have hp2 : ∀ j ∈ (if (lOf q).isSome = true then pre.length :: pend else pend), j < (pre ++ [q]).length ∧ Pend P l (ePut TE q.ins.dst undefV) H j ∧ ∃ q, l[j]? = some q ∧ (lOf q).isSome = true := by
        have old : ∀ j ∈ pend, j < (pre ++ [q]).length ∧ Pend P l (ePut TE q.ins.dst undefV) H j ∧ ∃ q, l[j]? = some q ∧ (lOf q).isSome = true := fun j hj => by
          obtain ⟨k1, k2, k3⟩ := hp j hj
          exact ⟨by simp; omega, k2.put (fun q' hq' => hpre j k1 q' hq') hsm _, k3⟩
        intro j hj
        split at hj
        · rename_i hlo
          rcases List.mem_cons.1 hj with rfl | hj
          · refine ⟨by simp, ?_, q, hlq, hlo⟩
            intro q2 e d' hq2 he hd' hw'
            rw [hlq] at hq2
            cases hq2
            exfalso
            rw [hd'] at hw'
            simp only [apartQ, he, hd', Bool.and_eq_true, Bool.not_eq_true', List.all_eq_true] at hself
            simp only [smallQ, hd', decide_eq_true_eq] at hsm
            have : eW (TE.put d' undefV) q.ins.grd = eW TE q.ins.grd := eW_same fun i hi => by
              have hi' : i ∈ usesE e ++ usesG q.ins.grd := List.mem_append_right _ hi
              rw [TT.at_put TE d' i _ hsm (by simpa using hself.2 i hi'), if_neg fun e0 => by
                subst e0
                have := hself.1
                rw [List.contains_eq_mem] at this
                simp [hi] at this]
            have hw2 : eW (TE.put d' undefV) q.ins.grd = true := hw'
            rw [this, hE] at hw2
            cases hw2
          · exact old j hj
        · exact old j hj
      exact dOrd_ok hcall hwf hix r (pre ++ [q]) _ _ st T' st' c H (ePut TE q.ins.dst undefV) (by rw [hl]; simp) (by simpa using h) s (hT.dst hs q.ins.dst undefD_rel) (hs.dst _ _) hp2 (Home.put hl hh hsm fun hb => by
        unfold bsQ at hb
        split at hb
        · rename_i hg
          rw [hg] at hw
          simp [dW] at hw
        · cases hb)
    · cases h

end

end Go.Proofs.Dv
