/-
  What is proved here: a law whose arguments may be slices of rows of numbers (structs, arrays): what it gives on values that stay, the model's run gives.
  Conditions: none.
-/
import Derived.Test.YtpinhopgeaamdaaDv3
import Derived.OpenShut
import Derived.ChangeArms
import Derived.WalkKit
import Derived.ProofKit
set_option linter.unusedVariables false
set_option linter.unusedSimpArgs false
namespace Go.Proofs.Dv
open Go Go.RowKit Go.Proofs.Ev Go.WideShapes Go.ChangeShapes Go.ChangeAt

/-- A type of nothing but numbers of one kind. -/
def intsT (P : Program) (k : IntKind) : Nat → TypeId → Bool
  | 0, _ => false
  | n + 1, t => match P.underlying t with
    | some (.int k') => decide (k' = k)
    | some (.struct fs) => (List.range (P.cellsOf t)).all fun j => fs.toList.any fun f => decide (f.offset ≤ j ∧ j < f.offset + P.cellsOf f.type) && intsT P k n f.type
    | some (.array m e) => (List.range (P.cellsOf t)).all (fun j => (List.range m).any fun i => decide (i * P.cellsOf e ≤ j ∧ j < i * P.cellsOf e + P.cellsOf e)) && intsT P k n e
    | _ => false

section
variable {H : Type} {enc : TypeId × Value → H} {P : Program} {w : World} {base : Nat} {spare : Nat → Bool} {held : Bool}

theorem part_at {α : Type} {cs : List α} {o c j : Nat} (h1 : o ≤ j) (h2 : j < o + c) : ((cs.drop o).take c)[j - o]? = cs[j]? := by
  rw [List.getElem?_take_of_lt (by omega), List.getElem?_drop]
  congr 1
  omega

theorem ints_trod {k : IntKind} : ∀ (n : Nat) {fuel : Nat} {t : TypeId} {cs : List Value} {x : DataW H × List MemPlace}, intsT P k n t = true → DataW.trod enc P w base spare held fuel t cs = some x → ∀ j, j < cs.length → ∃ z, cs[j]? = some (.int k z) ∧ (Lit.int k z).wf = true
  | 0, _, _, _, _, h, _, _, _ => by simp [intsT] at h
  | n + 1, fuel, t, cs, x, h, ht, j, hj => by
    unfold intsT at h
    split at h
    · rename_i k' hu
      obtain ⟨m, rfl, rfl, hw⟩ := DataW.trod_int hu ht
      have : k' = k := of_decide_eq_true h
      subst this
      have : j = 0 := by simpa using hj
      subst this
      exact ⟨m, rfl, hw⟩
    · rename_i fs hu
      obtain ⟨xs, m, rfl, rfl, hl, hxl, hf⟩ := DataW.trod_struct hu ht
      have h1 := List.all_eq_true.1 h j (List.mem_range.2 (by omega))
      obtain ⟨f, hfm, h2⟩ := List.any_eq_true.1 h1
      simp only [Bool.and_eq_true, decide_eq_true_eq] at h2
      obtain ⟨⟨h3, h4⟩, h5⟩ := h2
      obtain ⟨i, hi⟩ := List.getElem?_of_mem hfm
      have hi' : fs[i]? = some f := by rw [← hi]; simp
      have hx := hf i f hi'
      have hil : i < fs.size := by
        have := (Array.getElem?_eq_some_iff.1 hi').1
        exact this
      rw [List.getElem?_eq_getElem (by omega : i < xs.length)] at hx
      obtain ⟨z, hz, hw⟩ := ints_trod n h5 hx (j - f.offset) (by rw [List.length_take, List.length_drop]; omega)
      rw [part_at h3 h4] at hz
      exact ⟨z, hz, hw⟩
    · rename_i m' e hu
      simp only [Bool.and_eq_true] at h
      obtain ⟨h, h5⟩ := h
      obtain ⟨xs, m, rfl, rfl, hl, hxl, hf⟩ := DataW.trod_array hu ht
      have h1 := List.all_eq_true.1 h j (List.mem_range.2 (by omega))
      obtain ⟨i, him, h2⟩ := List.any_eq_true.1 h1
      have hil := List.mem_range.1 him
      obtain ⟨h3, h4⟩ := of_decide_eq_true h2
      have hx := hf i hil
      rw [List.getElem?_eq_getElem (by omega : i < xs.length)] at hx
      obtain ⟨z, hz, hw⟩ := ints_trod n h5 hx (j - i * P.cellsOf e) (by rw [List.length_take, List.length_drop]; omega)
      rw [part_at h3 h4] at hz
      exact ⟨z, hz, hw⟩
    · cases h

theorem mapM_at {α : Type} : ∀ (n : Nat) {f : Nat → Option α} {l : List α}, (List.range n).mapM f = some l → l.length = n ∧ ∀ i, i < n → f i = l[i]? := fun n f l h => ⟨by simpa using mapM_some_length h, fun i hi => mapM_some_get h i i (by simp [hi])⟩

/-- Rows of numbers, flat. -/
def rowsOf (k : IntKind) (m n : Nat) (zs : List Int) : List (List F) := (List.range n).map fun q => ((zs.drop (q * m)).take m).map (F.int k)

theorem flat_of {t e : TypeId} {k : IntKind} {B O len cap n0 : Nat} {d : DataW H} {p : List MemPlace} (ht : P.underlying t = some (.slice e)) (hm : 0 < P.cellsOf e) (hi : intsT P k n0 e = true)
    (h : DataW.Trod enc P w base (fun _ => true) held t (.slice (some ⟨B, O, none⟩) len cap) d p) :
    len ≤ cap ∧ cap ≤ maxLen ∧ ∃ zs : List Int, zs.length = cap * P.cellsOf e ∧ (∀ i, i < zs.length → w.cell? ⟨B, O + i, none⟩ = some (.int k (zs.getD i 0))) ∧ ∀ z ∈ zs, (Lit.int k z).wf = true := by
  obtain ⟨fuel, h⟩ := h
  simp only [Value.cells] at h
  rcases DataW.trod_slice ht h with ⟨h0, _⟩ | ⟨a, len', cap', elems, rest, n, _, hcs, _, hb, hl, hcm, hlen, hel, hsp, _⟩
  · simp at h0
  · simp at hcs
    obtain ⟨rfl, rfl, rfl⟩ := hcs
    obtain ⟨hrl, hr⟩ := hsp rfl
    have each : ∀ i, i < cap * P.cellsOf e → ∃ z, w.cell? ⟨B, O + i, none⟩ = some (.int k z) ∧ (Lit.int k z).wf = true := by
      intro i hi'
      have hq : i / P.cellsOf e < cap := (Nat.div_lt_iff_lt_mul hm).2 hi'
      have hj : i % P.cellsOf e < P.cellsOf e := Nat.mod_lt _ hm
      have hsum : i / P.cellsOf e * P.cellsOf e + i % P.cellsOf e = i := Nat.div_add_mod' i _
      generalize i / P.cellsOf e = q at *
      generalize i % P.cellsOf e = j at *
      have hb' : ∃ y, (w.cells? base ((⟨B, O, none⟩ : Addr).add (q * P.cellsOf e)) (P.cellsOf e)).bind (DataW.trod enc P w base (fun _ => true) held n e) = some y := by
        by_cases hql : q < len
        · exact ⟨_, (hel q hql).trans (List.getElem?_eq_getElem (by omega))⟩
        · have := hr (q - len) (by omega)
          rw [show len + (q - len) = q by omega] at this
          exact ⟨_, this.trans (List.getElem?_eq_getElem (by omega))⟩
      obtain ⟨y, hy⟩ := hb'
      rw [Option.bind_eq_some_iff] at hy
      obtain ⟨cs', hcs', hy'⟩ := hy
      unfold World.cells? at hcs'
      split at hcs'
      · obtain ⟨hcl, hcg⟩ := mapM_at _ hcs'
        obtain ⟨z, hz, hw⟩ := ints_trod n0 hi hy' j (by omega)
        refine ⟨z, ?_, hw⟩
        have := hcg j hj
        rw [add_flat, add_flat, hz] at this
        rw [← hsum, ← Nat.add_assoc]
        exact this
      · cases hcs'
    refine ⟨hl, hcm, (List.range (cap * P.cellsOf e)).map fun i => match w.cell? ⟨B, O + i, none⟩ with | some (.int _ z) => z | _ => 0, by simp, fun i hi' => ?_, fun z hz => ?_⟩
    · simp only [List.length_map, List.length_range] at hi'
      obtain ⟨z, hz, _⟩ := each i hi'
      simp [List.getD, hi', hz]
    · obtain ⟨i, hi', rfl⟩ := List.mem_map.1 hz
      obtain ⟨z, hz, hw⟩ := each i (List.mem_range.1 hi')
      simpa [hz] using hw
end

/-- An argument, rows too. -/
inductive ArgM (l : List Came) : Value → V → F → Prop
  | old {c : Value} {v : V} {x : F} (h : Arg l c v x) : ArgM l c v x
  | rows {i : Nat} {a : Came} {n cap m : Nat} (h : l[i]? = some a) (hn : a.zs.length = n * m) (hc : n ≤ cap) (hz : a.O + cap * m ≤ a.Z) : ArgM l (.slice (some ⟨a.B, a.O, none⟩) n cap) (.sl (some (i, 0, m)) n) (.list (rowsOf a.k m n a.zs))

section
variable {l : List Came} {w : World}

theorem ArgM.vrel {c : Value} {v : V} {x : F} (h : ArgM l c v x) : VRel (injOf l) v c := by
  cases h with
  | old h => exact h.vrel
  | rows h hn hc hz =>
    rename_i i a n cap m
    have hb : injOf l i = some (a.B, a.O, a.Z) := by simp [injOf, h]
    exact .sl hb hc (fun _ => rfl) hz

theorem ArgM.fr {c : Value} {v : V} {x : F} (h : ArgM l c v x) : FR (ctOf l).fz (heapOf l) x v := by
  cases h with
  | old h => exact h.fr
  | rows h hn hc hz =>
    rename_i i a n cap m
    have hg : (heapOf l)[i]? = some a.blk := by simp [heapOf, h]
    have hrow : ∀ (q : Nat) (e : List F), (rowsOf a.k m n a.zs)[q]? = some e → q < n ∧ e = ((a.zs.drop (q * m)).take m).map (F.int a.k) := by
      intro q e he
      have hq := lt_of he
      simp only [rowsOf, List.length_map, List.length_range] at hq
      refine ⟨hq, ?_⟩
      simp [rowsOf, hq] at he
      rw [List.map_take, List.map_drop]
      exact he.symm
    have hle : ∀ q, q < n → q * m + m ≤ n * m := fun q hq => by
      have := Nat.mul_le_mul_right m (show q + 1 ≤ n from hq)
      rwa [Nat.add_mul, Nat.one_mul] at this
    have hlen : (rowsOf a.k m n a.zs).length = n := by simp [rowsOf]
    have := FR.list (fz := (ctOf l).fz) (H := heapOf l) (es := rowsOf a.k m n a.zs) (b := i) (o := 0) (z := m) (lt_of h) hg (by simp [Came.blk]) (by simp [Came.blk, hlen, hn]) (fun q e he => by
      obtain ⟨hq, rfl⟩ := hrow q e he
      have := hle q hq
      simp only [List.length_map, List.length_take, List.length_drop, hn]
      omega) (fun q j e x u he hx hu => by
      obtain ⟨hq, rfl⟩ := hrow q e he
      have hj := lt_of hx
      simp only [List.length_map, List.length_take, List.length_drop, hn] at hj
      rw [List.getElem?_map, List.getElem?_take_of_lt (by omega), List.getElem?_drop] at hx
      simp only [Came.blk, Nat.zero_add, List.getElem?_map] at hu
      cases hz' : a.zs[q * m + j]? with
      | none => rw [hz'] at hx; cases hx
      | some z =>
        rw [hz'] at hx hu
        cases hx
        cases hu
        exact .int _ _)
    rw [hlen] at this
    exact this

inductive ArgsM (l : List Came) : List Value → List V → List F → Prop
  | nil : ArgsM l [] [] []
  | cons {c : Value} {v : V} {x : F} {cs : List Value} {vs : List V} {xs : List F} (h : ArgM l c v x) (k : ArgsM l cs vs xs) : ArgsM l (c :: cs) (v :: vs) (x :: xs)

theorem ArgsM.vrel {cs : List Value} {vs : List V} {xs : List F} (h : ArgsM l cs vs xs) : LRel (injOf l) vs cs.toArray := by
  induction h with
  | nil => exact LRel.nil _
  | cons h k ih => exact LRel.cons h.vrel ih

theorem ArgsM.fr {cs : List Value} {vs : List V} {xs : List F} (h : ArgsM l cs vs xs) : Row (DR (ctOf l) (heapOf l)) (xs.map .fz) vs := by
  induction h with
  | nil => exact Row.nil
  | cons h k ih => exact Row.cons (.fz h.fr) ih

theorem ArgM.app {l : List Came} (m : List Came) {c : Value} {v : V} {x : F} (h : ArgM l c v x) : ArgM (l ++ m) c v x := by
  cases h with
  | old h => exact .old (h.app m)
  | rows h hn hc hz => exact .rows (by rw [List.getElem?_append_left (lt_of h)]; exact h) hn hc hz

/-- A law that gives true. -/
theorem law_trueM {P : Program} {pr : Prims} {tblE : Nat → Option EFn} {dx : DX} {tbl : Nat → Option DFn} (hm : P.follows .mixedOrders = true) (hpr : PrimsOK P pr) (ht : TblOK P pr tblE dx tbl) (hE : ∀ f e, tblE f = some e → cFn P f = some e) {f : Nat} {df : DFn}
    (hp : pr f = none) (hx : dx f = none) (hf : tbl f = some df) (hmo : df.mode = .pure) (hl : ∀ a ∈ l, a.ok w) {cs : List Value} {vs : List V} {xs : List F} (ha : ArgsM l cs vs xs) (h : pureI P pr dx tbl f xs = some (.bool true)) :
    Calls P f cs.toArray w fun e w' => e = .returned (.bool true) ∧ Below w.heap.size w w' := by
  have hfr : frL (fr ⟨[], [], 0⟩ 6) (xs.map .fz) = some (xs, [], []) := by
    clear ha h
    induction xs with
    | nil => rfl
    | cons x r ih => simp only [List.map_cons, frL, Dv.fr, ih, List.nil_append]
  have hc := callP (st := ⟨[], [], 0⟩) hp hx hf hmo hfr h
  simp only [F.full, Option.isSome_some, if_true] at hc
  refine (callI_run hm hpr ht hE hc (srOf l) ha.fr ha.vrel (simOf hl)).mono ?_
  rintro e w' ⟨c', v, H', β', u, rfl, h1, h2, h3, h4⟩
  have hv := h2.fz_inv
  cases hv
  have hu := h4.bool_inv
  subst hu
  refine ⟨rfl, h3.os, h3.tape, h3.output, h3.size, fun B hB => h3.frame B hB ?_⟩
  rintro ⟨b, k, O, Z, hk, hst, _⟩
  obtain ⟨a, _, rfl⟩ := heapOf_get hk
  simp [Came.blk] at hst

end

inductive In1M (w : World) : Value → F → Prop
  | old {c : Value} {x : F} (h : In1 w c x) : In1M w c x
  | rows (a : Came) (ok : a.ok w) {n cap m : Nat} (hn : a.zs.length = n * m) (hc : n ≤ cap) (hz : a.O + cap * m ≤ a.Z) : In1M w (.slice (some ⟨a.B, a.O, none⟩) n cap) (.list (rowsOf a.k m n a.zs))
inductive InsM (w : World) : List Value → List F → Prop
  | nil : InsM w [] []
  | cons {c : Value} {x : F} {cs : List Value} {xs : List F} (h : In1M w c x) (k : InsM w cs xs) : InsM w (c :: cs) (x :: xs)

theorem In1M.arg {w : World} {c : Value} {x : F} (h : In1M w c x) (l0 : List Came) : ∃ l1 v, ArgM (l0 ++ l1) c v x ∧ ∀ a ∈ l1, a.ok w := by
  cases h with
  | old h => obtain ⟨l1, v, h1, h2⟩ := h.arg l0; exact ⟨l1, v, .old h1, h2⟩
  | rows a ok hn hc hz => exact ⟨[a], _, .rows (i := l0.length) (by simp) hn hc hz, fun b h => by simp at h; subst h; exact ok⟩

theorem InsM.args {w : World} {cs : List Value} {xs : List F} (h : InsM w cs xs) : ∀ l0 : List Came, ∃ l1 vs, (∀ l2, ArgsM (l0 ++ l1 ++ l2) cs vs xs) ∧ ∀ a ∈ l1, a.ok w := by
  induction h with
  | nil => intro l0; exact ⟨[], [], fun _ => .nil, fun a h => by cases h⟩
  | cons h k ih =>
    intro l0
    obtain ⟨l1, v, h1, h2⟩ := h.arg l0
    obtain ⟨l2, vs, h3, h4⟩ := ih (l0 ++ l1)
    refine ⟨l1 ++ l2, v :: vs, fun l3 => .cons ?_ ?_, fun a ha => ?_⟩
    · have := h1.app (l2 ++ l3)
      simpa [List.append_assoc] using this
    · have := h3 l3
      simpa [List.append_assoc] using this
    · rcases List.mem_append.1 ha with h | h
      · exact h2 a h
      · exact h4 a h

theorem in_rows {H : Type} {enc : TypeId × Value → H} {P : Program} {w : World} {base n0 : Nat} {held : Bool} {t e : TypeId} {k : IntKind} {v : Value} {d : DataW H} {p : List MemPlace} (m : Nat) (ht : P.underlying t = some (.slice e)) (hme : P.cellsOf e = m) (hm : 0 < m) (hi : intsT P k n0 e = true)
    (hok : Value.okWide P w .any base t v) (h : DataW.Trod enc P w 0 (fun _ => true) held t v d p) :
    ∃ (n : Nat) (zs : List Int), In1M w v (.list (rowsOf k m n zs)) ∧ n ≤ maxLen ∧ zs.length = n * m ∧ ∀ z ∈ zs, (Lit.int k z).wf = true := by
  subst hme
  obtain ⟨a, len, cap, rfl⟩ := okWide_slice ht hok
  cases a with
  | none =>
    obtain ⟨fuel, h⟩ := h
    simp only [Value.cells] at h
    rcases DataW.trod_slice ht h with ⟨h0, _⟩ | ⟨a, len', cap', elems, rest, n, _, hcs, _⟩
    · simp at h0
      obtain ⟨rfl, rfl⟩ := h0
      exact ⟨0, [], .old .nil, Nat.zero_le _, by simp, fun z h => by cases h⟩
    · simp at hcs
  | some x =>
    simp only [Value.okWide, ht, Cell.okWide, Cell.ok] at hok
    obtain ⟨_, _, _, hsp, row, cells, hsh, hli⟩ := hok
    obtain ⟨B, O, sp⟩ := x
    simp only at hsp hsh hli
    subst hsp
    obtain ⟨hl, hcm, zs, hz, hc, hw⟩ := flat_of ht hm hi h
    unfold World.shape? at hsh
    split at hsh
    · rename_i cs e' fz hb
      cases hsh
      have hO : O ≤ cs.size := Nat.le_trans (lies_le hli) (Nat.div_mul_le_self _ _)
      have hcap : O + cap * P.cellsOf e ≤ cs.size := by
        by_cases h0 : cap * P.cellsOf e = 0
        · omega
        · have := hc (cap * P.cellsOf e - 1) (by omega)
          have := cell_lt this hb
          omega
      have hlc : len * P.cellsOf e ≤ cap * P.cellsOf e := Nat.mul_le_mul_right _ hl
      have hlen : (zs.take (len * P.cellsOf e)).length = len * P.cellsOf e := by rw [List.length_take, hz]; omega
      refine ⟨len, zs.take (len * P.cellsOf e), .rows ⟨B, O, cs.size, k, zs.take (len * P.cellsOf e)⟩ ⟨⟨cs, _, fz, hb, rfl⟩, ?_, ?_⟩ hlen hl hcap, by omega, hlen, fun z hz' => hw z (List.mem_of_mem_take hz')⟩
      · show O + (zs.take (len * P.cellsOf e)).length ≤ cs.size
        rw [hlen]
        omega
      · intro j z hj
        have hjl := lt_of hj
        simp only [List.length_take] at hjl
        have h1 := hc j (by omega)
        rw [List.getElem?_take_of_lt (by omega)] at hj
        have : zs.getD j 0 = z := by rw [List.getD_eq_getElem?_getD, hj]; rfl
        rw [this] at h1
        exact h1
    · cases hsh

/-- A law that gives true, of what comes in. -/
theorem law_inM {P : Program} {w : World} {pr : Prims} {tblE : Nat → Option EFn} {dx : DX} {tbl : Nat → Option DFn} (hm : P.follows .mixedOrders = true) (hpr : PrimsOK P pr) (ht : TblOK P pr tblE dx tbl) (hE : ∀ f e, tblE f = some e → cFn P f = some e) {f : Nat} {df : DFn}
    (hp : pr f = none) (hx : dx f = none) (hf : tbl f = some df) (hmo : df.mode = .pure) {cs : List Value} {xs : List F} (ha : InsM w cs xs) (h : pureI P pr dx tbl f xs = some (.bool true)) :
    Calls P f cs.toArray w fun e w' => e = .returned (.bool true) ∧ Below w.heap.size w w' := by
  obtain ⟨l1, vs, h1, h2⟩ := ha.args []
  have h1 := h1 []
  simp only [List.nil_append, List.append_nil] at h1
  exact law_trueM hm hpr ht hE hp hx hf hmo h2 h1 h

end Go.Proofs.Dv
