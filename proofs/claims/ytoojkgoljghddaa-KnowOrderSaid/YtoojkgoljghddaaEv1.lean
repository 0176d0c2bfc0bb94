/-
  What is proved here: a run of a program's text on values and blocks of its own, which draws nothing, is followed by the model's run, whatever is drawn there.
  Conditions: none.
-/
import Derived.Test.YtoojkgoljghddaaEv
import Derived.Shelf.Lays2
import Derived.Shelf.RegionOpenPlain
import Derived.WalkKit
import Derived.Lib.Walk
import Derived.Lib.SliceRun
import Derived.Lib.JoinLaws
import Derived.Lib.AppendZeros
import Derived.Lib.AppendZerosOnto
import Derived.Lib.Overlaps
import Derived.Laws.Externs
import Derived.Laws.IdiomCopy
import Derived.Shelf.Spec.SlicesInsert
import Derived.Sort.Grow
import Derived.CallsIn
set_option linter.unusedVariables false
set_option linter.unusedSimpArgs false
namespace Go.Proofs.Ev
open Go Go.RowKit

/-! ### Which operation stands ahead of which -/

inductive Before (ops : Array Oper) : Nat → Nat → Prop
  | edge {i : Nat} {o : Oper} {e : Edge} (ho : ops[i]? = some o) (he : e ∈ o.after) (hb : Region.binds .any e = true) : Before ops e.on i
  | more {i j : Nat} {o : Oper} {e : Edge} (ho : ops[i]? = some o) (he : e ∈ o.after) (hb : Region.binds .any e = true) (h : Before ops j e.on) : Before ops j i

def lookP : List (Nat × List Nat) → Nat → List Nat
  | [], _ => []
  | (i, l) :: r, j => if i = j then l else lookP r j

def edgesOf (o : Oper) : List Nat := (o.after.toList.filter fun e => Region.binds .any e).map (·.on)

def memB (x : Nat) : List Nat → Bool
  | [] => false
  | y :: r => bif Nat.beq x y then true else memB x r
/-- Both rows, each number once. -/
def uni : List Nat → List Nat → List Nat
  | [], a => a
  | x :: r, a => bif memB x a then uni r a else uni r (x :: a)
def uniAll (acc : List (Nat × List Nat)) : List Nat → List Nat → List Nat
  | [], a => a
  | j :: r, a => uniAll acc r (uni (j :: lookP acc j) a)

theorem memB_mem {x : Nat} : ∀ {l : List Nat}, memB x l = true → x ∈ l
  | [], h => by simp [memB] at h
  | y :: r, h => by
    simp only [memB] at h
    cases hb : Nat.beq x y with
    | true => rw [Nat.eq_of_beq_eq_true hb]; exact List.mem_cons_self ..
    | false => rw [hb, cond_false] at h; exact List.mem_cons_of_mem _ (memB_mem h)

theorem uni_mem {x : Nat} : ∀ (l a : List Nat), x ∈ uni l a → x ∈ l ∨ x ∈ a
  | [], a, h => .inr h
  | y :: r, a, h => by
    simp only [uni] at h
    cases hb : memB y a with
    | true =>
      rw [hb, cond_true] at h
      rcases uni_mem r a h with h | h
      · exact .inl (List.mem_cons_of_mem _ h)
      · exact .inr h
    | false =>
      rw [hb, cond_false] at h
      rcases uni_mem r _ h with h | h
      · exact .inl (List.mem_cons_of_mem _ h)
      · rcases List.mem_cons.1 h with rfl | h
        · exact .inl (List.mem_cons_self ..)
        · exact .inr h

theorem uniAll_mem {x : Nat} {acc : List (Nat × List Nat)} : ∀ (l a : List Nat), x ∈ uniAll acc l a → x ∈ a ∨ ∃ q ∈ l, x ∈ q :: lookP acc q
  | [], a, h => .inl h
  | j :: r, a, h => by
    simp only [uniAll] at h
    rcases uniAll_mem r _ h with h | ⟨q, hq, hx⟩
    · rcases uni_mem _ _ h with h | h
      · exact .inr ⟨j, List.mem_cons_self .., h⟩
      · exact .inl h
    · exact .inr ⟨q, List.mem_cons_of_mem _ hq, hx⟩

def predsOf (ops : Array Oper) : List Nat → List (Nat × List Nat) → List (Nat × List Nat)
  | [], acc => acc
  | i :: r, acc => match ops[i]? with
    | some o => predsOf ops r ((i, uniAll acc (edgesOf o) []) :: acc)
    | none => predsOf ops r acc

def hasP (pr : List (Nat × List Nat)) (j i : Nat) : Bool := memB j (lookP pr i)

theorem predsOf_spec (ops : Array Oper) : ∀ (l : List Nat) (acc : List (Nat × List Nat)), (∀ i j, j ∈ lookP acc i → Before ops j i) → ∀ i j, j ∈ lookP (predsOf ops l acc) i → Before ops j i
  | [], acc, h => h
  | k :: r, acc, h => by
    simp only [predsOf]
    cases ho : ops[k]? with
    | none => exact predsOf_spec ops r acc h
    | some o =>
      refine predsOf_spec ops r _ ?_
      intro i j hj
      simp only [lookP] at hj
      split at hj
      · rename_i hk
        subst hk
        rcases uniAll_mem _ _ hj with hj | ⟨q, hq, hj⟩
        · cases hj
        unfold edgesOf at hq
        rw [List.mem_map] at hq
        obtain ⟨e, he, rfl⟩ := hq
        rw [List.mem_filter] at he
        have hea : e ∈ o.after := by simpa using he.1
        simp only [List.mem_cons] at hj
        rcases hj with rfl | hj
        · exact .edge ho hea he.2
        · exact .more ho hea he.2 (h _ _ hj)
      · exact h i j hj

theorem hasP_spec {ops : Array Oper} {l : List Nat} {i j : Nat} (h : hasP (predsOf ops l []) j i = true) : Before ops j i :=
  predsOf_spec ops l [] (fun i j hj => by simp [lookP] at hj) i j (memB_mem h)

/-! ### An order of its own -/

structure DrawOK (P : Program) (ops : Array Oper) (ord : List Nat) : Prop where
  nodup : ord.Nodup
  mem : ∀ i, i < ops.size → i ∈ ord
  small : ∀ i ∈ ord, i < ops.size
  edges : ∀ p i s, ord = p ++ i :: s → ∀ o, ops[i]? = some o → ∀ e ∈ o.after, Region.binds .any e = true → e.on ∈ p
  barrier : ∀ p x s, ord = p ++ x :: s → ∀ o, ops[x]? = some o → isX P o = true → ∀ i ∈ s, Before ops x i
  readers : ∀ (i j : Nat) (oi oj : Oper) (d : Tmp), i ≠ j → ops[i]? = some oi → ops[j]? = some oj → oi.dst = some d → d ∈ oj.looksAt ops → Before ops i j ∨ (isX P oi = true ∧ Before ops j i)
  dsts : ∀ (i j : Nat) (oi oj : Oper) (d : Tmp), i ≠ j → ops[i]? = some oi → ops[j]? = some oj → oi.dst = some d → oj.dst ≠ some d
  own : ∀ (i : Nat) (o : Oper) (d : Tmp), ops[i]? = some o → isX P o = false → o.dst = some d → d ∉ o.looksAt ops

def chkE (ops : Array Oper) : List Nat → List Nat → Bool
  | _, [] => true
  | pre, i :: r => (match ops[i]? with
    | some o => (edgesOf o).all fun j => pre.contains j
    | none => false) && chkE ops (i :: pre) r

def chkB (P : Program) (ops : Array Oper) (pr : List (Nat × List Nat)) : List Nat → Bool
  | [] => true
  | i :: r => (match ops[i]? with
    | some o => !(isX P o) || r.all fun j => hasP pr i j
    | none => false) && chkB P ops pr r

def chkR (P : Program) (ops : Array Oper) (pr : List (Nat × List Nat)) (i j : Nat) : Bool := match ops[i]?, ops[j]? with
  | some oi, some oj => match oi.dst with
    | some d => if i = j then (isX P oi || !((oj.looksAt ops).contains d))
      else (oj.dst != some d) && (!((oj.looksAt ops).contains d) || hasP pr i j || (isX P oi && hasP pr j i))
    | none => true
  | _, _ => true

def nodupB : List Nat → Bool
  | [] => true
  | i :: r => !(r.contains i) && nodupB r

theorem nodupB_spec : ∀ (l : List Nat), nodupB l = true → l.Nodup
  | [], _ => List.nodup_nil
  | i :: r, h => by
    simp only [nodupB, Bool.and_eq_true, Bool.not_eq_true'] at h
    refine List.nodup_cons.2 ⟨fun hm => ?_, nodupB_spec r h.2⟩
    have := h.1
    simp [hm] at this

def drawB (P : Program) (ops : Array Oper) (ord : List Nat) (pr : List (Nat × List Nat)) : Bool :=
  nodupB ord && ((List.range ops.size).all fun i => ord.contains i) && chkE ops [] ord && chkB P ops pr ord &&
  (List.range ops.size).all fun i => (List.range ops.size).all fun j => chkR P ops pr i j

theorem chkE_spec {ops : Array Oper} : ∀ (l pre : List Nat), chkE ops pre l = true → ∀ p i s, l = p ++ i :: s → ∀ o, ops[i]? = some o → ∀ e ∈ o.after, Region.binds .any e = true → e.on ∈ p ∨ e.on ∈ pre
  | [], pre, _, p, i, s, h => by simp at h
  | k :: r, pre, hc, p, i, s, h => by
    intro o ho e he hb
    simp only [chkE, Bool.and_eq_true] at hc
    cases p with
    | nil =>
      simp only [List.nil_append, List.cons.injEq] at h
      obtain ⟨rfl, rfl⟩ := h
      rw [ho] at hc
      have h1 := hc.1
      simp only [List.all_eq_true] at h1
      have := h1 e.on (by
        unfold edgesOf
        rw [List.mem_map]
        exact ⟨e, List.mem_filter.2 ⟨by simpa using he, hb⟩, rfl⟩)
      exact .inr (by simpa using this)
    | cons q p =>
      simp only [List.cons_append, List.cons.injEq] at h
      obtain ⟨rfl, h⟩ := h
      rcases chkE_spec r (k :: pre) hc.2 p i s h o ho e he hb with h1 | h1
      · exact .inl (List.mem_cons_of_mem _ h1)
      · rcases List.mem_cons.1 h1 with h2 | h2
        · exact .inl (by rw [h2]; exact List.mem_cons_self ..)
        · exact .inr h2

theorem lt_of_some {α : Type} {xs : Array α} {i : Nat} {x : α} (h : xs[i]? = some x) : i < xs.size := by
  rcases Nat.lt_or_ge i xs.size with h' | h'
  · exact h'
  · rw [Array.getElem?_eq_none h'] at h; cases h

theorem chkE_small {ops : Array Oper} : ∀ (l pre : List Nat), chkE ops pre l = true → ∀ i ∈ l, i < ops.size
  | [], _, _, i, h => by simp at h
  | k :: r, pre, hc, i, h => by
    simp only [chkE, Bool.and_eq_true] at hc
    rcases List.mem_cons.1 h with rfl | h
    · cases ho : ops[i]? with
      | none => rw [ho] at hc; cases hc.1
      | some o => exact lt_of_some ho
    · exact chkE_small r _ hc.2 i h

theorem chkB_spec {P : Program} {ops : Array Oper} {l0 : List Nat} : ∀ (l : List Nat), chkB P ops (predsOf ops l0 []) l = true → ∀ p x s, l = p ++ x :: s → ∀ o, ops[x]? = some o → isX P o = true → ∀ i ∈ s, Before ops x i
  | [], _, p, i, s, h => by simp at h
  | k :: r, hc, p, x, s, h => by
    intro o ho hx i hi
    simp only [chkB, Bool.and_eq_true] at hc
    cases p with
    | nil =>
      simp only [List.nil_append, List.cons.injEq] at h
      obtain ⟨rfl, rfl⟩ := h
      rw [ho] at hc
      have h1 := hc.1
      simp only [hx, Bool.not_true, Bool.false_or, List.all_eq_true] at h1
      exact hasP_spec (h1 i hi)
    | cons q p =>
      simp only [List.cons_append, List.cons.injEq] at h
      exact chkB_spec r hc.2 p x s h.2 o ho hx i hi

theorem drawB_spec {P : Program} {ops : Array Oper} {ord : List Nat} (h : drawB P ops ord (predsOf ops ord []) = true) : DrawOK P ops ord := by
  simp only [drawB, Bool.and_eq_true] at h
  obtain ⟨⟨⟨⟨h1, h2⟩, h3⟩, h4⟩, h5⟩ := h
  have hR : ∀ i j oi oj, ops[i]? = some oi → ops[j]? = some oj → chkR P ops (predsOf ops ord []) i j = true := by
    intro i j oi oj hi hj
    rw [List.all_eq_true] at h5
    have := h5 i (List.mem_range.2 (lt_of_some hi))
    rw [List.all_eq_true] at this
    exact this j (List.mem_range.2 (lt_of_some hj))
  refine ⟨nodupB_spec ord h1, ?_, chkE_small ord [] h3, ?_, chkB_spec ord h4, ?_, ?_, ?_⟩
  · intro i hi
    rw [List.all_eq_true] at h2
    simpa using h2 i (List.mem_range.2 hi)
  · intro p i s hp o ho e he hb
    rcases chkE_spec ord [] h3 p i s hp o ho e he hb with h | h
    · exact h
    · simp at h
  · intro i j oi oj d hne hi hj hd hl
    have := hR i j oi oj hi hj
    simp only [chkR, hi, hj, hd, if_neg hne, Bool.and_eq_true, Bool.or_eq_true, Bool.not_eq_true'] at this
    rcases this.2 with (h | h) | h
    · have : (oj.looksAt ops).contains d = true := by simpa using hl
      rw [this] at h
      cases h
    · exact .inl (hasP_spec h)
    · exact .inr ⟨h.1, hasP_spec h.2⟩
  · intro i j oi oj d hne hi hj hd hd'
    have := hR i j oi oj hi hj
    simp only [chkR, hi, hj, hd, if_neg hne, Bool.and_eq_true] at this
    rw [hd'] at this
    simp at this
  · intro i o d ho hx hd hl
    have := hR i i o o ho ho
    simp only [chkR, ho, hd, if_true, hx, Bool.false_or, Bool.not_eq_true'] at this
    have h' : (o.looksAt ops).contains d = true := by simpa using hl
    rw [h'] at this
    cases this

/-- What stands ahead stands further to the front. -/
theorem Before.front {P : Program} {ops : Array Oper} {ord : List Nat} (D : DrawOK P ops ord) {j i : Nat} (h : Before ops j i) : ∀ p s, ord = p ++ i :: s → j ∈ p := by
  induction h with
  | edge ho he hb => exact fun p s hp => D.edges p _ s hp _ ho _ he hb
  | more ho he hb h ih =>
    intro p s hp
    have h1 := D.edges p _ s hp _ ho _ he hb
    obtain ⟨p1, p2, rfl⟩ := List.append_of_mem h1
    exact List.mem_append_left _ (ih p1 (p2 ++ (_ :: s)) (by rw [hp, List.append_assoc, List.cons_append]))

/-! ### The run in that order -/

def Blk.alike (a b : Option Blk) : Bool := match a, b with
  | some k, some l => V.beqL k.cells l.cells && decide (k.st = l.st)
  | _, _ => false

theorem Blk.alike_eq {a b : Option Blk} (h : Blk.alike a b = true) : a = b := by
  unfold Blk.alike at h
  split at h
  · rename_i k l
    simp only [Bool.and_eq_true, decide_eq_true_eq] at h
    obtain ⟨c1, s1⟩ := k
    obtain ⟨c2, s2⟩ := l
    simp only at h
    rw [V.beqL_eq _ _ h.1, h.2]
  · cases h

def stillL (P : Program) (ops : Array Oper) (T : List V) (H' : Heap) (j : Nat) : Bool := match ops[j]? with
  | some o => if isX P o = true then true else if isL o = true then (if wantedV ops o T = true then (match o.dst with
    | some d => match evA P (evalO T) o H' with
      | some (v, _) => V.beq v (T.getD d undefV)
      | none => false
    | none => false) else true) else true
  | none => false

def stillA (P : Program) (ops : Array Oper) (T : List V) (H H' : Heap) (j : Nat) : Bool := match ops[j]? with
  | some o => if isA o = true then (if wantedV ops o T = true then (match o.dst with
    | some d => match vblk (T.getD d undefV) with
      | some b => Blk.alike H[b]? H'[b]?
      | none => false
    | none => false) else true) else true
  | none => false

def evOrd (P : Program) (call : CallF) (ops : Array Oper) (pr : List (Nat × List Nat)) : List Nat → List Nat → List V → Heap → Option (List V × Heap)
  | _, [], T, H => some (T, H)
  | pre, i :: r, T, H => match ops[i]? with
    | none => none
    | some o => if isX P o = true then
        (if wantedV ops o T = true then (match evOp P call (evalO T) o H with
          | some (v, H') => if (pre.all fun j => hasP pr j i || (stillL P ops T H' j && stillA P ops T H H' j)) = true then evOrd P call ops pr (i :: pre) r (putV T o.dst v) H' else none
          | none => none) else evOrd P call ops pr (i :: pre) r (putV T o.dst undefV) H)
      else (match o.dst with
        | none => none
        | some d => if d < T.length then
            (if wantedV ops o T = true then (match evA P (evalO T) o H with
              | some (v, H') => if isA o = true then (if (pre.all fun j => stillL P ops T H' j) = true then evOrd P call ops pr (i :: pre) r (T.set d v) H' else none) else evOrd P call ops pr (i :: pre) r (T.set d v) H'
              | none => none) else evOrd P call ops pr (i :: pre) r (T.set d undefV) H)
          else none)

inductive LateOK (P : Program) (ops : Array Oper) (h0 : Nat) (T : List V) (H : Heap) (β : Inj) (o : Oper) (d : Nat) : Prop
  | skip (h : wantedV ops o T = false) (hv : T[d]? = some undefV)
  | still (h : wantedV ops o T = true) (ha : isA o = false) (v : V) (he : evA P (evalO T) o H = some (v, H)) (hv : T[d]? = some v)
  | make (h : wantedV ops o T = true) (ha : isA o = true) (k : Blk) (mk : Nat → V) (b : Nat) (he : evAl P (evalO T) o = some (k, mk)) (hv : T[d]? = some (mk b)) (hb : H[b]? = some k) (hβ : β b = none) (hb0 : h0 ≤ b)

abbrev lis (listed : Array Bool) (i : Nat) : Bool := listed.getD i false

structure Inv (P : Program) (ops : Array Oper) (β0 : Inj) (H0 : Heap) (w0 : World) (ds : List Deferred) (pre suf : List Nat) (listed : Array Bool) (T : List V) (H : Heap) (β : Inj) (a : Act) (w : World) : Prop where
  size : listed.size = ops.size
  closed : ∀ i o e, ops[i]? = some o → lis listed i = true → e ∈ o.after → Region.binds .any e = true → lis listed e.on = true
  xs : ∀ i ∈ pre, ∀ o, ops[i]? = some o → isX P o = true → lis listed i = true
  un : ∀ i ∈ suf, lis listed i = false
  tmps : ∃ T2, LRel β T2 a.tmps ∧ T2.length = T.length ∧ ∀ t, (∀ i ∈ pre, ∀ o, ops[i]? = some o → lis listed i = false → o.dst ≠ some t) → T2[t]? = T[t]?
  late : ∀ i ∈ pre, ∀ o, ops[i]? = some o → lis listed i = false → ∃ d, o.dst = some d ∧ LateOK P ops H0.length T H β o d
  apart : ∀ i ∈ pre, ∀ j ∈ pre, i ≠ j → ∀ oi oj di dj vi vj b, ops[i]? = some oi → ops[j]? = some oj → lis listed i = false → lis listed j = false → isA oi = true → isA oj = true →
    oi.dst = some di → oj.dst = some dj → T[di]? = some vi → T[dj]? = some vj → vblk vi = some b → vblk vj ≠ some b
  ext : Ext β0 H0 w0 β H w
  ds : a.defers = ds

theorem closed_before {ops : Array Oper} {listed : Array Bool} (hc : ∀ i o e, ops[i]? = some o → lis listed i = true → e ∈ o.after → Region.binds .any e = true → lis listed e.on = true) {j i : Nat} (h : Before ops j i) :
    (∀ o e, ops[i]? = some o → e ∈ o.after → Region.binds .any e = true → lis listed e.on = true) → lis listed j = true := by
  induction h with
  | edge ho he hb => exact fun h => h _ _ ho he hb
  | more ho he hb h ih =>
    intro hi
    have h1 := hi _ _ ho he hb
    exact ih fun o e ho' he' hb' => hc _ o e ho' h1 he' hb'

theorem wantedV_congr {ops : Array Oper} {o : Oper} {T T' : List V} (h : ∀ t ∈ o.looksAt ops, T'[t]? = T[t]?) : wantedV ops o T' = wantedV ops o T := by
  unfold wantedV
  cases hg : o.guard with
  | none => rfl
  | some p =>
    obtain ⟨g, b⟩ := p
    simp only
    have : yieldedV ops T' g = yieldedV ops T g := by
      unfold yieldedV
      cases hog : ops[g]? with
      | none => rfl
      | some og =>
        simp only
        cases hd : og.dst with
        | none => rfl
        | some d =>
          simp only
          rw [h d (by simp [Oper.looksAt, hg, hog, hd])]
    rw [this]

theorem evalO_congr {ops : Array Oper} {o : Oper} {T T' : List V} (h : ∀ t ∈ o.looksAt ops, T'[t]? = T[t]?) : ∀ x ∈ o.op.operands, evalO T' x = evalO T x := by
  intro x hx
  cases x with
  | tmp t =>
    simp only [evalO]
    rw [List.getD_eq_getElem?_getD, List.getD_eq_getElem?_getD, h t]
    exact List.mem_append_left _ (List.mem_filterMap.2 ⟨.tmp t, by simpa using hx, rfl⟩)
  | _ => rfl

theorem evAl_congr {P : Program} {ρ ρ' : Operand → Option V} {o : Oper} (h : ∀ x ∈ o.op.operands, ρ x = ρ' x) : evAl P ρ o = evAl P ρ' o := by
  unfold evAl
  cases ho : o.op <;> simp only [ho, Op.operands] at h ⊢
  case box t x => rw [h x (by simp)]
  case buildSlice t n ps => rw [partsV_congr ps.toList fun p hp => h p.2 (by simp; exact ⟨p.1, by simpa using hp⟩)]

/-- The late ones are as they were where the temporaries that they look at are. -/
theorem LateOK.congr {P : Program} {ops : Array Oper} {h0 : Nat} {T T' : List V} {H H' : Heap} {β β' : Inj} {o : Oper} {d : Nat} (h : LateOK P ops h0 T H β o d)
    (hT : ∀ t ∈ o.looksAt ops, T'[t]? = T[t]?) (hd : T'[d]? = T[d]?)
    (hs : wantedV ops o T = true → isA o = false → ∀ v, T[d]? = some v → evA P (evalO T) o H = some (v, H) → evA P (evalO T) o H' = some (v, H'))
    (hm : wantedV ops o T = true → isA o = true → ∀ b k mk, evAl P (evalO T) o = some (k, mk) → T[d]? = some (mk b) → H[b]? = some k → β b = none → H'[b]? = some k ∧ β' b = none) : LateOK P ops h0 T' H' β' o d := by
  have hw := wantedV_congr hT
  have hO := evalO_congr hT
  cases h with
  | skip h hv => exact .skip (hw.trans h) (hd.trans hv)
  | still h ha v he hv => exact .still (hw.trans h) ha v (by rw [evA_congr hO]; exact hs h ha v hv he) (hd.trans hv)
  | make h ha k mk b he hv hb hβ hb0 =>
    obtain ⟨h1, h2⟩ := hm h ha b k mk he hv hb hβ
    exact .make (hw.trans h) ha k mk b (by rw [evAl_congr hO]; exact he) (hd.trans hv) h1 h2 hb0

/-- A block that is told before it is there. -/
theorem Sim.extend {β : Inj} {H : Heap} {w : World} (s : Sim β H w) (k : Blk) : Sim β (H ++ [k]) w := by
  have hb : ∀ b x, β b = some x → (H ++ [k])[b]? = H[b]? := fun b x hx => List.getElem?_append_left (s.dom b x hx)
  exact ⟨fun b x hx => by have := s.dom b x hx; simp; omega, s.blk, fun b B hx => by
      have hm := s.mp b B hx
      obtain ⟨⟨_, _, g, _, hg, _, hn, _⟩, _⟩ := id hm
      have hlt1 : b + 1 < H.length := by
        rcases Nat.lt_or_ge (b + 1) H.length with h' | h'
        · exact h'
        · rw [List.getElem?_eq_none h'] at hg; cases hg
      exact hm.keep rfl (List.getElem?_append_left hlt1) (fun _ _ h => h) hn (fun _ _ _ h => h), fun b l B O Z hl hst hx => s.cont b l B O Z (by rw [← hb b _ hx]; exact hl) hst hx,
    fun b l B O Z hl hst hx => s.warm b l B O Z (by rw [← hb b _ hx]; exact hl) hst hx,
    fun b l B O Z b' l' B' O' Z' hl hst hl' hst' hne hx hx' => s.sep b l B O Z b' l' B' O' Z' (by rw [← hb b _ hx]; exact hl) hst (by rw [← hb b' _ hx']; exact hl') hst' hne hx hx'⟩

theorem Ext.extend {β0 β : Inj} {H0 H : Heap} {w0 w : World} (h : Ext β0 H0 w0 β H w) (k : Blk) : Ext β0 H0 w0 β (H ++ [k]) w := by
  refine ⟨h.sim.extend k, h.old, by have := h.len; simp; omega, h.os, h.tape, h.output, h.size, h.frame, fun B ho => ?_⟩
  obtain ⟨b, l, O, Z, hl, hst, hb⟩ := ho
  refine h.own B ⟨b, l, O, Z, ?_, hst, hb⟩
  rw [← List.getElem?_append_left (l₂ := [k]) (h.sim.dom b _ hb)]
  exact hl

theorem Ext.later {β0 β : Inj} {H0 H : Heap} {w0 w : World} (h : Ext β0 H0 w0 β H w) {b : Nat} {k : Blk} (hk : H[b]? = some k) (hst : k.st = 2) (hβ : β b = none) (hb0 : H0.length ≤ b)
    {cs : Array Value} (t : TypeId) (hr : LRel β k.cells cs) : Ext β0 H0 w0 (upd β b (w.heap.size, 0, cs.size)) H (w.alloc (.cells cs t)) := by
  have s := h.sim
  have hle : ∀ c y, β c = some y → upd β b (w.heap.size, 0, cs.size) c = some y := by
    intro c y hc
    by_cases hcb : c = b
    · subst hcb; rw [hβ] at hc; cases hc
    · rw [upd_other hcb]; exact hc
  have hcb : ∀ c y, β c = some y → c ≠ b := fun c y hc e => by subst e; rw [hβ] at hc; cases hc
  have hold : ∀ B, B < w.heap.size → (w.alloc (.cells cs t)).heap[B]? = w.heap[B]? := fun B hB => Below.heap_alloc w _ B hB
  have hnew : (w.alloc (.cells cs t)).heap[w.heap.size]? = some (.cells cs t) := by
    show (w.heap.push _)[w.heap.size]? = _
    simp
  have hbl : b < H.length := by
    rcases Nat.lt_or_ge b H.length with h' | h'
    · exact h'
    · rw [List.getElem?_eq_none h'] at hk; cases hk
  have cases2 : ∀ c y, upd β b (w.heap.size, 0, cs.size) c = some y → (c = b ∧ y = (w.heap.size, 0, cs.size)) ∨ (c ≠ b ∧ β c = some y) := by
    intro c y hc
    by_cases hcb : c = b
    · subst hcb; rw [upd_same] at hc; cases hc; exact .inl ⟨rfl, rfl⟩
    · rw [upd_other hcb] at hc; exact .inr ⟨hcb, hc⟩
  have sim : Sim (upd β b (w.heap.size, 0, cs.size)) H (w.alloc (.cells cs t)) := by
    refine ⟨?_, ?_, ?_, ?_, ?_, ?_⟩
    · intro c y hc
      rcases cases2 c y hc with ⟨rfl, _⟩ | ⟨_, hc'⟩
      · exact hbl
      · exact s.dom c y hc'
    · intro c B O Z hc
      rcases cases2 c _ hc with ⟨rfl, h1⟩ | ⟨_, hc'⟩
      · cases h1
        exact .inl ⟨cs, t, (0, 0), hnew, rfl⟩
      · rw [hold B (s.lt hc')]
        exact s.blk c B O Z hc'
    · intro c B hc
      rcases cases2 c _ hc with ⟨rfl, h1⟩ | ⟨_, hc'⟩
      · cases h1
      · have hm := s.mp c B hc'
        obtain ⟨⟨_, _, g, _, hg, hg4, hn, _⟩, _⟩ := id hm
        have hne : c + 1 ≠ b := fun e => by
          rw [e, hk] at hg
          cases hg
          omega
        refine hm.keep (hold B (s.lt hc')) rfl hle (by rw [upd_other hne]; exact hn) fun b' O' Z' hb' => ?_
        rcases cases2 b' _ hb' with ⟨rfl, h2⟩ | ⟨_, h2⟩
        · cases h2
          have := s.lt hc'
          omega
        · exact h2
    · intro c l B O Z hl hls hc
      rcases cases2 c _ hc with ⟨rfl, h1⟩ | ⟨_, hc'⟩
      · cases h1
        rw [hk] at hl
        cases hl
        refine ⟨by rw [hr.1]; omega, fun i v hv => ?_⟩
        obtain ⟨c', hc', hv'⟩ := hr.get hv
        refine ⟨c', ?_, hv'.mono hle⟩
        simp only [World.cell?, hnew, Nat.zero_add]
        exact hc'
      · obtain ⟨h1, h2⟩ := s.cont c l B O Z hl hls hc'
        refine ⟨h1, fun i v hv => ?_⟩
        obtain ⟨c', h3, h4⟩ := h2 i v hv
        exact ⟨c', (World.cell?_of_block (a := ⟨B, O + i, none⟩) (hold B (s.lt hc'))).trans h3, h4.mono hle⟩
    · intro c l B O Z hl hls hc
      rcases cases2 c _ hc with ⟨rfl, h1⟩ | ⟨_, hc'⟩
      · cases h1
        exact ⟨_, _, _, hnew, .inr rfl⟩
      · exact (s.warm c l B O Z hl hls hc').of_block (hold B (s.lt hc'))
    · intro c l B O Z c' l' B' O' Z' hl hls hl' hls' hne hc hc'
      rcases cases2 c _ hc with ⟨rfl, h1⟩ | ⟨_, h1⟩
      · cases h1
        rcases cases2 c' _ hc' with ⟨rfl, h2⟩ | ⟨_, h2⟩
        · exact absurd rfl hne
        · have := s.lt h2
          omega
      · rcases cases2 c' _ hc' with ⟨rfl, h2⟩ | ⟨_, h2⟩
        · cases h2
          have := s.lt h1
          omega
        · exact s.sep c l B O Z c' l' B' O' Z' hl hls hl' hls' hne h1 h2
  refine ⟨sim, fun c hc => (upd_other (by omega)).trans (h.old c hc), h.len, h.os, h.tape, h.output, by have := h.size; simp; omega, fun B hB hn => (hold B (Nat.lt_of_lt_of_le hB h.size)).trans (h.frame B hB hn), fun B ho => ?_⟩
  obtain ⟨c, l, O, Z, hl, hls, hc⟩ := ho
  rcases cases2 c _ hc with ⟨rfl, h1⟩ | ⟨_, h1⟩
  · cases h1
    exact .inr h.size
  · exact h.own B ⟨c, l, O, Z, hl, hls, h1⟩

end Go.Proofs.Ev

namespace Go.Proofs.Ev
open Go Go.RowKit

section
variable {P : Program} {call : CallF} {ops : Array Oper} {ord : List Nat} {pr : List (Nat × List Nat)} {β0 : Inj} {H0 : Heap} {w0 : World} {ds : List Deferred}

/-- Who is told already stands further to the front. -/
theorem pre_before (D : DrawOK P ops ord) {pre suf : List Nat} (ho : ord = pre.reverse ++ suf) {i j : Nat} (hi : i ∈ suf) (hj : j ∈ pre) : ¬ Before ops i j := by
  intro h
  obtain ⟨p1, p2, hp⟩ := List.append_of_mem (List.mem_reverse.2 hj)
  have h1 := h.front D p1 (p2 ++ suf) (by rw [ho, hp]; simp)
  have hn := D.nodup
  rw [ho] at hn
  have h2 := (List.nodup_append.1 hn).2.2 i (by rw [hp]; simp [h1]) i hi
  exact h2 rfl

theorem pre_ne (D : DrawOK P ops ord) {pre suf : List Nat} (ho : ord = pre.reverse ++ suf) {i j : Nat} (hi : i ∈ suf) (hj : j ∈ pre) : i ≠ j := by
  rintro rfl
  have hn := D.nodup
  rw [ho] at hn
  exact (List.nodup_append.1 hn).2.2 i (by simpa using hj) i hi rfl

/-- What the temporaries that an operation looks at hold, where all that stands ahead of it has come up. -/
theorem Inv.agree (D : DrawOK P ops ord) {pre suf : List Nat} {listed : Array Bool} {T : List V} {H : Heap} {β : Inj} {a : Act} {w : World} (I : Inv P ops β0 H0 w0 ds pre suf listed T H β a w)
    {T2 : List V} (h2 : ∀ t, (∀ i ∈ pre, ∀ o, ops[i]? = some o → lis listed i = false → o.dst ≠ some t) → T2[t]? = T[t]?)
    {i : Nat} {o : Oper} (ho : ops[i]? = some o) (hown : i ∈ pre → isX P o = false) (hready : ∀ e ∈ o.after, Region.binds .any e = true → lis listed e.on = true) :
    ∀ t ∈ o.looksAt ops, T2[t]? = T[t]? := by
  intro t ht
  refine h2 t fun j hj oj hoj hlj hd => ?_
  by_cases hij : j = i
  · subst hij
    rw [ho] at hoj
    cases hoj
    exact D.own j o t ho (hown hj) hd ht
  · rcases D.readers j i oj o t hij hoj ho hd ht with h | ⟨h, _⟩
    · have := closed_before I.closed h (fun o' e ho' he hb => by rw [ho] at ho'; cases ho'; exact hready e he hb)
      rw [this] at hlj
      cases hlj
    · rw [I.xs j hj oj hoj h] at hlj
      cases hlj

theorem getD_undef {T : List V} {d : Nat} {v : V} (h : T[d]? = some v) : T.getD d undefV = v := by
  rw [List.getD_eq_getElem?_getD, h]; rfl

theorem set_same {T : List V} {d : Nat} {v : V} (h : d < T.length) : (T.set d v)[d]? = some v := by
  rw [List.getElem?_set, if_pos rfl, if_pos h]
theorem set_other {T : List V} {d t : Nat} {v : V} (h : d ≠ t) : (T.set d v)[t]? = T[t]? := by
  rw [List.getElem?_set, if_neg h]
theorem putV_other {T : List V} {d : Option Tmp} {t : Nat} {v : V} (h : d ≠ some t) : (putV T d v)[t]? = T[t]? := by
  cases d with
  | none => rfl
  | some d => exact set_other fun e => h (by rw [e])
theorem putV_length (T : List V) (d : Option Tmp) (v : V) : (putV T d v).length = T.length := by
  cases d with
  | none => rfl
  | some d => simp [putV]

theorem stillL_spec {T : List V} {H H' : Heap} {j : Nat} {o : Oper} {d : Tmp} {v : V} (hs : stillL P ops T H' j = true) (ho : ops[j]? = some o) (hx : isX P o = false) (hw : wantedV ops o T = true) (ha : isA o = false)
    (hd : o.dst = some d) (hv : T[d]? = some v) (he : evA P (evalO T) o H = some (v, H)) : evA P (evalO T) o H' = some (v, H') := by
  cases hl : isL o with
  | false => exact (evA_still hx ha he).2 hl H'
  | true =>
    simp only [stillL, ho, hx, Bool.false_eq_true, if_false, hl, if_true, hw, hd] at hs
    split at hs
    · rename_i v' H2 he'
      rw [getD_undef hv] at hs
      obtain rfl := V.beq_eq _ _ hs
      obtain ⟨h1, _⟩ := evA_still hx ha he'
      rw [he', h1]
    · cases hs

theorem stillA_spec {T : List V} {H H' : Heap} {j : Nat} {o : Oper} {d : Tmp} {b : Nat} {k : Blk} {v : V} (hs : stillA P ops T H H' j = true) (ho : ops[j]? = some o) (hw : wantedV ops o T = true) (ha : isA o = true)
    (hd : o.dst = some d) (hv : T[d]? = some v) (hb : vblk v = some b) (hk : H[b]? = some k) : H'[b]? = some k := by
  simp only [stillA, ho, ha, if_true, hw, hd, getD_undef hv, hb] at hs
  rw [← Blk.alike_eq hs]
  exact hk

/-- All that can be told before it comes up is told. -/
theorem Inv.advance (D : DrawOK P ops ord) {listed : Array Bool} {β : Inj} {a : Act} {w : World} {F : List V × Heap} : ∀ (suf pre : List Nat) (T : List V) (H : Heap),
    Inv P ops β0 H0 w0 ds pre suf listed T H β a w → evOrd P call ops pr pre suf T H = some F → ord = pre.reverse ++ suf →
    ∃ pre' suf' T' H', Inv P ops β0 H0 w0 ds pre' suf' listed T' H' β a w ∧ evOrd P call ops pr pre' suf' T' H' = some F ∧ ord = pre'.reverse ++ suf' ∧
      (∀ i r, suf' = i :: r → ∃ o, ops[i]? = some o ∧ isX P o = true)
  | [], pre, T, H, I, h, ho => ⟨pre, [], T, H, I, h, ho, fun i r e => by cases e⟩
  | i :: r, pre, T, H, I, h, hord => by
    cases ho : ops[i]? with
    | none => simp [evOrd, ho] at h
    | some o =>
      cases hx : isX P o with
      | true => exact ⟨pre, i :: r, T, H, I, h, hord, fun i' r' e => by cases e; exact ⟨o, ho, hx⟩⟩
      | false =>
        have hi : i ∈ i :: r := List.mem_cons_self ..
        have hord' : ord = (i :: pre).reverse ++ r := by rw [hord]; simp
        -- what stands in front of i keeps what it looks at
        have hlook : ∀ (d : Tmp), o.dst = some d → ∀ j ∈ pre, ∀ oj, ops[j]? = some oj → d ∉ oj.looksAt ops ∧ oj.dst ≠ some d := by
          intro d hd j hj oj hoj
          have hne := pre_ne D hord hi hj
          refine ⟨fun hl => ?_, D.dsts i j o oj d hne ho hoj hd⟩
          rcases D.readers i j o oj d hne ho hoj hd hl with h1 | ⟨h1, _⟩
          · exact pre_before D hord hi hj h1
          · rw [hx] at h1; cases h1
        have hli : lis listed i = false := I.un i hi
        -- one more that is late
        have step : ∀ (d : Tmp) (v : V) (H' : Heap), o.dst = some d → d < T.length → LateOK P ops H0.length (T.set d v) H' β o d → Ext β0 H0 w0 β H' w →
            (∀ j ∈ pre, ∀ oj dj, ops[j]? = some oj → isX P oj = false → oj.dst = some dj → wantedV ops oj T = true → isA oj = false → ∀ u, T[dj]? = some u → evA P (evalO T) oj H = some (u, H) → evA P (evalO T) oj H' = some (u, H')) →
            (∀ (b : Nat) (k : Blk), H[b]? = some k → H'[b]? = some k) → (isA o = true → ∀ b, vblk v = some b → b = H.length) →
            Inv P ops β0 H0 w0 ds (i :: pre) r listed (T.set d v) H' β a w := by
          intro d v H' hd hdl hlate hext hstill hkeep hblk
          refine ⟨I.size, I.closed, ?_, fun j hj => I.un j (List.mem_cons_of_mem _ hj), ?_, ?_, ?_, hext, I.ds⟩
          · intro j hj oj hoj hxj
            rcases List.mem_cons.1 hj with rfl | hj
            · rw [ho] at hoj; cases hoj; rw [hx] at hxj; cases hxj
            · exact I.xs j hj oj hoj hxj
          · obtain ⟨T2, h1, h2, h3⟩ := I.tmps
            refine ⟨T2, h1, by simpa using h2, fun t ht => ?_⟩
            rw [set_other (fun e => ht i (List.mem_cons_self ..) o ho hli (by rw [hd, e]))]
            exact h3 t fun j hj => ht j (List.mem_cons_of_mem _ hj)
          · intro j hj oj hoj hlj
            rcases List.mem_cons.1 hj with rfl | hj
            · rw [ho] at hoj; cases hoj; exact ⟨d, hd, hlate⟩
            · obtain ⟨dj, hdj, hL⟩ := I.late j hj oj hoj hlj
              have hxj : isX P oj = false := by
                cases hxj : isX P oj with
                | false => rfl
                | true => rw [I.xs j hj oj hoj hxj] at hlj; cases hlj
              obtain ⟨hl1, hl2⟩ := hlook d hd j hj oj hoj
              refine ⟨dj, hdj, hL.congr (fun t ht => set_other fun e => hl1 (e ▸ ht)) (set_other fun e => hl2 (by rw [hdj, e])) (fun hw ha u hu he => hstill j hj oj dj hoj hxj hdj hw ha u hu he) (fun hw ha b k mk he hv hb hβ => ⟨hkeep b k hb, hβ⟩)⟩
          · intro j hj k hk hne oj ok dj dk vj vk b hoj hok hlj hlk haj hak hdj hdk hvj hvk hbj hbk
            -- a new block's number is none of the elder ones'
            have fresh : ∀ j ∈ pre, ∀ oj dj vj b, ops[j]? = some oj → lis listed j = false → isA oj = true → oj.dst = some dj → (T.set d v)[dj]? = some vj → vblk vj = some b → b < H.length ∧ T[dj]? = some vj := by
              intro j hj oj dj vj b hoj hlj haj hdj hvj hbj
              obtain ⟨hl1, hl2⟩ := hlook d hd j hj oj hoj
              rw [set_other (fun e => hl2 (by rw [hdj, e]))] at hvj
              refine ⟨?_, hvj⟩
              obtain ⟨d', hd', hL⟩ := I.late j hj oj hoj hlj
              rw [hdj] at hd'
              cases hd'
              cases hL with
              | skip h hv => rw [hvj] at hv; cases hv; cases hbj
              | still h ha v he hv => rw [haj] at ha; cases ha
              | make h ha k mk b' he hv hb hβ hb0 =>
                rw [hvj] at hv
                cases hv
                rw [evAl_blk he] at hbj
                cases hbj
                rcases Nat.lt_or_ge b H.length with h' | h'
                · exact h'
                · rw [List.getElem?_eq_none h'] at hb; cases hb
            rcases List.mem_cons.1 hj with rfl | hj1
            · rcases List.mem_cons.1 hk with rfl | hk1
              · exact hne rfl
              · rw [ho] at hoj
                cases hoj
                rw [hd] at hdj
                cases hdj
                rw [set_same hdl] at hvj
                cases hvj
                have := hblk haj b hbj
                have := (fresh k hk1 ok dk vk b hok hlk hak hdk hvk hbk).1
                omega
            · rcases List.mem_cons.1 hk with rfl | hk1
              · rw [ho] at hok
                cases hok
                rw [hd] at hdk
                cases hdk
                rw [set_same hdl] at hvk
                cases hvk
                have := hblk hak b hbk
                have := (fresh j hj1 oj dj vj b hoj hlj haj hdj hvj hbj).1
                omega
              · obtain ⟨_, h1⟩ := fresh j hj1 oj dj vj b hoj hlj haj hdj hvj hbj
                obtain ⟨_, h2⟩ := fresh k hk1 ok dk vk b hok hlk hak hdk hvk hbk
                exact I.apart j hj1 k hk1 hne oj ok dj dk vj vk b hoj hok hlj hlk haj hak hdj hdk h1 h2 hbj hbk
        simp only [evOrd, ho, hx, Bool.false_eq_true, if_false] at h
        cases hd : o.dst with
        | none => rw [hd] at h; cases h
        | some d =>
          rw [hd] at h
          simp only at h
          split at h
          · rename_i hdl
            have hTself : ∀ v, ∀ t ∈ o.looksAt ops, (T.set d v)[t]? = T[t]? := fun v t ht => set_other fun e => D.own i o d ho hx hd (e ▸ ht)
            split at h
            · rename_i hw
              split at h
              · rename_i v H1 he
                split at h
                · rename_i ha
                  split at h
                  · rename_i hall
                    obtain ⟨k, mk, hal, rfl, rfl⟩ := evA_al ha he
                    have hlen : (H ++ [k])[H.length]? = some k := by simp
                    refine Inv.advance D r (i :: pre) _ _ (step d _ _ hd hdl ?_ (I.ext.extend k) ?_ ?_ ?_) h hord'
                    · refine .make ((wantedV_congr (hTself _)).trans hw) ha k mk H.length (by rw [evAl_congr (evalO_congr (hTself _))]; exact hal) (set_same hdl) hlen ?_ I.ext.len
                      cases hb : β H.length with
                      | none => rfl
                      | some y => have := I.ext.sim.dom _ _ hb; omega
                    · intro j hj oj dj hoj hxj hdj hwj haj u hu hej
                      rw [List.all_eq_true] at hall
                      exact stillL_spec (hall j hj) hoj hxj hwj haj hdj hu hej
                    · intro b kb hb
                      rw [List.getElem?_append_left]
                      · exact hb
                      · rcases Nat.lt_or_ge b H.length with h' | h'
                        · exact h'
                        · rw [List.getElem?_eq_none h'] at hb; cases hb
                    · intro _ b hb
                      rw [evAl_blk hal] at hb
                      cases hb
                      rfl
                  · cases h
                · rename_i ha
                  have ha' : isA o = false := by simpa using ha
                  obtain ⟨rfl, _⟩ := evA_still hx ha' he
                  refine Inv.advance D r (i :: pre) _ _ (step d v _ hd hdl ?_ I.ext (fun _ _ _ _ _ _ _ _ _ _ _ he => he) (fun _ _ hb => hb) (fun ha'' => by rw [ha'] at ha''; cases ha'')) h hord'
                  exact .still ((wantedV_congr (hTself _)).trans hw) ha' v (by rw [evA_congr (evalO_congr (hTself _))]; exact he) (set_same hdl)
              · cases h
            · rename_i hw
              refine Inv.advance D r (i :: pre) _ _ (step d undefV _ hd hdl ?_ I.ext (fun _ _ _ _ _ _ _ _ _ _ _ he => he) (fun _ _ hb => hb) (fun _ b hb => by cases hb)) h hord'
              exact .skip ((wantedV_congr (hTself _)).trans (by simpa using hw)) (set_same hdl)
          · cases h

theorem lis_set {listed : Array Bool} {i j : Nat} (hi : i < listed.size) : lis (listed.setIfInBounds i true) j = (if i = j then true else lis listed j) := by
  unfold lis
  rw [Array.getD_eq_getD_getElem?, Array.getD_eq_getD_getElem?, Array.getElem?_setIfInBounds]
  by_cases h : i = j
  · subst h; simp [hi]
  · simp [h]

theorem count_set : ∀ (l : List Bool) (i : Nat), l[i]? = some false → (l.set i true).count false + 1 = l.count false
  | [], i, h => by simp at h
  | b :: r, 0, h => by simp at h; subst h; simp
  | b :: r, i + 1, h => by
    have := count_set r i (by simpa using h)
    simp only [List.set_cons_succ, List.count_cons]
    omega

theorem count_zero : ∀ (l : List Bool), l.count false = 0 → ∀ i, i < l.length → l[i]? = some true
  | [], _, i, h => by simp at h
  | b :: r, h, i, hi => by
    simp only [List.count_cons] at h
    cases b with
    | false => simp at h
    | true =>
      cases i with
      | zero => rfl
      | succ i => exact count_zero r (by simpa using h) i (by simpa using hi)

/-- The first in the order that has not come up may come up. -/
theorem some_ready (D : DrawOK P ops ord) {listed : Array Bool} (hs : listed.size = ops.size) : ∀ (s p : List Nat), ord = p ++ s → (∀ i ∈ p, lis listed i = true) → (∃ i ∈ s, i < ops.size ∧ lis listed i = false) →
    Region.ready .any ops listed ≠ []
  | [], p, _, _, h => by obtain ⟨i, hi, _⟩ := h; simp at hi
  | k :: r, p, ho, hp, h => by
    by_cases hk : lis listed k = true
    · refine some_ready D hs r (p ++ [k]) (by rw [ho]; simp) (fun i hi => ?_) ?_
      · rcases List.mem_append.1 hi with h1 | h1
        · exact hp i h1
        · simp at h1; rw [h1]; exact hk
      · obtain ⟨i, hi, hlt, hl⟩ := h
        rcases List.mem_cons.1 hi with rfl | hi
        · rw [hk] at hl; cases hl
        · exact ⟨i, hi, hlt, hl⟩
    · have hk' : lis listed k = false := by simpa using hk
      have hkl := D.small k (by rw [ho]; simp)
      intro hnil
      have hm : k ∈ Region.ready .any ops listed := by
        unfold Region.ready
        refine List.mem_filter.2 ⟨List.mem_range.2 hkl, ?_⟩
        have h1 : listed.getD k true = false := by
          unfold lis at hk'
          rw [Array.getD_eq_getD_getElem?] at hk' ⊢
          rw [Array.getElem?_eq_getElem (by omega)] at hk' ⊢
          exact hk'
        rw [h1, Array.getElem?_eq_getElem hkl]
        simp only [Bool.not_false, Bool.true_and, Option.map_some, Option.getD_some]
        rw [Array.all_eq_true_iff_forall_mem]
        intro e he
        cases hb : Region.binds .any e with
        | false => rfl
        | true =>
          simp only [Bool.not_true, Bool.false_or]
          exact hp e.on (D.edges p k r ho _ (Array.getElem?_eq_getElem hkl) e he hb)
      rw [hnil] at hm
      cases hm

/-- What a late one's coming up leaves. -/
theorem Inv.came (D : DrawOK P ops ord) {pre suf : List Nat} {listed : Array Bool} {T : List V} {H : Heap} {β β' : Inj} {a a' : Act} {w w' : World} (I : Inv P ops β0 H0 w0 ds pre suf listed T H β a w)
    (hord : ord = pre.reverse ++ suf) {i : Nat} {o : Oper} {d : Tmp} {v : V} {c : Value} (hi : i ∈ pre) (ho : ops[i]? = some o) (hd : o.dst = some d) (hready : ∀ e ∈ o.after, Region.binds .any e = true → lis listed e.on = true)
    {T2 : List V} (h1 : LRel β T2 a.tmps) (h2 : T2.length = T.length) (h3 : ∀ t, (∀ i ∈ pre, ∀ o, ops[i]? = some o → lis listed i = false → o.dst ≠ some t) → T2[t]? = T[t]?)
    (hle : ∀ b y, β b = some y → β' b = some y) (hv : VRel β' v c) (hTd : T[d]? = some v) (ha' : a' = a.put (some d) c) (hext : Ext β0 H0 w0 β' H w')
    (hmake : ∀ j ∈ pre, j ≠ i → ∀ oj dj vj b, ops[j]? = some oj → lis listed j = false → isA oj = true → oj.dst = some dj → T[dj]? = some vj → vblk vj = some b → H[b]?.isSome = true → β b = none → β' b = none) :
    Inv P ops β0 H0 w0 ds pre suf (listed.setIfInBounds i true) T H β' a' w' := by
  have hil : i < listed.size := by rw [I.size]; exact lt_of_some ho
  have hun : ∀ j, lis (listed.setIfInBounds i true) j = false → lis listed j = false ∧ j ≠ i := by
    intro j hj
    rw [lis_set hil] at hj
    split at hj
    · cases hj
    · rename_i hne
      exact ⟨hj, fun e => hne e.symm⟩
  have hmono : ∀ j, lis listed j = true → lis (listed.setIfInBounds i true) j = true := by
    intro j hj
    rw [lis_set hil]
    split
    · rfl
    · exact hj
  subst ha'
  refine ⟨by simp [I.size], ?_, fun j hj oj hoj hx => hmono j (I.xs j hj oj hoj hx), ?_, ?_, ?_, ?_, hext, I.ds⟩
  · intro j oj e hoj hlj he hb
    rw [lis_set hil] at hlj
    split at hlj
    · rename_i hij
      subst hij
      rw [ho] at hoj
      cases hoj
      exact hmono _ (hready e he hb)
    · exact hmono _ (I.closed j oj e hoj hlj he hb)
  · intro j hj
    have h0 := I.un j hj
    have hne := pre_ne D hord hj hi
    rw [lis_set hil, if_neg (fun e => hne e.symm)]
    exact h0
  · refine ⟨T2.set d v, (h1.mono hle).set d hv, by simpa using h2, fun t ht => ?_⟩
    by_cases hdt : d = t
    · subst hdt
      have hdl : d < T.length := by
        rcases Nat.lt_or_ge d T.length with h' | h'
        · exact h'
        · rw [List.getElem?_eq_none h'] at hTd; cases hTd
      rw [set_same (T := T2) (d := d) (v := v) (Nat.lt_of_lt_of_eq hdl h2.symm), hTd]
    · rw [set_other hdt]
      refine h3 t fun j hj oj hoj hlj => ?_
      by_cases hji : j = i
      · subst hji
        rw [ho] at hoj
        cases hoj
        rw [hd]
        exact fun e => hdt (Option.some.inj e)
      · refine ht j hj oj hoj ?_
        rw [lis_set hil, if_neg (fun e => hji e.symm)]
        exact hlj
  · intro j hj oj hoj hlj
    obtain ⟨hlj', hji⟩ := hun j hlj
    obtain ⟨dj, hdj, hL⟩ := I.late j hj oj hoj hlj'
    refine ⟨dj, hdj, hL.congr (fun _ _ => rfl) rfl (fun _ _ _ _ he => he) (fun hw ha b k mk he hv hb hβ => ⟨hb, ?_⟩)⟩
    exact hmake j hj hji oj dj (mk b) b hoj hlj' ha hdj hv (evAl_blk he b) (by rw [hb]; rfl) hβ
  · intro j hj k hk hne oj ok dj dk vj vk b hoj hok hlj hlk
    exact I.apart j hj k hk hne oj ok dj dk vj vk b hoj hok (hun j hlj).1 (hun k hlk).1

theorem draw_any (D : DrawOK P ops ord) (hcall : CallOK P call) (hpr : ∀ i j, hasP pr j i = true → Before ops j i) {Q : Exit → Act → World → Prop} {Tf : List V} {Hf : Heap}
    (hQ : ∀ a' w', Leaves β0 H0 w0 ds Tf Hf a' w' → Q .normal a' w') : ∀ (fuel : Nat) (pre suf : List Nat) (listed : Array Bool) (T : List V) (H : Heap) (β : Inj) (a : Act) (w : World),
    Inv P ops β0 H0 w0 ds pre suf listed T H β a w → evOrd P call ops pr pre suf T H = some (Tf, Hf) → ord = pre.reverse ++ suf → listed.toList.count false ≤ fuel → wpAny P .any ops Q fuel listed a w := by
  intro fuel
  -- all has come up
  have finish : ∀ (pre suf : List Nat) (listed : Array Bool) (T : List V) (H : Heap) (β : Inj) (a : Act) (w : World),
      Inv P ops β0 H0 w0 ds pre suf listed T H β a w → evOrd P call ops pr pre suf T H = some (Tf, Hf) → ord = pre.reverse ++ suf → (∀ i, i < ops.size → lis listed i = true) → Q .normal a w := by
    intro pre suf listed T H β a w I h hord hall
    have hsuf : suf = [] := by
      cases suf with
      | nil => rfl
      | cons i r =>
        have := I.un i (List.mem_cons_self ..)
        rw [hall i (D.small i (by rw [hord]; simp))] at this
        cases this
    subst hsuf
    simp only [evOrd, Option.some.injEq, Prod.mk.injEq] at h
    obtain ⟨rfl, rfl⟩ := h
    obtain ⟨T2, h1, h2, h3⟩ := I.tmps
    have : T2 = T := List.ext_getElem? fun t => h3 t fun i hi o ho hl => by
      rw [hall i (lt_of_some ho)] at hl
      cases hl
    subst this
    exact hQ a w ⟨β, h1, I.ds, I.ext⟩
  have allOf : ∀ (listed : Array Bool), listed.size = ops.size → listed.toList.count false = 0 → ∀ i, i < ops.size → lis listed i = true := by
    intro listed hs hc i hi
    have := count_zero listed.toList hc i (by simpa [hs] using hi)
    unfold lis
    rw [Array.getD_eq_getD_getElem?, ← Array.getElem?_toList, this]
    rfl
  have noReady : ∀ (listed : Array Bool), listed.size = ops.size → Region.ready .any ops listed = [] → ∀ i, i < ops.size → lis listed i = true := by
    intro listed hs hr i hi
    cases hl : lis listed i with
    | true => rfl
    | false => exact absurd hr (some_ready D hs ord [] rfl (fun i hi => by simp at hi) ⟨i, D.mem i hi, hi, hl⟩)
  induction fuel with
  | zero =>
    intro pre suf listed T H β a w I h hord hc
    have hall := allOf listed I.size (by omega)
    refine ⟨?_, finish pre suf listed T H β a w I h hord hall⟩
    cases hr : Region.ready .any ops listed with
    | nil => rfl
    | cons i r =>
      have hm : i ∈ Region.ready .any ops listed := by rw [hr]; exact List.mem_cons_self ..
      unfold Region.ready at hm
      rw [List.mem_filter] at hm
      have hi := List.mem_range.1 hm.1
      have h1 := hall i hi
      unfold lis at h1
      rw [Array.getD_eq_getD_getElem?, Array.getElem?_eq_getElem (by rw [I.size]; exact hi)] at h1
      have h2 := hm.2
      rw [Array.getD_eq_getD_getElem?, Array.getElem?_eq_getElem (by rw [I.size]; exact hi)] at h2
      simp at h1 h2
      rw [h1] at h2
      simp at h2
  | succ fuel ih =>
    intro pre suf listed T H β a w I h hord hc
    refine ⟨fun hr => finish pre suf listed T H β a w I h hord (noReady listed I.size hr), fun i hi => ?_⟩
    obtain ⟨pre, suf, T, H, I, h, hord, hhead⟩ := Inv.advance (β0 := β0) (H0 := H0) (w0 := w0) (ds := ds) D suf pre T H I h hord
    -- what may come up
    have hm := hi
    unfold Region.ready at hm
    rw [List.mem_filter] at hm
    have hin := List.mem_range.1 hm.1
    have hil : i < listed.size := by rw [I.size]; exact hin
    obtain ⟨o, ho⟩ : ∃ o, ops[i]? = some o := ⟨_, Array.getElem?_eq_getElem hin⟩
    have hfalse : listed[i]? = some false := by
      have h2 := hm.2
      rw [Array.getD_eq_getD_getElem?, Array.getElem?_eq_getElem hil] at h2
      rw [Array.getElem?_eq_getElem hil]
      simp at h2
      rw [h2.1]
    have hli : lis listed i = false := by
      unfold lis
      rw [Array.getD_eq_getD_getElem?, hfalse]
      rfl
    have hready : ∀ e ∈ o.after, Region.binds .any e = true → lis listed e.on = true := by
      intro e he hb
      have h2 := hm.2
      rw [ho] at h2
      simp only [Option.map_some, Option.getD_some, Bool.and_eq_true] at h2
      have h3 := h2.2
      rw [Array.all_eq_true_iff_forall_mem] at h3
      have := h3 e he
      rw [hb] at this
      simpa using this
    have hcount : (listed.setIfInBounds i true).toList.count false ≤ fuel := by
      have := count_set listed.toList i (by rw [Array.getElem?_toList]; exact hfalse)
      rw [Array.toList_setIfInBounds]
      omega
    have hlset : ∀ j, lis (listed.setIfInBounds i true) j = (if i = j then true else lis listed j) := fun j => lis_set hil
    obtain ⟨T2, ht1, ht2, ht3⟩ := I.tmps
    have hag := I.agree D ht3 ho (fun hp => by
      cases hx : isX P o with
      | false => rfl
      | true => rw [I.xs i hp o ho hx] at hli; cases hli) hready
    have hwant : Region.wanted o (yielded ops a.tmps) = wantedV ops o T := (wantedV_eq ht1 ops o).trans (wantedV_congr hag)
    unfold wpOp
    rw [ho]
    simp only [hwant]
    have hmem := D.mem i hin
    rw [hord] at hmem
    rcases List.mem_append.1 hmem with hip | his
    · -- a late one
      have hip := List.mem_reverse.1 hip
      obtain ⟨d, hd, hL⟩ := I.late i hip o ho hli
      cases hL with
      | skip hw hv =>
        rw [if_neg (by rw [hw]; simp)]
        exact ih pre suf _ T H β _ w (I.came D hord hip ho hd hready ht1 ht2 ht3 (fun _ _ h => h) (undefV_rel β) hv (by rw [hd]) I.ext (fun _ _ _ _ _ _ _ _ _ _ _ _ _ _ h => h)) h hord hcount
      | still hw ha v he hv =>
        rw [if_pos hw]
        refine .inl (Runs.wp (e := a.eval) (evA_run I.ext.sim (evalO_rel ht1) (by rw [evA_congr (evalO_congr hag)]; exact he)) fun β' c w' hE hvr => ?_)
        refine ih pre suf _ T H β' _ w' (I.came D hord hip ho hd hready ht1 ht2 ht3 (hE.le I.ext.sim) hvr hv (by rw [hd]) (I.ext.trans hE) ?_) h hord hcount
        intro j hj hji oj dj vj b hoj hlj haj hdj hvj hbj hs hβ
        obtain ⟨k, hk⟩ := Option.isSome_iff_exists.1 hs
        have hbl : b < H.length := by
          rcases Nat.lt_or_ge b H.length with h' | h'
          · exact h'
          · rw [List.getElem?_eq_none h'] at hk; cases hk
        rw [hE.old b hbl]
        exact hβ
      | make hw ha k mk b he hv hb hβ hb0 =>
        rw [if_pos hw]
        obtain ⟨hst, cs, t, c, hrun, hr, hvr⟩ := evAl_run I.ext.sim (evalO_rel ht1) (by rw [evAl_congr (evalO_congr hag)]; exact he)
        refine .inl ?_
        unfold Oper.wp
        rw [hrun]
        show wpAny P .any ops Q fuel _ (a.put o.dst c) _
        have hle : ∀ c y, β c = some y → upd β b (w.heap.size, 0, cs.size) c = some y := by
          intro c y hc
          by_cases hcb : c = b
          · subst hcb; rw [hβ] at hc; cases hc
          · rw [upd_other hcb]; exact hc
        refine ih pre suf _ T H _ _ _ (I.came D hord hip ho hd hready ht1 ht2 ht3 hle (hvr b) hv (by rw [hd]) (I.ext.later hb hst hβ hb0 t hr) ?_) h hord hcount
        intro j hj hji oj dj vj b' hoj hlj haj hdj hvj hbj hs hβ'
        have hbb : vblk (mk b) ≠ some b' := I.apart j hj i hip hji oj o dj d vj (mk b) b' hoj ho hlj hli haj ha hdj hd hvj hv hbj
        rw [evAl_blk he] at hbb
        rw [upd_other (fun e => hbb (by rw [e]))]
        exact hβ'
    · -- the next one that writes
      obtain ⟨x, r, rfl⟩ : ∃ x r, suf = x :: r := by
        cases suf with
        | nil => simp at his
        | cons x r => exact ⟨x, r, rfl⟩
      obtain ⟨ox, hox, hxx⟩ := hhead x r rfl
      have hix : i = x := by
        rcases List.mem_cons.1 his with h1 | h1
        · exact h1
        · have hb := D.barrier pre.reverse x r hord ox hox hxx i h1
          have h2 := closed_before I.closed hb (fun o' e ho' he hb => by rw [ho] at ho'; cases ho'; exact hready e he hb)
          rw [I.un x (List.mem_cons_self ..)] at h2
          cases h2
      subst hix
      rw [ho] at hox
      cases hox
      have hord' : ord = (i :: pre).reverse ++ r := by rw [hord]; simp
      -- what it leaves
      have step : ∀ (v : V) (c : Value) (H' : Heap) (β' : Inj) (w' : World), Ext β H w β' H' w' → VRel β' v c →
          (wantedV ops o T = true → ∀ j ∈ pre, hasP pr j i = true ∨ (stillL P ops T H' j = true ∧ stillA P ops T H H' j = true)) → (wantedV ops o T = false → H' = H) →
          Inv P ops β0 H0 w0 ds (i :: pre) r (listed.setIfInBounds i true) (putV T o.dst v) H' β' (a.put o.dst c) w' := by
        intro v c H' β' w' hE hvr hchk hskip
        have hun : ∀ j, lis (listed.setIfInBounds i true) j = false → lis listed j = false ∧ j ≠ i := by
          intro j hj
          rw [hlset] at hj
          split at hj
          · cases hj
          · rename_i hne
            exact ⟨hj, fun e => hne e.symm⟩
        have hmono : ∀ j, lis listed j = true → lis (listed.setIfInBounds i true) j = true := by
          intro j hj
          rw [hlset]
          split
          · rfl
          · exact hj
        -- what an elder late one looks at
        have hlook : ∀ j ∈ pre, ∀ oj, ops[j]? = some oj → lis listed j = false → (∀ t ∈ oj.looksAt ops, o.dst ≠ some t) ∧ (∀ dj, oj.dst = some dj → o.dst ≠ some dj) := by
          intro j hj oj hoj hlj
          have hne := pre_ne D hord (List.mem_cons_self ..) hj
          refine ⟨fun t ht hdt => ?_, fun dj hdj hdt => D.dsts i j o oj dj hne ho hoj hdt hdj⟩
          rcases D.readers i j o oj t hne ho hoj hdt ht with h1 | ⟨_, h1⟩
          · exact pre_before D hord (List.mem_cons_self ..) hj h1
          · have h2 := closed_before I.closed h1 (fun o' e ho' he hb => by rw [ho] at ho'; cases ho'; exact hready e he hb)
            rw [h2] at hlj
            cases hlj
        refine ⟨by simp [I.size], ?_, ?_, ?_, ?_, ?_, ?_, I.ext.trans hE, (put_defers a o.dst c).trans I.ds⟩
        · intro j oj e hoj hlj he hb
          rw [hlset] at hlj
          split at hlj
          · rename_i hij
            subst hij
            rw [ho] at hoj
            cases hoj
            exact hmono _ (hready e he hb)
          · exact hmono _ (I.closed j oj e hoj hlj he hb)
        · intro j hj oj hoj hx
          rcases List.mem_cons.1 hj with rfl | hj
          · rw [hlset, if_pos rfl]
          · exact hmono j (I.xs j hj oj hoj hx)
        · intro j hj
          have hne : i ≠ j := by
            have hn := D.nodup
            rw [hord] at hn
            have h2 := (List.nodup_append.1 hn).2.1
            rw [List.nodup_cons] at h2
            exact fun e => h2.1 (e ▸ hj)
          rw [hlset, if_neg hne]
          exact I.un j (List.mem_cons_of_mem _ hj)
        · refine ⟨putV T2 o.dst v, putV_rel (ht1.mono (hE.le I.ext.sim)) o.dst hvr, by rw [putV_length, putV_length]; exact ht2, fun t ht => ?_⟩
          by_cases hdt : o.dst = some t
          · rw [hdt]
            simp only [putV]
            rw [List.getElem?_set, List.getElem?_set, if_pos rfl, if_pos rfl, ht2]
          · rw [putV_other hdt, putV_other hdt]
            refine ht3 t fun j hj oj hoj hlj => ?_
            have hne := pre_ne D hord (List.mem_cons_self ..) hj
            exact ht j (List.mem_cons_of_mem _ hj) oj hoj (by rw [hlset, if_neg hne]; exact hlj)
        · intro j hj oj hoj hlj
          obtain ⟨hlj', hji⟩ := hun j hlj
          rcases List.mem_cons.1 hj with rfl | hj
          · exact absurd rfl hji
          · obtain ⟨dj, hdj, hL⟩ := I.late j hj oj hoj hlj'
            obtain ⟨hl1, hl2⟩ := hlook j hj oj hoj hlj'
            have hxj : isX P oj = false := by
              cases hxj : isX P oj with
              | false => rfl
              | true => rw [I.xs j hj oj hoj hxj] at hlj'; cases hlj'
            have hchk' : wantedV ops o T = true → stillL P ops T H' j = true ∧ stillA P ops T H H' j = true := by
              intro hw
              rcases hchk hw j hj with h1 | h1
              · have h2 := closed_before I.closed (hpr _ _ h1) (fun o' e ho' he hb => by rw [ho] at ho'; cases ho'; exact hready e he hb)
                rw [h2] at hlj'
                cases hlj'
              · exact h1
            refine ⟨dj, hdj, hL.congr (fun t ht => putV_other (hl1 t ht)) (putV_other (hl2 dj hdj)) ?_ ?_⟩
            · intro hw ha u hu he
              cases hwo : wantedV ops o T with
              | true => exact stillL_spec (hchk' hwo).1 hoj hxj hw ha hdj hu he
              | false => rw [hskip hwo]; exact he
            · intro hw ha b k mk he hv hb hβ
              have hbl : b < H.length := by
                rcases Nat.lt_or_ge b H.length with h' | h'
                · exact h'
                · rw [List.getElem?_eq_none h'] at hb; cases hb
              refine ⟨?_, by rw [hE.old b hbl]; exact hβ⟩
              cases hwo : wantedV ops o T with
              | true => exact stillA_spec (hchk' hwo).2 hoj hw ha hdj hv (evAl_blk he b) hb
              | false => rw [hskip hwo]; exact hb
        · intro j hj k hk hne oj ok dj dk vj vk b hoj hok hlj hlk haj hak hdj hdk hvj hvk hbj
          obtain ⟨hlj', hji⟩ := hun j hlj
          obtain ⟨hlk', hki⟩ := hun k hlk
          rcases List.mem_cons.1 hj with rfl | hj
          · exact absurd rfl hji
          · rcases List.mem_cons.1 hk with rfl | hk
            · exact absurd rfl hki
            · rw [putV_other ((hlook j hj oj hoj hlj').2 dj hdj)] at hvj
              rw [putV_other ((hlook k hk ok hok hlk').2 dk hdk)] at hvk
              exact I.apart j hj k hk hne oj ok dj dk vj vk b hoj hok hlj' hlk' haj hak hdj hdk hvj hvk hbj
      simp only [evOrd, ho, hxx, if_true] at h
      by_cases hw : wantedV ops o T = true
      · rw [if_pos hw] at h ⊢
        split at h
        · rename_i v H' he
          split at h
          · rename_i hall
            refine .inl (evOp_wp hcall ht1 I.ext.sim (by rw [evOp_congr (evalO_congr hag)]; exact he) fun β' c w' hE hvr => ?_)
            refine ih (i :: pre) r _ _ H' β' _ w' (step v c H' β' w' hE hvr (fun _ j hj => ?_) (fun h => by rw [hw] at h; cases h)) h hord' hcount
            rw [List.all_eq_true] at hall
            have := hall j hj
            simp only [Bool.or_eq_true, Bool.and_eq_true] at this
            exact this
          · cases h
        · cases h
      · have hw' : wantedV ops o T = false := by simpa using hw
        rw [if_neg hw] at h ⊢
        exact ih (i :: pre) r _ _ H β _ w (step undefV undef H β w (Ext.refl I.ext.sim) (undefV_rel β) (fun h => by rw [hw'] at h; cases h) (fun _ => rfl)) h hord' hcount

end

/-- An order of its own: what makes or writes nothing first. -/
def canonGo (P : Program) (ops : Array Oper) : Nat → List Nat → List Nat → List Nat
  | 0, done, _ => done.reverse
  | n + 1, done, todo =>
    match todo.find? (fun i => match ops[i]? with | some o => !(isX P o) && (edgesOf o).all fun j => done.contains j | none => false) with
    | some i => canonGo P ops n (i :: done) (todo.erase i)
    | none => match todo.find? (fun i => match ops[i]? with | some o => (edgesOf o).all fun j => done.contains j | none => false) with
      | some i => canonGo P ops n (i :: done) (todo.erase i)
      | none => done.reverse
def canonOrd (P : Program) (ops : Array Oper) : List Nat := canonGo P ops ops.size [] (List.range ops.size)

def evDraw (P : Program) (call : CallF) (ops : Array Oper) (T : List V) (H : Heap) : Option (List V × Heap) :=
  if drawB P ops (canonOrd P ops) (predsOf ops (canonOrd P ops) []) = true then evOrd P call ops (predsOf ops (canonOrd P ops) []) [] (canonOrd P ops) T H else none

theorem evDraw_wp {P : Program} {call : CallF} (hm : P.follows .mixedOrders = true) (hcall : CallOK P call) {ops : Array Oper} {id : Nat} {Q : Exit → Act → World → Prop} {T T' : List V} {H H' : Heap} {β : Inj} {a : Act} {w : World}
    (h : evDraw P call ops T H = some (T', H')) (hT : LRel β T a.tmps) (s : Sim β H w) (hQ : ∀ a' w', Leaves β H w a.defers T' H' a' w' → Q .normal a' w') : (Code.region id ops true).wp P Q a w := by
  unfold evDraw at h
  split at h
  · rename_i hd
    have D := drawB_spec hd
    refine wp_region_any hm ?_
    have hl : ∀ i, lis (Array.replicate ops.size false) i = false := by
      intro i
      unfold lis
      rw [Array.getD_eq_getD_getElem?, Array.getElem?_replicate]
      split <;> rfl
    have I : Inv P ops β H w a.defers [] (canonOrd P ops) (Array.replicate ops.size false) T H β a { w with drawn := w.drawn + 1 } := by
      refine ⟨by simp, fun i o e _ h => (by rw [hl] at h; cases h), fun i h => (by simp at h), fun i _ => hl i, ⟨T, hT, rfl, fun _ _ => rfl⟩, fun i h => (by simp at h), fun i h => (by simp at h), Ext.drew s, rfl⟩
    refine draw_any D hcall (fun i j h => hasP_spec h) hQ ops.size [] (canonOrd P ops) _ T H β a _ I h rfl ?_
    exact Nat.le_trans List.count_le_length (by simp)
  · cases h

end Go.Proofs.Ev

namespace Go.Proofs.Ev
open Go Go.Shelf Go.RowKit Go.Lib Go.Proofs

/-- copy, at any elements, cell by cell. -/
theorem run_copy_wide {P : Program} (w : World) (t t' ty e : TypeId) (z : Nat) (b off m dc : Nat) (a : Addr) (n sc : Nat) (cs : List Value) (ht : P.underlying t = some (.slice e)) (hz : tsize P e = some z)
    (hl : cs.length = Nat.min n m * z) (hcs : ∀ j v, cs[j]? = some v → w.cell? (a.add j) = some v) (hsp : ∀ j, j < cs.length → (w.cell? ⟨b, off + j, none⟩).isSome = true)
    (hfz : ∀ j, j < cs.length → w.frozen? ⟨b, off + j, none⟩ = false) (h1 : ∀ v ∈ cs, v.oneCell' = true) :
    (Builtin.copy_ #[t, t'] ty #[.slice (some ⟨b, off, none⟩) m dc, .slice (some a) n sc]).run P w = .ok (.int .i64 (Nat.min n m : Nat)) (w.setCells b off cs) := by
  have hf := run_firstCells_some (P := P) w z (Nat.min n m) a n sc cs hl hcs
  have hw := run_storeCells_cells (P := P) b off cs 0 w (by simpa using hsp) (by simpa using hfz) h1
  simp only [Nat.add_zero] at hw
  simp [Builtin.copy_, run_underlying ht, Builtin.lenOf, tsize_run hz, hf, hw, goInt]

/-- What slices.Insert's text needs of a program. -/
structure InsLay (P : Program) (ρ : Ren) (f z : Nat) (i : TypeInfo) (zv : Value) : Prop where
  mixed : P.follows .mixedOrders = true
  hf : ∃ nm, P.funcs[f]? = some { Body2.n22 ρ with name := nm }
  hov : ∀ args w, (callFunc (ρ.f 29) args).run P w = ((Extern.SlicesOverlaps.overlaps #[(ρ.t 24), (ρ.t 24)] #[(ρ.t 4)] args).run P w).andThen fun v w' => .ok (.value v) w'
  t3 : P.underlying (ρ.t 3) = some (TypeDesc.int IntKind.i64)
  a3 : ∀ w, (isAgg (ρ.t 3)).run P w = .ok false w
  z3 : ∀ w, (Go.sizeOf (ρ.t 3)).run P w = .ok 1 w
  v3 : ∀ w, (zeroValue (ρ.t 3)).run P w = .ok (Value.int IntKind.i64 0) w
  t4 : P.underlying (ρ.t 4) = some (TypeDesc.bool)
  a4 : ∀ w, (isAgg (ρ.t 4)).run P w = .ok false w
  z4 : ∀ w, (Go.sizeOf (ρ.t 4)).run P w = .ok 1 w
  v4 : ∀ w, (zeroValue (ρ.t 4)).run P w = .ok (Value.bool false) w
  t24 : P.underlying (ρ.t 24) = some (TypeDesc.slice (ρ.t 9))
  a24 : ∀ w, (isAgg (ρ.t 24)).run P w = .ok false w
  z24 : ∀ w, (Go.sizeOf (ρ.t 24)).run P w = .ok 1 w
  v24 : ∀ w, (zeroValue (ρ.t 24)).run P w = .ok (Value.slice none 0 0) w
  i9 : P.info? (ρ.t 9) = some i
  iz : i.size = z
  ib : 0 < i.bytes
  izv : i.zero = some zv
  hzv : zv.cells.size = z
  hz0 : 0 < z

variable {P : Program} {ρ : Ren} {f z : Nat} {i : TypeInfo} {zv : Value}

theorem InsLay.z9 (L : InsLay P ρ f z i zv) : ∀ w, (Go.sizeOf (ρ.t 9)).run P w = .ok z w := fun w => tsize_run (by simp [tsize, L.i9, L.iz]) w

set_option maxHeartbeats 4000000 in
set_option maxRecDepth 100000 in
/-- At the end: what append gives. -/
theorem ins_end (L : InsLay P ρ f z i zv) (base : Option Addr) (n c : Nat) (va : Addr) (m vc : Nat) (w : World) (hm : 0 < m) {v' : Value} {w' : World}
    (hr : (Builtin.append_ #[(ρ.t 24), (ρ.t 24)] (ρ.t 24) #[.slice base n c, .slice (some va) m vc]).run P w = .ok v' w') (hbase : base = none → n = 0) (hnc : n ≤ c) :
    Calls P f #[.slice base n c, .int .i64 n, .slice (some va) m vc] w fun e w'' => e = .returned v' ∧ w'' = w' := by
  have t3 := L.t3; have a3 := L.a3; have z3 := L.z3; have v3 := L.v3; have t4 := L.t4; have a4 := L.a4; have z4 := L.z4; have v4 := L.v4; have z9 := L.z9; have t24 := L.t24; have a24 := L.a24; have z24 := L.z24; have v24 := L.v24
  have u3 := run_underlying L.t3; have u4 := run_underlying L.t4; have u24 := run_underlying L.t24
  have mixed := L.mixed
  have hz1 : ¬ ((m : Int) = 0) := by omega
  obtain ⟨nm, hf⟩ := L.hf
  cases base with
  | none =>
    obtain rfl := hbase rfl
    go_enter hf, Body2.n22_ntmps ρ
    go_wp2_with (at_builtin; refine Lib.wpList_append_run _ rfl _ _ _ _ rfl _ _ rfl rfl _ _ hr ?_)
    go_ret
    exact ⟨rfl, rfl⟩
  | some a =>
    go_enter hf, Body2.n22_ntmps ρ
    go_wp2_with (at_builtin; refine Lib.wpList_append_run _ rfl _ _ _ _ rfl _ _ rfl rfl _ _ hr ?_)
    all_goals (go_ret; exact ⟨rfl, rfl⟩)

set_option maxHeartbeats 4000000 in
set_option maxRecDepth 100000 in
/-- There is room, not at the end: in place. -/
theorem ins_shift (L : InsLay P ρ f z i zv) (b off n c k vb voff m vc : Nat) (ds vs : List Value) (w : World) (hi : k < n) (hm : 0 < m) (hroom : n + m ≤ c) (h63 : n + m ≤ 4611686018427387904) (hvb : vb ≠ b)
    (hdl : ds.length = (n - k) * z) (hvl : vs.length = m * z)
    (hds : ∀ j v, ds[j]? = some v → w.cell? ⟨b, off + k * z + j, none⟩ = some v) (hsp : ∀ j, j < (n + m) * z → (w.cell? ⟨b, off + j, none⟩).isSome = true) (hfz : ∀ j, j < (n + m) * z → w.frozen? ⟨b, off + j, none⟩ = false)
    (hvs : ∀ j v, vs[j]? = some v → w.cell? ⟨vb, voff + j, none⟩ = some v) (h1d : ∀ v ∈ ds, v.oneCell' = true) (h1v : ∀ v ∈ vs, v.oneCell' = true)
    (tA tB : TypeId) (kA kB : Nat) (hsa : w.shape? vb = some (tA, kA)) (hsb : w.shape? b = some (tB, kB)) (hkB : kB ≠ 0) (hfa : w.frozen? ⟨vb, voff, none⟩ = false) (hfe : w.frozen? ⟨vb, kA, none⟩ = false) :
    Calls P f #[.slice (some ⟨b, off, none⟩) n c, .int .i64 k, .slice (some ⟨vb, voff, none⟩) m vc] w fun e w' =>
      e = .returned (.slice (some ⟨b, off, none⟩) (n + m) c) ∧ w' = (w.drew.setCells b (off + (k + m) * z) ds).setCells b (off + k * z) vs := by
  have t3 := L.t3; have a3 := L.a3; have z3 := L.z3; have v3 := L.v3; have t4 := L.t4; have a4 := L.a4; have z4 := L.z4; have v4 := L.v4; have z9 := L.z9; have t24 := L.t24; have a24 := L.a24; have z24 := L.z24; have v24 := L.v24
  have u3 := run_underlying L.t3; have u4 := run_underlying L.t4; have u24 := run_underlying L.t24
  have mixed := L.mixed
  have hz1 : ¬ ((m : Int) = 0) := by omega
  have hz2 : ¬ ((k : Int) = (n : Int)) := by omega
  have hzt : tsize P (ρ.t 9) = some z := by simp [tsize, L.i9, L.iz]
  have hov : ∀ lb cb, (callFunc (ρ.f 29) #[.slice (some ⟨vb, voff, none⟩) m vc, .slice (some ⟨b, off + (k + m) * z, none⟩) lb cb]).run P w = .ok (.value (.bool false)) w := fun lb cb => by
    rw [L.hov, Lib.run_overlaps_apart w (ρ.t 24) (ρ.t 4) (ρ.t 9) L.t24 z L.z9 ⟨vb, voff, none⟩ ⟨b, off + (k + m) * z, none⟩ m vc lb cb hvb tA tB kA kB hsa hsb hkB hfa hfe]
    rfl
  have hw1 : IntKind.i64.wrap ((k : Int) + (m : Int)) = (k : Int) + (m : Int) := by rw [IntKind.wrap_i64]; omega
  have hw2 : IntKind.i64.wrap ((n : Int) + (m : Int)) = (n : Int) + (m : Int) := by rw [IntKind.wrap_i64]; omega
  have hb1 : (0 : Int) ≤ (k : Int) + (m : Int) := by omega
  have hin : k ≤ n := by omega
  have htn : ((k : Int) + (m : Int)).toNat = k + m := by omega
  have hb2 : ¬ (c = k + m) := by omega
  have hb3 : (k : Int) ≤ (n : Int) + (m : Int) := by omega
  have hb4 : ¬ (c = k) := by omega
  have e1 : (k + m) * z + (n - k) * z = (n + m) * z := by rw [← Nat.add_mul]; congr 1; omega
  have e2 : k * z + m * z = (k + m) * z := (Nat.add_mul k m z).symm
  have hmin1 : Nat.min (n + m - k) (n + m - (k + m)) = n - k := by show min (n + m - k) (n + m - (k + m)) = n - k; omega
  have hmin2 : Nat.min m (n + m - k) = m := by show min m (n + m - k) = m; omega
  have hcp1 : ∀ ty dc sc, (Builtin.copy_ #[(ρ.t 24), (ρ.t 24)] ty #[.slice (some ⟨b, off + (k + m) * z, none⟩) (n + m - (k + m)) dc, .slice (some ⟨b, off + k * z, none⟩) (n + m - k) sc]).run P w.drew = .ok (.int .i64 (Nat.min (n + m - k) (n + m - (k + m)) : Nat)) (w.drew.setCells b (off + (k + m) * z) ds) := fun ty dc sc =>
    run_copy_wide w.drew _ _ ty (ρ.t 9) z b (off + (k + m) * z) (n + m - (k + m)) dc ⟨b, off + k * z, none⟩ (n + m - k) sc ds L.t24 hzt (by rw [hmin1, hdl])
      (fun j v hj => by rw [Addr.add_lit]; exact hds j v hj)
      (fun j hj => by rw [Nat.add_assoc]; exact hsp _ (by rw [hdl] at hj; omega)) (fun j hj => by rw [Nat.add_assoc]; exact hfz _ (by rw [hdl] at hj; omega)) h1d
  obtain ⟨W1, hW1⟩ : ∃ W1, W1 = w.drew.setCells b (off + (k + m) * z) ds := ⟨_, rfl⟩
  have hsp1 : ∀ q, q < (n + m) * z → (W1.cell? ⟨b, off + q, none⟩).isSome = true := fun q hq => by
    rw [hW1]
    exact isSome_setCells b _ _ _ (fun j hj => by rw [Nat.add_assoc]; exact hsp _ (by rw [hdl] at hj; omega)) _ (hsp q hq)
  have e3 : (k + m) * z ≤ (n + m) * z := Nat.mul_le_mul_right z (by omega)
  have hcp2 : ∀ (W : World), (∀ x, W.cell? x = W1.cell? x) → (∀ x, W.frozen? x = W1.frozen? x) → ∀ ty dc, (Builtin.copy_ #[(ρ.t 24), (ρ.t 24)] ty #[.slice (some ⟨b, off + k * z, none⟩) (n + m - k) dc, .slice (some ⟨vb, voff, none⟩) m vc]).run P W = .ok (.int .i64 (Nat.min m (n + m - k) : Nat)) (W.setCells b (off + k * z) vs) := fun W hWc hWf ty dc =>
    run_copy_wide W _ _ ty (ρ.t 9) z b (off + k * z) (n + m - k) dc ⟨vb, voff, none⟩ m vc vs L.t24 hzt (by rw [hmin2, hvl])
      (fun j v hj => by
        rw [Addr.add_lit, hWc, hW1, World.cell?_setCells_out b _ _ _ _ (fun h _ => absurd h hvb)]
        exact hvs j v hj)
      (fun j hj => by rw [hWc, Nat.add_assoc]; exact hsp1 _ (by rw [hvl] at hj; omega)) (fun j hj => by rw [hWf, hW1, World.frozen?_setCells, Nat.add_assoc]; exact hfz _ (by rw [hvl] at hj; omega)) h1v
  rw [← hW1] at hcp1
  obtain ⟨nm, hf⟩ := L.hf
  go_enter hf, Body2.n22_ntmps ρ
  go_wp2_with (simp only [hov])
  go_region_law_o (refine step_copy_runI rfl _ _ (ρ.t 24) (ρ.t 24) rfl _ _ (by simp [Act.eval, Act.put]) (by simp [Act.eval, Act.put]) (hcp1 _ _ _) ?_)
  go_wp2_with (at_builtin; refine wpList_copy_runI _ rfl _ _ (ρ.t 24) (ρ.t 24) rfl _ _ rfl rfl (hcp2 _ (fun _ => rfl) (fun _ => rfl) _ _) ?_)
  go_ret
  first | exact ⟨rfl, rfl⟩ | exact ⟨rfl, by rw [hW1]⟩

set_option maxHeartbeats 4000000 in
set_option maxRecDepth 100000 in
/-- There is no room, not at the end: a new row. -/
theorem ins_grow (L : InsLay P ρ f z i zv) (b off n c k vb voff m vc : Nat) (fs ds vs : List Value) (w : World) (hi : k < n) (hm : 0 < m) (hnc : n ≤ c) (hroom : c < n + m) (h63 : n + m ≤ 4611686018427387904) (hbig : (n + m) * i.bytes ≤ 140737488355328)
    (hal : fs.length = k * z) (hdl : ds.length = (n - k) * z) (hvl : vs.length = m * z)
    (has : ∀ j v, fs[j]? = some v → w.cell? ⟨b, off + j, none⟩ = some v)
    (hds : ∀ j v, ds[j]? = some v → w.cell? ⟨b, off + k * z + j, none⟩ = some v)
    (hvs : ∀ j v, vs[j]? = some v → w.cell? ⟨vb, voff + j, none⟩ = some v) (h1d : ∀ v ∈ ds, v.oneCell' = true) (h1v : ∀ v ∈ vs, v.oneCell' = true) (hbw : b < w.heap.size) (hvw : vb < w.heap.size) :
    Calls P f #[.slice (some ⟨b, off, none⟩) n c, .int .i64 k, .slice (some ⟨vb, voff, none⟩) m vc] w fun e w' =>
      e = .returned (.slice (some ⟨w.heap.size, 0, none⟩) (n + m) (grownCap w (n + m) c (ρ.t 9))) ∧
      w' = (((w.alloc (.cells (fs.toArray ++ Builtin.zeroCells zv.cells (n + m - k) ++ Builtin.zeroCells zv.cells (grownCap w (n + m) c (ρ.t 9) - (n + m))) (ρ.t 9))).drew.setCells w.heap.size (k * z) vs).drew).setCells w.heap.size ((k + m) * z) ds := by
  have t3 := L.t3; have a3 := L.a3; have z3 := L.z3; have v3 := L.v3; have t4 := L.t4; have a4 := L.a4; have z4 := L.z4; have v4 := L.v4; have z9 := L.z9; have t24 := L.t24; have a24 := L.a24; have z24 := L.z24; have v24 := L.v24
  have u3 := run_underlying L.t3; have u4 := run_underlying L.t4; have u24 := run_underlying L.t24
  have mixed := L.mixed
  have hzt : tsize P (ρ.t 9) = some z := by simp [tsize, L.i9, L.iz]
  have hz1 : ¬ ((m : Int) = 0) := by omega
  have hz2 : ¬ ((k : Int) = (n : Int)) := by omega
  have hz3 : (c : Int) < (n : Int) + (m : Int) := by omega
  have hkk : (n : Int) + (m : Int) - (k : Int) = ((n + m - k : Nat) : Int) := by omega
  have hik : k + (n + m - k) = n + m := by omega
  have hold : (Builtin.firstCells i.size k (.slice (some ⟨b, off, none⟩) k c)).run P w.drew = .ok fs.toArray w.drew := by
    rw [L.iz]
    exact run_firstCells_some w.drew z k ⟨b, off, none⟩ k c fs hal (fun j v hj => by
      rw [Addr.add_lit]
      exact has j v hj)
  have hbk : (n + m - k) * i.bytes ≤ 281474976710656 := by
    have : (n + m - k) * i.bytes ≤ (n + m) * i.bytes := Nat.mul_le_mul_right _ (by omega)
    omega
  have hrz : ∀ ty, (Builtin.append_ #[(ρ.t 24), (ρ.t 3)] ty #[.slice (some ⟨b, off, none⟩) k c, .int .i64 ((n : Int) + (m : Int) - (k : Int))]).run P w =
      .ok (.slice (some ⟨w.heap.size, 0, none⟩) (n + m) (grownCap w (n + m) c (ρ.t 9))) (w.drew.alloc (.cells (fs.toArray ++ Builtin.zeroCells zv.cells (n + m - k) ++ Builtin.zeroCells zv.cells (grownCap w (n + m) c (ρ.t 9) - (n + m))) (ρ.t 9))) := fun ty => by
    have h := Lib.run_append_grow_zeros w (ρ.t 24) (ρ.t 3) ty (ρ.t 9) i _ .i64 .i64 L.t24 L.t3 L.i9 L.izv (some ⟨b, off, none⟩) k c fs hold (n + m - k) (by omega) (by rw [L.iz]; exact L.hz0) (by omega) (by omega) hbk (by rw [hik]; exact growslice_fits hroom hbig)
    rw [hik] at h
    rw [hkk]
    exact h
  obtain ⟨G, hG⟩ : ∃ G, G = grownCap w (n + m) c (ρ.t 9) := ⟨_, rfl⟩
  obtain ⟨ROW, hROW⟩ : ∃ ROW : Array Value, ROW = fs.toArray ++ Builtin.zeroCells zv.cells (n + m - k) ++ Builtin.zeroCells zv.cells (G - (n + m)) := ⟨_, rfl⟩
  rw [← hG] at hrz ⊢
  rw [← hROW] at hrz ⊢
  have e0 : k * z + (n + m - k) * z = (n + m) * z := by rw [← Nat.add_mul, hik]
  have hRl : (n + m) * z ≤ ROW.size := by
    rw [hROW]
    simp [size_zeroCells, L.hzv, hal]
    omega
  have e1 : (k + m) * z + (n - k) * z = (n + m) * z := by rw [← Nat.add_mul]; congr 1; omega
  have e2 : k * z + m * z = (k + m) * z := (Nat.add_mul k m z).symm
  have hmin1 : Nat.min (n - k) (n + m - (k + m)) = n - k := by show min (n - k) (n + m - (k + m)) = n - k; omega
  have hmin2 : Nat.min m (n + m - k) = m := by show min m (n + m - k) = m; omega
  have e3 : (k + m) * z ≤ (n + m) * z := Nat.mul_le_mul_right z (by omega)
  obtain ⟨W1, hW1⟩ : ∃ W1, W1 = w.drew.alloc (.cells ROW (ρ.t 9)) := ⟨_, rfl⟩
  rw [← hW1] at hrz
  have hN : ∀ j, j < (n + m) * z → (W1.cell? ⟨w.heap.size, j, none⟩).isSome = true := fun j hj => by
    rw [hW1, World.cell?_alloc_at (w := w.drew) ROW _ w.heap.size j rfl, Array.getElem?_eq_getElem (by omega)]; rfl
  have hNf : ∀ j, W1.frozen? ⟨w.heap.size, j, none⟩ = false := fun j => by rw [hW1]; exact World.frozen?_alloc_at (w := w.drew) ROW _ w.heap.size j rfl
  have hOb : ∀ j v, w.cell? ⟨b, j, none⟩ = some v → W1.cell? ⟨b, j, none⟩ = some v := fun j v h => by rw [hW1, World.cell?_alloc_past (w := w.drew) _ b j hbw]; exact h
  have hOv : ∀ j v, w.cell? ⟨vb, j, none⟩ = some v → W1.cell? ⟨vb, j, none⟩ = some v := fun j v h => by rw [hW1, World.cell?_alloc_past (w := w.drew) _ vb j hvw]; exact h
  have hcpA : ∀ (W : World), (∀ x, W.cell? x = W1.cell? x) → (∀ x, W.frozen? x = W1.frozen? x) → ∀ ty dc, (Builtin.copy_ #[(ρ.t 24), (ρ.t 24)] ty #[.slice (some ⟨w.heap.size, k * z, none⟩) (n + m - k) dc, .slice (some ⟨vb, voff, none⟩) m vc]).run P W = .ok (.int .i64 (Nat.min m (n + m - k) : Nat)) (W.setCells w.heap.size (k * z) vs) := fun W hWc hWf ty dc =>
    run_copy_wide W _ _ ty (ρ.t 9) z w.heap.size (k * z) (n + m - k) dc ⟨vb, voff, none⟩ m vc vs L.t24 hzt (by rw [hmin2, hvl])
      (fun j v hj => by rw [Addr.add_lit, hWc]; exact hOv _ v (hvs j v hj))
      (fun j hj => by rw [hWc]; exact hN _ (by rw [hvl] at hj; omega)) (fun j hj => by rw [hWf]; exact hNf _) h1v
  have hGn : n + m ≤ G := by rw [hG]; exact grownCap_ge w _ _ _
  have hGi : ¬ (G = k) := by omega
  have hGim : ¬ (G = k + m) := by omega
  have hci : ¬ (c = k) := by omega
  have hbN : b ≠ w.heap.size := by omega
  have hcpB : ∀ (W : World), (∀ x, W.cell? x = (W1.setCells w.heap.size (k * z) vs).cell? x) → (∀ x, W.frozen? x = (W1.setCells w.heap.size (k * z) vs).frozen? x) → ∀ ty dc sc, (Builtin.copy_ #[(ρ.t 24), (ρ.t 24)] ty #[.slice (some ⟨w.heap.size, (k + m) * z, none⟩) (n + m - (k + m)) dc, .slice (some ⟨b, off + k * z, none⟩) (n - k) sc]).run P W = .ok (.int .i64 (Nat.min (n - k) (n + m - (k + m)) : Nat)) (W.setCells w.heap.size ((k + m) * z) ds) := fun W hWc hWf ty dc sc =>
    run_copy_wide W _ _ ty (ρ.t 9) z w.heap.size ((k + m) * z) (n + m - (k + m)) dc ⟨b, off + k * z, none⟩ (n - k) sc ds L.t24 hzt (by rw [hmin1, hdl])
      (fun j v hj => by
        rw [Addr.add_lit, hWc, World.cell?_setCells_out _ _ _ _ _ (fun h _ => absurd h hbN)]
        exact hOb _ v (hds j v hj))
      (fun j hj => by rw [hWc]; exact isSome_setCells _ _ _ _ (fun t ht => hN _ (by rw [hvl] at ht; omega)) _ (hN _ (by rw [hdl] at hj; omega)))
      (fun j hj => by rw [hWf, World.frozen?_setCells]; exact hNf _) h1d
  subst hW1
  have hE1 : ∀ x, ((w.alloc (.cells ROW (ρ.t 9))).drew).cell? x = (w.drew.alloc (.cells ROW (ρ.t 9))).cell? x := fun x => rfl
  have hE2 : ∀ x, ((w.alloc (.cells ROW (ρ.t 9))).drew).frozen? x = (w.drew.alloc (.cells ROW (ρ.t 9))).frozen? x := fun x => rfl
  have hF1 : ∀ x, (((w.alloc (.cells ROW (ρ.t 9))).drew.setCells w.heap.size (k * z) vs).drew).cell? x = ((w.drew.alloc (.cells ROW (ρ.t 9))).setCells w.heap.size (k * z) vs).cell? x := fun x => rfl
  have hF2 : ∀ x, (((w.alloc (.cells ROW (ρ.t 9))).drew.setCells w.heap.size (k * z) vs).drew).frozen? x = ((w.drew.alloc (.cells ROW (ρ.t 9))).setCells w.heap.size (k * z) vs).frozen? x := fun x => rfl
  have hw1 : IntKind.i64.wrap ((k : Int) + (m : Int)) = (k : Int) + (m : Int) := by rw [IntKind.wrap_i64]; omega
  have hw2 : IntKind.i64.wrap ((n : Int) + (m : Int)) = (n : Int) + (m : Int) := by rw [IntKind.wrap_i64]; omega
  have hw3 : IntKind.i64.wrap ((n : Int) + (m : Int) - (k : Int)) = (n : Int) + (m : Int) - (k : Int) := by rw [IntKind.wrap_i64]; omega
  have hb1 : (0 : Int) ≤ (k : Int) + (m : Int) := by omega
  have hin : k ≤ n := by omega
  have htn : ((k : Int) + (m : Int)).toNat = k + m := by omega
  have hb3 : (k : Int) ≤ (n : Int) := by omega
  clear hkk hik hold hROW hG hRl e0 e1 e2 e3 hbk
  obtain ⟨nm, hf⟩ := L.hf
  go_enter hf, Body2.n22_ntmps ρ
  go_wp2_with (first
    | (at_builtin; refine Lib.wpList_append_run _ rfl _ _ _ _ rfl _ _ rfl rfl _ _ (hrz _) ?_)
    | (at_builtin; refine wpList_copy_runI _ rfl _ _ (ρ.t 24) (ρ.t 24) rfl _ _ rfl rfl (hcpA _ hE1 hE2 _ _) ?_)
    | (at_builtin; refine wpList_copy_runI _ rfl _ _ (ρ.t 24) (ρ.t 24) rfl _ _ rfl rfl (hcpB _ (fun _ => rfl) (fun _ => rfl) _ _ _) ?_))
  go_region_law_o (refine step_copy_runI rfl _ _ (ρ.t 24) (ρ.t 24) rfl (.slice (some ⟨w.heap.size, (k + m) * z, none⟩) (n + m - (k + m)) (G - (k + m))) (.slice (some ⟨b, off + k * z, none⟩) (n - k) (c - k)) (by simp [Act.eval, Act.put]) (by simp [Act.eval, Act.put]) (hcpB _ hF1 hF2 (ρ.t 3) (G - (k + m)) (c - k)) ?_)
  go_wp2
  go_ret
  exact ⟨rfl, rfl⟩

end Go.Proofs.Ev

namespace Go.Proofs.Ev
open Go Go.Shelf Go.RowKit Go.Lib Go.Proofs

theorem zero_run {P : Program} {t : TypeId} {z : Value} (h : (match P.info? t with | some i => i.zero | none => none) = some z) (w : World) : (zeroValue t).run P w = .ok z w := by
  cases hi : P.info? t with
  | none => rw [hi] at h; cases h
  | some i =>
    rw [hi] at h
    simp only at h
    simp [zeroValue, typeInfo, hi, h]

/-- slices.Insert: the slice's block ends, a new one begins. -/
def evIns (z bytes : Nat) (vs : List V) (H : Heap) : Option (V × Heap) := match vs with
  | [.sl a n, .int .i64 k, .sl (some (vb, vo, z2)) m] =>
    if 0 < m ∧ z2 = z ∧ 0 ≤ k ∧ k ≤ n ∧ (n + m) * bytes ≤ 140737488355328 ∧ n + m ≤ 4611686018427387904 then
      match ldCells H vb vo (m * z) with
      | some news => if news.all V.one = true then (match a with
        | none => if n = 0 then some (.sl (some (H.length, 0, z)) m, H ++ [⟨news, 2⟩]) else none
        | some (b, o, z1) => if z1 = z ∧ b ≠ vb then (match H[b]?, H[vb]? with
          | some kb, some kv => if kb.st = 2 ∧ kv.st = 2 then (match ldCells H b o (n * z) with
            | some olds => if olds.all V.one = true then some (.sl (some (H.length, 0, z)) (n + m), H.set b dead ++ [⟨olds.take (k.toNat * z) ++ news ++ olds.drop (k.toNat * z), 2⟩]) else none
            | none => none) else none
          | _, _ => none) else none) else none
      | none => none
    else none
  | _ => none

theorem ones_of {β : Inj} {vs : List V} {news : List Value} (h1 : vs.all V.one = true) (hr : LRel β vs news.toArray) : ∀ u ∈ news, u.oneCell' = true := by
  intro u hu
  obtain ⟨i, hi⟩ := List.mem_iff_getElem?.1 hu
  have hi' : i < news.length := by
    rcases Nat.lt_or_ge i news.length with h' | h'
    · exact h'
    · rw [List.getElem?_eq_none h'] at hi; cases hi
  have hlen := hr.1
  simp at hlen
  have hv : vs[i]? = some (vs[i]'(by omega)) := List.getElem?_eq_getElem _
  exact (hr.2 i _ u hv (by simpa using hi)).one (by rw [List.all_eq_true] at h1; exact h1 _ (List.getElem_mem _))

theorem LRel.take {β : Inj} {vs : List V} {cs : List Value} (h : LRel β vs cs.toArray) (n : Nat) : LRel β (vs.take n) (cs.take n).toArray := by
  have hl : vs.length = cs.length := by simpa using h.1
  refine ⟨by simp [hl], fun i v c hv hc => ?_⟩
  rw [List.getElem?_take] at hv
  simp only [List.getElem?_toArray, List.getElem?_take] at hc
  split at hv
  · rename_i hi
    rw [if_pos hi] at hc
    exact h.2 i v c hv (by simpa using hc)
  · cases hv

theorem LRel.drop {β : Inj} {vs : List V} {cs : List Value} (h : LRel β vs cs.toArray) (n : Nat) : LRel β (vs.drop n) (cs.drop n).toArray := by
  have hl : vs.length = cs.length := by simpa using h.1
  refine ⟨by simp [hl], fun i v c hv hc => ?_⟩
  rw [List.getElem?_drop] at hv
  simp only [List.getElem?_toArray, List.getElem?_drop] at hc
  exact h.2 (n + i) v c hv (by simpa using hc)

variable {P : Program} {ρ : Ren} {f z : Nat} {i : TypeInfo} {zv : Value}

theorem lrel3 {β : Inj} {a b c : V} {cs : Array Value} (h : LRel β [a, b, c] cs) : ∃ x y u, cs = #[x, y, u] ∧ VRel β a x ∧ VRel β b y ∧ VRel β c u := by
  obtain ⟨l⟩ := cs
  have hl := h.1
  match l, hl with
  | [x, y, u], _ => exact ⟨x, y, u, rfl, h.2 0 _ _ rfl rfl, h.2 1 _ _ rfl rfl, h.2 2 _ _ rfl rfl⟩

theorem evIns_ok (L : InsLay P ρ f z i zv) (hzV : zeroV P (ρ.t 9) ≠ none) (vs : List V) (H : Heap) (v : V) (H' : Heap) (h : evIns z i.bytes vs H = some (v, H'))
    (β : Inj) (cs : Array Value) (w : World) (hr : LRel β vs cs) (s : Sim β H w) :
    Calls P f cs w fun e w' => ∃ β' c, e = .returned c ∧ Ext β H w β' H' w' ∧ VRel β' v c := by
  unfold evIns at h
  split at h
  case h_2 => cases h
  rename_i a n k vb vo z2 m
  split at h
  case isFalse => cases h
  rename_i hc
  obtain ⟨hm, rfl, hk0, hkn, hby, h63⟩ := hc
  split at h
  case h_2 => cases h
  rename_i news hnews
  split at h
  case isFalse => cases h
  rename_i hone
  obtain ⟨sc, kc, vc, rfl, hsc, hkc, hvc⟩ := lrel3 hr
  obtain rfl := hkc.int_inv
  obtain ⟨VB, VO, VZ, vx, vcap, rfl, hvb, hmcap, hvx, hvroom⟩ := hvc.sl_inv
  obtain rfl := hvx (by omega)
  obtain ⟨q1, q2, ns, q3, q4, q5⟩ := ldCells_spec s hnews hvb
  obtain ⟨kk, rfl⟩ : ∃ kk : Nat, k = kk := ⟨k.toNat, by omega⟩
  have hzVs : ∃ zV, zeroV P (ρ.t 9) = some zV := by
    cases hz : zeroV P (ρ.t 9) with
    | none => exact absurd hz hzV
    | some x => exact ⟨x, rfl⟩
  obtain ⟨zV, hzV⟩ := hzVs
  have hzVl : zV.cells.length = z2 := by
    obtain ⟨i', z', h1, h2, h3⟩ := zeroV_spec hzV
    rw [L.i9] at h1
    cases h1
    rw [L.izv] at h2
    cases h2
    have := (absN_rel (β := β) 9 zv zV h3).cells.1
    rw [this]
    exact L.hzv
  have hte : telem P (ρ.t 24) = some (ρ.t 9) := by simp [telem, L.t24]
  -- what append says
  have happ : ∀ (sv : V), evAppend P H (ρ.t 24) (ρ.t 24) sv (.sl (some (vb, vo, z2)) m) = (match sv with
        | .sl none m' => if m' = 0 then (if m * i.bytes ≤ 140737488355328 ∧ m ≤ 4611686018427387904 then some (.sl (some (H.length, 0, z2)) m, H ++ [⟨news, 2⟩]) else none) else none
        | .sl (some (b, o, z1)) m' => if z1 = z2 then (match H[b]? with
            | some k => if 2 ≤ k.st then (match ldCells H b o (m' * z1) with
              | some olds => if (m' + m) * i.bytes ≤ 140737488355328 ∧ m' + m ≤ 4611686018427387904 then some (.sl (some (H.length, 0, z1)) (m' + m), H.set b dead ++ [⟨olds ++ news, k.st⟩]) else none
              | none => none) else none
            | none => none) else none
        | _ => none) := by
    intro sv
    have hm0 : ¬ m = 0 := by omega
    unfold evAppend
    simp only [hte, L.i9, hzV, L.iz, L.hz0, hzVl, and_self, if_true, srcV, L.t24, hm0, if_false, hnews, hone]
    all_goals rfl
  cases a with
  | none =>
    simp only at h
    split at h
    case isFalse => cases h
    rename_i hn
    subst hn
    cases h
    obtain rfl := hsc.slN_inv
    obtain rfl : kk = 0 := by omega
    have ha := happ (.sl none 0)
    simp only [if_true] at ha
    rw [if_pos ⟨by simpa using hby, by omega⟩] at ha
    obtain ⟨β', c, w', hrun, hE, hV⟩ := evAppend_run (ty := ρ.t 24) s ha .nils hvc
    refine (ins_end L none 0 0 _ m vcap w hm hrun (fun _ => rfl) (Nat.le_refl _)).mono ?_
    rintro e w'' ⟨rfl, rfl⟩
    exact ⟨β', c, rfl, hE, hV⟩
  | some p =>
    obtain ⟨b, o, z1⟩ := p
    simp only at h
    split at h
    case isFalse => cases h
    rename_i hzb
    obtain ⟨rfl, hbvb⟩ := hzb
    split at h
    case h_2 => cases h
    rename_i kb kv hkb hkv
    split at h
    case isFalse => cases h
    rename_i hst
    obtain ⟨hst1, hst2⟩ := hst
    split at h
    case h_2 => cases h
    rename_i olds holds
    split at h
    case isFalse => cases h
    rename_i hone2
    cases h
    obtain ⟨B, O, Z, x, cap, rfl, hb, hncap, hx, hroomZ⟩ := hsc.sl_inv
    by_cases hend : kk = n
    · subst hend
      have ha := happ (.sl (some (b, o, z1)) kk)
      simp only [if_true, hkb] at ha
      rw [if_pos (by omega), holds] at ha
      simp only at ha
      rw [if_pos ⟨hby, h63⟩] at ha
      obtain ⟨β', c, w', hrun, hE, hV⟩ := evAppend_run (ty := ρ.t 24) s ha hsc hvc
      refine (ins_end L _ kk cap _ m vcap w hm hrun (fun e => by cases e) hncap).mono ?_
      rintro e w'' ⟨rfl, rfl⟩
      refine ⟨β', c, rfl, ?_, hV⟩
      have hol : olds.length = kk * z1 := (ldCells_spec s holds hb).1
      simp only [Int.toNat_natCast, ← hol, List.take_length, List.drop_length, List.append_nil, ← hst1]
      exact hE
    · have hkn' : kk < n := by omega
      obtain rfl := hx (by omega)
      obtain ⟨p1, p2, os, p3, p4, p5⟩ := ldCells_spec s holds hb
      have hsep : B ≠ VB := s.sep b kb B O Z vb kv VB VO VZ hkb (by omega) hkv (by omega) hbvb hb hvb
      obtain ⟨cs0, e0, fz, hblk, hZ⟩ := s.cells hkb (by omega) hb
      obtain ⟨cs1, e1, fz1, hblk1, hZ1⟩ := s.cells hkv (by omega) hvb
      have hzle : kk * z1 ≤ n * z1 := Nat.mul_le_mul_right _ (by omega)
      have hkz : n * z1 = kk * z1 + (n - kk) * z1 := by rw [← Nat.add_mul]; congr 1; omega
      have hos : ∀ j u, os[j]? = some u → w.cell? ⟨B, O + o + j, none⟩ = some u := fun j u hj => by
        have := p5 j u hj
        rwa [add_at] at this
      have hns : ∀ j u, ns[j]? = some u → w.cell? ⟨VB, VO + vo + j, none⟩ = some u := fun j u hj => by
        have := q5 j u hj
        rwa [add_at] at this
      have hds : ∀ j u, (os.drop (kk * z1))[j]? = some u → w.cell? ⟨B, O + o + kk * z1 + j, none⟩ = some u := fun j u hj => by
        rw [List.getElem?_drop] at hj
        have := hos _ _ hj
        rwa [Nat.add_assoc (O + o)]
      have hdl : (os.drop (kk * z1)).length = (n - kk) * z1 := by rw [List.length_drop, p4]; omega
      have h1d : ∀ u ∈ os.drop (kk * z1), u.oneCell' = true := fun u hu => ones_of hone2 p3 u (List.mem_of_mem_drop hu)
      have h1v := ones_of hone q3
      -- what is told at the end
      have hres : LRel β (olds.take (kk * z1) ++ news ++ olds.drop (kk * z1)) (os.take (kk * z1) ++ ns ++ os.drop (kk * z1)).toArray := by
        have := ((p3.take (kk * z1)).append q3).append (p3.drop (kk * z1))
        simpa using this
      have htl : (olds.take (kk * z1)).length = kk * z1 := by rw [List.length_take, p1]; omega
      have hdl' : (olds.drop (kk * z1)).length = (n - kk) * z1 := by rw [List.length_drop, p1]; omega
      have htot : (kk + m) * z1 + (n - kk) * z1 = (n + m) * z1 := by rw [← Nat.add_mul]; congr 1; omega
      have hkm : kk * z1 + m * z1 = (kk + m) * z1 := (Nat.add_mul ..).symm
      simp only [Int.toNat_natCast]
      by_cases hroom : n + m ≤ cap
      · have hwarmv := s.warm vb kv VB VO VZ hkv (by omega) hvb
        have hfrz : ∀ q, w.frozen? ⟨VB, q, none⟩ = false := fun q => by
          obtain ⟨cs', e', fz', h1, h2⟩ := hwarmv
          obtain ⟨lo, hi⟩ := fz'
          simp only [World.frozen?, h1]
          rcases h2 with ⟨_, h2⟩ | h2
          · omega
          · simp only at h2
            subst h2
            simp only [Bool.and_eq_false_iff, decide_eq_false_iff_not]
            omega
        have hZle : (n + m) * z1 ≤ cap * z1 := Nat.mul_le_mul_right _ hroom
        have hin : ∀ (W : World) j, (∃ cs' : Array Value, ∃ e' fz', W.heap[B]? = some (.cells cs' e' fz') ∧ cs'.size = Z) → j < (n + m) * z1 → (W.cell? ⟨B, O + o + j, none⟩).isSome = true := by
          rintro W j ⟨cs', e', fz', h1, h2⟩ hj
          have hlt : O + o + j < cs'.size := by omega
          simp only [World.cell?, h1]
          simp [hlt]
        have hpos : 0 < cs0.size := by
          have : 0 < z1 := L.hz0
          have : 0 < (n + m) * z1 := Nat.mul_pos (by omega) this
          omega
        refine (ins_shift L B (O + o) n cap kk VB (VO + vo) m vcap (os.drop (kk * z1)) ns w hkn' hm hroom h63 (fun e => hsep e.symm) hdl q4
          (fun j u hj => hds j u hj) (fun j hj => hin w j ⟨cs0, e0, fz, hblk, hZ⟩ hj) (fun j hj => s.thaw b kb B O Z hkb (by omega) hb _ (by omega))
          (fun j u hj => hns j u hj) h1d h1v e1 e0 cs1.size cs0.size (by simp [World.shape?, hblk1]) (by simp [World.shape?, hblk]) (by omega) (hfrz _) (hfrz _)).mono ?_
        rintro e w'' ⟨rfl, rfl⟩
        have hlen0 : o + n * z1 ≤ kb.cells.length := by
          unfold ldCells at holds
          rw [hkb] at holds
          simp only at holds
          split at holds
          · split at holds
            · assumption
            · cases holds
          · cases holds
        obtain ⟨c0, c1⟩ := s.cont b kb B O Z hkb (by omega) hb
        have E0 := Ext.drew s
        have E1 := Ext.store s.drew hkb (by omega) hb (O + o + (kk + m) * z1) (os.drop (kk * z1)) (by omega) ⟨[], 2⟩ (.inl hst1.symm) (fun _ => ⟨by simp; omega, by simp⟩)
        have hbl := s.dom b _ hb
        have hk1 : (H.set b (⟨[], 2⟩ : Blk))[b]? = some ⟨[], 2⟩ := by rw [List.getElem?_set_self hbl]
        -- cells behind both
        have hsz1 : ∃ cs' : Array Value, ∃ e' fz', (w.drew.setCells B (O + o + (kk + m) * z1) (os.drop (kk * z1))).heap[B]? = some (.cells cs' e' fz') ∧ cs'.size = Z := by
          obtain ⟨cs', h1, h2⟩ := obj_setCells B (os.drop (kk * z1)) (O + o + (kk + m) * z1) w.drew cs0 e0 fz hblk
          exact ⟨cs', e0, fz, h1, h2.trans hZ⟩
        have E2 := Ext.inplace E1.sim hk1 (Nat.le_refl _) hb (O + o + kk * z1) ns (by omega) (O + o) (olds.take (kk * z1) ++ news ++ olds.drop (kk * z1)) (by simp only [List.length_append, htl, hdl', q1]; omega) (by
          intro j u hj
          obtain ⟨c, hcj, hcr⟩ := hres.get hj
          refine ⟨c, ?_, hcr⟩
          have hcj' : (os.take (kk * z1) ++ ns ++ os.drop (kk * z1))[j]? = some c := by simpa using hcj
          have hotl : (os.take (kk * z1)).length = kk * z1 := by rw [List.length_take, p4]; omega
          rcases Nat.lt_or_ge j (kk * z1) with hj1 | hj1
          · rw [List.append_assoc, List.getElem?_append_left (by omega), List.getElem?_take_of_lt hj1] at hcj'
            rw [World.cell?_setCells_out B ns _ _ ⟨B, O + o + j, none⟩ (fun _ _ => .inl (by simp; omega)),
              World.cell?_setCells_out B _ _ _ ⟨B, O + o + j, none⟩ (fun _ _ => .inl (by simp; omega))]
            exact hos j c hcj'
          · rcases Nat.lt_or_ge j ((kk + m) * z1) with hj2 | hj2
            · rw [List.append_assoc, List.getElem?_append_right (by omega), hotl, List.getElem?_append_left (by omega)] at hcj'
              have hlt : j - kk * z1 < ns.length := by omega
              have hin2 := World.cell?_setCells_in B ns (O + o + kk * z1) (w.drew.setCells B (O + o + (kk + m) * z1) (os.drop (kk * z1))) (fun t ht => by
                have := hin _ (kk * z1 + t) hsz1 (by omega)
                rwa [← Nat.add_assoc] at this) (j - kk * z1) hlt
              rw [show O + o + kk * z1 + (j - kk * z1) = O + o + j by omega] at hin2
              rw [hin2]
              rw [List.getElem?_eq_getElem hlt] at hcj'
              exact hcj'
            · rw [List.getElem?_append_right (by simp only [List.length_append, hotl, q4]; omega)] at hcj'
              simp only [List.length_append, hotl, q4] at hcj'
              have hlt : j - (kk * z1 + m * z1) < (os.drop (kk * z1)).length := by
                rcases Nat.lt_or_ge (j - (kk * z1 + m * z1)) (os.drop (kk * z1)).length with h' | h'
                · exact h'
                · rw [List.getElem?_eq_none h'] at hcj'; cases hcj'
              have hin2 := World.cell?_setCells_in B (os.drop (kk * z1)) (O + o + (kk + m) * z1) w.drew (fun t ht => by
                have := hin w ((kk + m) * z1 + t) ⟨cs0, e0, fz, hblk, hZ⟩ (by omega)
                rwa [← Nat.add_assoc] at this) (j - (kk * z1 + m * z1)) hlt
              rw [show O + o + (kk + m) * z1 + (j - (kk * z1 + m * z1)) = O + o + j by omega] at hin2
              rw [World.cell?_setCells_out B ns _ _ ⟨B, O + o + j, none⟩ (fun _ _ => .inr (by simp; omega)), hin2]
              rw [List.getElem?_eq_getElem hlt] at hcj'
              exact hcj')
        rw [List.length_set, List.set_set] at E2
        exact ⟨_, _, rfl, (E0.trans E1).trans E2, .sl (upd_same _ _ _) hroom (fun _ => rfl) (by omega)⟩
      · have hge := grownCap_ge w (n + m) cap (ρ.t 9)
        refine (ins_grow L B (O + o) n cap kk VB (VO + vo) m vcap (os.take (kk * z1)) (os.drop (kk * z1)) ns w hkn' hm hncap (by omega) h63 hby (by rw [List.length_take, p4]; omega) hdl q4
          (fun j u hj => by
            rw [List.getElem?_take] at hj
            split at hj
            · exact hos j u hj
            · cases hj) (fun j u hj => hds j u hj) (fun j u hj => hns j u hj) h1d h1v (s.lt hb) (s.lt hvb)).mono ?_
        rintro e w'' ⟨rfl, rfl⟩
        have hotl : (os.take (kk * z1)).length = kk * z1 := by rw [List.length_take, p4]; omega
        generalize hG : grownCap w (n + m) cap (ρ.t 9) = G at hge ⊢
        have hzvc : zv.cells.size = z1 := L.hzv
        have hrow : ((os.take (kk * z1)).toArray ++ Builtin.zeroCells zv.cells (n + m - kk) ++ Builtin.zeroCells zv.cells (G - (n + m))).size = G * z1 := by
          simp only [Array.size_append, List.size_toArray, size_zeroCells, hzvc, hotl]
          rw [← Nat.add_mul, ← Nat.add_mul]
          congr 1
          omega
        generalize hROW : (os.take (kk * z1)).toArray ++ Builtin.zeroCells zv.cells (n + m - kk) ++ Builtin.zeroCells zv.cells (G - (n + m)) = ROW at hrow
        have hGz : (n + m) * z1 ≤ G * z1 := Nat.mul_le_mul_right _ hge
        have E1 := Ext.moved (st := 2) s hkb (by omega) hb (olds.take (kk * z1)) ROW (ρ.t 9) (fun j u hj => by
          obtain ⟨c, hcj, hcr⟩ := (p3.take (kk * z1)).get hj
          refine ⟨c, ?_, hcr⟩
          rw [← hROW]
          exact getElem?_append_fst (getElem?_append_fst hcj)) (by omega)
        have hHl : (H.set b dead).length = H.length := List.length_set
        have E2 := Ext.drew E1.sim
        have hNk : ∀ kk' : Blk, (H.set b dead ++ [kk'])[H.length]? = some kk' := fun kk' => by
          rw [← hHl, List.getElem?_append_right (Nat.le_refl _)]; simp
        have hset : ∀ k1 k2 : Blk, (H.set b dead ++ [k1]).set H.length k2 = H.set b dead ++ [k2] := fun k1 k2 => by
          rw [← hHl, List.set_append_right _ _ (Nat.le_refl _)]; simp
        have hcell0 : ∀ j, j < G * z1 → (((w.alloc (.cells ROW (ρ.t 9))).drew).cell? ⟨w.heap.size, j, none⟩).isSome = true := fun j hj => by
          have : ((w.alloc (.cells ROW (ρ.t 9))).drew).cell? ⟨w.heap.size, j, none⟩ = ROW[j]? := World.cell?_alloc_at (w := w) ROW _ w.heap.size j rfl
          rw [this, Array.getElem?_eq_getElem (by omega)]; rfl
        have E3 := Ext.store E2.sim (hNk _) (Nat.le_refl _) (upd_same _ _ _) (kk * z1) ns (by omega) ⟨olds.take (kk * z1) ++ news, 2⟩ (.inl rfl) (fun _ => ⟨by simp only [List.length_append, htl, q1]; omega, by
          intro j u hj
          have hres1 : LRel β (olds.take (kk * z1) ++ news) (os.take (kk * z1) ++ ns).toArray := by
            have := (p3.take (kk * z1)).append q3
            simpa using this
          obtain ⟨c, hcj, hcr⟩ := hres1.get hj
          have hcj' : (os.take (kk * z1) ++ ns)[j]? = some c := by simpa using hcj
          refine ⟨c, ?_, hcr.mono (s.upd_le _)⟩
          simp only [Nat.zero_add]
          rcases Nat.lt_or_ge j (kk * z1) with hj1 | hj1
          · rw [World.cell?_setCells_out _ ns _ _ ⟨w.heap.size, j, none⟩ (fun _ _ => .inl (by simp; omega))]
            rw [List.getElem?_append_left (by omega)] at hcj'
            have : ((w.alloc (.cells ROW (ρ.t 9))).drew).cell? ⟨w.heap.size, j, none⟩ = ROW[j]? := World.cell?_alloc_at (w := w) ROW _ w.heap.size j rfl
            rw [this, ← hROW]
            exact getElem?_append_fst (getElem?_append_fst (by simpa using hcj'))
          · rw [List.getElem?_append_right (by omega), hotl] at hcj'
            have hlt : j - kk * z1 < ns.length := by
              rcases Nat.lt_or_ge (j - kk * z1) ns.length with h' | h'
              · exact h'
              · rw [List.getElem?_eq_none h'] at hcj'; cases hcj'
            have hin2 := World.cell?_setCells_in w.heap.size ns (kk * z1) ((w.alloc (.cells ROW (ρ.t 9))).drew) (fun t ht => hcell0 _ (by omega)) (j - kk * z1) hlt
            rw [show kk * z1 + (j - kk * z1) = j by omega] at hin2
            rw [hin2]
            rw [List.getElem?_eq_getElem hlt] at hcj'
            exact hcj'⟩)
        rw [hset] at E3
        have E4 := Ext.drew E3.sim
        have hcell1 : ∀ j, j < G * z1 → ((((w.alloc (.cells ROW (ρ.t 9))).drew).setCells w.heap.size (kk * z1) ns).drew.cell? ⟨w.heap.size, j, none⟩).isSome = true := fun j hj => by
          have h1 := isSome_setCells w.heap.size ns (kk * z1) ((w.alloc (.cells ROW (ρ.t 9))).drew) (fun t ht => hcell0 _ (by omega)) j (hcell0 j hj)
          exact h1
        have E5 := Ext.store E4.sim (hNk _) (Nat.le_refl _) (upd_same _ _ _) ((kk + m) * z1) (os.drop (kk * z1)) (by omega) ⟨olds.take (kk * z1) ++ news ++ olds.drop (kk * z1), 2⟩ (.inl rfl) (fun _ => ⟨by simp only [List.length_append, htl, q1, hdl']; omega, by
          intro j u hj
          obtain ⟨c, hcj, hcr⟩ := hres.get hj
          have hcj' : (os.take (kk * z1) ++ ns ++ os.drop (kk * z1))[j]? = some c := by simpa using hcj
          simp only [Nat.zero_add]
          rcases Nat.lt_or_ge j ((kk + m) * z1) with hj1 | hj1
          · rw [World.cell?_setCells_out _ (os.drop (kk * z1)) _ _ ⟨w.heap.size, j, none⟩ (fun _ _ => .inl (by simp; omega))]
            rw [List.getElem?_append_left (by simp only [List.length_append, htl, q1]; omega)] at hj
            have := (E4.sim.cont H.length ⟨olds.take (kk * z1) ++ news, 2⟩ w.heap.size 0 ROW.size (hNk _) (by simp) (upd_same _ _ _)).2 j u hj
            simpa using this
          · rw [List.getElem?_append_right (by simp only [List.length_append, hotl, q4]; omega)] at hcj'
            simp only [List.length_append, hotl, q4] at hcj'
            have hlt : j - (kk * z1 + m * z1) < (os.drop (kk * z1)).length := by
              rcases Nat.lt_or_ge (j - (kk * z1 + m * z1)) (os.drop (kk * z1)).length with h' | h'
              · exact h'
              · rw [List.getElem?_eq_none h'] at hcj'; cases hcj'
            have hin2 := World.cell?_setCells_in w.heap.size (os.drop (kk * z1)) ((kk + m) * z1) ((((w.alloc (.cells ROW (ρ.t 9))).drew).setCells w.heap.size (kk * z1) ns).drew) (fun t ht => hcell1 _ (by omega)) (j - (kk * z1 + m * z1)) hlt
            rw [show (kk + m) * z1 + (j - (kk * z1 + m * z1)) = j by omega] at hin2
            refine ⟨c, ?_, hcr.mono (s.upd_le _)⟩
            rw [hin2]
            rw [List.getElem?_eq_getElem hlt] at hcj'
            exact hcj'⟩)
        rw [hset] at E5
        refine ⟨_, _, rfl, (((E1.trans E2).trans E3).trans E4).trans E5, ?_⟩
        refine .sl (upd_same _ _ _) hge (fun _ => rfl) ?_
        omega

end Go.Proofs.Ev

namespace Go.Proofs.Ev
open Go Go.RowKit

inductive Ex where
  | normal
  | exit (id : Nat)
  | ret

def Ex.conv : Ex → Exit
  | .normal => .normal
  | .exit id => .exit id
  | .ret => .ret

abbrev St := Ex × List V × Heap

/-- So many rounds at most. -/
def iter (f : List V → Heap → Option St) : Nat → List V → Heap → Option St
  | 0, _, _ => none
  | n + 1, T, H => match f T H with
    | some (.normal, T', H') => iter f n T' H'
    | r => r

def evC (P : Program) (call : CallF) (n : Nat) : Code → List V → Heap → Option St
  | .skip, T, H => some (.normal, T, H)
  | .region _ ops draw, T, H => if draw = true then (match evDraw P call ops T H with
      | some (T', H') => some (.normal, T', H')
      | none => none) else (match evOps P call ops (List.range ops.size) T H with
      | some (T', H') => some (.normal, T', H')
      | none => none)
  | .seq a b, T, H => match evC P call n a T H with
    | some (.normal, T', H') => evC P call n b T' H'
    | r => r
  | .cond c x y, T, H => match evalO T c with
    | some (.bool true) => evC P call n x T H
    | some (.bool false) => evC P call n y T H
    | _ => none
  | .block id c, T, H => match evC P call n c T H with
    | some (.exit j, T', H') => if j = id then some (.normal, T', H') else some (.exit j, T', H')
    | r => r
  | .loop c, T, H => iter (evC P call n c) n T H
  | .exit id, T, H => some (.exit id, T, H)
  | .ret, T, H => some (.ret, T, H)
  | .label _, T, H => some (.normal, T, H)
  | _, _, _ => none

/-- A loop whose round has begun. -/
def LoopWp (P : Program) (c : Code) (Q : Exit → Act → World → Prop) (a : Act) (w : World) : Prop :=
  ∀ (b : Frame) (k : List Item) (cs : List Frame), ∃ e a' w', Q e a' w' ∧ Arrives P (lone (b.at a (.code c :: .inLoop c :: k)) cs w) b k cs e a' w'

theorem LoopWp.start {P : Program} {c : Code} {Q : Exit → Act → World → Prop} {a : Act} {w : World} (h : LoopWp P c Q a w) : (Code.loop c).wp P Q a w := fun b k cs => by
  obtain ⟨e, a', w', hq, harr⟩ := h b k cs
  exact ⟨e, a', w', hq, .of_steps (.one step_loop) harr⟩

theorem LoopWp.round {P : Program} {c : Code} {Q : Exit → Act → World → Prop} {a : Act} {w : World} (h : c.wp P (Exit.then (LoopWp P c Q) Q) a w) : LoopWp P c Q a w := fun b k cs => by
  obtain ⟨e, a₁, w₁, hq, harr⟩ := h b (.inLoop c :: k) cs
  cases e with
  | normal =>
    obtain ⟨e₂, a₂, w₂, hq₂, harr₂⟩ := hq b k cs
    exact ⟨e₂, a₂, w₂, hq₂, .of_steps (Steps.trans harr (.one step_inLoop)) harr₂⟩
  | exit id => exact ⟨_, a₁, w₁, hq, .pass (x := .inLoop c) rfl (fun _ _ => .inl (by simp)) harr⟩
  | goto l => exact ⟨_, a₁, w₁, hq, .pass (x := .inLoop c) rfl (fun _ _ => .inl (by simp)) harr⟩
  | ret => exact ⟨_, a₁, w₁, hq, .pass (x := .inLoop c) rfl (fun _ _ => .inl (by simp)) harr⟩
  | panic ch => exact ⟨_, a₁, w₁, hq, .pass (x := .inLoop c) rfl (fun _ _ => .inl (by simp)) harr⟩
  | outgrown => exact ⟨_, a₁, w₁, hq, .pass (x := .inLoop c) rfl (fun _ _ => .inl (by simp)) harr⟩

section
variable {P : Program} {call : CallF} {n : Nat}

theorem Leaves.trans {β β' : Inj} {H H' H'' : Heap} {w w' w'' : World} {ds : List Deferred} {T'' : List V} {a' a'' : Act} (hd : a'.defers = ds) (hE : Ext β H w β' H' w')
    (h : Leaves β' H' w' a'.defers T'' H'' a'' w'') : Leaves β H w ds T'' H'' a'' w'' := by
  obtain ⟨β'', h1, h2, h3⟩ := h
  exact ⟨β'', h1, h2.trans hd, hE.trans h3⟩

def EvOK (P : Program) (f : List V → Heap → Option St) (c : Code) : Prop := ∀ (T : List V) (H : Heap) (x : Ex) (T' : List V) (H' : Heap) (β : Inj) (a : Act) (w : World) (Q : Exit → Act → World → Prop),
  f T H = some (x, T', H') → LRel β T a.tmps → Sim β H w → (∀ a' w', Leaves β H w a.defers T' H' a' w' → Q x.conv a' w') → c.wp P Q a w

theorem iter_ok {f : List V → Heap → Option St} {c : Code} (hf : EvOK P f c) : ∀ (m : Nat) (T : List V) (H : Heap) (x : Ex) (T' : List V) (H' : Heap) (β : Inj) (a : Act) (w : World) (Q : Exit → Act → World → Prop),
    iter f m T H = some (x, T', H') → LRel β T a.tmps → Sim β H w → (∀ a' w', Leaves β H w a.defers T' H' a' w' → Q x.conv a' w') → LoopWp P c Q a w := by
  intro m
  induction m with
  | zero => intro T H x T' H' β a w Q h; simp [iter] at h
  | succ m ih =>
    intro T H x T' H' β a w Q h hT s hQ
    refine LoopWp.round ?_
    simp only [iter] at h
    split at h
    · rename_i T1 H1 h1
      refine hf T H .normal T1 H1 β a w _ h1 hT s ?_
      rintro a' w' ⟨β', k1, k2, k3⟩
      show LoopWp P c Q a' w'
      exact ih T1 H1 x T' H' β' a' w' Q h k1 k3.sim fun a'' w'' hL => hQ a'' w'' (hL.trans k2 k3)
    · rename_i hne
      refine hf T H x T' H' β a w _ h hT s fun a' w' hL => ?_
      have := hQ a' w' hL
      cases x with
      | normal => exact absurd h (hne _ _)
      | exit id => exact this
      | ret => exact this

theorem evC_ok (hm : P.follows .mixedOrders = true) (hcall : CallOK P call) : ∀ (c : Code), EvOK P (evC P call n c) c := by
  intro c
  induction c with
  | skip =>
    intro T H x T' H' β a w Q h hT s hQ
    simp only [evC, Option.some.injEq, Prod.mk.injEq] at h
    obtain ⟨rfl, rfl, rfl⟩ := h
    exact wp_skip (hQ a w ⟨β, hT, rfl, Ext.refl s⟩)
  | region id ops draw =>
    intro T H x T' H' β a w Q h hT s hQ
    simp only [evC] at h
    cases draw with
    | true =>
      simp only [if_true] at h
      split at h
      · rename_i T1 H1 h1
        cases h
        exact evDraw_wp hm hcall h1 hT s hQ
      · cases h
    | false =>
      simp only [Bool.false_eq_true, if_false] at h
      split at h
      · rename_i T1 H1 h1
        cases h
        exact wp_region (evOps_wp hcall _ T H _ _ β a w h1 hT s hQ)
      · cases h
  | seq a b iha ihb =>
    intro T H x T' H' β ac w Q h hT s hQ
    simp only [evC] at h
    refine wp_seq ?_
    split at h
    · rename_i T1 H1 h1
      refine iha T H .normal T1 H1 β ac w _ h1 hT s ?_
      rintro a' w' ⟨β', k1, k2, k3⟩
      show b.wp P Q a' w'
      exact ihb T1 H1 x T' H' β' a' w' Q h k1 k3.sim fun a'' w'' hL => hQ a'' w'' (hL.trans k2 k3)
    · rename_i hne
      refine iha T H x T' H' β ac w _ h hT s fun a' w' hL => ?_
      have := hQ a' w' hL
      cases x with
      | normal => exact absurd h (hne _ _)
      | exit id => exact this
      | ret => exact this
  | cond c x y ihx ihy =>
    intro T H ex T' H' β a w Q h hT s hQ
    simp only [evC] at h
    split at h
    · rename_i hc
      exact wp_cond_true ((evalO_rel hT) c _ hc).bool_inv (ihx T H ex T' H' β a w Q h hT s hQ)
    · rename_i hc
      exact wp_cond_false ((evalO_rel hT) c _ hc).bool_inv (ihy T H ex T' H' β a w Q h hT s hQ)
    · cases h
  | block id c ih =>
    intro T H x T' H' β a w Q h hT s hQ
    simp only [evC] at h
    refine wp_block ?_
    split at h
    · rename_i j T1 H1 h1
      split at h
      · rename_i hj
        cases h
        refine ih T H (.exit j) _ _ β a w _ h1 hT s fun a' w' hL => ?_
        show (if j = id then Q .normal a' w' else Q (.exit j) a' w')
        rw [if_pos hj]
        exact hQ a' w' hL
      · rename_i hj
        cases h
        refine ih T H (.exit j) _ _ β a w _ h1 hT s fun a' w' hL => ?_
        show (if j = id then Q .normal a' w' else Q (.exit j) a' w')
        rw [if_neg hj]
        exact hQ a' w' hL
    · rename_i hne
      refine ih T H x T' H' β a w _ h hT s fun a' w' hL => ?_
      have := hQ a' w' hL
      cases x with
      | normal => exact this
      | exit j => exact absurd h (hne _ _ _)
      | ret => exact this
  | loop c ih =>
    intro T H x T' H' β a w Q h hT s hQ
    simp only [evC] at h
    exact (iter_ok ih n T H x T' H' β a w Q h hT s hQ).start
  | exit id =>
    intro T H x T' H' β a w Q h hT s hQ
    simp only [evC, Option.some.injEq, Prod.mk.injEq] at h
    obtain ⟨rfl, rfl, rfl⟩ := h
    exact wp_exit (hQ a w ⟨β, hT, rfl, Ext.refl s⟩)
  | ret =>
    intro T H x T' H' β a w Q h hT s hQ
    simp only [evC, Option.some.injEq, Prod.mk.injEq] at h
    obtain ⟨rfl, rfl, rfl⟩ := h
    exact wp_ret (hQ a w ⟨β, hT, rfl, Ext.refl s⟩)
  | label l =>
    intro T H x T' H' β a w Q h hT s hQ
    simp only [evC, Option.some.injEq, Prod.mk.injEq] at h
    obtain ⟨rfl, rfl, rfl⟩ := h
    exact wp_label (hQ a w ⟨β, hT, rfl, Ext.refl s⟩)
  | _ =>
    intro T H x T' H' β a w Q h
    simp [evC] at h

/-! ### Functions -/

def evRes (P : Program) (T : List V) (H : Heap) : List ResultVar → Option (List V)
  | [] => some []
  | .tmp t :: r => match evRes P T H r with
    | some vs => some (T.getD t undefV :: vs)
    | none => none
  | .cell x t :: r => match T.getD x undefV with
    | .ptr (some (b, o)) => match evLoad P H t b o with
      | some v => match evRes P T H r with
        | some vs => some (v :: vs)
        | none => none
      | none => none
    | _ => none

def oneOf : List V → V
  | [v] => v
  | vs => .tup vs

/-! ### Sorting, as one step -/

def decI : V → Option Int
  | .int .i64 z => some z
  | _ => none
def decS : V → Option (List UInt8)
  | .str s => some s
  | _ => none
def mapO {α β : Type} (f : α → Option β) : List α → Option (List β)
  | [] => some []
  | a :: r => match f a with
    | some b => match mapO f r with
      | some l => some (b :: l)
      | none => none
    | none => none
def insB {α : Type} (le : α → α → Bool) (a : α) : List α → List α
  | [] => [a]
  | b :: r => bif le a b then a :: b :: r else b :: insB le a r
def sortB {α : Type} (le : α → α → Bool) : List α → List α
  | [] => []
  | a :: r => insB le a (sortB le r)
def leI (a b : Int) : Bool := decide (a ≤ b)
def leS : List UInt8 → List UInt8 → Bool
  | [], _ => true
  | _ :: _, [] => false
  | a :: r, b :: s => bif Nat.blt a.toNat b.toNat then true else bif Nat.beq a.toNat b.toNat then leS r s else false
def srtV (str : Bool) (vs : List V) : Option (List V) := bif str then (match mapO decS vs with
    | some l => some ((sortB leS l).map .str)
    | none => none) else (match mapO decI vs with
    | some l => some ((sortB leI l).map (.int .i64))
    | none => none)
/-- slices.Sort, of ints or of strings. -/
def evSrt (str : Bool) (vs : List V) (H : Heap) : Option (V × Heap) := match vs with
  | [.sl none n] => if n = 0 then some (undefV, H) else none
  | [.sl (some (b, o, z)) n] => if n = 0 then some (undefV, H) else if z = 1 ∧ 0 < n ∧ n < 4611686018427387904 then (match H[b]? with
    | some kb => if 2 ≤ kb.st then (match ldCells H b o n with
      | some us => match srtV str us with
        | some ws => some (undefV, H.set b ⟨kb.cells.take o ++ ws ++ kb.cells.drop (o + n), kb.st⟩)
        | none => none
      | none => none) else none
    | none => none) else none
  | _ => none

/-- A function of the library that is one step. -/
inductive Prim where
  | ins (z bytes : Nat)
  | yes
  | srt (str : Bool)

def evPrim : Prim → List V → Heap → Option (V × Heap)
  | .ins z bytes, vs, H => evIns z bytes vs H
  | .yes, [], H => some (.bool true, H)
  | .yes, _ :: _, _ => none
  | .srt str, vs, H => evSrt str vs H

abbrev Prims := Nat → Option Prim
def PrimsOK (P : Program) (pr : Prims) : Prop := ∀ f p, pr f = some p → enterable P f = true ∧ ∀ (vs : List V) (H : Heap) (v : V) (H' : Heap), evPrim p vs H = some (v, H') →
  ∀ (β : Inj) (cs : Array Value) (w : World), LRel β vs cs → Sim β H w →
    Calls P f cs w fun e w' => ∃ β' c, e = .returned c ∧ Ext β H w β' H' w' ∧ VRel β' v c

def noPrims : Prims := fun _ => none
theorem noPrims_ok (P : Program) : PrimsOK P noPrims := fun f p h => by cases h

def evBody (P : Program) (call : CallF) (k f : Nat) (vs : List V) (H : Heap) : Option (V × Heap) := match P.funcs[f]? with
    | none => none
    | some fn => match fn.body with
      | none => none
      | some c => match evC P call k c (vs ++ List.replicate (fn.ntmps - vs.length) undefV) H with
        | some (.exit _, _, _) => none
        | some (_, T, H') => match evRes P T H' fn.results.toList with
          | some rs => some (oneOf rs, H')
          | none => none
        | none => none

def evFn (P : Program) (pr : Prims) : Nat → CallF
  | 0, _, _, _ => none
  | k + 1, f, vs, H => match pr f with
    | some p => evPrim p vs H
    | none => evBody P (evFn P pr k) k f vs H

theorem evRes_run {β : Inj} {T : List V} {H : Heap} {w : World} {a : Act} (s : Sim β H w) (hT : LRel β T a.tmps) : ∀ (rs : List ResultVar) (vs : List V), evRes P T H rs = some vs →
    ∃ cs : List Value, (rs.mapM (m := Sem) fun
      | .tmp t => pure (a.tmps.getD t undef)
      | .cell x t => do loadVar t (← asAddr (a.tmps.getD x undef))).run P w = .ok cs w ∧ LRel β vs cs.toArray
  | [], vs, h => by
    simp only [evRes, Option.some.injEq] at h
    subst h
    exact ⟨[], rfl, LRel.nil β⟩
  | .tmp t :: r, vs, h => by
    simp only [evRes] at h
    split at h
    · rename_i vs' hvs'
      cases h
      obtain ⟨cs, h1, h2⟩ := evRes_run s hT r vs' hvs'
      have hv := evalO_rel hT (.tmp t) _ rfl
      refine ⟨a.tmps.getD t undef :: cs, ?_, LRel.cons hv h2⟩
      simp only [List.mapM_cons, Sem.run_bind, Sem.run_pure, Result.andThen_ok, h1]
    · cases h
  | .cell x t :: r, vs, h => by
    simp only [evRes] at h
    split at h
    · rename_i b o hx
      split at h
      · rename_i v hv
        split at h
        · rename_i vs' hvs'
          cases h
          obtain ⟨cs, h1, h2⟩ := evRes_run s hT r vs' hvs'
          have hr := evalO_rel hT (.tmp x) _ rfl
          simp only [hx] at hr
          obtain ⟨B, O, Z, hp, hb⟩ := hr.ptr_inv
          have hp' : a.tmps.getD x undef = .pointer (some ⟨B, O + o, none⟩) := hp
          obtain ⟨c, hc, hcr⟩ := evLoad_run (P := P) s hv hb
          refine ⟨c :: cs, ?_, LRel.cons hcr h2⟩
          have hA : (asAddr (a.tmps.getD x undef)).run P w = .ok ⟨B, O + o, none⟩ w := by rw [hp']; rfl
          simp only [List.mapM_cons, Sem.run_bind, Sem.run_pure, Result.andThen_ok, hA, hc, h1]
        · cases h
      · cases h
    · cases h

theorem results_run {β : Inj} {T : List V} {H : Heap} {w : World} {a : Act} {fn : Func} (s : Sim β H w) (hT : LRel β T a.tmps) {vs : List V} (h : evRes P T H fn.results.toList = some vs) :
    ∃ c, (results fn a.tmps).run P w = .ok c w ∧ VRel β (oneOf vs) c := by
  obtain ⟨cs, h1, h2⟩ := evRes_run s hT _ vs h
  have hm : ∀ g : ResultVar → Sem Value, (fn.results.toList.mapM (m := Sem) g).run P w = .ok cs w → (fn.results.mapM g).run P w = .ok cs.toArray w := by
    intro g hg
    rw [Array.mapM_eq_mapM_toList]
    simp only [Sem.run_map, hg, Result.andThen_ok]
  have hl : vs.length = cs.length := by simpa using h2.1
  refine ⟨if h : cs.toArray.size = 1 then cs.toArray[0] else .tuple cs.toArray, ?_, ?_⟩
  · unfold results
    refine (Sem.run_bind P w _ _).trans ?_
    refine (congrArg (Result.andThen · _) (hm _ h1)).trans ?_
    rfl
  · match vs, cs, hl, h2 with
    | [v], [c], _, h2 => exact h2.2 0 v c rfl rfl
    | [], [], _, h2 => exact h2.tup
    | v :: u :: r, c :: d :: q, _, h2 =>
      simp only [oneOf]
      rw [dif_neg (by simp)]
      exact h2.tup

theorem evFn_ok (hm : P.follows .mixedOrders = true) {pr : Prims} (hpr : PrimsOK P pr) : ∀ (k : Nat), CallOK P (evFn P pr k) := by
  intro k
  induction k with
  | zero => intro f vs H v H' h; simp [evFn] at h
  | succ k ih =>
    intro f vs H v H' h β cs w hr s
    simp only [evFn] at h
    split at h
    · rename_i p hp
      exact (hpr f p hp).2 vs H v H' h β cs w hr s
    unfold evBody at h
    split at h
    · cases h
    · rename_i fn hfn
      split at h
      · cases h
      · rename_i c hc
        have hargs : LRel β (vs ++ List.replicate (fn.ntmps - vs.length) undefV) (cs ++ Array.replicate (fn.ntmps - cs.size) undef) := by
          rw [hr.1]
          exact hr.append (LRel.replicate _ (undefV_rel β))
        have done : ∀ (x : Ex) (T : List V) (H2 : Heap), evC P (evFn P pr k) k c (vs ++ List.replicate (fn.ntmps - vs.length) undefV) H = some (x, T, H2) → (x.conv = .normal ∨ x.conv = .ret) →
            (match evRes P T H2 fn.results.toList with | some rs => some (oneOf rs, H2) | none => none) = some (v, H') →
            Calls P f cs w fun e w' => ∃ β' c, e = .returned c ∧ Ext β H w β' H' w' ∧ VRel β' v c := by
          intro x T H2 hev hx hres
          split at hres
          · rename_i rs hrs
            cases hres
            refine calls_of_wp hfn hc (evC_ok (n := k) hm ih c _ H x T _ β _ w _ hev hargs s ?_)
            rintro a' w' ⟨β', k1, k2, k3⟩
            obtain ⟨cv, h1, h2⟩ := results_run (fn := fn) k3.sim k1 hrs
            rcases hx with hx | hx <;> rw [hx] <;> exact ⟨k2, cv, h1, β', cv, rfl, k3, h2⟩
          · cases hres
        split at h
        · cases h
        · rename_i x T H2 hne hev
          refine done x T H2 hev ?_ h
          cases x with
          | normal => exact .inl rfl
          | exit id => exact absurd rfl (hne id)
          | ret => exact .inr rfl
        · cases h

/-- A function without arguments that in the run answers true. -/
theorem closed_calls (hm : P.follows .mixedOrders = true) {pr : Prims} (hpr : PrimsOK P pr) {k f : Nat} {v : V} {H' : Heap} (h : evFn P pr k f [] [] = some (v, H')) (w : World) :
    Calls P f #[] w fun e w' => ∃ β' c, e = .returned c ∧ VRel β' v c ∧ Below w.heap.size w w' := by
  have s : Sim (fun _ => none) [] w := ⟨fun b x h => (by cases h), fun b B O Z h => (by cases h), fun b B h => (by cases h), fun b k B O Z _ _ h => (by cases h), fun b k B O Z _ _ h => (by cases h), fun b k B O Z b' k' B' O' Z' _ _ _ _ _ h => (by cases h)⟩
  refine (evFn_ok hm hpr k f [] [] v H' h (fun _ => none) #[] w (LRel.nil _) s).mono ?_
  rintro e w' ⟨β', c, rfl, hE, hv⟩
  refine ⟨β', c, rfl, hv, hE.os, hE.tape, hE.output, hE.size, fun B hB => hE.frame B hB ?_⟩
  rintro ⟨b, k, O, Z, hk, _⟩
  simp at hk

def saysTrue : Option (V × Heap) → Bool
  | some (.bool true, _) => true
  | _ => false

theorem closed_true (hm : P.follows .mixedOrders = true) {pr : Prims} (hpr : PrimsOK P pr) {k f : Nat} (h : saysTrue (evFn P pr k f [] []) = true) (w : World) :
    Calls P f #[] w fun e w' => e = .returned (.bool true) ∧ Below w.heap.size w w' := by
  unfold saysTrue at h
  split at h
  · rename_i H' hev
    refine (closed_calls hm hpr hev w).mono ?_
    rintro e w' ⟨β', c, rfl, hv, hb⟩
    obtain rfl := hv.bool_inv
    exact ⟨rfl, hb⟩
  · cases h

end

theorem Sim.as {β : Inj} {H : Heap} {w w' : World} (s : Sim β H w) (hb : Below w.heap.size w w') : Sim β H w' := by
  have same : ∀ b B O Z, β b = some (B, O, Z) → w'.heap[B]? = w.heap[B]? := fun b B O Z h => hb.block B (s.lt h)
  have cell : ∀ b B O Z j, β b = some (B, O, Z) → w'.cell? ⟨B, j, none⟩ = w.cell? ⟨B, j, none⟩ := fun b B O Z j h => by
    unfold World.cell?
    rw [same b B O Z h]
  refine ⟨s.dom, fun b B O Z h => ?_, fun b B h => (s.mp b B h).keep (same b B 1 0 h) rfl (fun _ _ h => h) (by obtain ⟨⟨_, _, _, _, _, _, hn, _⟩, _⟩ := s.mp b B h; exact hn) (fun _ _ _ h => h), fun b k B O Z hk hst h => ?_, fun b k B O Z hk hst h => (s.warm b k B O Z hk hst h).of_block (same b B O Z h), s.sep⟩
  · rw [same b B O Z h]
    exact s.blk b B O Z h
  · obtain ⟨h1, h2⟩ := s.cont b k B O Z hk hst h
    refine ⟨h1, fun i v hv => ?_⟩
    rw [cell b B O Z (O + i) h]
    exact h2 i v hv
/-- A function without arguments that answers true is one step. -/
theorem yes_ok {P : Program} (hm : P.follows .mixedOrders = true) {k f : Nat} (h : saysTrue (evFn P noPrims k f [] []) = true) (vs : List V) (H : Heap) (v : V) (H' : Heap) (he : evPrim .yes vs H = some (v, H'))
    (β : Inj) (cs : Array Value) (w : World) (hL : LRel β vs cs) (s : Sim β H w) : Calls P f cs w fun e w' => ∃ β' c, e = .returned c ∧ Ext β H w β' H' w' ∧ VRel β' v c := by
  cases vs with
  | cons a l => cases he
  | nil =>
    cases he
    have hc : cs = #[] := by
      obtain ⟨h1, _⟩ := hL
      exact Array.eq_empty_of_size_eq_zero (by simpa using h1.symm)
    subst hc
    refine (closed_true hm (noPrims_ok P) h w).mono ?_
    rintro e w' ⟨rfl, hb⟩
    exact ⟨β, .bool true, rfl, ⟨s.as hb, fun _ _ => rfl, Nat.le_refl _, hb.os, hb.tape, hb.output, hb.size, fun B hB _ => hb.block B hB, fun _ h => .inl h⟩, .bool true⟩

end Go.Proofs.Ev

namespace Go.Proofs.Ev
open Go Go.Shelf Go.RowKit Go.Lib Go.Proofs Go.Sort

/-! ### Sorted rows -/
section
variable {α : Type} {le : α → α → Bool}
theorem insB_perm (a : α) : ∀ (l : List α), (insB le a l).Perm (a :: l)
  | [] => List.Perm.refl _
  | b :: r => by
    simp only [insB]
    cases le a b with
    | true => exact List.Perm.refl _
    | false => exact ((insB_perm a r).cons b).trans (List.Perm.swap a b r)
theorem sortB_perm : ∀ (l : List α), (sortB le l).Perm l
  | [] => List.Perm.refl _
  | a :: r => (insB_perm a _).trans ((sortB_perm r).cons a)
theorem insB_sorted (htr : ∀ a b c, le a b = true → le b c = true → le a c = true) (htot : ∀ a b, le a b = true ∨ le b a = true) (a : α) : ∀ (l : List α), l.Pairwise (fun x y => le x y = true) → (insB le a l).Pairwise fun x y => le x y = true
  | [], _ => by simp [insB]
  | b :: r, h => by
    have h' := List.pairwise_cons.1 h
    simp only [insB]
    cases hab : le a b with
    | true =>
      refine List.pairwise_cons.2 ⟨fun y hy => ?_, h⟩
      rcases List.mem_cons.1 hy with rfl | hy
      · exact hab
      · exact htr _ _ _ hab (h'.1 y hy)
    | false =>
      refine List.pairwise_cons.2 ⟨fun y hy => ?_, insB_sorted htr htot a r h'.2⟩
      rcases List.mem_cons.1 ((insB_perm a r).mem_iff.1 hy) with rfl | hy
      · rcases htot y b with k | k
        · rw [k] at hab; cases hab
        · exact k
      · exact h'.1 y hy
theorem sortB_sorted (htr : ∀ a b c, le a b = true → le b c = true → le a c = true) (htot : ∀ a b, le a b = true ∨ le b a = true) : ∀ (l : List α), (sortB le l).Pairwise fun x y => le x y = true
  | [] => List.Pairwise.nil
  | a :: r => insB_sorted htr htot a _ (sortB_sorted htr htot r)
theorem sorted_one (hanti : ∀ a b, le a b = true → le b a = true → a = b) : ∀ (l m : List α), l.Pairwise (fun x y => le x y = true) → m.Pairwise (fun x y => le x y = true) → l.Perm m → l = m
  | [], m, _, _, h => h.nil_eq
  | a :: r, [], _, _, h => absurd h.length_eq (by simp)
  | a :: r, b :: s, hl, hm, h => by
    have hl' := List.pairwise_cons.1 hl
    have hm' := List.pairwise_cons.1 hm
    have hab : a = b := by
      rcases List.mem_cons.1 (h.mem_iff.1 (List.mem_cons_self (a := a) (l := r))) with k | k
      · exact k
      · rcases List.mem_cons.1 (h.mem_iff.2 (List.mem_cons_self (a := b) (l := s))) with k2 | k2
        · exact k2.symm
        · exact hanti _ _ (hl'.1 _ k2) (hm'.1 _ k)
    subst hab
    rw [sorted_one hanti r s hl'.2 hm'.2 (List.Perm.cons_inv h)]
theorem sortB_eq (htr : ∀ a b c, le a b = true → le b c = true → le a c = true) (htot : ∀ a b, le a b = true ∨ le b a = true) (hanti : ∀ a b, le a b = true → le b a = true → a = b) (l : List α) : sortB le l = l.mergeSort le :=
  sorted_one hanti _ _ (sortB_sorted htr htot l) (List.pairwise_mergeSort htr (fun a b => by rcases htot a b with k | k <;> simp [k]) l) ((sortB_perm l).trans (List.mergeSort_perm l le).symm)
theorem sortB_length (l : List α) : (sortB le l).length = l.length := (sortB_perm l).length_eq
end
theorem sortI_eq (l : List Int) : sortB leI l = l.mergeSort fun x y => decide (x ≤ y) := by
  refine sortB_eq (le := leI) ?_ ?_ ?_ l
  · intro a b c; simp only [leI, decide_eq_true_eq]; omega
  · intro a b; simp only [leI, decide_eq_true_eq]; omega
  · intro a b; simp only [leI, decide_eq_true_eq]; omega

theorem leS_cons (a b : UInt8) (r s : List UInt8) : leS (a :: r) (b :: s) = true ↔ a.toNat < b.toNat ∨ a.toNat = b.toNat ∧ leS r s = true := by
  simp only [leS]
  by_cases h : a.toNat < b.toNat
  · rw [show Nat.blt a.toNat b.toNat = true from Nat.ble_eq_true_of_le h]
    simp [h]
  · rw [show Nat.blt a.toNat b.toNat = false from by
        cases hb : Nat.blt a.toNat b.toNat with
        | false => rfl
        | true => exact absurd (Nat.le_of_ble_eq_true hb) h]
    by_cases h2 : a.toNat = b.toNat
    · rw [show Nat.beq a.toNat b.toNat = true from by rw [h2]; exact Nat.beq_refl _]
      simp [h2]
    · rw [show Nat.beq a.toNat b.toNat = false from by
        cases hb : Nat.beq a.toNat b.toNat with
        | false => rfl
        | true => exact absurd (Nat.eq_of_beq_eq_true hb) h2]
      simp [h, h2]
theorem leS_trans : ∀ (a b c : List UInt8), leS a b = true → leS b c = true → leS a c = true
  | [], b, c, _, _ => by simp [leS]
  | x :: a, [], c, h, _ => by simp [leS] at h
  | x :: a, y :: b, [], _, h => by simp [leS] at h
  | x :: a, y :: b, z :: c, h1, h2 => by
    rw [leS_cons] at h1 h2 ⊢
    rcases h1 with h1 | ⟨h1, h1'⟩
    · rcases h2 with h2 | ⟨h2, h2'⟩
      · exact .inl (by omega)
      · exact .inl (by omega)
    · rcases h2 with h2 | ⟨h2, h2'⟩
      · exact .inl (by omega)
      · exact .inr ⟨by omega, leS_trans a b c h1' h2'⟩
theorem leS_total : ∀ (a b : List UInt8), leS a b = true ∨ leS b a = true
  | [], b => .inl (by simp [leS])
  | x :: a, [] => .inr (by simp [leS])
  | x :: a, y :: b => by
    rw [leS_cons, leS_cons]
    rcases leS_total a b with h | h
    · rcases Nat.lt_trichotomy x.toNat y.toNat with k | k | k
      · exact .inl (.inl k)
      · exact .inl (.inr ⟨k, h⟩)
      · exact .inr (.inl k)
    · rcases Nat.lt_trichotomy x.toNat y.toNat with k | k | k
      · exact .inl (.inl k)
      · exact .inr (.inr ⟨k.symm, h⟩)
      · exact .inr (.inl k)
theorem leS_anti : ∀ (a b : List UInt8), leS a b = true → leS b a = true → a = b
  | [], [], _, _ => rfl
  | [], y :: b, _, h => by simp [leS] at h
  | x :: a, [], h, _ => by simp [leS] at h
  | x :: a, y :: b, h1, h2 => by
    rw [leS_cons] at h1 h2
    rcases h1 with h1 | ⟨h1, h1'⟩
    · rcases h2 with h2 | ⟨h2, h2'⟩ <;> omega
    · rcases h2 with h2 | ⟨h2, h2'⟩
      · omega
      · rw [leS_anti a b h1' h2', UInt8.toNat_inj.1 h1]
theorem leS_lt : ∀ (a b : List UInt8), leS a b = false ↔ b < a
  | [], b => by simp [leS]
  | x :: a, [] => by simp [leS]
  | x :: a, y :: b => by
    have ih := leS_lt a b
    rw [List.cons_lt_cons_iff, ← ih, ← Bool.not_eq_true, leS_cons, UInt8.lt_iff_toNat_lt, ← UInt8.toNat_inj]
    cases leS a b <;> simp <;> omega
theorem leS_le (a b : List UInt8) : leS a b = decide (a ≤ b) := by
  cases h : leS a b with
  | true =>
    have : a ≤ b := fun k => by rw [(leS_lt a b).2 k] at h; cases h
    simp [this]
  | false =>
    have h1 := (leS_lt a b).1 h
    have : ¬ a ≤ b := fun k => k h1
    simp [this]
theorem sortS_eq (l : List (List UInt8)) : sortB leS l = l.mergeSort fun x y => decide (x ≤ y) := by
  rw [sortB_eq leS_trans leS_total leS_anti l]
  congr 1
  funext x y
  exact leS_le x y

/-! ### The world behind it -/
theorem setCells_put {α : Type} [Inhabited α] (enc : α → Value) (blk : Nat) : ∀ (l : List α) (off : Nat) (w : World), w.setCells blk off (l.map enc) = putRow enc w blk off l.toArray
  | [], off, w => by
    rw [List.map_nil]
    unfold putRow
    rw [mapBlock_id]
    · rfl
    · intro c e fr h
      apply Array.ext_getElem?
      intro k
      simp only [putCells, Array.getElem?_mapIdx]
      cases c[k]? with
      | none => rfl
      | some y => rw [Option.map_some, if_neg (fun k => by simp at k; omega)]
  | x :: r, off, w => by
    rw [List.map_cons]
    show ((w.setCell ⟨blk, off, none⟩ (enc x)).setCells blk (off + 1) (r.map enc)) = _
    rw [setCells_put enc blk r (off + 1), setCell_eq]
    unfold putRow
    rw [mapBlock_mapBlock]
    refine mapBlock_congr _ _ _ _ fun c e fr h => ?_
    apply Array.ext_getElem?
    intro k
    simp only [putCells, Array.getElem?_mapIdx, Array.getElem?_setIfInBounds]
    by_cases hk : off = k
    · subst hk
      rw [if_pos rfl]
      by_cases hc : off < c.size
      · rw [if_pos hc, Array.getElem?_eq_getElem hc, Option.map_some, Option.map_some, if_neg (by simp; omega), if_pos (by simp)]
        simp
      · rw [if_neg hc, Array.getElem?_eq_none (by omega)]
        rfl
    · rw [if_neg hk]
      cases c[k]? with
      | none => rfl
      | some y =>
        rw [Option.map_some, Option.map_some]
        by_cases hr : off + 1 ≤ k ∧ k < off + 1 + r.toArray.size
        · have hr' : off ≤ k ∧ k < off + (x :: r).toArray.size := by simp at hr ⊢; omega
          rw [if_pos hr, if_pos hr']
          obtain ⟨j, rfl⟩ : ∃ j, k = off + 1 + j := ⟨k - (off + 1), by omega⟩
          have hj : j < r.length := by simp at hr; omega
          rw [show off + 1 + j - (off + 1) = j by omega, show off + 1 + j - off = j + 1 by omega]
          rw [getElem!_pos _ _ (by simpa using hj), getElem!_pos _ _ (by simpa using hj)]
          simp
        · have hr' : ¬ (off ≤ k ∧ k < off + (x :: r).toArray.size) := by simp at hr ⊢; omega
          rw [if_neg hr, if_neg hr']

theorem Ext.grown {β : Inj} {H : Heap} {w : World} (s : Sim β H w) (os : Array Obj) : Ext β H w β H (Go.Sort.grow w os) := by
  have hb : Below w.heap.size w (Go.Sort.grow w os) := ⟨rfl, rfl, rfl, by simp, fun k hk => heap_grow_old w os hk⟩
  exact ⟨s.as hb, fun _ _ => rfl, Nat.le_refl _, hb.os, hb.tape, hb.output, hb.size, fun B hB _ => hb.block B hB, fun _ h => .inl h⟩
theorem Ext.ahead {β : Inj} {H : Heap} {w : World} (s : Sim β H w) (n : Nat) : Ext β H w β H (Go.Sort.ahead w n) := by
  have hb : Below w.heap.size w (Go.Sort.ahead w n) := ⟨rfl, rfl, rfl, Nat.le_refl _, fun k hk => rfl⟩
  exact ⟨s.as hb, fun _ _ => rfl, Nat.le_refl _, hb.os, hb.tape, hb.output, hb.size, fun B hB _ => hb.block B hB, fun _ h => .inl h⟩

/-- What a sort of one kind gives. -/
def SortRun (P : Program) (f : Nat) {α : Type} [Inhabited α] (enc : α → Value) (srt : List α → List α) : Prop := ∀ (blk off cap : Nat) (zs : List α) (w : World), Holds enc w blk off zs.toArray → blk < w.heap.size → zs.length < 4611686018427387904 →
  Calls P f #[.slice (some ⟨blk, off, none⟩) zs.length cap] w fun e w' => e = .returned (.tuple #[]) ∧ ∃ n os, w' = Go.Sort.grow (putRow enc (Go.Sort.ahead w n) blk off (srt zs).toArray) os
def SortNil (P : Program) (f : Nat) : Prop := ∀ (w : World), Calls P f #[.slice none 0 0] w fun e w' => e = .returned (.tuple #[]) ∧ Below w.heap.size w w'

theorem lrel1 {β : Inj} {a : V} {cs : Array Value} (h : LRel β [a] cs) : ∃ x, cs = #[x] ∧ VRel β a x := by
  obtain ⟨l⟩ := cs
  have hl := h.1
  match l, hl with
  | [x], _ => exact ⟨x, rfl, h.2 0 _ _ rfl rfl⟩

theorem srt_core {P : Program} {f : Nat} {α : Type} [Inhabited α] {enc : α → Value} {encV : α → V} {srt : List α → List α} (hV : ∀ (β : Inj) a c, VRel β (encV a) c → c = enc a) (hV' : ∀ (β : Inj) a, VRel β (encV a) (enc a)) (hlen : ∀ l, (srt l).length = l.length)
    (hrun : SortRun P f enc srt) {β : Inj} {H : Heap} {w : World} (s : Sim β H w) {b o n B O Z x cap : Nat} {kb : Blk} (hn0 : 0 < n) (hn : n < 4611686018427387904) (hk : H[b]? = some kb) (hst : 2 ≤ kb.st) (hb : β b = some (B, O, Z)) (hx : x = O + o) {zs : List α}
    (hl : ldCells H b o n = some (zs.map encV)) :
    Calls P f #[.slice (some ⟨B, x, none⟩) n cap] w fun e w' => ∃ β' c, e = .returned c ∧ Ext β H w β' (H.set b ⟨kb.cells.take o ++ (srt zs).map encV ++ kb.cells.drop (o + n), kb.st⟩) w' ∧ VRel β' undefV c := by
  subst hx
  obtain ⟨q1, q2, cs, q3, q4, q5⟩ := ldCells_spec s hl hb
  have hzn : zs.length = n := by simpa using q1
  have hcs : ∀ j (h : j < zs.length), w.cell? ⟨B, O + o + j, none⟩ = some (enc zs[j]) := fun j h => by
    have hj : j < cs.length := by omega
    have h1 := q5 j _ (List.getElem?_eq_getElem hj)
    rw [add_at] at h1
    rw [h1]
    have h2 := q3.2 j (encV zs[j]) cs[j] (by simp [h]) (by simp [hj])
    rw [hV β _ _ h2]
  have hold : o + n ≤ kb.cells.length := by
    unfold ldCells at hl
    rw [hk] at hl
    simp only at hl
    split at hl
    · split at hl
      · assumption
      · cases hl
    · cases hl
  obtain ⟨hZ, hc0⟩ := s.cont b kb B O Z hk (by omega) hb
  have hH : Holds enc w B (O + o) zs.toArray := fun j hj => by
    have hj' : j < zs.length := by simpa using hj
    refine ⟨?_, s.thaw b kb B O Z hk hst hb _ (by omega)⟩
    rw [hcs j hj', getElem!_pos zs.toArray j hj]
    simp
  have hr := hrun B (O + o) cap zs w hH (s.lt hb) (by omega)
  rw [hzn] at hr
  refine hr.mono ?_
  rintro e w' ⟨rfl, nn, os, rfl⟩
  have E0 := Ext.ahead s nn
  rw [← setCells_put]
  have E1 := Ext.store E0.sim hk hst hb (O + o) ((srt zs).map enc) (by rw [List.length_map, hlen]; omega) ⟨kb.cells.take o ++ (srt zs).map encV ++ kb.cells.drop (o + n), kb.st⟩ (.inl rfl) (fun _ => by
    have hsl : ((srt zs).map encV).length = n := by rw [List.length_map, hlen, hzn]
    have htl : (kb.cells.take o).length = o := by rw [List.length_take]; omega
    refine ⟨by simp only [List.length_append, htl, hsl, List.length_drop]; omega, fun i v hv => ?_⟩
    rcases Nat.lt_or_ge i o with hi | hi
    · rw [List.append_assoc, List.getElem?_append_left (by omega), List.getElem?_take_of_lt hi] at hv
      rw [World.cell?_setCells_out B _ _ _ ⟨B, O + i, none⟩ (fun _ _ => .inl (by simp; omega))]
      exact hc0 i v hv
    · rcases Nat.lt_or_ge i (o + n) with hi2 | hi2
      · rw [List.append_assoc, List.getElem?_append_right (by omega), htl, List.getElem?_append_left (by omega), List.getElem?_map] at hv
        have hlt : i - o < (srt zs).length := by rw [hlen]; omega
        rw [List.getElem?_eq_getElem hlt] at hv
        cases hv
        have hin := World.cell?_setCells_in B ((srt zs).map enc) (O + o) (Go.Sort.ahead w nn) (fun t ht => by
          rw [List.length_map, hlen] at ht
          rw [cell?_ahead, hcs t (by omega)]
          rfl) (i - o) (by rw [List.length_map]; exact hlt)
        rw [show O + o + (i - o) = O + i by omega] at hin
        rw [hin]
        simp only [List.getElem_map]
        exact ⟨_, rfl, hV' β _⟩
      · rw [List.getElem?_append_right (by simp only [List.length_append, htl, hsl]; omega)] at hv
        simp only [List.length_append, htl, hsl, List.getElem?_drop] at hv
        rw [show o + n + (i - (o + n)) = i by omega] at hv
        rw [World.cell?_setCells_out B _ _ _ ⟨B, O + i, none⟩ (fun _ _ => .inr (by simp only [List.length_map, hlen]; omega))]
        exact hc0 i v hv)
  have E2 := Ext.grown E1.sim os
  exact ⟨β, _, rfl, (E0.trans E1).trans E2, (LRel.nil β).tup⟩

theorem srt_none {P : Program} {f : Nat} {α : Type} [Inhabited α] {enc : α → Value} {srt : List α → List α} (hs : srt [] = []) (hrun : SortRun P f enc srt) {β : Inj} {H : Heap} {w : World} (s : Sim β H w) {B : Nat} (hB : B < w.heap.size) (x cap : Nat) :
    Calls P f #[.slice (some ⟨B, x, none⟩) 0 cap] w fun e w' => ∃ β' c, e = .returned c ∧ Ext β H w β' H w' ∧ VRel β' undefV c := by
  refine (hrun B x cap [] w (fun j hj => by simp at hj) hB (by simp)).mono ?_
  rintro e w' ⟨rfl, n, os, rfl⟩
  rw [hs, ← setCells_put]
  have E0 := Ext.ahead s n
  have E1 := Ext.grown E0.sim os
  exact ⟨β, _, rfl, E0.trans E1, (LRel.nil β).tup⟩

theorem mapO_inv {α : Type} {f : V → Option α} {encV : α → V} (hf : ∀ v a, f v = some a → v = encV a) : ∀ (vs : List V) (l : List α), mapO f vs = some l → vs = l.map encV
  | [], l, h => by cases h; rfl
  | v :: r, l, h => by
    simp only [mapO] at h
    split at h
    · rename_i a ha
      split at h
      · rename_i m hm
        cases h
        rw [List.map_cons, ← hf v a ha, ← mapO_inv hf r m hm]
      · cases h
    · cases h

def SrtSpec (P : Program) (f : Nat) : Bool → Prop
  | false => SortRun P f (Value.int .i64) (sortB leI)
  | true => SortRun P f (fun s : List UInt8 => Value.string ⟨s.toArray⟩) (sortB leS)

theorem srt_ok {P : Program} {f : Nat} {str : Bool} (hnil : SortNil P f) (hrun : SrtSpec P f str) (vs : List V) (H : Heap) (v : V) (H' : Heap) (he : evPrim (.srt str) vs H = some (v, H'))
    (β : Inj) (cs : Array Value) (w : World) (hL : LRel β vs cs) (s : Sim β H w) : Calls P f cs w fun e w' => ∃ β' c, e = .returned c ∧ Ext β H w β' H' w' ∧ VRel β' v c := by
  simp only [evPrim] at he
  unfold evSrt at he
  split at he
  · rename_i n
    split at he
    case isFalse => cases he
    rename_i hn
    subst hn
    cases he
    obtain ⟨x, rfl, hx⟩ := lrel1 hL
    obtain rfl := hx.slN_inv
    refine (hnil w).mono ?_
    rintro e w' ⟨rfl, hb⟩
    exact ⟨β, _, rfl, ⟨s.as hb, fun _ _ => rfl, Nat.le_refl _, hb.os, hb.tape, hb.output, hb.size, fun B hB _ => hb.block B hB, fun _ h => .inl h⟩, (LRel.nil β).tup⟩
  · rename_i b o z n
    split at he
    · rename_i hn
      subst hn
      cases he
      obtain ⟨y, rfl, hy⟩ := lrel1 hL
      obtain ⟨B, O, Z, x, cap, rfl, hb, hncap, hx, hroom⟩ := hy.sl_inv
      cases str with
      | false => exact srt_none (enc := Value.int .i64) (srt := sortB leI) rfl hrun s (s.lt hb) x cap
      | true => exact srt_none (enc := fun s : List UInt8 => Value.string ⟨s.toArray⟩) (srt := sortB leS) rfl hrun s (s.lt hb) x cap
    rename_i hnn
    split at he
    case isFalse => cases he
    rename_i hc
    obtain ⟨rfl, hn0, hn⟩ := hc
    split at he
    case h_2 => cases he
    rename_i kb hkb
    split at he
    case isFalse => cases he
    rename_i hst
    split at he
    case h_2 => cases he
    rename_i us hus
    split at he
    case h_2 => cases he
    rename_i ws hws
    cases he
    obtain ⟨y, rfl, hy⟩ := lrel1 hL
    obtain ⟨B, O, Z, x, cap, rfl, hb, hncap, hx, hroom⟩ := hy.sl_inv
    cases str with
    | false =>
      simp only [srtV, cond_false] at hws
      split at hws
      · rename_i l hl
        cases hws
        have hu := mapO_inv (encV := fun z : Int => V.int .i64 z) (fun v a h => by
          unfold decI at h
          split at h
          · cases h; rfl
          · cases h) us l hl
        subst hu
        exact srt_core (encV := fun z : Int => V.int .i64 z) (fun β a c h => h.int_inv) (fun β a => .int _ _) (fun l => sortB_length l) hrun s hn0 hn hkb hst hb (hx (by omega)) hus
      · cases hws
    | true =>
      simp only [srtV, cond_true] at hws
      split at hws
      · rename_i l hl
        cases hws
        have hu := mapO_inv (encV := fun z : List UInt8 => V.str z) (fun v a h => by
          unfold decS at h
          split at h
          · cases h; rfl
          · cases h) us l hl
        subst hu
        exact srt_core (encV := fun z : List UInt8 => V.str z) (fun β a c h => by cases h; rfl) (fun β a => .str _) (fun l => sortB_length l) hrun s hn0 hn hkb hst hb (hx (by omega)) hus
      · cases hws
  · cases he

theorem calls_of {l : List FuncId} {n : Nat} {P : Program} {f : FuncId} {args : Array Value} {w : World} {R : Ending → World → Prop} (h : ∀ D, CallsIn (Fence.list l (some D)) n P f args w R) : Calls P f args w R := fun cs =>
  let ⟨e, w', fr, r, s, x⟩ := (h (cs.length + 1 + n)).2 cs (fun d hd => by cases hd; omega)
  ⟨e, w', fr, r, s.comes, x⟩

def saysUnit : Option (V × Heap) → Bool
  | some (.tup [], _) => true
  | _ => false

/-- A sort of nothing, as it is carried out. -/
theorem srtNil_ok {P : Program} (hm : P.follows .mixedOrders = true) {k f : Nat} (h : saysUnit (evFn P noPrims k f [.sl none 0] []) = true) : SortNil P f := by
  intro w
  unfold saysUnit at h
  split at h
  · rename_i H' hev
    have s : Sim (fun _ => none) [] w := ⟨fun b x h => (by cases h), fun b B O Z h => (by cases h), fun b B h => (by cases h), fun b k B O Z _ _ h => (by cases h), fun b k B O Z _ _ h => (by cases h), fun b k B O Z b' k' B' O' Z' _ _ _ _ _ h => (by cases h)⟩
    refine (evFn_ok hm (noPrims_ok P) k f _ [] _ H' hev (fun _ => none) #[.slice none 0 0] w ?_ s).mono ?_
    · exact ⟨rfl, fun i v c hv hc => by
        cases i with
        | zero => cases hv; cases hc; exact .nils
        | succ i => simp at hv⟩
    · rintro e w' ⟨β', c, rfl, hE, hv⟩
      refine ⟨?_, hE.os, hE.tape, hE.output, hE.size, fun B hB => hE.frame B hB ?_⟩
      · cases hv with
        | tup hl h =>
          simp at hl
          rw [Array.eq_empty_of_size_eq_zero hl.symm]
      · rintro ⟨b, k, O, Z, hk, _⟩
        simp at hk
  · cases h
end Go.Proofs.Ev
