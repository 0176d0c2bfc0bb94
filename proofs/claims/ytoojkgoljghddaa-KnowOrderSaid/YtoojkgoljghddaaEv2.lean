/-
  What is proved here: a run of a program's text on values and blocks of its own, which draws nothing, is followed by the model's run, whatever is drawn there.
  Conditions: none.
-/
import Derived.Test.YtoojkgoljghddaaEv1
import Derived.Lib.IndexBytes
set_option linter.unusedVariables false
set_option linter.unusedSimpArgs false
namespace Go.Proofs.Ev
open Go Go.RowKit

/-! ### A table -/

inductive Tr (α : Type) where
  | nil
  | node (l : Tr α) (o : Option α) (r : Tr α)

/-- The way to a place. -/
inductive Pth where
  | e
  | l (p : Pth)
  | r (p : Pth)

def pthF : Nat → Nat → Pth
  | 0, _ => .e
  | f + 1, n => bif Nat.beq n 0 then .e else bif Nat.beq (n % 2) 1 then .l (pthF f (n / 2)) else .r (pthF f (n / 2 - 1))
def pth (n : Nat) : Pth := pthF 13 n

theorem beq_iff (n m : Nat) : Nat.beq n m = true ↔ n = m := ⟨Nat.eq_of_beq_eq_true, fun h => by subst h; exact Nat.beq_refl n⟩
theorem beq_false (n m : Nat) (h : n ≠ m) : Nat.beq n m = false := by
  cases hb : Nat.beq n m with
  | false => rfl
  | true => exact absurd ((beq_iff n m).1 hb) h

theorem pthF_inj : ∀ (f n m : Nat), n + 1 < 2 ^ (f + 1) → m + 1 < 2 ^ (f + 1) → pthF f n = pthF f m → n = m
  | 0, n, m, hn, hm, _ => by simp at hn hm; omega
  | f + 1, n, m, hn, hm, h => by
    have hp : 2 ^ (f + 1 + 1) = 2 ^ (f + 1) * 2 := Nat.pow_succ ..
    have key : ∀ k, k + 1 < 2 ^ (f + 1 + 1) → (k = 0 ∧ pthF (f + 1) k = .e) ∨ (k % 2 = 1 ∧ pthF (f + 1) k = .l (pthF f (k / 2)) ∧ k / 2 + 1 < 2 ^ (f + 1)) ∨ (k ≠ 0 ∧ k % 2 = 0 ∧ pthF (f + 1) k = .r (pthF f (k / 2 - 1)) ∧ k / 2 - 1 + 1 < 2 ^ (f + 1)) := by
      intro k hk
      by_cases h0 : k = 0
      · exact .inl ⟨h0, by simp [pthF, (beq_iff _ _).2 h0]⟩
      · by_cases h1 : k % 2 = 1
        · exact .inr (.inl ⟨h1, by simp [pthF, beq_false _ _ h0, (beq_iff _ _).2 h1], by omega⟩)
        · exact .inr (.inr ⟨h0, by omega, by simp [pthF, beq_false _ _ h0, beq_false _ _ h1], by omega⟩)
    rcases key n hn with ⟨a1, a2⟩ | ⟨a1, a2, a3⟩ | ⟨a0, a1, a2, a3⟩ <;> rcases key m hm with ⟨b1, b2⟩ | ⟨b1, b2, b3⟩ | ⟨b0, b1, b2, b3⟩ <;> rw [a2, b2] at h
    · omega
    · cases h
    · cases h
    · cases h
    · have := pthF_inj f _ _ a3 b3 (Pth.l.inj h)
      omega
    · cases h
    · cases h
    · cases h
    · have := pthF_inj f _ _ a3 b3 (Pth.r.inj h)
      omega

theorem pth_inj {n m : Nat} (hn : n < 16000) (hm : m < 16000) (h : pth n = pth m) : n = m := pthF_inj 13 n m (by omega) (by omega) h

def Tr.left {α : Type} : Tr α → Tr α
  | .node l _ _ => l
  | .nil => .nil
def Tr.right {α : Type} : Tr α → Tr α
  | .node _ _ r => r
  | .nil => .nil
def Tr.val {α : Type} : Tr α → Option α
  | .node _ o _ => o
  | .nil => none

noncomputable def Tr.getP {α : Type} (p : Pth) : Tr α → Option α :=
  Pth.rec (motive := fun _ => Tr α → Option α) Tr.val (fun _ ih t => ih (Tr.left t)) (fun _ ih t => ih (Tr.right t)) p
def Tr.set0 {α : Type} (t : Tr α) (a : α) : Tr α := match t with
  | .node l _ r => .node l (some a) r
  | .nil => .node .nil (some a) .nil
def Tr.setL {α : Type} (ih : Tr α → α → Tr α) (t : Tr α) (a : α) : Tr α := match t with
  | .node l o r => .node (ih l a) o r
  | .nil => .node (ih .nil a) none .nil
def Tr.setR {α : Type} (ih : Tr α → α → Tr α) (t : Tr α) (a : α) : Tr α := match t with
  | .node l o r => .node l o (ih r a)
  | .nil => .node .nil none (ih .nil a)
noncomputable def Tr.setP {α : Type} (p : Pth) : Tr α → α → Tr α :=
  Pth.rec (motive := fun _ => Tr α → α → Tr α) Tr.set0 (fun _ ih => Tr.setL ih) (fun _ ih => Tr.setR ih) p

theorem Tr.get_same {α : Type} (p : Pth) (a : α) : ∀ (t : Tr α), Tr.getP p (Tr.setP p t a) = some a := by
  induction p with
  | e => intro t; cases t <;> rfl
  | l p ih =>
    intro t
    cases t with
    | nil => exact ih .nil
    | node l o r => exact ih l
  | r p ih =>
    intro t
    cases t with
    | nil => exact ih .nil
    | node l o r => exact ih r

theorem Tr.get_other {α : Type} (p : Pth) (a : α) : ∀ (q : Pth) (t : Tr α), p ≠ q → Tr.getP q (Tr.setP p t a) = Tr.getP q t := by
  induction p with
  | e =>
    intro q t h
    cases q with
    | e => exact absurd rfl h
    | l q => cases t <;> rfl
    | r q => cases t <;> rfl
  | l p ih =>
    intro q t h
    cases q with
    | e => cases t <;> rfl
    | l q =>
      cases t with
      | nil => exact ih q .nil fun e => h (by rw [e])
      | node l o r => exact ih q l fun e => h (by rw [e])
    | r q => cases t <;> rfl
  | r p ih =>
    intro q t h
    cases q with
    | e => cases t <;> rfl
    | l q => cases t <;> rfl
    | r q =>
      cases t with
      | nil => exact ih q .nil fun e => h (by rw [e])
      | node l o r => exact ih q r fun e => h (by rw [e])

noncomputable def Tr.get {α : Type} (_ : Nat) (t : Tr α) (n : Nat) : Option α := Tr.getP (pth n) t
noncomputable def Tr.set {α : Type} (_ : Nat) (t : Tr α) (n : Nat) (a : α) : Tr α := Tr.setP (pth n) t a

theorem Tr.getP_nil {α : Type} (p : Pth) : Tr.getP p (.nil : Tr α) = none := by
  induction p with
  | e => rfl
  | l p ih => exact ih
  | r p ih => exact ih

theorem Tr.get_nil {α : Type} (d n : Nat) : Tr.get d (.nil : Tr α) n = none := Tr.getP_nil _

theorem Tr.get_set {α : Type} (d : Nat) (t : Tr α) (n m : Nat) (a : α) (hn : n < 16000) (hm : m < 16000) : Tr.get d (Tr.set d t n a) m = if m = n then some a else Tr.get d t m := by
  by_cases h : m = n
  · subst h
    rw [if_pos rfl]
    exact Tr.get_same _ a t
  · rw [if_neg h]
    exact Tr.get_other _ a _ t fun e => h (pth_inj hn hm e).symm

/-! ### Temporaries -/

/-- The depth of the temporaries' table: 512 places. -/
abbrev TD : Nat := 9
abbrev TT := Tr V

noncomputable def TT.at (t : TT) (i : Nat) : V := match Tr.get TD t i with
  | some v => v
  | none => undefV
noncomputable def TT.put (t : TT) (i : Nat) (v : V) : TT := Tr.set TD t i v
noncomputable def TT.den (n : Nat) (t : TT) : List V := (List.range n).map t.at

theorem TT.at_put (t : TT) (i j : Nat) (v : V) (hi : i < 512) (hj : j < 512) : (t.put i v).at j = if j = i then v else t.at j := by
  unfold TT.at TT.put
  rw [Tr.get_set TD t i j v (by omega) (by omega)]
  by_cases h : j = i
  · rw [if_pos h, if_pos h]
  · rw [if_neg h, if_neg h]

theorem TT.den_put (n : Nat) (t : TT) (i : Nat) (v : V) (hn : n ≤ 512) (hi : i < n) : TT.den n (t.put i v) = (TT.den n t).set i v := by
  apply List.ext_getElem?
  intro j
  unfold TT.den
  rw [List.getElem?_set, List.getElem?_map, List.getElem?_map]
  rcases Nat.lt_or_ge j n with hj | hj
  · rw [List.getElem?_range hj]
    simp only [Option.map_some, List.length_map, List.length_range]
    rw [TT.at_put t i j v (by omega) (by omega)]
    by_cases h : i = j
    · subst h; simp [hj]
    · rw [if_neg h, if_neg (fun e => h e.symm)]
  · rw [List.getElem?_eq_none (by simpa using hj)]
    simp only [Option.map_none, List.length_map, List.length_range]
    by_cases h : i = j
    · omega
    · rw [if_neg h]

theorem TT.den_get (n : Nat) (t : TT) (i : Nat) (hi : i < n) : (TT.den n t).getD i undefV = t.at i := by
  unfold TT.den
  rw [List.getD_eq_getElem?_getD, List.getElem?_map, List.getElem?_range hi]
  rfl

theorem TT.den_length (n : Nat) (t : TT) : (TT.den n t).length = n := by simp [TT.den]

theorem TT.den_get? (n : Nat) (t : TT) (i : Nat) (hi : i < n) : (TT.den n t)[i]? = some (t.at i) := by
  unfold TT.den
  rw [List.getElem?_map, List.getElem?_range hi]
  rfl

/-- The arguments first. -/
noncomputable def TT.start : List V → Nat → TT → TT
  | [], _, t => t
  | v :: r, i, t => TT.start r (i + 1) (t.put i v)

theorem TT.start_at : ∀ (vs : List V) (i : Nat) (t : TT) (j : Nat), i + vs.length ≤ 512 → j < 512 → (TT.start vs i t).at j = if i ≤ j ∧ j < i + vs.length then vs.getD (j - i) undefV else t.at j
  | [], i, t, j, _, _ => by simp [TT.start]; omega
  | v :: r, i, t, j, h, hj => by
    simp only [List.length_cons] at h
    rw [TT.start, TT.start_at r (i + 1) _ j (by omega) hj, TT.at_put t i j v (by omega) hj]
    simp only [List.length_cons]
    by_cases h1 : j = i
    · subst h1
      rw [if_neg (by omega), if_pos rfl, if_pos (by omega)]
      simp
    · by_cases h2 : i + 1 ≤ j ∧ j < i + 1 + r.length
      · rw [if_pos h2, if_pos (by omega)]
        rw [show j - i = (j - (i + 1)) + 1 by omega]
        simp
      · rw [if_neg h2, if_neg h1, if_neg (by omega)]

theorem TT.den_start (vs : List V) (n : Nat) (h : vs.length ≤ n) (hn : n ≤ 512) : TT.den n (TT.start vs 0 .nil) = vs ++ List.replicate (n - vs.length) undefV := by
  apply List.ext_getElem?
  intro j
  rcases Nat.lt_or_ge j n with hj | hj
  · rw [TT.den_get? n _ j hj, TT.start_at vs 0 .nil j (by omega) (by omega)]
    rw [List.getElem?_append]
    by_cases h1 : j < vs.length
    · rw [if_pos h1, if_pos (by omega)]
      simp [List.getElem?_eq_getElem h1]
    · rw [if_neg h1, if_neg (by omega), List.getElem?_replicate, if_pos (by omega)]
      unfold TT.at
      rw [Tr.get_nil]
  · rw [List.getElem?_eq_none (by rw [TT.den_length]; exact hj), List.getElem?_eq_none (by simp; omega)]

/-! ### Blocks -/

/-- How blocks are kept. -/
structure HP where
  σ : Type
  len : σ → Nat
  get : σ → Nat → Option Blk
  set : σ → Nat → Blk → σ
  push : σ → Blk → Option σ
  den : σ → Heap
  den_len : ∀ s, (den s).length = len s
  den_get : ∀ s b, (den s)[b]? = get s b
  den_set : ∀ s b k, den (set s b k) = (den s).set b k
  den_push : ∀ s k s', push s k = some s' → den s' = den s ++ [k]

/-- As a list. -/
def listHP : HP where
  σ := Heap
  len s := s.length
  get s b := s[b]?
  set s b k := s.set b k
  push s k := some (s ++ [k])
  den s := s
  den_len _ := rfl
  den_get _ _ := rfl
  den_set _ _ _ := rfl
  den_push s k s' h := by simp at h; exact h.symm

/-- As a table: 2^13 blocks at most. -/
structure HT where
  n : Nat
  t : Tr Blk

abbrev HD : Nat := 13
noncomputable def HT.at (s : HT) (b : Nat) : Blk := match Tr.get HD s.t b with
  | some k => k
  | none => dead
noncomputable def HT.get (s : HT) (b : Nat) : Option Blk := bif Nat.blt b s.n then (bif Nat.blt b 8192 then some (s.at b) else none) else none
noncomputable def HT.set (s : HT) (b : Nat) (k : Blk) : HT := bif Nat.blt b 8192 then ⟨s.n, Tr.set HD s.t b k⟩ else s
noncomputable def HT.push (s : HT) (k : Blk) : Option HT := bif Nat.blt s.n 8192 then some ⟨s.n + 1, Tr.set HD s.t s.n k⟩ else none
noncomputable def HT.den (s : HT) : Heap := (List.range (min s.n 8192)).map s.at

theorem blt_iff (a b : Nat) : Nat.blt a b = true ↔ a < b := by
  unfold Nat.blt
  rw [Nat.ble_eq]
  exact Iff.rfl
theorem blt_false (a b : Nat) (h : ¬ a < b) : Nat.blt a b = false := by
  cases hb : Nat.blt a b with
  | false => rfl
  | true => exact absurd ((blt_iff a b).1 hb) h

theorem HT.at_set (s : HT) (b c : Nat) (k : Blk) (hb : b < 8192) (hc : c < 8192) (n : Nat) : (⟨n, Tr.set HD s.t b k⟩ : HT).at c = if c = b then k else s.at c := by
  unfold HT.at
  rw [Tr.get_set HD s.t b c k (by omega) (by omega)]
  by_cases h : c = b
  · rw [if_pos h, if_pos h]
  · rw [if_neg h, if_neg h]

noncomputable def tabHP : HP where
  σ := HT
  len s := min s.n 8192
  get := HT.get
  set := HT.set
  push := HT.push
  den := HT.den
  den_len s := by simp [HT.den]
  den_get s b := by
    unfold HT.den HT.get
    rw [List.getElem?_map]
    by_cases h1 : b < s.n
    · rw [(blt_iff _ _).2 h1]
      by_cases h2 : b < 8192
      · rw [(blt_iff _ _).2 h2, List.getElem?_range (by omega)]
        rfl
      · rw [blt_false _ _ h2, List.getElem?_eq_none (by simp; omega)]
        rfl
    · rw [blt_false _ _ h1, List.getElem?_eq_none (by simp; omega)]
      rfl
  den_set s b k := by
    apply List.ext_getElem?
    intro c
    rw [List.getElem?_set]
    unfold HT.set
    by_cases h2 : b < 8192
    · rw [(blt_iff _ _).2 h2]
      simp only [cond_true, HT.den, List.length_map, List.length_range]
      rw [List.getElem?_map, List.getElem?_map]
      rcases Nat.lt_or_ge c (min s.n 8192) with hc | hc
      · rw [List.getElem?_range hc]
        simp only [Option.map_some]
        rw [HT.at_set s b c k h2 (by omega)]
        by_cases h : b = c
        · subst h; simp; omega
        · rw [if_neg h, if_neg (fun e => h e.symm)]
      · rw [List.getElem?_eq_none (by simpa using hc)]
        simp only [Option.map_none]
        by_cases h : b = c
        · subst h; rw [if_pos rfl, if_neg (by omega)]
        · rw [if_neg h]
    · rw [blt_false _ _ h2]
      simp only [cond_false]
      by_cases h : b = c
      · subst h
        rw [if_pos rfl]
        have : ¬ b < s.den.length := by simp [HT.den]; omega
        rw [if_neg this, List.getElem?_eq_none (by omega)]
      · rw [if_neg h]
  den_push s k s' h := by
    unfold HT.push at h
    by_cases h1 : s.n < 8192
    · rw [(blt_iff _ _).2 h1] at h
      simp only [cond_true, Option.some.injEq] at h
      subst h
      apply List.ext_getElem?
      intro c
      rw [List.getElem?_append]
      simp only [HT.den, List.length_map, List.length_range]
      rw [List.getElem?_map, List.getElem?_map]
      rcases Nat.lt_or_ge c s.n with hc | hc
      · rw [List.getElem?_range (by omega), if_pos (by omega), List.getElem?_range (by omega)]
        simp only [Option.map_some]
        rw [HT.at_set s s.n c k h1 (by omega), if_neg (by omega)]
      · rw [if_neg (by omega)]
        by_cases h2 : c = s.n
        · subst h2
          rw [List.getElem?_range (by omega)]
          simp only [Option.map_some]
          rw [HT.at_set s s.n s.n k h1 h1, if_pos rfl]
          simp [Nat.min_eq_left (Nat.le_of_lt h1)]
        · rw [List.getElem?_eq_none (by simp; omega), List.getElem?_eq_none (by simp; omega)]
          rfl
    · rw [blt_false _ _ h1] at h
      cases h

end Go.Proofs.Ev

namespace Go.Proofs.Ev
open Go Go.RowKit
noncomputable section

inductive EO where
  | t (i : Nat)
  | c (v : V)

def eo (T : TT) : EO → V
  | .t i => T.at i
  | .c v => v

inductive EOp where
  | mv (x : EO)
  | pick (c a b : EO)
  | new (k : List V)
  | box (x : EO)
  | build (z : List V) (ps : List (Nat × Nat × EO))
  | bslice (z n : Nat) (zs : List V) (ps : List (Nat × Nat × EO))
  | ld1 (x : EO)
  | ldn (n : Nat) (x : EO)
  | st (n : Nat) (x y : EO)
  | nilchk (x : EO)
  | bin (op : BinOp) (nk : Nat) (x y : EO)
  | not (x : EO)
  | conv (k : IntKind) (x : EO)
  | bytes (x : EO)
  | string (x : EO)
  | ifc (t : Nat) (x : EO)
  | fn (f : Nat) (xs : List EO)
  | cut (z : Nat) (arr : Option Nat) (x : EO) (lo hi : Option EO)
  | cuts (x : EO) (lo hi : Option EO)
  | fa (off : Nat) (x : EO)
  | fld (n : Option Nat) (off : Nat) (x : EO)
  | ia (z : Nat) (arr : Option Nat) (x i : EO)
  | idx (z : Nat) (n : Option Nat) (arr : Nat) (x i : EO)
  | idxs (x i : EO)
  | ext (x : EO) (i : Nat)
  | len (x : EO)
  | lenstr (x : EO)
  | app (z bytes : Nat) (str : Bool) (x y : EO)
  | grow (z bytes : Nat) (zero : List V) (x y : EO)
  | cpy (z : Nat) (x y : EO)
  | clr (z : Nat) (zero : List V) (x : EO)
  | mks (z bytes : Nat) (zero : List V) (l c : EO)
  | mget (kd : IntKind) (z : V) (m k : EO)
  | slow (o : Oper)

/-! ### What is done -/

def wrapF (k : IntKind) (n : Int) : Int := match k with
  | .i64 => if -9223372036854775808 ≤ n then (if n < 9223372036854775808 then n else IntKind.i64.wrap n) else IntKind.i64.wrap n
  | .u8 => if 0 ≤ n then (if n < 256 then n else IntKind.u8.wrap n) else IntKind.u8.wrap n
  | k => k.wrap n

theorem wrapF_eq (k : IntKind) (n : Int) : wrapF k n = k.wrap n := by
  cases k <;> simp only [wrapF]
  · split
    · split
      · simp only [IntKind.wrap, IntKind.bits, IntKind.signed]
        simp
        split <;> omega
      · rfl
    · rfl
  · split
    · split
      · simp only [IntKind.wrap, IntKind.bits, IntKind.signed]
        simp
        omega
      · rfl
    · rfl

def beqB : List UInt8 → List UInt8 → Bool
  | [], [] => true
  | a :: r, b :: q => Nat.beq a.toNat b.toNat && beqB r q
  | _, _ => false

theorem beqB_eq : ∀ (a b : List UInt8), beqB a b = (a == b)
  | [], [] => rfl
  | [], _ :: _ => rfl
  | _ :: _, [] => rfl
  | a :: r, b :: q => by
    have h1 : Nat.beq a.toNat b.toNat = (a == b) := by
      rw [Bool.eq_iff_iff, beq_iff, beq_iff_eq]
      exact ⟨fun h => UInt8.toNat_inj.1 h, fun h => by rw [h]⟩
    rw [beqB, beqB_eq r q, h1]
    rfl

def sameKind (k j : IntKind) : Bool := match k, j with
  | .i8, .i8 | .i16, .i16 | .i32, .i32 | .i64, .i64 | .u8, .u8 | .u16, .u16 | .u32, .u32 | .u64, .u64 => true
  | _, _ => false
theorem sameKind_eq {k j : IntKind} (h : sameKind k j = true) : k = j := by cases k <;> cases j <;> first | rfl | (simp [sameKind] at h)

def eInt (op : BinOp) (k : IntKind) (a b : Int) : Option V := match op with
  | .add => some (.int k (wrapF k (a + b)))
  | .sub => some (.int k (wrapF k (a - b)))
  | .mul => some (.int k (wrapF k (a * b)))
  | .eql => some (.bool (decide (a = b)))
  | .neq => some (.bool (!decide (a = b)))
  | .lss => some (.bool (decide (a < b)))
  | .leq => some (.bool (decide (a ≤ b)))
  | .gtr => some (.bool (decide (b < a)))
  | .geq => some (.bool (decide (b ≤ a)))
  | .quo => if b = 0 then none else some (.int k (wrapF k (a.tdiv b)))
  | .rem => if b = 0 then none else some (.int k (a.tmod b))
  | _ => none

def eStr (op : BinOp) (a b : List UInt8) : Option V := match op with
  | .eql => some (.bool (beqB a b))
  | .neq => some (.bool (!beqB a b))
  | .lss => some (.bool (Op.bytesLess a b))
  | .add => if a.length + b.length < 9223372036854775807 then some (.str (a ++ b)) else none
  | _ => none

/-- Against nil, by the type's kind: 1 a slice, 2 a pointer, 3 a function, 4 an interface. -/
def eNil (nk : Nat) (x y : V) : Option Bool := match x, y with
  | .sl none n, .sl none m => if nk = 1 then (if n = 0 then (if m = 0 then some true else none) else none) else none
  | .sl (some _) _, .sl none _ => if nk = 1 then some false else none
  | .sl none _, .sl (some _) _ => if nk = 1 then some false else none
  | .ptr none, .ptr none => if nk = 2 then some true else none
  | .ptr (some _), .ptr none => if nk = 2 then some false else none
  | .ptr none, .ptr (some _) => if nk = 2 then some false else none
  | .fn _ _, .nilfn => if nk = 3 then some false else none
  | .nilfn, .fn _ _ => if nk = 3 then some false else none
  | .ifc _ _, .nilifc => if nk = 4 then some false else none
  | .nilifc, .ifc _ _ => if nk = 4 then some false else none
  | .nilfn, .nilfn => if nk = 3 then some true else none
  | .nilifc, .nilifc => if nk = 4 then some true else none
  | _, _ => none

def eBin (op : BinOp) (nk : Nat) (x y : V) : Option V := match x, y with
  | .int k a, .int j b => if sameKind k j = true then eInt op k a b else none
  | .str a, .str b => eStr op a b
  | .bool a, .bool b => if nk = 5 then (match op with
    | .eql => some (.bool (a == b))
    | .neq => some (.bool (!(a == b)))
    | _ => none) else none
  | x, y => match eNil nk x y with
    | some b => match op with
      | .eql => some (.bool b)
      | .neq => some (.bool (!b))
      | _ => none
    | none => none

/-- Parts into their places. -/
def eFill (T : TT) (cells : List V) : List (Nat × Nat × EO) → Option (List V)
  | [] => some cells
  | (off, size, x) :: r => if (eo T x).cells.length = size ∧ off + (eo T x).cells.length ≤ cells.length then eFill T (fillV.putAt off (eo T x).cells cells) r else none

def eLd (k : Option Blk) (o n : Nat) : Option (List V) := match k with
  | some k => if k.st ≠ 0 then (if o + n ≤ k.cells.length then some ((k.cells.drop o).take n) else none) else none
  | none => none

def eSt (h : HP) (H : h.σ) (b o : Nat) (vs : List V) : Option h.σ := match h.get H b with
  | some k => if 2 ≤ k.st then (if o + vs.length ≤ k.cells.length then (if vs.all V.one = true then some (h.set H b ⟨k.cells.take o ++ vs ++ k.cells.drop (o + vs.length), k.st⟩) else none) else none) else none
  | none => none

def eNew (h : HP) (H : h.σ) (k : Blk) (v : V) : Option (V × h.σ) := match h.push H k with
  | some H' => some (v, H')
  | none => none

def eOpt (T : TT) : Option EO → Option V
  | none => none
  | some x => some (eo T x)

/-- What is appended. -/
def eSrc (h : HP) (H : h.σ) (str : Bool) (z : Nat) (x : V) : Option (Nat × List V) := match str, x with
  | false, .sl none n => if n = 0 then some (0, []) else none
  | false, .sl (some (b, o, z')) n => if n = 0 then some (0, []) else if z' = z then (match eLd (h.get H b) o (n * z) with | some vs => some (n, vs) | none => none) else none
  | true, .str s => if z = 1 then some (s.length, s.map fun b => .int .u8 b.toNat) else none
  | _, _ => none

def eA (P : Program) (h : HP) (T : TT) (H : h.σ) : EOp → Option (V × h.σ)
  | .mv x => some (eo T x, H)
  | .pick c a b => match eo T c with
    | .bool true => some (eo T a, H)
    | .bool false => some (eo T b, H)
    | _ => none
  | .new k => eNew h H ⟨k, 2⟩ (.ptr (some (h.len H, 0)))
  | .box x => eNew h H ⟨(eo T x).cells, 2⟩ (.ptr (some (h.len H, 0)))
  | .build z ps => match eFill T z ps with
    | some vs => some (.agg vs, H)
    | none => none
  | .bslice z n zs ps => match eFill T zs ps with
    | some vs => eNew h H ⟨vs, 2⟩ (.sl (some (h.len H, 0, z)) n)
    | none => none
  | .ld1 x => match eo T x with
    | .ptr (some (b, o)) => match eLd (h.get H b) o 1 with
      | some vs => match vs.head? with
        | some v => some (v, H)
        | none => none
      | none => none
    | _ => none
  | .ldn n x => match eo T x with
    | .ptr (some (b, o)) => match eLd (h.get H b) o n with
      | some vs => some (.agg vs, H)
      | none => none
    | _ => none
  | .st n x y => match eo T x with
    | .ptr (some (b, o)) => if n = (eo T y).cells.length then (match eSt h H b o (eo T y).cells with
      | some H' => some (undefV, H')
      | none => none) else none
    | _ => none
  | .nilchk x => match eo T x with
    | .ptr (some p) => some (.ptr (some p), H)
    | .fn f vs => some (.fn f vs, H)
    | .ifc t v => some (.ifc t v, H)
    | _ => none
  | .bin op nk x y => match eBin op nk (eo T x) (eo T y) with
    | some v => some (v, H)
    | none => none
  | .not x => match eo T x with
    | .bool b => some (.bool (!b), H)
    | _ => none
  | .conv k x => match eo T x with
    | .int _ n => some (.int k (wrapF k n), H)
    | _ => none
  | .bytes x => match eo T x with
    | .str s => eNew h H ⟨s.map fun b => .int .u8 b.toNat, 3⟩ (.sl (some (h.len H, 0, 1)) s.length)
    | _ => none
  | .string x => match eo T x with
    | .sl none n => if n = 0 then some (.str [], H) else none
    | .sl (some (b, o, z)) n => if n = 0 then some (.str [], H) else (match eLd (h.get H b) o n with
      | some vs => match toBytes vs with
        | some s => some (.str s, H)
        | none => none
      | none => none)
    | _ => none
  | .ifc t x => some (.ifc t (eo T x), H)
  | .fn f xs => some (.fn f (xs.map (eo T)), H)
  | .cut z arr x lo hi => match arr, eo T x with
    | none, .sl a n => match bndV (eOpt T hi) n, bndV (eOpt T lo) 0 with
      | some hh, some l => if l ≤ hh ∧ hh ≤ n then (match a with
        | some (b, o, z1) => if z1 = z then some (.sl (some (b, o + l * z, z)) (hh - l), H) else if n = 0 then some (.sl (some (b, o, z1)) 0, H) else none
        | none => if n = 0 then some (.sl none 0, H) else none) else none
      | _, _ => none
    | some n, .ptr (some (b, o)) => match bndV (eOpt T hi) n, bndV (eOpt T lo) 0 with
      | some hh, some l => if l ≤ hh ∧ hh ≤ n then (match eLd (h.get H b) o (n * z) with
        | some _ => some (.sl (some (b, o + l * z, z)) (hh - l), H)
        | none => none) else none
      | _, _ => none
    | _, _ => none
  | .cuts x lo hi => match eo T x with
    | .str s => match bndV (eOpt T hi) s.length, bndV (eOpt T lo) 0 with
      | some hh, some l => if l ≤ hh ∧ hh ≤ s.length then some (.str ((s.drop l).take (hh - l)), H) else none
      | _, _ => none
    | _ => none
  | .fa off x => match eo T x with
    | .ptr (some (b, o)) => some (.ptr (some (b, o + off)), H)
    | _ => none
  | .fld n off x => match eo T x with
    | .agg vs => match n with
      | some n => some (.agg ((vs.drop off).take n), H)
      | none => match vs[off]? with
        | some v => some (v, H)
        | none => none
    | _ => none
  | .ia z arr x i => match eo T i with
    | .int _ i => match arr, eo T x with
      | none, .sl (some (b, o, z1)) n => if z1 = z ∧ 0 ≤ i ∧ i < n then some (.ptr (some (b, o + i.toNat * z)), H) else none
      | some n, .ptr (some (b, o)) => if 0 ≤ i ∧ i < n then some (.ptr (some (b, o + i.toNat * z)), H) else none
      | _, _ => none
    | _ => none
  | .idx z n arr x i => match eo T x, eo T i with
    | .agg vs, .int _ i => if 0 ≤ i ∧ i < arr then (match n with
      | some n => some (.agg ((vs.drop (i.toNat * z)).take n), H)
      | none => match vs[i.toNat * z]? with
        | some v => some (v, H)
        | none => none) else none
    | _, _ => none
  | .idxs x i => match eo T x, eo T i with
    | .str s, .int _ i => if 0 ≤ i then (match s[i.toNat]? with
      | some b => some (.int .u8 b.toNat, H)
      | none => none) else none
    | _, _ => none
  | .ext x i => match eo T x with
    | .tup vs => match vs[i]? with
      | some v => some (v, H)
      | none => none
    | _ => none
  | .len x => match eo T x with
    | .sl _ n => some (.int .i64 (n : Nat), H)
    | _ => none
  | .lenstr x => match eo T x with
    | .str s => some (.int .i64 (s.length : Nat), H)
    | _ => none
  | .app z bytes str x y => match eSrc h H str z (eo T y) with
    | some (n, news) => if news.all V.one = true then (match eo T x with
      | .sl none m => if m = 0 then (if n = 0 then some (.sl none 0, H) else if n * bytes ≤ 140737488355328 ∧ n ≤ 4611686018427387904 then eNew h H ⟨news, 2⟩ (.sl (some (h.len H, 0, z)) n) else none) else none
      | .sl (some (b, o, z1)) m => if n = 0 then some (.sl (some (b, o, z1)) m, H) else if z1 = z then (match h.get H b with
        | some k => if 2 ≤ k.st then (match eLd (some k) o (m * z) with
          | some olds => if (m + n) * bytes ≤ 140737488355328 ∧ m + n ≤ 4611686018427387904 then eNew h (h.set H b dead) ⟨olds ++ news, k.st⟩ (.sl (some (h.len H, 0, z)) (m + n)) else none
          | none => none) else none
        | none => none) else none
      | _ => none) else none
    | none => none
  | .grow z bytes zero x y => match eo T x, eo T y with
    | .sl none m, .int _ l => if m = 0 ∧ IntKind.i64.wrap l = l ∧ 0 ≤ l ∧ l * bytes ≤ 140737488355328 ∧ l ≤ 1152921504606846976 then
        (if l = 0 then some (.sl none 0, H) else eNew h H ⟨zrow zero (l.toNat * z), 2⟩ (.sl (some (h.len H, 0, z)) l.toNat)) else none
    | _, _ => none
  | .cpy z x y => match eo T x, eo T y with
    | .sl dp m, .sl xp n => if min n m = 0 then some (.int .i64 0, H) else (match dp, xp with
      | some (b, o, z1), some (c, y, z2) => if z1 = z ∧ z2 = z then (match eLd (h.get H c) y (min n m * z) with
        | some vs => match eSt h H b o vs with
          | some H' => some (.int .i64 (min n m : Nat), H')
          | none => none
        | none => none) else none
      | _, _ => none)
    | _, _ => none
  | .clr z zero x => match eo T x with
    | .sl none n => if n = 0 then some (undefV, H) else none
    | .sl (some (b, o, z1)) n => if n = 0 then some (undefV, H) else if z1 = z then (match eSt h H b o (zrow zero (n * z)) with
      | some H' => some (undefV, H')
      | none => none) else none
    | _ => none
  | .mks z bytes zero l c => match eo T l, eo T c with
    | .int _ l, .int _ c => if IntKind.i64.wrap l = l ∧ IntKind.i64.wrap c = c ∧ 0 ≤ l ∧ l ≤ c ∧ (bytes : Int) * c ≤ 140737488355328 then
        eNew h H ⟨zrow zero (c.toNat * z), 2⟩ (.sl (some (h.len H, 0, z)) l.toNat) else none
    | _, _ => none
  | .mget kd z m k => match eo T m with
    | .mp b => match evGet P (h.get H (b + 1)) kd z (eo T k) with
      | some v => some (v, H)
      | none => none
    | _ => none
  | .slow o => match evA P (fun
      | .tmp i => some (T.at i)
      | .const c => absN 9 c
      | .global g => some (.raw ⟨g, 0, none⟩)
      | .func f => some (.fn f [])) o [] with
    | some (v, []) => some (v, H)
    | _ => none

end

end Go.Proofs.Ev

namespace Go.Proofs.Ev
open Go Go.RowKit
noncomputable section

def cO (nt : Nat) : Operand → Option EO
  | .tmp i => if i < nt then some (.t i) else none
  | .const c => match absN 9 c with
    | some v => some (.c v)
    | none => none
  | .global g => some (.c (.raw ⟨g, 0, none⟩))
  | .func f => some (.c (.fn f []))

theorem cO_ok {nt : Nat} {x : Operand} {y : EO} (T : TT) (h : cO nt x = some y) : evalO (TT.den nt T) x = some (eo T y) := by
  cases x with
  | tmp i =>
    simp only [cO] at h
    split at h
    · rename_i hi
      cases h
      simp only [evalO, eo]
      rw [TT.den_get nt T i hi]
    · cases h
  | const c =>
    simp only [cO] at h
    split at h
    · rename_i v hv
      cases h
      exact hv
    · cases h
  | global g => cases h; rfl
  | func f => cases h; rfl

def cL (nt : Nat) : List Operand → Option (List EO)
  | [] => some []
  | x :: r => match cO nt x with
    | some y => match cL nt r with
      | some ys => some (y :: ys)
      | none => none
    | none => none

theorem cL_ok {nt : Nat} (T : TT) : ∀ (xs : List Operand) (ys : List EO), cL nt xs = some ys → listV (evalO (TT.den nt T)) xs = some (ys.map (eo T))
  | [], ys, h => by cases h; rfl
  | x :: r, ys, h => by
    simp only [cL] at h
    split at h
    · rename_i y hy
      split at h
      · rename_i ys' hys
        cases h
        simp only [listV, cO_ok T hy, cL_ok T r ys' hys, List.map_cons]
      · cases h
    · cases h

def cOpt (nt : Nat) : Option Operand → Option (Option EO)
  | none => some none
  | some x => match cO nt x with
    | some y => some (some y)
    | none => none

theorem cOpt_ok {nt : Nat} (T : TT) {x : Option Operand} {y : Option EO} (h : cOpt nt x = some y) : optV (evalO (TT.den nt T)) x = some (eOpt T y) := by
  cases x with
  | none => cases h; rfl
  | some x =>
    simp only [cOpt] at h
    split at h
    · rename_i y' hy
      cases h
      simp only [optV, cO_ok T hy]
      rfl
    · cases h

/-- Parts with their places. -/
def cParts (nt : Nat) (place : Nat → Option (Nat × Nat)) : List (Nat × Operand) → Option (List (Nat × Nat × EO))
  | [] => some []
  | (i, x) :: r => match place i, cO nt x with
    | some (off, size), some y => match cParts nt place r with
      | some ps => some ((off, size, y) :: ps)
      | none => none
    | _, _ => none

theorem cParts_ok {nt : Nat} (T : TT) (place : Nat → Option (Nat × Nat)) : ∀ (ps : List (Nat × Operand)) (qs : List (Nat × Nat × EO)), cParts nt place ps = some qs →
    ∃ vs, partsV (evalO (TT.den nt T)) ps = some vs ∧ ∀ cells, fillV place cells vs = eFill T cells qs
  | [], qs, h => by cases h; exact ⟨[], rfl, fun cells => rfl⟩
  | (i, x) :: r, qs, h => by
    simp only [cParts] at h
    split at h
    · rename_i off size y hp hy
      split at h
      · rename_i ps hps
        cases h
        obtain ⟨vs, h1, h2⟩ := cParts_ok T place r ps hps
        refine ⟨(i, eo T y) :: vs, by simp only [partsV, cO_ok T hy, h1], fun cells => ?_⟩
        simp only [fillV, hp, eFill]
        split
        · exact h2 _
        · rfl
      · cases h
    · cases h

def nilKind (P : Program) (t : TypeId) : Nat := match P.underlying t with
  | some (.slice _) => 1
  | some (.pointer _) => 2
  | some (.func _ _ _) => 3
  | some (.interface _) => 4
  | some .bool => 5
  | _ => 0

def isNilC : Operand → Bool
  | .const .nilIface => true
  | _ => false

/-- Which comparisons and sums are done at once. -/
def binFast (P : Program) (op : BinOp) (t : TypeId) (x y : Operand) : Bool := match P.underlying t with
  | some (.int _) => (match op with | .add | .sub | .mul | .eql | .neq | .lss | .leq | .gtr | .geq | .quo | .rem => true | _ => false)
  | some .string => (match op with | .eql | .neq | .lss | .add => true | _ => false)
  | some .bool => (match op with | .eql | .neq => true | _ => false)
  | some (.slice _) => (match op with | .eql | .neq => true | _ => false)
  | some (.pointer _) => (match op with | .eql | .neq => true | _ => false)
  | some (.func _ _ _) => (match op with | .eql | .neq => true | _ => false)
  | some (.interface _) => (match op with | .eql | .neq => (isNilC x || isNilC y) | _ => false)
  | _ => false

def isU8 (P : Program) (e : TypeId) : Bool := match P.underlying e with
  | some (.int .u8) => true
  | _ => false

def cSlow (P : Program) (nt : Nat) (o : Oper) : Option EOp :=
  if isX P o = false ∧ isA o = false ∧ isL o = false then (match cL nt o.op.operands.toList with
    | some _ => some (.slow o)
    | none => none) else none

def cAppend (P : Program) (nt : Nat) (t tx : TypeId) (x y : Operand) : Option EOp := match telem P t, cO nt x, cO nt y with
  | some e, some x, some y => match P.info? e, zeroV P e with
    | some i, some zv => if 0 < i.size ∧ zv.cells.length = i.size then (match P.underlying tx with
      | some (.slice _) => some (.app i.size i.bytes false x y)
      | some .string => some (.app i.size i.bytes true x y)
      | some (.int _) => some (.grow i.size i.bytes zv.cells x y)
      | _ => none) else none
    | _, _ => none
  | _, _, _ => none

def cBuiltin (P : Program) (nt : Nat) (o : Oper) (b : Builtin) (args : List Operand) (ts : List TypeId) : Option EOp := match b with
  | .append => match args, ts with
    | [x, y], [t, tx] => cAppend P nt t tx x y
    | _, _ => none
  | .copy => match args, ts with
    | [x, y], [t, _] => match telem P t, cO nt x, cO nt y with
      | some e, some x, some y => match tsize P e with
        | some z => some (.cpy z x y)
        | none => none
      | _, _, _ => none
    | _, _ => none
  | .clear => match args, ts with
    | [x], [t] => match telem P t, cO nt x with
      | some e, some x => match tsize P e, zeroV P e with
        | some z, some zv => if 0 < z ∧ zv.cells.length = z then some (.clr z zv.cells x) else none
        | _, _ => none
      | _, _ => none
    | _, _ => none
  | .len => match args, ts with
    | [x], [t] => match P.underlying t, cO nt x with
      | some (.slice _), some x => some (.len x)
      | some .string, some x => some (.lenstr x)
      | _, _ => cSlow P nt o
    | _, _ => cSlow P nt o
  | _ => cSlow P nt o

def cA (P : Program) (nt : Nat) (o : Oper) : Option EOp := match o.op with
  | .move x => match cO nt x with
    | some x => some (.mv x)
    | none => none
  | .assign x => match cO nt x with
    | some x => some (.mv x)
    | none => none
  | .pick c a b => match cO nt c, cO nt a, cO nt b with
    | some c, some a, some b => some (.pick c a b)
    | _, _, _ => none
  | .alloc t => match zeroV P t with
    | some z => some (.new z.cells)
    | none => none
  | .box t x => match cO nt x with
    | some x => some (.box x)
    | none => none
  | .build t ps => match zeroV P t, P.underlying t with
    | some z, some (.struct fs) => match placesOf P fs with
      | some pl => match cParts nt (pl[·]?) ps.toList with
        | some qs => some (.build z.cells qs)
        | none => none
      | none => none
    | some z, some (.array _ e) => match tsize P e with
      | some n => match cParts nt (fun i => some (i * n, n)) ps.toList with
        | some qs => some (.build z.cells qs)
        | none => none
      | none => none
    | _, _ => none
  | .buildSlice t n ps => match telem P t with
    | some e => match tsize P e, zeroV P e with
      | some z, some zv => if 0 < z ∧ zv.cells.length = z ∧ n * z ≤ 16777216 then (match cParts nt (fun i => some (i * z, z)) ps.toList with
        | some qs => some (.bslice z n (zrow zv.cells (n * z)) qs)
        | none => none) else none
      | _, _ => none
    | none => none
  | .load t x => match cO nt x, tagg P t with
    | some x, some true => match tsize P t with
      | some n => some (.ldn n x)
      | none => none
    | some x, some false => some (.ld1 x)
    | _, _ => none
  | .store t x y => match cO nt x, cO nt y, tsize P t with
    | some x, some y, some n => some (.st n x y)
    | _, _, _ => none
  | .nilCheck x => match cO nt x with
    | some x => some (.nilchk x)
    | none => none
  | .binOp op t x y _ => if binFast P op t x y = true then (match cO nt x, cO nt y with
      | some x, some y => some (.bin op (nilKind P t) x y)
      | _, _ => none) else cSlow P nt o
  | .unOp .not _ x => match cO nt x with
    | some x => some (.not x)
    | none => none
  | .convert src dst x => match P.underlying src, P.underlying dst, cO nt x with
    | some (.int _), some (.int k), some x => some (.conv k x)
    | some .string, some (.slice e), some x => if isU8 P e = true then some (.bytes x) else none
    | some (.slice e), some .string, some x => if isU8 P e = true then some (.string x) else none
    | _, _, _ => none
  | .makeInterface t x => if tconc P t = true then (match cO nt x with
      | some x => some (.ifc t x)
      | none => none) else none
  | .makeFunc (.func f) first caps => if first.size = 0 then (match cL nt caps.toList with
      | some xs => some (.fn f xs)
      | none => none) else none
  | .makeSlice t l c => match telem P t, cO nt l, cO nt c with
    | some e, some l, some c => match P.info? e, zeroV P e with
      | some i, some z => if 0 < i.size ∧ z.cells.length = i.size then some (.mks i.size i.bytes z.cells l c) else none
      | _, _ => none
    | _, _, _ => none
  | .slice t x lo hi none => match cO nt x, cOpt nt lo, cOpt nt hi with
    | some x, some lo, some hi => match P.underlying t with
      | some (.slice e) => match tsize P e with
        | some z => some (.cut z none x lo hi)
        | none => none
      | some (.array n e) => match tsize P e with
        | some z => some (.cut z (some n) x lo hi)
        | none => none
      | some .string => some (.cuts x lo hi)
      | _ => none
    | _, _, _ => none
  | .fieldAddr t x f => match cO nt x, tfield P t f with
    | some x, some fd => match tsize P fd.type with
      | some n => if n = 0 then none else some (.fa fd.offset x)
      | none => none
    | _, _ => none
  | .field t x f => match cO nt x, tfield P t f with
    | some x, some fd => match tagg P fd.type with
      | some true => match tsize P fd.type with
        | some n => some (.fld (some n) fd.offset x)
        | none => none
      | some false => some (.fld none fd.offset x)
      | none => none
    | _, _ => none
  | .indexAddr t x i => match cO nt x, cO nt i with
    | some x, some i => match P.underlying t with
      | some (.slice e) => match tsize P e with
        | some z => some (.ia z none x i)
        | none => none
      | some (.array n e) => match tsize P e with
        | some z => some (.ia z (some n) x i)
        | none => none
      | _ => none
    | _, _ => none
  | .index t x i => match cO nt x, cO nt i with
    | some x, some i => match P.underlying t with
      | some (.array n e) => match tsize P e, tagg P e with
        | some z, some true => some (.idx z (some z) n x i)
        | some z, some false => some (.idx z none n x i)
        | _, _ => none
      | some .string => some (.idxs x i)
      | _ => none
    | _, _ => none
  | .lookup t m k false => match tmap P t, cO nt m, cO nt k with
    | some (kd, e), some m, some k => match zeroV P e with
      | some z => some (.mget kd z m k)
      | none => none
    | _, _, _ => none
  | .extract x i => match cO nt x with
    | some x => some (.ext x i)
    | none => none
  | .call c => match c.callee with
    | .builtin b => cBuiltin P nt o b c.args.toList c.argTypes.toList
    | _ => none
  | _ => cSlow P nt o

/-! ### It does the same -/

section
variable {P : Program} {nt : Nat} {o : Oper} {h : HP} {T : TT} {H H' : h.σ} {v : V}

theorem eLd_ok (b o n : Nat) : ldCells (h.den H) b o n = eLd (h.get H b) o n := by
  unfold ldCells eLd
  rw [h.den_get]
  rfl

theorem eSt_ok {b o : Nat} {vs : List V} (hs : eSt h H b o vs = some H') : stCells (h.den H) b o vs = some (h.den H') := by
  unfold eSt at hs
  unfold stCells
  rw [h.den_get]
  split at hs
  · rename_i k hk
    split at hs
    · rename_i h1
      split at hs
      · rename_i h2
        split at hs
        · rename_i h3
          cases hs
          rw [hk]
          simp only [if_pos h1, if_pos h2, if_pos h3, h.den_set]
        · cases hs
      · cases hs
    · cases hs
  · cases hs

theorem eNew_ok {k : Blk} {u : V} (hn : eNew h H k u = some (v, H')) : v = u ∧ h.den H' = h.den H ++ [k] := by
  unfold eNew at hn
  split at hn
  · rename_i H2 hp
    cases hn
    exact ⟨rfl, h.den_push _ _ _ hp⟩
  · cases hn

theorem pureOp_of {ρ : Operand → Option V} {c : Value} (hs : isSelect o.op = false) (ha : o.op.operands.all (fun x => (concO ρ x).isSome) = true)
    (hr : pureRun P (execOp (fun x => (concO ρ x).getD undef) o) = some (.value c)) (hc : absN 9 c = some v) : pureOp P ρ o = some v := by
  unfold pureOp
  rw [if_pos hs, if_pos ha, hr]
  exact hc

theorem pureRun_program {α : Type} (k : Program → Sem α) : pureRun P (.program k) = pureRun P (k P) := rfl

theorem pureRun_bind {α β : Type} : ∀ (s : Sem α) (f : α → Sem β), pureRun P (s >>= f) = (pureRun P s).bind fun a => pureRun P (f a) := by
  intro s
  induction s with
  | pure a => intro f; rfl
  | program k ih => intro f; exact ih P f
  | mark m k ih => intro f; exact ih f
  | _ => intro f; rfl

theorem pureRun_underlying {t : TypeId} {d : TypeDesc} (ht : P.underlying t = some d) : pureRun P (underlying t) = some d := by
  unfold underlying
  rw [pureRun_bind]
  show ((some P).bind _) = _
  simp only [Option.bind_some, ht]
  rfl

theorem bytes_toList (a : List UInt8) : (⟨a.toArray⟩ : ByteArray).toList = a := ByteArray.toList_mk a

theorem conc_int (k : IntKind) (n : Int) : conc (.int k n) = some (.int k n) := by simp [conc]

/-- Two operands that name no block. -/
theorem pureOp_two {ρ : Operand → Option V} {op : BinOp} {t yt : TypeId} {x y : Operand} {vx vy : V} {cx cy c : Value} (ho : o.op = .binOp op t x y yt) (hx : ρ x = some vx) (hy : ρ y = some vy) (hcx : conc vx = some cx) (hcy : conc vy = some cy)
    (hr : pureRun P (do eqGuard op t x y cx cy; binOp op t cx cy) = some c) (hc : absN 9 c = some v) : pureOp P ρ o = some v := by
  have e1 : concO ρ x = some cx := by unfold concO; rw [hx]; exact hcx
  have e2 : concO ρ y = some cy := by unfold concO; rw [hy]; exact hcy
  refine pureOp_of (c := c) (by rw [ho]; rfl) (by rw [ho]; simp [Op.operands, e1, e2]) ?_ hc
  simp only [execOp, ho, e1, e2, Option.getD_some]
  rw [pureRun_bind] at hr
  rw [pureRun_bind, pureRun_bind]
  cases h1 : pureRun P (eqGuard op t x y cx cy) with
  | none => rw [h1] at hr; cases hr
  | some u =>
    rw [h1] at hr
    simp only [Option.bind_some] at hr ⊢
    rw [hr]
    rfl

theorem eInt_ok {op : BinOp} {k : IntKind} {a b : Int} {t : TypeId} {x y : Operand} (h : eInt op k a b = some v) :
    ∃ c, pureRun P (do eqGuard op t x y (.int k a) (.int k b); binOp op t (.int k a) (.int k b)) = some c ∧ absN 9 c = some v := by
  unfold eInt at h
  cases op <;> simp only at h
  case add => cases h; exact ⟨.int k (k.wrap (a + b)), by simp [eqGuard, binOp, Op.intArith, pureRun_bind]; rfl, by rw [wrapF_eq]; rfl⟩
  case sub => cases h; exact ⟨.int k (k.wrap (a - b)), by simp [eqGuard, binOp, Op.intArith, pureRun_bind]; rfl, by rw [wrapF_eq]; rfl⟩
  case mul => cases h; exact ⟨.int k (k.wrap (a * b)), by simp [eqGuard, binOp, Op.intArith, pureRun_bind]; rfl, by rw [wrapF_eq]; rfl⟩
  case quo =>
    split at h
    · cases h
    · rename_i hb
      cases h
      exact ⟨.int k (k.wrap (a.tdiv b)), by simp [eqGuard, binOp, Op.intDiv, hb, pureRun_bind]; rfl, by rw [wrapF_eq]; rfl⟩
  case rem =>
    split at h
    · cases h
    · rename_i hb
      cases h
      exact ⟨.int k (a.tmod b), by simp [eqGuard, binOp, Op.intDiv, hb, pureRun_bind]; rfl, rfl⟩
  case eql => cases h; exact ⟨.bool (a == b), by simp [eqGuard, binOp, Op.intCmp, pureRun_bind]; rfl, rfl⟩
  case neq => cases h; exact ⟨.bool (a != b), by simp [eqGuard, binOp, Op.intCmp, pureRun_bind]; rfl, rfl⟩
  case lss => cases h; exact ⟨.bool (decide (a < b)), by simp [eqGuard, binOp, Op.intCmp, pureRun_bind]; rfl, rfl⟩
  case leq => cases h; exact ⟨.bool (decide (a ≤ b)), by simp [eqGuard, binOp, Op.intCmp, pureRun_bind]; rfl, rfl⟩
  case gtr => cases h; exact ⟨.bool (decide (a > b)), by simp [eqGuard, binOp, Op.intCmp, pureRun_bind]; rfl, rfl⟩
  case geq => cases h; exact ⟨.bool (decide (a ≥ b)), by simp [eqGuard, binOp, Op.intCmp, pureRun_bind]; rfl, rfl⟩
  all_goals (cases h)

theorem eStr_ok {op : BinOp} {a b : List UInt8} {t : TypeId} {x y : Operand} (h : eStr op a b = some v) :
    ∃ c, pureRun P (do eqGuard op t x y (.string ⟨a.toArray⟩) (.string ⟨b.toArray⟩); binOp op t (.string ⟨a.toArray⟩) (.string ⟨b.toArray⟩)) = some c ∧ absN 9 c = some v := by
  unfold eStr at h
  cases op <;> simp only at h
  case eql => cases h; exact ⟨.bool (a == b), by simp [eqGuard, binOp, Op.stringOp, pureRun_bind]; rfl, by rw [beqB_eq]; rfl⟩
  case neq => cases h; exact ⟨.bool (!(a == b)), by simp [eqGuard, binOp, Op.stringOp, pureRun_bind]; rfl, by rw [beqB_eq]; rfl⟩
  case lss => cases h; exact ⟨.bool (Op.bytesLess a b), by simp [eqGuard, binOp, Op.stringOp, pureRun_bind]; rfl, rfl⟩
  case add =>
    split at h
    · rename_i hl
      cases h
      have hsz : ¬ ((((⟨a.toArray⟩ : ByteArray).size + (⟨b.toArray⟩ : ByteArray).size : Nat) : Int) > IntKind.i64.max) := by
        have h1 : (⟨a.toArray⟩ : ByteArray).size = a.length := by simp [ByteArray.size]
        have h2 : (⟨b.toArray⟩ : ByteArray).size = b.length := by simp [ByteArray.size]
        have h3 : IntKind.i64.max = 9223372036854775807 := by decide
        rw [h1, h2, h3]
        omega
      have happ : (⟨a.toArray⟩ : ByteArray) ++ ⟨b.toArray⟩ = ⟨(a ++ b).toArray⟩ := by
        have := ByteArray.data_append (l := (⟨a.toArray⟩ : ByteArray)) (l' := ⟨b.toArray⟩)
        exact ByteArray.ext (by rw [this]; simp)
      refine ⟨.string ⟨(a ++ b).toArray⟩, ?_, rfl⟩
      simp only [eqGuard, binOp, Op.stringOp, pureRun_bind]
      rw [if_neg hsz, happ]
      rfl
    · cases h
  all_goals (cases h)

end

end

end Go.Proofs.Ev

namespace Go.Proofs.Ev
open Go Go.RowKit
noncomputable section

section
variable {P : Program} {nt : Nat} {o : Oper} {h : HP} {T : TT} {H H' : h.σ} {v : V}

theorem equalP_of {t : TypeId} {x y : Value} {b : Bool} (hh : ∀ d, pureRun P (Op.equalIn (d + 1) t x y) = some b) : pureRun P (Op.equal t x y) = some b := hh 9999

theorem nilKind_spec (P : Program) (t : TypeId) : (nilKind P t = 1 → ∃ e, P.underlying t = some (.slice e)) ∧ (nilKind P t = 2 → ∃ e, P.underlying t = some (.pointer e)) ∧
    (nilKind P t = 3 → ∃ a b c, P.underlying t = some (.func a b c)) ∧ (nilKind P t = 4 → ∃ m, P.underlying t = some (.interface m)) ∧ (nilKind P t = 5 → P.underlying t = some .bool) := by
  unfold nilKind
  cases hu : P.underlying t with
  | none => simp
  | some d => cases d <;> simp

/-- The comparison with nil where the model's own dispatch answers. -/
theorem nil_pure {t : TypeId} {x y : V} {b : Bool} {cx cy : Value} (hb : eNil (nilKind P t) x y = some b) (hx : conc x = some cx) (hy : conc y = some cy) :
    pureRun P (Op.equal t cx cy) = some b ∧ (∀ op a c, pureRun P (eqGuard op t a c cx cy) = some () ∨ (cx = .nilIface ∧ cy = .nilIface)) ∧ binOp .eql t cx cy = (do pure (.bool (← Op.equal t cx cy))) ∧ binOp .neq t cx cy = (do pure (.bool (!(← Op.equal t cx cy)))) := by
  obtain ⟨k1, k2, k3, k4, k5⟩ := nilKind_spec P t
  unfold eNil at hb
  split at hb <;> (try (cases hb; done))
  · rename_i n m
    split at hb
    · rename_i hk
      obtain ⟨e, hu⟩ := k1 hk
      split at hb
      · rename_i hn
        split at hb
        · rename_i hm
          cases hb
          subst hn
          subst hm
          simp [conc] at hx hy
          subst hx
          subst hy
          exact ⟨equalP_of fun d => by simp [Op.equalIn, pureRun_bind, pureRun_underlying hu]; rfl, fun op a c => .inl (by cases op <;> rfl), rfl, rfl⟩
        · cases hb
      · cases hb
    · cases hb
  · simp [conc] at hx
  · simp [conc] at hy
  · split at hb
    · rename_i hk
      obtain ⟨e, hu⟩ := k2 hk
      cases hb
      simp [conc] at hx hy
      subst hx
      subst hy
      exact ⟨equalP_of fun d => by simp [Op.equalIn, pureRun_bind, pureRun_underlying hu]; rfl, fun op a c => .inl (by cases op <;> rfl), rfl, rfl⟩
    · cases hb
  · simp [conc] at hx
  · simp [conc] at hy
  · rename_i f vs
    split at hb
    · rename_i hk
      obtain ⟨_, _, _, hu⟩ := k3 hk
      cases hb
      simp only [conc] at hx hy
      split at hx
      · cases hx
        cases hy
        exact ⟨equalP_of fun d => by simp [Op.equalIn, pureRun_bind, pureRun_underlying hu]; rfl, fun op a c => .inl (by cases op <;> rfl), rfl, rfl⟩
      · cases hx
    · cases hb
  · rename_i f vs
    split at hb
    · rename_i hk
      obtain ⟨_, _, _, hu⟩ := k3 hk
      cases hb
      simp only [conc] at hx hy
      split at hy
      · cases hy
        cases hx
        exact ⟨equalP_of fun d => by simp [Op.equalIn, pureRun_bind, pureRun_underlying hu]; rfl, fun op a c => .inl (by cases op <;> rfl), rfl, rfl⟩
      · cases hy
    · cases hb
  · rename_i t' u
    split at hb
    · rename_i hk
      obtain ⟨_, hu⟩ := k4 hk
      cases hb
      simp only [conc] at hx hy
      split at hx
      · cases hx
        cases hy
        exact ⟨equalP_of fun d => by simp [Op.equalIn, pureRun_bind, pureRun_underlying hu]; rfl, fun op a c => .inl (by cases op <;> rfl), rfl, rfl⟩
      · cases hx
    · cases hb
  · rename_i t' u
    split at hb
    · rename_i hk
      obtain ⟨_, hu⟩ := k4 hk
      cases hb
      simp only [conc] at hx hy
      split at hy
      · cases hy
        cases hx
        exact ⟨equalP_of fun d => by simp [Op.equalIn, pureRun_bind, pureRun_underlying hu]; rfl, fun op a c => .inl (by cases op <;> rfl), rfl, rfl⟩
      · cases hy
    · cases hb
  · split at hb
    · rename_i hk
      obtain ⟨_, _, _, hu⟩ := k3 hk
      cases hb
      simp only [conc, Option.some.injEq] at hx hy
      subst hx
      subst hy
      exact ⟨equalP_of fun d => by simp [Op.equalIn, pureRun_bind, pureRun_underlying hu]; rfl, fun op a c => .inl (by cases op <;> rfl), rfl, rfl⟩
    · cases hb
  · split at hb
    · rename_i hk
      obtain ⟨_, hu⟩ := k4 hk
      cases hb
      simp only [conc, Option.some.injEq] at hx hy
      subst hx
      subst hy
      exact ⟨equalP_of fun d => by simp [Op.equalIn, pureRun_bind, pureRun_underlying hu]; rfl, fun op a c => .inr ⟨rfl, rfl⟩, rfl, rfl⟩
    · cases hb

/-- .. and where it does not. -/
theorem nil_other {t : TypeId} {x y : V} {b : Bool} (hb : eNil (nilKind P t) x y = some b) (hn : conc x = none ∨ conc y = none) : nilEq P t x y = some b := by
  obtain ⟨k1, k2, k3, k4, k5⟩ := nilKind_spec P t
  unfold eNil at hb
  split at hb <;> (try (cases hb; done))
  · split at hb
    · split at hb
      · split at hb
        · rename_i h1 h2
          subst h1
          subst h2
          simp [conc] at hn
        · cases hb
      · cases hb
    · cases hb
  · split at hb
    · rename_i hk
      obtain ⟨e, hu⟩ := k1 hk
      cases hb
      simp [nilEq, hu]
    · cases hb
  · split at hb
    · rename_i hk
      obtain ⟨e, hu⟩ := k1 hk
      cases hb
      simp [nilEq, hu]
    · cases hb
  · simp [conc] at hn
  · split at hb
    · rename_i hk
      obtain ⟨e, hu⟩ := k2 hk
      cases hb
      simp [nilEq, hu]
    · cases hb
  · split at hb
    · rename_i hk
      obtain ⟨e, hu⟩ := k2 hk
      cases hb
      simp [nilEq, hu]
    · cases hb
  · split at hb
    · rename_i hk
      obtain ⟨_, _, _, hu⟩ := k3 hk
      cases hb
      simp [nilEq, hu]
    · cases hb
  · split at hb
    · rename_i hk
      obtain ⟨_, _, _, hu⟩ := k3 hk
      cases hb
      simp [nilEq, hu]
    · cases hb
  · split at hb
    · rename_i hk
      obtain ⟨_, hu⟩ := k4 hk
      cases hb
      simp [nilEq, hu]
    · cases hb
  · split at hb
    · rename_i hk
      obtain ⟨_, hu⟩ := k4 hk
      cases hb
      simp [nilEq, hu]
    · cases hb
  · simp [conc] at hn
  · simp [conc] at hn

theorem nil_kind4 {P : Program} {t : TypeId} {x y : V} {b : Bool} (hb : eNil (nilKind P t) x y = some b) (h : conc x = some .nilIface) : nilKind P t = 4 := by
  unfold eNil at hb
  split at hb <;> (try (cases hb; done)) <;> (simp [conc] at h) <;> (try (split at h <;> simp at h)) <;> (split at hb <;> first | assumption | cases hb)

theorem guard_const {op : BinOp} {t : TypeId} {x y : Operand} (hf : binFast P op t x y = true) (hk : nilKind P t = 4) : pureRun P (eqGuard op t x y .nilIface .nilIface) = some () := by
  obtain ⟨m, hu⟩ := (nilKind_spec P t).2.2.2.1 hk
  unfold binFast at hf
  rw [hu] at hf
  have hc : (isNilC x || isNilC y) = true := by cases op <;> first | exact hf | simp at hf
  rw [Bool.or_eq_true] at hc
  rcases hc with h | h
  · cases x with
    | const c => cases op <;> rfl
    | _ => simp [isNilC] at h
  · cases y with
    | const c => cases x <;> cases op <;> rfl
    | _ => simp [isNilC] at h

theorem pureOp_none {ρ : Operand → Option V} {op : BinOp} {t yt : TypeId} {x y : Operand} {vx vy : V} (ho : o.op = .binOp op t x y yt) (hx : ρ x = some vx) (hy : ρ y = some vy) (hn : conc vx = none ∨ conc vy = none) : pureOp P ρ o = none := by
  unfold pureOp
  rw [if_pos (by rw [ho]; rfl), if_neg]
  rw [ho]
  simp only [Op.operands]
  rcases hn with h1 | h1
  · simp [concO, hx, h1]
  · simp [concO, hy, h1]

theorem eBin_ok {ρ : Operand → Option V} {op : BinOp} {t yt : TypeId} {x y : Operand} {vx vy : V} (ho : o.op = .binOp op t x y yt) (hx : ρ x = some vx) (hy : ρ y = some vy)
    (hf : binFast P op t x y = true) (hb : eBin op (nilKind P t) vx vy = some v) (G : Heap) : evA P ρ o G = some (v, G) := by
  unfold evA
  simp only [ho]
  unfold eBin at hb
  split at hb
  · rename_i k a j b
    split at hb
    · rename_i hk
      obtain rfl := sameKind_eq hk
      obtain ⟨c, h1, h2⟩ := eInt_ok (P := P) (t := t) (x := x) (y := y) hb
      rw [pureOp_two ho hx hy (conc_int k a) (conc_int k b) h1 h2]
    · cases hb
  · rename_i a b
    obtain ⟨c, h1, h2⟩ := eStr_ok (P := P) (t := t) (x := x) (y := y) hb
    rw [pureOp_two (cx := .string ⟨a.toArray⟩) (cy := .string ⟨b.toArray⟩) ho hx hy (by simp [conc]) (by simp [conc]) h1 h2]
  · rename_i a b
    split at hb
    · rename_i hk
      have hu := (nilKind_spec P t).2.2.2.2 hk
      have he : pureRun P (Op.equal t (.bool a) (.bool b)) = some (a == b) := equalP_of fun d => by simp [Op.equalIn, pureRun_bind, pureRun_underlying hu]; rfl
      split at hb
      · cases hb
        rw [pureOp_two (cx := .bool a) (cy := .bool b) (c := .bool (a == b)) ho hx hy (by simp [conc]) (by simp [conc]) (by
          rw [pureRun_bind]
          show (some ()).bind _ = _
          simp only [Option.bind_some, binOp]
          rw [pureRun_bind, he]
          rfl) rfl]
      · cases hb
        rw [pureOp_two (cx := .bool a) (cy := .bool b) (c := .bool (!(a == b))) ho hx hy (by simp [conc]) (by simp [conc]) (by
          rw [pureRun_bind]
          show (some ()).bind _ = _
          simp only [Option.bind_some, binOp]
          rw [pureRun_bind, he]
          rfl) rfl]
      · cases hb
    · cases hb
  · split at hb
    · rename_i b hnil
      have hcases : (∃ cx cy, conc vx = some cx ∧ conc vy = some cy) ∨ (conc vx = none ∨ conc vy = none) := by
        cases h1 : conc vx with
        | none => exact .inr (.inl rfl)
        | some cx =>
          cases h2 : conc vy with
          | none => exact .inr (.inr rfl)
          | some cy => exact .inl ⟨cx, cy, rfl, rfl⟩
      rcases hcases with ⟨cx, cy, h1, h2⟩ | hn
      · obtain ⟨e1, e2, e3, e4⟩ := nil_pure hnil h1 h2
        have e2' : pureRun P (eqGuard op t x y cx cy) = some () := by
          rcases e2 op x y with h | ⟨h3, h4⟩
          · exact h
          · rw [h3] at h1 ⊢
            rw [h4]
            exact guard_const hf (nil_kind4 hnil h1)
        split at hb
        · cases hb
          rw [pureOp_two (c := .bool b) ho hx hy h1 h2 (by
            rw [pureRun_bind, e2']
            simp only [Option.bind_some, e3]
            rw [pureRun_bind, e1]
            rfl) rfl]
        · cases hb
          rw [pureOp_two (c := .bool (!b)) ho hx hy h1 h2 (by
            rw [pureRun_bind, e2']
            simp only [Option.bind_some, e4]
            rw [pureRun_bind, e1]
            rfl) rfl]
        · cases hb
      · rw [pureOp_none ho hx hy hn]
        simp only [hx, hy, nil_other hnil hn]
        split at hb
        · cases hb; rfl
        · cases hb; rfl
        · cases hb
    · cases hb

/-! ### One operand that names no block -/

theorem pureOp_one {ρ : Operand → Option V} {x : Operand} {vx : V} {cx c : Value} {f : Value → Sem Value} (hs : isSelect o.op = false) (hops : o.op.operands = #[x]) (hex : ∀ e : Operand → Value, execOp e o = (do pure (.value (← f (e x)))))
    (hx : ρ x = some vx) (hc : conc vx = some cx) (hr : pureRun P (f cx) = some c) (ha : absN 9 c = some v) : pureOp P ρ o = some v := by
  have e1 : concO ρ x = some cx := by unfold concO; rw [hx]; exact hc
  refine pureOp_of (c := c) hs (by rw [hops]; simp [e1]) ?_ ha
  rw [hex, e1]
  simp only [Option.getD_some]
  rw [pureRun_bind, hr]
  rfl

theorem not_ok {ρ : Operand → Option V} {t : TypeId} {x : Operand} {b : Bool} (ho : o.op = .unOp .not t x) (hx : ρ x = some (.bool b)) (G : Heap) : evA P ρ o G = some (.bool (!b), G) := by
  unfold evA
  simp only [ho]
  rw [pureOp_one (c := .bool (!b)) (f := fun c => Op.unary .not c) (cx := .bool b) (by rw [ho]; rfl) (by rw [ho]; rfl) (fun e => by simp only [execOp, ho]) hx (by simp [conc]) rfl rfl]
  rfl

theorem conv_ok {ρ : Operand → Option V} {src dst : TypeId} {x : Operand} {k j k' : IntKind} {n : Int} (ho : o.op = .convert src dst x) (hs : P.underlying src = some (.int k')) (hd : P.underlying dst = some (.int k)) (hx : ρ x = some (.int j n)) (G : Heap) :
    evA P ρ o G = some (.int k (wrapF k n), G) := by
  unfold evA
  simp only [ho, hx]
  have h1 : evBytes P G src dst (.int j n) = none := by simp [evBytes, hs]
  have h2 : evString P G src dst (.int j n) = none := by simp [evString, hd, telem, hs]
  rw [h1, h2]
  simp only
  rw [pureOp_one (c := .int k (k.wrap n)) (f := fun c => convert src dst c) (by rw [ho]; rfl) (by rw [ho]; rfl) (fun e => by simp only [execOp, ho]) hx (conc_int j n) (by
    unfold convert
    rw [pureRun_bind, pureRun_underlying hs]
    simp only [Option.bind_some]
    rw [pureRun_bind, pureRun_underlying hd]
    rfl) rfl, wrapF_eq]
  rfl

theorem index_str_ok {ρ : Operand → Option V} {t : TypeId} {x i : Operand} {s : List UInt8} {k : IntKind} {n : Int} {b : UInt8} (ho : o.op = .index t x i) (hu : P.underlying t = some .string) (hx : ρ x = some (.str s)) (hi : ρ i = some (.int k n))
    (h0 : 0 ≤ n) (hb : s[n.toNat]? = some b) (G : Heap) : evA P ρ o G = some (.int .u8 b.toNat, G) := by
  unfold evA
  simp only [ho, hx, hi]
  have h1 : evIndex P t (.str s) (.int k n) = none := rfl
  rw [h1]
  simp only
  have hlt : n.toNat < s.length := by
    rcases Nat.lt_or_ge n.toNat s.length with h | h
    · exact h
    · rw [List.getElem?_eq_none h] at hb; cases hb
  have e1 : concO ρ x = some (.string ⟨s.toArray⟩) := by unfold concO; rw [hx]; simp [conc]
  have e2 : concO ρ i = some (.int k n) := by unfold concO; rw [hi]; simp [conc]
  have hsz : n.toNat < (⟨s.toArray⟩ : ByteArray).size := by simpa [ByteArray.size] using hlt
  have hget : (⟨s.toArray⟩ : ByteArray)[n.toNat]? = some b := by
    rw [getElem?_pos (⟨s.toArray⟩ : ByteArray) n.toNat hsz]
    rw [List.getElem?_eq_getElem hlt] at hb
    cases hb
    rfl
  rw [pureOp_of (c := .int .u8 b.toNat) (by rw [ho]; rfl) (by rw [ho]; simp [Op.operands, e1, e2]) ?_ rfl]
  · rfl
  · simp only [execOp, ho, e1, e2, Option.getD_some]
    rw [pureRun_bind]
    have : pureRun P (Instr.index t (.string ⟨s.toArray⟩) (.int k n)) = some (.int .u8 b.toNat) := by
      unfold Instr.index
      rw [pureRun_bind]
      show (some (k, n)).bind _ = _
      simp only [Option.bind_some]
      rw [pureRun_bind, pureRun_underlying hu]
      simp only [Option.bind_some, if_pos h0, hget]
      rfl
    rw [this]
    rfl

theorem extract_str (s : List UInt8) (l h : Nat) : (⟨s.toArray⟩ : ByteArray).extract l h = ⟨((s.drop l).take (h - l)).toArray⟩ := by
  have := Lib.extract_data ⟨s.toArray⟩ l h
  refine ByteArray.ext ?_
  apply Array.ext'
  rw [this]

end

end

end Go.Proofs.Ev

namespace Go.Proofs.Ev
open Go Go.RowKit
noncomputable section

section
variable {P : Program} {nt : Nat} {o : Oper} {op : EOp} {h : HP} {T : TT} {H H' : h.σ} {v : V}

/-- The operands as they are looked up one by one. -/
def evT (T : TT) : Operand → Option V
  | .tmp i => some (T.at i)
  | .const c => absN 9 c
  | .global g => some (.raw ⟨g, 0, none⟩)
  | .func f => some (.fn f [])

theorem cL_some {nt : Nat} : ∀ (xs : List Operand) (ys : List EO), cL nt xs = some ys → ∀ x ∈ xs, ∃ y, cO nt x = some y
  | [], _, _, x, hx => by simp at hx
  | z :: r, ys, h, x, hx => by
    simp only [cL] at h
    split at h
    · rename_i y hy
      split at h
      · rename_i ys' hys
        rcases List.mem_cons.1 hx with rfl | hx
        · exact ⟨y, hy⟩
        · exact cL_some r ys' hys x hx
      · cases h
    · cases h

theorem evT_eq {x : Operand} {y : EO} (hy : cO nt x = some y) : evT T x = evalO (TT.den nt T) x := by
  rw [cO_ok T hy]
  cases x with
  | tmp i => simp only [cO] at hy; split at hy <;> cases hy; rfl
  | const c => simp only [cO] at hy; split at hy <;> cases hy; assumption
  | global g => cases hy; rfl
  | func f => cases hy; rfl

theorem slow_ok (hc : cSlow P nt o = some op) (he : eA P h T H op = some (v, H')) : evA P (evalO (TT.den nt T)) o (h.den H) = some (v, h.den H') := by
  unfold cSlow at hc
  split at hc
  · rename_i hx
    split at hc
    · rename_i ys hys
      cases hc
      simp only [eA] at he
      split at he
      · rename_i v' hv
        cases he
        have hcongr : evA P (evalO (TT.den nt T)) o [] = evA P (evT T) o [] := evA_congr fun x hx' => by
          obtain ⟨y, hy⟩ := cL_some _ _ hys x (by simpa using hx')
          exact (evT_eq hy).symm
        have h1 : evA P (evalO (TT.den nt T)) o [] = some (v, []) := by rw [hcongr]; exact hv
        exact (evA_still hx.1 hx.2.1 h1).2 hx.2.2 _
      · cases he
    · cases hc
  · cases hc

theorem appendC_ok {c : Call} {t tx : TypeId} {x y : Operand} (ha : c.args.toList = [x, y]) (hts : c.argTypes.toList = [t, tx]) (hc : cAppend P nt t tx x y = some op) (he : eA P h T H op = some (v, H')) :
    evBuiltin P (evalO (TT.den nt T)) o (h.den H) .append [x, y] [t, tx] = some (v, h.den H') := by
  unfold cAppend at hc
  split at hc
  · rename_i e x' y' hte hx hy
    split at hc
    · rename_i i zv hi hz
      split at hc
      · rename_i hcond
        obtain ⟨hpos, hzl⟩ := hcond
        have ex := cO_ok T hx
        have ey := cO_ok T hy
        simp only [evBuiltin, ex, ey]
        -- the two ways of an append
        have app : ∀ (str : Bool), (P.underlying tx = if str then some .string else P.underlying tx) → (∀ n vs, eSrc h H str i.size (eo T y') = some (n, vs) → srcV P (h.den H) tx i.size (eo T y') = some (n, vs)) →
            eA P h T H (.app i.size i.bytes str x' y') = some (v, H') → evAppend P (h.den H) t tx (eo T x') (eo T y') = some (v, h.den H') := by
          intro str _ hsrc he
          simp only [eA] at he
          split at he
          · rename_i n news hn
            have hsv := hsrc n news hn
            split at he
            · rename_i hall
              unfold evAppend
              rw [hte]
              simp only [hi, hz, hpos, hzl, and_self, if_true, hsv, hall]
              split at he
              · rename_i m hm
                rw [hm]
                simp only
                split at he
                · rename_i hm0
                  rw [if_pos hm0]
                  split at he
                  · rename_i hn0
                    rw [if_pos hn0]
                    cases he
                    subst hm0
                    rfl
                  · rename_i hn0
                    rw [if_neg hn0]
                    split at he
                    · rename_i hb
                      rw [if_pos hb]
                      obtain ⟨rfl, hd⟩ := eNew_ok he
                      rw [hd, h.den_len]
                    · cases he
                · cases he
              · rename_i b o' z1 m hm
                rw [hm]
                simp only
                split at he
                · rename_i hn0
                  rw [if_pos hn0]
                  cases he
                  rfl
                · rename_i hn0
                  rw [if_neg hn0]
                  split at he
                  · rename_i hz1
                    rw [if_pos hz1]
                    subst hz1
                    split at he
                    · rename_i k hk
                      rw [h.den_get, hk]
                      simp only
                      split at he
                      · rename_i hst
                        rw [if_pos hst]
                        split at he
                        · rename_i olds ho
                          rw [eLd_ok, hk, ho]
                          simp only
                          split at he
                          · rename_i hb
                            rw [if_pos hb]
                            obtain ⟨rfl, hd⟩ := eNew_ok he
                            rw [hd, h.den_set, h.den_len]
                          · cases he
                        · cases he
                      · cases he
                    · cases he
                  · cases he
              · cases he
            · cases he
          · cases he
        split at hc
        · rename_i e' hu
          cases hc
          rw [app false (by simp) ?_ he]
          intro n vs hs
          unfold eSrc at hs
          unfold srcV
          simp only [hu]
          split at hs
          · rename_i hsl
            rw [hsl]
            exact hs
          · rename_i b o' z' n' hsl
            rw [hsl]
            simp only
            split at hs
            · rename_i hn
              rw [if_pos hn]
              exact hs
            · rename_i hn
              rw [if_neg hn]
              split at hs
              · rename_i hz'
                rw [if_pos hz', eLd_ok]
                exact hs
              · cases hs
          · rename_i hf _; cases hf
          · cases hs
        · rename_i hu
          cases hc
          rw [app true (by simp [hu]) ?_ he]
          intro n vs hs
          unfold eSrc at hs
          unfold srcV
          simp only [hu]
          split at hs
          · rename_i hf _; cases hf
          · rename_i hf _; cases hf
          · rename_i hsl
            rw [hsl]
            exact hs
          · cases hs
        · rename_i k hu
          cases hc
          simp only [eA] at he
          split at he
          · rename_i m kl l hxm hym
            split at he
            · rename_i hcond
              obtain ⟨rfl, hw, h0, hb, hl⟩ := hcond
              have hno : evAppend P (h.den H) t tx (eo T x') (eo T y') = none := by
                unfold evAppend
                rw [hte]
                simp only [hi, hz, hpos, hzl, and_self, if_true]
                have : srcV P (h.den H) tx i.size (eo T y') = none := by unfold srcV; rw [hu]
                rw [this]
              rw [hno]
              unfold evGrow
              rw [hxm, hym]
              simp only [hte, hu, hi, hz]
              have hb' : l * (i.bytes : Int) ≤ 2 ^ 47 := by
                have h47 : (2 : Int) ^ 47 = 140737488355328 := rfl
                rw [h47]
                exact hb
              have hl' : l ≤ 2 ^ 60 := by
                have h60 : (2 : Int) ^ 60 = 1152921504606846976 := rfl
                rw [h60]
                exact hl
              rw [if_pos ⟨trivial, hpos, hzl, hw, h0, hb', hl'⟩]
              split at he
              · rename_i hl0
                rw [if_pos hl0]
                cases he
                rfl
              · rename_i hl0
                rw [if_neg hl0]
                obtain ⟨rfl, hd⟩ := eNew_ok he
                rw [hd, h.den_len]
            · cases he
          · cases he
        · cases hc
      · cases hc
    · cases hc
  · cases hc

theorem builtin_ok {c : Call} {b : Builtin} (ho : o.op = .call c) (hcal : c.callee = .builtin b) (hc : cBuiltin P nt o b c.args.toList c.argTypes.toList = some op) (he : eA P h T H op = some (v, H')) :
    evBuiltin P (evalO (TT.den nt T)) o (h.den H) b c.args.toList c.argTypes.toList = some (v, h.den H') := by
  have hslow : cSlow P nt o = some op → evBuiltin P (evalO (TT.den nt T)) o (h.den H) b c.args.toList c.argTypes.toList = some (v, h.den H') := by
    intro hs
    have := slow_ok hs he
    unfold evA at this
    simpa only [ho, hcal] using this
  have horig := hc
  unfold cBuiltin at hc
  split at hc
  · split at hc
    · rename_i x y t tx ha ht
      rw [ha, ht]
      exact appendC_ok ha ht hc he
    · cases hc
  · split at hc
    · rename_i x y t tx ha ht
      rw [ha, ht]
      split at hc
      · rename_i e x' y' hte hx hy
        split at hc
        · rename_i z hz
          cases hc
          simp only [evBuiltin, cO_ok T hx, cO_ok T hy]
          unfold evCopy
          simp only [hte, hz]
          simp only [eA] at he
          split at he
          · rename_i dp m xp n hdm hxn
            rw [hdm, hxn]
            simp only
            split at he
            · rename_i h0
              rw [if_pos h0]
              cases he
              rfl
            · rename_i h0
              rw [if_neg h0]
              split at he
              · rename_i b o' z1 c' y2 z2
                simp only
                split at he
                · rename_i hzz
                  rw [if_pos hzz, eLd_ok]
                  split at he
                  · rename_i vs hvs
                    rw [hvs]
                    simp only
                    split at he
                    · rename_i H2 hH2
                      cases he
                      rw [eSt_ok hH2]
                    · cases he
                  · cases he
                · cases he
              · cases he
          · cases he
        · cases hc
      · cases hc
    · cases hc
  · split at hc
    · rename_i x t ha ht
      rw [ha, ht]
      split at hc
      · rename_i e x' hte hx
        split at hc
        · rename_i z zv hz hzv
          split at hc
          · rename_i hcond
            cases hc
            simp only [evBuiltin, cO_ok T hx]
            unfold evClear
            simp only [hte, hz, hzv]
            simp only [eA] at he
            split at he
            · rename_i n hn
              rw [hn]
              simp only
              split at he
              · rename_i h0
                rw [if_pos h0]
                cases he
                rfl
              · cases he
            · rename_i b o' z1 n hn
              rw [hn]
              simp only
              split at he
              · rename_i h0
                rw [if_pos h0]
                cases he
                rfl
              · rename_i h0
                rw [if_neg h0]
                split at he
                · rename_i hz1
                  rw [if_pos ⟨hz1, hcond.1, hcond.2⟩]
                  split at he
                  · rename_i H2 hH2
                    cases he
                    rw [eSt_ok hH2]
                  · cases he
                · cases he
            · cases he
          · cases hc
        · cases hc
      · cases hc
    · cases hc
  · split at hc
    · rename_i x t ha ht
      split at hc
      · rename_i e x' hu hx
        cases hc
        rw [ha, ht]
        simp only [evBuiltin, cO_ok T hx]
        simp only [eA] at he
        split at he
        · rename_i a n hn
          cases he
          rw [hn]
          simp [evLen, hu]
        · cases he
      · rename_i x' hu hx
        cases hc
        rw [ha, ht]
        simp only [evBuiltin, cO_ok T hx]
        simp only [eA] at he
        split at he
        · rename_i s hn
          cases he
          rw [hn]
          have h1 : evLen P t (.str s) = none := by simp [evLen, hu]
          rw [h1]
          simp only
          have hx' : evalO (TT.den nt T) x = some (.str s) := by rw [cO_ok T hx, hn]
          rw [pureOp_one (cx := .string ⟨s.toArray⟩) (c := .int .i64 (s.length : Nat)) (f := fun cv => Builtin.len_ #[t] o.type #[cv]) (by rw [ho]; rfl) (by rw [ho]; simp [Op.operands, Call.operands, hcal, args1 ha])
            (fun e => by simp [execOp, ho, resolve, hcal, invoke, builtin, args1 ha, args1 ht]) hx' (by simp [conc]) (by
              unfold Builtin.len_
              simp only [List.getElem?_toArray, List.getElem?_cons_zero]
              rw [pureRun_bind, pureRun_underlying hu]
              have hsz : (⟨s.toArray⟩ : ByteArray).size = s.length := by simp [ByteArray.size]
              rw [← hsz]
              rfl) rfl]
          rfl
        · cases he
      · exact hslow hc
    · exact hslow hc
  · exact hslow hc


theorem bnd_pure {x : Option V} {y : Option Value} {d l cap : Nat} (hb : bndV x d = some l) (hx : ∀ v, x = some v → ∃ c, y = some c ∧ conc v = some c) (hn : x = none → y = none) (code : BoundsCode) (hl : l ≤ cap) :
    pureRun P (match y with | some v => Instr.sliceBound v cap code | none => (pure d : Sem Nat)) = some l := by
  cases x with
  | none =>
    simp [bndV] at hb
    subst hb
    rw [hn rfl]
    rfl
  | some v =>
    obtain ⟨c, rfl, hr⟩ := hx v rfl
    cases v <;> simp [bndV] at hb
    rename_i k i
    obtain ⟨h0, rfl⟩ := hb
    simp [conc] at hr
    subst hr
    unfold Instr.sliceBound
    rw [pureRun_bind]
    show (some (k, i)).bind _ = _
    simp only [Option.bind_some]
    rw [if_pos ⟨h0, by omega⟩]
    rfl

theorem bounds_pure {lo hi : Option V} {lo' hi' : Option Value} {b : Bool} {len l hh : Nat} (hbh : bndV hi len = some hh) (hbl : bndV lo 0 = some l)
    (hlo : ∀ v, lo = some v → ∃ c, lo' = some c ∧ conc v = some c) (hlon : lo = none → lo' = none) (hhi : ∀ v, hi = some v → ∃ c, hi' = some c ∧ conc v = some c) (hhin : hi = none → hi' = none)
    (h1 : l ≤ hh) (h2 : hh ≤ len) : pureRun P (Instr.sliceBounds b len len lo' hi' none) = some (l, hh, len) := by
  have e1 := fun code => bnd_pure (P := P) (d := len) hbh hhi hhin code h2
  have e2 := fun code => bnd_pure (P := P) (d := 0) hbl hlo hlon code h1
  unfold Instr.sliceBounds
  rw [pureRun_bind]
  show (some len).bind _ = _
  simp only [Option.bind_some]
  cases hi' with
  | none =>
    have e1' : hh = len := by
      cases hi with
      | none => simpa [bndV] using hbh.symm
      | some v => obtain ⟨c, hc, _⟩ := hhi v rfl; cases hc
    subst e1'
    rw [pureRun_bind]
    show (some hh).bind _ = _
    simp only [Option.bind_some]
    cases lo' with
    | none =>
      have e2' := e2 .sliceB
      simp only [pureRun] at e2'
      rw [pureRun_bind]
      show (some 0).bind _ = _
      have : l = 0 := by
        have : (some 0 : Option Nat) = some l := e2'
        cases this
        rfl
      subst this
      rfl
    | some vl =>
      have e2' := fun code => e2 code
      simp only at e2'
      rw [pureRun_bind]
      simp only [Option.isSome_none, Bool.false_eq_true, if_false, e2']
      rfl
  | some vh =>
    have e1' := fun code => e1 code
    simp only at e1'
    rw [pureRun_bind]
    simp only [e1', Option.bind_some]
    cases lo' with
    | none =>
      have e2' := e2 .sliceB
      rw [pureRun_bind]
      show (some 0).bind _ = _
      have : l = 0 := by
        have : (some 0 : Option Nat) = some l := e2'
        cases this
        rfl
      subst this
      rfl
    | some vl =>
      have e2' := fun code => e2 code
      simp only at e2'
      rw [pureRun_bind]
      simp only [Option.isSome_none, Bool.false_eq_true, if_false, e2']
      rfl

theorem bnd_conc {x : V} {d l : Nat} (hb : bndV (some x) d = some l) : ∃ c, conc x = some c := by
  cases x <;> simp [bndV] at hb
  exact ⟨_, by simp [conc]; rfl⟩

theorem opt_conc {ρ : Operand → Option V} {lo : Option Operand} {x : Option V} {d l : Nat} (ho : optV ρ lo = some x) (hb : bndV x d = some l) :
    (∀ v, x = some v → ∃ c, lo.map (fun y => (concO ρ y).getD undef) = some c ∧ conc v = some c) ∧ (x = none → lo.map (fun y => (concO ρ y).getD undef) = none) ∧ ∀ y ∈ lo.toArray, (concO ρ y).isSome = true := by
  cases lo with
  | none => simp [optV] at ho; subst ho; exact ⟨fun v h => by (cases h), fun _ => rfl, by simp⟩
  | some y =>
    simp only [optV] at ho
    split at ho
    · rename_i v hv
      cases ho
      obtain ⟨c, hc⟩ := bnd_conc hb
      have e : concO ρ y = some c := by unfold concO; rw [hv]; exact hc
      exact ⟨fun v' h => (by cases h; exact ⟨c, by simp [e], hc⟩), fun h => (by cases h), by simp [e]⟩
    · cases ho

theorem cuts_ok {ρ : Operand → Option V} {t : TypeId} {x : Operand} {lo hi : Option Operand} {vlo vhi : Option V} {s : List UInt8} {l hh : Nat} (ho : o.op = .slice t x lo hi none) (hu : P.underlying t = some .string) (hx : ρ x = some (.str s))
    (hlo : optV ρ lo = some vlo) (hhi : optV ρ hi = some vhi) (hbh : bndV vhi s.length = some hh) (hbl : bndV vlo 0 = some l) (h1 : l ≤ hh) (h2 : hh ≤ s.length) : pureOp P ρ o = some (.str ((s.drop l).take (hh - l))) := by
  obtain ⟨a1, a2, a3⟩ := opt_conc hlo hbl
  obtain ⟨b1, b2, b3⟩ := opt_conc hhi hbh
  have e1 : concO ρ x = some (.string ⟨s.toArray⟩) := by unfold concO; rw [hx]; simp [conc]
  refine pureOp_of (c := .string ⟨((s.drop l).take (hh - l)).toArray⟩) (by rw [ho]; rfl) ?_ ?_ rfl
  · rw [ho, Array.all_eq_true_iff_forall_mem]
    intro y hy
    simp only [Op.operands] at hy
    simp only [Array.mem_append] at hy
    rcases hy with ((hy | hy) | hy) | hy
    · simp at hy; rw [hy, e1]; rfl
    · exact a3 y hy
    · exact b3 y hy
    · simp at hy
  · simp only [execOp, ho, e1, Option.getD_some]
    rw [pureRun_bind]
    have hsz : (⟨s.toArray⟩ : ByteArray).size = s.length := by simp [ByteArray.size]
    have hb := bounds_pure (P := P) (b := false) hbh hbl a1 a2 b1 b2 h1 h2
    have : pureRun P (Instr.sliceAt t (.string ⟨s.toArray⟩) (lo.map fun y => (concO ρ y).getD undef) (hi.map fun y => (concO ρ y).getD undef) none) = some (.string ⟨((s.drop l).take (hh - l)).toArray⟩) := by
      unfold Instr.sliceAt
      rw [pureRun_bind, pureRun_underlying hu]
      simp only [Option.bind_some]
      unfold Instr.slice
      rw [pureRun_bind, pureRun_underlying hu]
      simp only [Option.bind_some, hsz]
      rw [if_neg (by simp), pureRun_bind, hb]
      simp only [Option.bind_some, extract_str]
      rfl
    have hm : Option.map (fun y => (concO ρ y).getD undef) (none : Option Operand) = none := rfl
    rw [hm, this]
    rfl

theorem cA_ok (hc : cA P nt o = some op) (he : eA P h T H op = some (v, H')) : evA P (evalO (TT.den nt T)) o (h.den H) = some (v, h.den H') := by
  have hslow : cSlow P nt o = some op → evA P (evalO (TT.den nt T)) o (h.den H) = some (v, h.den H') := fun hs => slow_ok hs he
  unfold cA at hc
  split at hc
  · rename_i x ho
    split at hc
    · rename_i y hy
      cases hc
      cases he
      unfold evA
      simp only [ho, cO_ok T hy]
      rfl
    · cases hc
  · rename_i x ho
    split at hc
    · rename_i y hy
      cases hc
      cases he
      unfold evA
      simp only [ho, cO_ok T hy]
      rfl
    · cases hc
  · rename_i c a b ho
    split at hc
    · rename_i c' a' b' h1 h2 h3
      cases hc
      unfold evA
      simp only [ho, cO_ok T h1, cO_ok T h2, cO_ok T h3]
      simp only [eA] at he
      split at he
      · rename_i hv; cases he; rw [hv]; rfl
      · rename_i hv; cases he; rw [hv]; rfl
      · cases he
    · cases hc
  · rename_i t ho
    split at hc
    · rename_i z hz
      cases hc
      unfold evA
      simp only [ho, hz]
      simp only [eA] at he
      obtain ⟨rfl, hd⟩ := eNew_ok he
      rw [hd, h.den_len]
    · cases hc
  · rename_i t x ho
    split at hc
    · rename_i y hy
      cases hc
      unfold evA
      simp only [ho, cO_ok T hy]
      simp only [eA] at he
      obtain ⟨rfl, hd⟩ := eNew_ok he
      rw [hd, h.den_len]
    · cases hc
  · rename_i t ps ho
    split at hc
    · rename_i z fs hz hu
      split at hc
      · rename_i pl hpl
        split at hc
        · rename_i qs hqs
          cases hc
          obtain ⟨vs, h1, h2⟩ := cParts_ok T _ _ _ hqs
          unfold evA
          simp only [ho, h1]
          simp only [eA] at he
          split at he
          · rename_i ws hws
            cases he
            unfold evBuild
            simp only [hz, hu, hpl, h2, hws]
            rfl
          · cases he
        · cases hc
      · cases hc
    · rename_i z n e hz hu
      split at hc
      · rename_i sz hsz
        split at hc
        · rename_i qs hqs
          cases hc
          obtain ⟨vs, h1, h2⟩ := cParts_ok T _ _ _ hqs
          unfold evA
          simp only [ho, h1]
          simp only [eA] at he
          split at he
          · rename_i ws hws
            cases he
            unfold evBuild
            simp only [hz, hu, hsz, h2, hws]
            rfl
          · cases he
        · cases hc
      · cases hc
    · cases hc
  · rename_i t n ps ho
    split at hc
    · rename_i e hte
      split at hc
      · rename_i z zv hz hzv
        split at hc
        · rename_i hcond
          split at hc
          · rename_i qs hqs
            cases hc
            obtain ⟨vs, h1, h2⟩ := cParts_ok T _ _ _ hqs
            unfold evA
            simp only [ho, h1]
            simp only [eA] at he
            split at he
            · rename_i ws hws
              obtain ⟨rfl, hd⟩ := eNew_ok he
              unfold evBuildSlice
              simp only [hte, hz, hzv]
              rw [if_pos hcond]
              simp only [h2, hws]
              rw [hd, h.den_len]
            · cases he
          · cases hc
        · cases hc
      · cases hc
    · cases hc
  · rename_i t x ho
    split at hc
    · rename_i y hy ht
      split at hc
      · rename_i n hn
        cases hc
        unfold evA
        simp only [ho, cO_ok T hy]
        simp only [eA] at he
        split at he
        · rename_i b o' hp
          rw [hp]
          split at he
          · rename_i vs hvs
            cases he
            simp only [evLoad, ht, hn, eLd_ok, hvs]
            rfl
          · cases he
        · cases he
      · cases hc
    · rename_i y hy ht
      cases hc
      unfold evA
      simp only [ho, cO_ok T hy]
      simp only [eA] at he
      split at he
      · rename_i b o' hp
        rw [hp]
        split at he
        · rename_i vs hvs
          split at he
          · rename_i v' hv'
            cases he
            simp only [evLoad, ht, eLd_ok, hvs, hv']
            rfl
          · cases he
        · cases he
      · cases he
    · cases hc
  · rename_i t x y ho
    split at hc
    · rename_i x' y' n hx hy hn
      cases hc
      unfold evA
      simp only [ho, cO_ok T hx, cO_ok T hy]
      simp only [eA] at he
      split at he
      · rename_i b o' hp
        rw [hp]
        split at he
        · rename_i hl
          simp only
          rw [if_pos (by rw [hn, hl])]
          split at he
          · rename_i H2 hH2
            cases he
            rw [eSt_ok hH2]
          · cases he
        · cases he
      · cases he
    · cases hc
  · rename_i x ho
    split at hc
    · rename_i y hy
      cases hc
      unfold evA
      simp only [ho, cO_ok T hy]
      simp only [eA] at he
      split at he
      · rename_i p hp; cases he; rw [hp]
      · rename_i f vs hp; cases he; rw [hp]
      · rename_i t v' hp; cases he; rw [hp]
      · cases he
    · cases hc
  · rename_i bop t x y yt ho
    split at hc
    · rename_i hf
      split at hc
      · rename_i x' y' hx hy
        cases hc
        simp only [eA] at he
        split at he
        · rename_i v' hv'
          cases he
          exact eBin_ok (hf := hf) ho (cO_ok T hx) (cO_ok T hy) hv' _
        · cases he
      · cases hc
    · exact hslow hc
  · rename_i t x ho
    split at hc
    · rename_i y hy
      cases hc
      simp only [eA] at he
      split at he
      · rename_i b hb
        cases he
        exact not_ok ho (by rw [cO_ok T hy, hb]) _
      · cases he
    · cases hc
  · rename_i src dst x ho
    split at hc
    · rename_i k' k y hs hd hy
      cases hc
      simp only [eA] at he
      split at he
      · rename_i j n hv
        cases he
        exact conv_ok ho hs hd (by rw [cO_ok T hy, hv]) _
      · cases he
    · rename_i e y hs hd hy
      split at hc
      · rename_i hu8
        cases hc
        simp only [eA] at he
        split at he
        · rename_i s hv
          obtain ⟨rfl, hden⟩ := eNew_ok he
          unfold evA
          simp only [ho, cO_ok T hy, hv]
          have htel : telem P dst = some e := by simp [telem, hd]
          have hu : P.underlying e = some (.int .u8) := by
            unfold isU8 at hu8
            split at hu8
            · assumption
            · cases hu8
          simp only [evBytes, hs, htel, hu]
          rw [hden, h.den_len]
        · cases he
      · cases hc
    · rename_i e y hs hd hy
      split at hc
      · rename_i hu8
        cases hc
        have htel : telem P src = some e := by simp [telem, hs]
        have hu : P.underlying e = some (.int .u8) := by
          unfold isU8 at hu8
          split at hu8
          · assumption
          · cases hu8
        have hbn : ∀ G x, evBytes P G src dst x = none := by
          intro G x
          simp [evBytes, hs, telem, hd]
        simp only [eA] at he
        split at he
        · rename_i n hv
          split at he
          · rename_i hn
            cases he
            subst hn
            unfold evA
            simp only [ho, cO_ok T hy, hv, hbn]
            have hsn : evString P (h.den H) src dst (.sl none 0) = none := by simp [evString, htel, hd, hu]
            rw [hsn]
            simp only
            rw [pureOp_one (cx := .slice none 0 0) (c := .string .empty) (f := fun c => convert src dst c) (by rw [ho]; rfl) (by rw [ho]; rfl) (fun e => by simp only [execOp, ho]) (by rw [cO_ok T hy, hv]) (by simp [conc]) (by
              unfold convert
              rw [pureRun_bind, pureRun_underlying hs]
              simp only [Option.bind_some]
              rw [pureRun_bind, pureRun_underlying hd]
              simp only [Option.bind_some]
              rw [pureRun_bind, pureRun_underlying hu]
              rfl) rfl]
            rfl
          · cases he
        · rename_i b o' z n hv
          unfold evA
          simp only [ho, cO_ok T hy, hv, hbn]
          split at he
          · rename_i hn
            cases he
            simp only [evString, htel, hd, hu, hn, if_true]
          · rename_i hn
            split at he
            · rename_i vs hvs
              split at he
              · rename_i s hs'
                cases he
                simp only [evString, htel, hd, hu, hn, if_false, eLd_ok, hvs, hs']
              · cases he
            · cases he
        · cases he
      · cases hc
    · cases hc
  · rename_i t x ho
    split at hc
    · rename_i ht
      split at hc
      · rename_i y hy
        cases hc
        cases he
        unfold evA
        simp only [ho, ht, if_true, cO_ok T hy]
      · cases hc
    · cases hc
  · rename_i f first caps ho
    split at hc
    · rename_i hf
      split at hc
      · rename_i xs hxs
        cases hc
        cases he
        unfold evA
        simp only [ho, hf, if_true, cL_ok T _ _ hxs]
      · cases hc
    · cases hc
  · rename_i t l c ho
    split at hc
    · rename_i e l' c' hte hl hcc
      split at hc
      · rename_i i z hi hz
        split at hc
        · rename_i hcond
          cases hc
          unfold evA
          simp only [ho, cO_ok T hl, cO_ok T hcc]
          simp only [eA] at he
          split at he
          · rename_i kl l kc c hvl hvc
            split at he
            · rename_i hb
              obtain ⟨rfl, hd⟩ := eNew_ok he
              rw [hvl, hvc]
              unfold evMake
              simp only [hte, hi, hz]
              have h47 : (2 : Int) ^ 47 = 140737488355328 := rfl
              rw [if_pos ⟨hcond.1, hcond.2, hb.1, hb.2.1, hb.2.2.1, hb.2.2.2.1, by rw [h47]; exact hb.2.2.2.2⟩]
              rw [hd, h.den_len]
            · cases he
          · cases he
        · cases hc
      · cases hc
    · cases hc
  · rename_i t x lo hi ho
    split at hc
    · rename_i x' lo' hi' hx hlo hhi
      split at hc
      · rename_i e hu
        split at hc
        · rename_i z hz
          cases hc
          unfold evA
          simp only [ho, cO_ok T hx, cOpt_ok T hlo, cOpt_ok T hhi]
          simp only [eA] at he
          split at he
          · rename_i a n _ hv
            rw [hv]
            have htel : telem P t = some e := by simp [telem, hu]
            split at he
            · rename_i hh l hbh hbl
              split at he
              · rename_i hcond
                split at he
                · rename_i b o' z1
                  split at he
                  · rename_i hz1
                    cases he
                    simp only [evCut, htel, hz, hbh, hbl, if_pos hcond, if_pos hz1]
                  · rename_i hz1
                    split at he
                    · rename_i hn0
                      cases he
                      simp only [evCut, htel, hz, hbh, hbl, if_pos hcond, if_neg hz1, if_pos hn0]
                    · cases he
                · split at he
                  · rename_i hn
                    cases he
                    simp only [evCut, htel, hz, hbh, hbl, if_pos hcond, if_pos hn]
                  · cases he
              · cases he
            · cases he
          · rename_i hf _; cases hf
          · cases he
        · cases hc
      · rename_i n e hu
        split at hc
        · rename_i z hz
          cases hc
          unfold evA
          simp only [ho, cO_ok T hx, cOpt_ok T hlo, cOpt_ok T hhi]
          simp only [eA] at he
          split at he
          · rename_i hf _; cases hf
          · rename_i n' b o' hn' hv
            cases hn'
            rw [hv]
            have htar : tarr P t = some (n, e) := by simp [tarr, hu]
            split at he
            · rename_i hh l hbh hbl
              split at he
              · rename_i hcond
                split at he
                · rename_i vs hvs
                  cases he
                  simp only [evCut, htar, hz, hbh, hbl, if_pos hcond, eLd_ok, hvs]
                · cases he
              · cases he
            · cases he
          · cases he
        · cases hc
      · rename_i hu
        cases hc
        unfold evA
        simp only [ho, cO_ok T hx, cOpt_ok T hlo, cOpt_ok T hhi]
        simp only [eA] at he
        split at he
        · rename_i s hv
          split at he
          · rename_i hh l hbh hbl
            split at he
            · rename_i hcond
              cases he
              rw [hv]
              have hno : evCut P (h.den H) t (.str s) (eOpt T lo') (eOpt T hi') = none := rfl
              rw [hno]
              simp only
              rw [cuts_ok ho hu (by rw [cO_ok T hx, hv]) (cOpt_ok T hlo) (cOpt_ok T hhi) hbh hbl hcond.1 hcond.2]
              rfl
            · cases he
          · cases he
        · cases he
      · cases hc
    · cases hc
  · rename_i t x f ho
    split at hc
    · rename_i y fd hy hf
      split at hc
      · rename_i n hn
        split at hc
        · cases hc
        · rename_i hn0
          cases hc
          unfold evA
          simp only [ho, cO_ok T hy]
          simp only [eA] at he
          split at he
          · rename_i b o' hv
            cases he
            rw [hv]
            simp only [evFieldAddr, hf, hn, if_neg hn0]
            rfl
          · cases he
      · cases hc
    · cases hc
  · rename_i t x f ho
    split at hc
    · rename_i y fd hy hf
      split at hc
      · rename_i ht
        split at hc
        · rename_i n hn
          cases hc
          unfold evA
          simp only [ho, cO_ok T hy]
          simp only [eA] at he
          split at he
          · rename_i vs hv
            cases he
            rw [hv]
            simp only [evField, hf, partV, ht, hn]
            rfl
          · cases he
        · cases hc
      · rename_i ht
        cases hc
        unfold evA
        simp only [ho, cO_ok T hy]
        simp only [eA] at he
        split at he
        · rename_i vs hv
          split at he
          · rename_i v' hv'
            cases he
            rw [hv]
            simp only [evField, hf, partV, ht, hv']
            rfl
          · cases he
        · cases he
      · cases hc
    · cases hc
  · rename_i t x i ho
    split at hc
    · rename_i x' i' hx hi
      split at hc
      · rename_i e hu
        split at hc
        · rename_i z hz
          cases hc
          unfold evA
          simp only [ho, cO_ok T hx, cO_ok T hi]
          simp only [eA] at he
          split at he
          · rename_i k n hn
            split at he
            · rename_i b o' z1 m _ hv
              split at he
              · rename_i hcond
                cases he
                rw [hn, hv]
                have htel : telem P t = some e := by simp [telem, hu]
                simp only [evIndexAddr, htel, hz, if_pos hcond]
                rfl
              · cases he
            · rename_i hf _; cases hf
            · cases he
          · cases he
        · cases hc
      · rename_i n e hu
        split at hc
        · rename_i z hz
          cases hc
          unfold evA
          simp only [ho, cO_ok T hx, cO_ok T hi]
          simp only [eA] at he
          split at he
          · rename_i k m hn
            split at he
            · rename_i hf _; cases hf
            · rename_i n' b o' hn' hv
              cases hn'
              split at he
              · rename_i hcond
                cases he
                rw [hn, hv]
                have htar : tarr P t = some (n, e) := by simp [tarr, hu]
                simp only [evIndexAddr, htar, hz, if_pos hcond]
                rfl
              · cases he
            · cases he
          · cases he
        · cases hc
      · cases hc
    · cases hc
  · rename_i t x i ho
    split at hc
    · rename_i x' i' hx hi
      split at hc
      · rename_i n e hu
        have htar : tarr P t = some (n, e) := by simp [tarr, hu]
        split at hc
        · rename_i z hz ht
          cases hc
          unfold evA
          simp only [ho, cO_ok T hx, cO_ok T hi]
          simp only [eA] at he
          split at he
          · rename_i vs k m hv hn
            rw [hv, hn]
            split at he
            · rename_i hcond
              cases he
              simp only [evIndex, htar, hz, if_pos hcond, partV, ht]
            · cases he
          · cases he
        · rename_i z hz ht
          cases hc
          unfold evA
          simp only [ho, cO_ok T hx, cO_ok T hi]
          simp only [eA] at he
          split at he
          · rename_i vs k m hv hn
            rw [hv, hn]
            split at he
            · rename_i hcond
              split at he
              · rename_i v' hv'
                cases he
                simp only [evIndex, htar, hz, if_pos hcond, partV, ht, hv']
              · cases he
            · cases he
          · cases he
        · cases hc
      · rename_i hu
        cases hc
        simp only [eA] at he
        split at he
        · rename_i s k m hv hn
          split at he
          · rename_i h0
            split at he
            · rename_i b hb
              cases he
              exact index_str_ok ho hu (by rw [cO_ok T hx, hv]) (by rw [cO_ok T hi, hn]) h0 hb _
            · cases he
          · cases he
        · cases he
      · cases hc
    · cases hc
  · rename_i t m k ho
    split at hc
    · rename_i kd e' m' k' ht hm hk
      split at hc
      · rename_i z hz
        cases hc
        simp only [eA] at he
        split at he
        · rename_i b hb
          split at he
          · rename_i v' hv'
            cases he
            unfold evA
            simp only [ho, ht, hz, cO_ok T hm, cO_ok T hk, hb]
            rw [h.den_get, hv']
            rfl
          · cases he
        · cases he
      · cases hc
    · cases hc
  · rename_i x i ho
    split at hc
    · rename_i y hy
      cases hc
      unfold evA
      simp only [ho, cO_ok T hy]
      simp only [eA] at he
      split at he
      · rename_i vs hv
        split at he
        · rename_i v' hv'
          cases he
          rw [hv]
          simp only [hv']
          rfl
        · cases he
      · cases he
    · cases hc
  · rename_i c ho
    split at hc
    · rename_i b hb
      have := builtin_ok (T := T) ho hb hc he
      unfold evA
      simpa only [ho, hb] using this
    · cases hc
  · exact hslow hc

end

end

end Go.Proofs.Ev

namespace Go.Proofs.Ev
open Go Go.RowKit
noncomputable section

inductive MOp where
  | mk
  | set (kd : IntKind) (m k x : EO)
  | len (m : EO)

inductive EAct where
  | op (e : EOp)
  | call (f : Nat) (xs : List EO)
  | callv (x : EO) (xs : List EO)
  | inv (x : EO) (name : String) (xs : List EO) (o : Oper)
  | ext (o : Oper)
  | mop (m : MOp)

structure EI where
  act : EAct
  dst : Option Nat
  grd : Option (Nat × Bool)

inductive Ck where
  | l (e : EOp) (grd : Option (Nat × Bool)) (d : Nat)
  | a (grd : Option (Nat × Bool)) (d : Nat)

inductive EK where
  | x
  | a
  | n

structure DI where
  ins : EI
  kind : EK
  chk : List Ck

abbrev ECall (h : HP) := Nat → List V → h.σ → Option (V × h.σ)

def eW (T : TT) : Option (Nat × Bool) → Bool
  | none => true
  | some (t, b) => match T.at t with
    | .bool c => c == b
    | _ => false

def ePut (T : TT) : Option Nat → V → TT
  | some d, v => T.put d v
  | none, _ => T

def eExt (P : Program) (h : HP) (T : TT) (H : h.σ) (o : Oper) : Option (V × h.σ) := match pureCall P (fun _ _ _ => none) (evT T) o [] with
  | some (v, []) => some (v, H)
  | _ => none

def eM (h : HP) (T : TT) (H : h.σ) : MOp → Option (V × h.σ)
  | .mk => match h.push H ⟨[], 0⟩ with
    | some H1 => match h.push H1 ⟨[], 4⟩ with
      | some H2 => some (.mp (h.len H), H2)
      | none => none
    | none => none
  | .set kd m k x => match eo T m with
    | .mp b => match evSet (h.get H (b + 1)) kd (eo T k) (eo T x) with
      | some vs => some (undefV, h.set H (b + 1) ⟨vs, 4⟩)
      | none => none
    | _ => none
  | .len m => match eo T m with
    | .mp b => match h.get H (b + 1) with
      | some g => some (.int .i64 g.cells.length, H)
      | none => none
    | _ => none

def eI (P : Program) (h : HP) (call : ECall h) (T : TT) (H : h.σ) : EAct → Option (V × h.σ)
  | .op e => eA P h T H e
  | .call f xs => call f (xs.map (eo T)) H
  | .callv x xs => match eo T x with
    | .fn g cap => call g (xs.map (eo T) ++ cap) H
    | _ => none
  | .inv x name xs o => match eo T x with
    | .ifc t v => match methodOf P t name with
      | some f => if enterable P f = true then call f (v :: xs.map (eo T)) H else eExt P h T H o
      | none => none
    | _ => none
  | .ext o => eExt P h T H o
  | .mop m => eM h T H m

def eIs (P : Program) (h : HP) (call : ECall h) : List EI → TT → h.σ → Option (TT × h.σ)
  | [], T, H => some (T, H)
  | i :: r, T, H => if eW T i.grd = true then (match eI P h call T H i.act with
    | some (v, H') => eIs P h call r (ePut T i.dst v) H'
    | none => none) else eIs P h call r (ePut T i.dst undefV) H

def eCk (P : Program) (h : HP) (T : TT) (H H' : h.σ) : Ck → Bool
  | .l e g d => if eW T g = true then (match eA P h T H' e with
    | some (v, _) => V.beq v (T.at d)
    | none => false) else true
  | .a g d => if eW T g = true then (match vblk (T.at d) with
    | some b => Blk.alike (h.get H b) (h.get H' b)
    | none => false) else true

def eOrd (P : Program) (h : HP) (call : ECall h) : List DI → TT → h.σ → Option (TT × h.σ)
  | [], T, H => some (T, H)
  | i :: r, T, H => if eW T i.ins.grd = true then (match eI P h call T H i.ins.act with
    | some (v, H') => match i.kind with
      | .n => eOrd P h call r (ePut T i.ins.dst v) H'
      | _ => if i.chk.all (eCk P h T H H') = true then eOrd P h call r (ePut T i.ins.dst v) H' else none
    | none => none) else eOrd P h call r (ePut T i.ins.dst undefV) H

inductive EC where
  | skip
  | reg (l : List EI)
  | drw (l : List DI)
  | seq (a b : EC)
  | cond (c : EO) (x y : EC)
  | block (id : Nat) (c : EC)
  | loop (c : EC)
  | exit (id : Nat)
  | ret

abbrev ESt (h : HP) := Ex × TT × h.σ

def eIter {h : HP} (f : TT → h.σ → Option (ESt h)) : Nat → TT → h.σ → Option (ESt h)
  | 0, _, _ => none
  | n + 1, T, H => match f T H with
    | some (.normal, T', H') => eIter f n T' H'
    | r => r

def eC (P : Program) (h : HP) (call : ECall h) (n : Nat) : EC → TT → h.σ → Option (ESt h)
  | .skip, T, H => some (.normal, T, H)
  | .reg l, T, H => match eIs P h call l T H with
    | some (T', H') => some (.normal, T', H')
    | none => none
  | .drw l, T, H => match eOrd P h call l T H with
    | some (T', H') => some (.normal, T', H')
    | none => none
  | .seq a b, T, H => match eC P h call n a T H with
    | some (.normal, T', H') => eC P h call n b T' H'
    | r => r
  | .cond c x y, T, H => match eo T c with
    | .bool true => eC P h call n x T H
    | .bool false => eC P h call n y T H
    | _ => none
  | .block id c, T, H => match eC P h call n c T H with
    | some (.exit j, T', H') => if j = id then some (.normal, T', H') else some (.exit j, T', H')
    | r => r
  | .loop c, T, H => eIter (eC P h call n c) n T H
  | .exit id, T, H => some (.exit id, T, H)
  | .ret, T, H => some (.ret, T, H)

inductive ERes where
  | tmp (i : Nat)
  | cell1 (i : Nat)
  | celln (n i : Nat)

structure EFn where
  nt : Nat
  body : EC
  res : List ERes

def eRes (h : HP) (T : TT) (H : h.σ) : List ERes → Option (List V)
  | [] => some []
  | .tmp i :: r => match eRes h T H r with
    | some vs => some (T.at i :: vs)
    | none => none
  | .cell1 i :: r => match T.at i with
    | .ptr (some (b, o)) => match eLd (h.get H b) o 1 with
      | some us => match us.head? with
        | some v => match eRes h T H r with
          | some vs => some (v :: vs)
          | none => none
        | none => none
      | none => none
    | _ => none
  | .celln n i :: r => match T.at i with
    | .ptr (some (b, o)) => match eLd (h.get H b) o n with
      | some us => match eRes h T H r with
        | some vs => some (.agg us :: vs)
        | none => none
      | none => none
    | _ => none

/-! ### How it is looked up -/

def cGrd (nt : Nat) (ops : Array Oper) : Option (Nat × Bool) → Option (Option (Nat × Bool))
  | none => some none
  | some (j, b) => match ops[j]? with
    | some o => match o.dst with
      | some d => if d < nt then some (some (d, b)) else none
      | none => none
    | none => none

def cDst (nt : Nat) : Option Tmp → Option (Option Nat)
  | none => some none
  | some d => if d < nt then some (some d) else none

def cM (P : Program) (nt : Nat) (o : Oper) : Option MOp := match o.op with
  | .makeMap _ none => some .mk
  | .mapUpdate t m k x => match tmap P t, cO nt m, cO nt k, cO nt x with
    | some (kd, _), some m, some k, some x => some (.set kd m k x)
    | _, _, _, _ => none
  | .call c => match c.callee, c.args.toList, c.argTypes.toList with
    | .builtin .len, [x], [t] => match tmap P t, cO nt x with
      | some _, some x => some (.len x)
      | _, _ => none
    | _, _, _ => none
  | _ => none

def cAct (P : Program) (nt : Nat) (o : Oper) : Option EAct := if isM P o = true then (match cM P nt o with
    | some m => some (.mop m)
    | none => none) else match o.op with
  | .call c => match c.callee with
    | .builtin _ => match cA P nt o with
      | some e => some (.op e)
      | none => none
    | .value (.func f) => match cL nt c.args.toList with
      | some xs => if enterable P f = true then some (.call f xs) else (match cL nt o.op.operands.toList with
        | some _ => some (.ext o)
        | none => none)
      | none => none
    | .value x => match cO nt x, cL nt c.args.toList with
      | some x, some xs => some (.callv x xs)
      | _, _ => none
    | .invoke x name => match cO nt x, cL nt c.args.toList, cL nt o.op.operands.toList with
      | some x, some xs, some _ => some (.inv x name xs o)
      | _, _, _ => none
  | _ => match cA P nt o with
    | some e => some (.op e)
    | none => none

def cEI (P : Program) (nt : Nat) (ops : Array Oper) (o : Oper) : Option EI := match cAct P nt o, cDst nt o.dst, cGrd nt ops o.guard with
  | some a, some d, some g => some ⟨a, d, g⟩
  | _, _, _ => none

def cIs (P : Program) (nt : Nat) (ops : Array Oper) : List Oper → Option (List EI)
  | [] => some []
  | o :: r => match cEI P nt ops o, cIs P nt ops r with
    | some i, some is => some (i :: is)
    | _, _ => none

def cCk (P : Program) (nt : Nat) (ops : Array Oper) (both : Bool) : List Nat → Option (List Ck)
  | [] => some []
  | j :: r => match ops[j]?, cCk P nt ops both r with
    | some o, some cs =>
      if isX P o = true then some cs else
      match o.dst, cGrd nt ops o.guard with
      | some d, some g => if d < nt then
          (if isL o = true then (match cA P nt o with
            | some e => some (.l e g d :: cs)
            | none => none)
          else if isA o = true then (if both = true then some (.a g d :: cs) else some cs)
          else some cs) else none
      | _, _ => none
    | _, _ => none

def cDraw (P : Program) (nt : Nat) (ops : Array Oper) (pr : List (Nat × List Nat)) : List Nat → List Nat → Option (List DI)
  | _, [] => some []
  | pre, i :: r => match ops[i]? with
    | none => none
    | some o => match cEI P nt ops o, cDraw P nt ops pr (i :: pre) r with
      | some ei, some ds =>
        if isX P o = true then (match cCk P nt ops true (pre.filter fun j => !(hasP pr j i)) with
          | some cs => some (⟨ei, .x, cs⟩ :: ds)
          | none => none)
        else (match o.dst with
          | none => none
          | some _ => if isA o = true then (match cCk P nt ops false pre with
              | some cs => some (⟨ei, .a, cs⟩ :: ds)
              | none => none) else some (⟨ei, .n, []⟩ :: ds))
      | _, _ => none

def cC (P : Program) (nt : Nat) : Code → Option EC
  | .skip => some .skip
  | .region _ ops draw => if draw = true then
      (if drawB P ops (canonOrd P ops) (predsOf ops (canonOrd P ops) []) = true then (match cDraw P nt ops (predsOf ops (canonOrd P ops) []) [] (canonOrd P ops) with
        | some l => some (.drw l)
        | none => none) else none)
    else (match cIs P nt ops ops.toList with
      | some l => some (.reg l)
      | none => none)
  | .seq a b => match cC P nt a, cC P nt b with
    | some x, some y => some (.seq x y)
    | _, _ => none
  | .cond c a b => match cO nt c, cC P nt a, cC P nt b with
    | some c, some x, some y => some (.cond c x y)
    | _, _, _ => none
  | .block id c => match cC P nt c with
    | some x => some (.block id x)
    | none => none
  | .loop c => match cC P nt c with
    | some x => some (.loop x)
    | none => none
  | .exit id => some (.exit id)
  | .ret => some .ret
  | .label _ => some .skip
  | _ => none

def cRes (P : Program) (nt : Nat) : List ResultVar → Option (List ERes)
  | [] => some []
  | .tmp t :: r => if t < nt then (match cRes P nt r with
    | some rs => some (.tmp t :: rs)
    | none => none) else none
  | .cell x t :: r => if x < nt then (match tagg P t, cRes P nt r with
    | some true, some rs => match tsize P t with
      | some n => some (.celln n x :: rs)
      | none => none
    | some false, some rs => some (.cell1 x :: rs)
    | _, _ => none) else none

def cFn (P : Program) (f : Nat) : Option EFn := match P.funcs[f]? with
  | some fn => match fn.body with
    | some c => if fn.name != "runtime.NumGoroutine" then (if fn.ntmps ≤ 512 then (match cC P fn.ntmps c, cRes P fn.ntmps fn.results.toList with
      | some x, some rs => some ⟨fn.ntmps, x, rs⟩
      | _, _ => none) else none) else none
    | none => none
  | none => none

def ldE (h : HP) (H : h.σ) (b o n : Nat) : Option (List V) := eLd (h.get H b) o n

def eIns (h : HP) (z bytes : Nat) (vs : List V) (H : h.σ) : Option (V × h.σ) := match vs with
  | [.sl a n, .int .i64 k, .sl (some (vb, vo, z2)) m] =>
    if 0 < m ∧ z2 = z ∧ 0 ≤ k ∧ k ≤ n ∧ (n + m) * bytes ≤ 140737488355328 ∧ n + m ≤ 4611686018427387904 then
      match ldE h H vb vo (m * z) with
      | some news => if news.all V.one = true then (match a with
        | none => if n = 0 then eNew h H ⟨news, 2⟩ (.sl (some (h.len H, 0, z)) m) else none
        | some (b, o, z1) => if z1 = z ∧ b ≠ vb then (match h.get H b, h.get H vb with
          | some kb, some kv => if kb.st = 2 ∧ kv.st = 2 then (match ldE h H b o (n * z) with
            | some olds => if olds.all V.one = true then eNew h (h.set H b dead) ⟨olds.take (k.toNat * z) ++ news ++ olds.drop (k.toNat * z), 2⟩ (.sl (some (h.len H, 0, z)) (n + m)) else none
            | none => none) else none
          | _, _ => none) else none) else none
      | none => none
    else none
  | _ => none

def eSrt (h : HP) (str : Bool) (vs : List V) (H : h.σ) : Option (V × h.σ) := match vs with
  | [.sl none n] => if n = 0 then some (undefV, H) else none
  | [.sl (some (b, o, z)) n] => if n = 0 then some (undefV, H) else if z = 1 ∧ 0 < n ∧ n < 4611686018427387904 then (match h.get H b with
    | some kb => if 2 ≤ kb.st then (match ldE h H b o n with
      | some us => match srtV str us with
        | some ws => some (undefV, h.set H b ⟨kb.cells.take o ++ ws ++ kb.cells.drop (o + n), kb.st⟩)
        | none => none
      | none => none) else none
    | none => none) else none
  | _ => none

def ePrim (h : HP) : Prim → List V → h.σ → Option (V × h.σ)
  | .ins z bytes, vs, H => eIns h z bytes vs H
  | .yes, [], H => some (.bool true, H)
  | .yes, _ :: _, _ => none
  | .srt str, vs, H => eSrt h str vs H

def eFn (P : Program) (pr : Prims) (tbl : Nat → Option EFn) (h : HP) : Nat → ECall h
  | 0, _, _, _ => none
  | k + 1, f, vs, H => match pr f with
    | some p => ePrim h p vs H
    | none => match tbl f with
      | none => none
      | some ef => if vs.length ≤ ef.nt then (match eC P h (eFn P pr tbl h k) k ef.body (TT.start vs 0 .nil) H with
        | some (.exit _, _, _) => none
        | some (_, T, H') => match eRes h T H' ef.res with
          | some rs => some (oneOf rs, H')
          | none => none
        | none => none) else none

/-! ### It does the same -/

section
variable {P : Program} {nt : Nat} {h : HP} {ec : ECall h} {call : CallF} {T : TT} {H H' : h.σ} {v : V}

def CallRef (P : Program) (h : HP) (ec : ECall h) (call : CallF) : Prop := ∀ f vs (H : h.σ) v (H' : h.σ), ec f vs H = some (v, H') → enterable P f = true ∧ call f vs (h.den H) = some (v, h.den H')

theorem eW_ok {ops : Array Oper} {o : Oper} {g : Option (Nat × Bool)} (hg : cGrd nt ops o.guard = some g) : wantedV ops o (TT.den nt T) = eW T g := by
  unfold wantedV
  cases hgd : o.guard with
  | none =>
    rw [hgd] at hg
    cases hg
    rfl
  | some p =>
    obtain ⟨j, b⟩ := p
    rw [hgd] at hg
    simp only [cGrd] at hg
    split at hg
    · rename_i oj hoj
      split at hg
      · rename_i d hd
        split at hg
        · rename_i hlt
          cases hg
          simp only [eW]
          unfold yieldedV
          simp only [hoj, hd]
          rw [TT.den_get? nt T d hlt]
          cases hv : T.at d <;> simp
        · cases hg
      · cases hg
    · cases hg

theorem ePut_ok {d : Option Tmp} {d' : Option Nat} (hd : cDst nt d = some d') (hn : nt ≤ 512) (v : V) : TT.den nt (ePut T d' v) = putV (TT.den nt T) d v := by
  cases d with
  | none => cases hd; rfl
  | some d =>
    simp only [cDst] at hd
    split at hd
    · rename_i hlt
      cases hd
      exact TT.den_put nt T d v hn hlt
    · cases hd

theorem eExt_ok {o : Oper} {ys : List EO} (hops : cL nt o.op.operands.toList = some ys) (he : eExt P h T H o = some (v, H')) : pureCall P call (evalO (TT.den nt T)) o (h.den H) = some (v, h.den H') := by
  unfold eExt at he
  split at he
  · rename_i v' hv
    cases he
    rw [pureCall_congr (ρ' := evT T) fun x hx => by
      obtain ⟨y, hy⟩ := cL_some _ _ hops x (by simpa using hx)
      exact (evT_eq hy).symm]
    unfold pureCall at hv ⊢
    split at hv
    · rename_i h1
      rw [if_pos h1]
      split at hv
      · rename_i h2
        rw [if_pos h2]
        split at hv
        · rename_i c hc
          obtain ⟨h3, _⟩ := keep_some hv
          simp only [h3]
          rfl
        · split at hv
          · cases hv
          · cases hv
        · cases hv
      · cases hv
    · cases hv
  · cases he

theorem eM_ok {P : Program} {nt : Nat} {h : HP} {T : TT} {H H' : h.σ} {v : V} {o : Oper} {m : MOp} (hc : cM P nt o = some m) (he : eM h T H m = some (v, H')) : evM P (evalO (TT.den nt T)) o (h.den H) = some (v, h.den H') := by
  unfold cM at hc
  split at hc
  · rename_i t ho
    cases hc
    simp only [eM] at he
    split at he
    · rename_i H1 h1
      split at he
      · rename_i H2 h2
        cases he
        unfold evM
        simp only [ho]
        rw [h.den_push _ _ _ h2, h.den_push _ _ _ h1, h.den_len]
      · cases he
    · cases he
  · rename_i t m k x ho
    split at hc
    · rename_i kd e' m' k' x' ht hm hk hx
      cases hc
      simp only [eM] at he
      split at he
      · rename_i b hb
        split at he
        · rename_i vs hvs
          cases he
          unfold evM
          simp only [ho, ht, cO_ok T hm, cO_ok T hk, cO_ok T hx, hb, h.den_get, hvs, h.den_set]
        · cases he
      · cases he
    · cases hc
  · rename_i c ho
    split at hc
    · rename_i x t h1 h2 h3
      split at hc
      · rename_i kd x' ht hx
        cases hc
        simp only [eM] at he
        split at he
        · rename_i b hb
          split at he
          · rename_i g hg
            cases he
            unfold evM
            simp only [ho, h1, h2, h3, ht, cO_ok T hx, hb, h.den_get, hg]
          · cases he
        · cases he
      · cases hc
    · cases hc
  · cases hc

theorem eI_ok (hcall : CallRef P h ec call) {o : Oper} {a : EAct} (hc : cAct P nt o = some a) (he : eI P h ec T H a = some (v, H')) : evOp P call (evalO (TT.den nt T)) o (h.den H) = some (v, h.den H') := by
  unfold cAct at hc
  split at hc
  · rename_i hM
    split at hc
    · rename_i m hm
      cases hc
      unfold evOp
      rw [if_pos hM]
      exact eM_ok hm he
    · cases hc
  rename_i hM
  have hop : ∀ r, (match o.op with
      | .call c => match c.callee with
        | .builtin b => evBuiltin P (evalO (TT.den nt T)) o (h.den H) b c.args.toList c.argTypes.toList
        | .value f => match evalO (TT.den nt T) f, listV (evalO (TT.den nt T)) c.args.toList with
          | some (.fn g cap), some vs => if enterable P g = true then call g (vs ++ cap) (h.den H) else pureCall P call (evalO (TT.den nt T)) o (h.den H)
          | _, _ => none
        | .invoke x name => match evalO (TT.den nt T) x, listV (evalO (TT.den nt T)) c.args.toList with
          | some (.ifc t v), some vs => match methodOf P t name with
            | some f => if enterable P f = true then call f (v :: vs) (h.den H) else pureCall P call (evalO (TT.den nt T)) o (h.den H)
            | none => pureCall P call (evalO (TT.den nt T)) o (h.den H)
          | _, _ => none
      | _ => evA P (evalO (TT.den nt T)) o (h.den H)) = r → evOp P call (evalO (TT.den nt T)) o (h.den H) = r := by
    intro r hr
    unfold evOp
    rw [if_neg hM]
    exact hr
  refine hop _ ?_
  split at hc
  · rename_i c ho
    split at hc
    · rename_i b hb
      split at hc
      · rename_i e hce
        cases hc
        have := cA_ok (T := T) hce he
        unfold evA at this
        simpa only [ho, hb] using this
      · cases hc
    · rename_i f hf
      split at hc
      · rename_i xs hxs
        split at hc
        · rename_i hen
          cases hc
          have hl := cL_ok T _ _ hxs
          simp only [eI] at he
          simp only [ho, hf, evalO, hl, hen, if_true, List.append_nil]
          exact (hcall f _ H v H' he).2
        · rename_i hen
          split at hc
          · rename_i ys hys
            cases hc
            have hl := cL_ok T _ _ hxs
            simp only [eI] at he
            simp only [ho, hf, evalO, hl]
            rw [if_neg hen]
            exact eExt_ok hys he
          · cases hc
      · cases hc
    · rename_i x hnf hx
      split at hc
      · rename_i x' xs hx' hxs
        cases hc
        have hl := cL_ok T _ _ hxs
        simp only [eI] at he
        split at he
        · rename_i g cap hg
          obtain ⟨h1, h2⟩ := hcall g _ H v H' he
          simp only [ho, hx, cO_ok T hx', hg, hl, h1, if_true]
          exact h2
        · cases he
      · cases hc
    · rename_i x name hx
      split at hc
      · rename_i x' xs ys hx' hxs hys
        cases hc
        have hl := cL_ok T _ _ hxs
        simp only [eI] at he
        split at he
        · rename_i t u hu
          split at he
          · rename_i f hf
            simp only [ho, hx, cO_ok T hx', hu, hl, hf]
            split at he
            · rename_i hen
              rw [if_pos hen]
              exact (hcall f _ H v H' he).2
            · rename_i hen
              rw [if_neg hen]
              exact eExt_ok hys he
          · cases he
        · cases he
      · cases hc
  · rename_i hnc
    split at hc
    · rename_i e hce
      cases hc
      exact cA_ok (T := T) hce he
    · cases hc

theorem cEI_spec {ops : Array Oper} {o : Oper} {i : EI} (hi : cEI P nt ops o = some i) : cAct P nt o = some i.act ∧ cDst nt o.dst = some i.dst ∧ cGrd nt ops o.guard = some i.grd := by
  unfold cEI at hi
  split at hi
  · cases hi
    exact ⟨by assumption, by assumption, by assumption⟩
  · cases hi

theorem eIs_ok (hcall : CallRef P h ec call) (hn : nt ≤ 512) {ops : Array Oper} : ∀ (l : List Oper) (k : Nat) (is : List EI) (T : TT) (H : h.σ) (T' : TT) (H' : h.σ), ops.toList.drop k = l → cIs P nt ops l = some is →
    eIs P h ec is T H = some (T', H') → evOps P call ops (List.range' k l.length) (TT.den nt T) (h.den H) = some (TT.den nt T', h.den H')
  | [], k, is, T, H, T', H', hl, hc, he => by
    cases hc
    cases he
    rfl
  | o :: r, k, is, T, H, T', H', hl, hc, he => by
    simp only [cIs] at hc
    split at hc
    · rename_i i is' hi his
      cases hc
      obtain ⟨h1, h2, h3⟩ := cEI_spec hi
      have ho : ops[k]? = some o := by
        have : (ops.toList.drop k)[0]? = some o := by rw [hl]; rfl
        rw [List.getElem?_drop] at this
        simpa using this
      have hr : ops.toList.drop (k + 1) = r := by
        have : (ops.toList.drop k).drop 1 = r := by rw [hl]; rfl
        rw [List.drop_drop] at this
        exact this
      simp only [List.length_cons, List.range'_succ]
      simp only [evOps, ho]
      rw [eW_ok h3]
      simp only [eIs] at he
      by_cases hw : eW T i.grd = true
      · rw [if_pos hw] at he ⊢
        split at he
        · rename_i v H2 hv
          rw [eI_ok hcall h1 hv]
          simp only
          rw [← ePut_ok h2 hn]
          exact eIs_ok hcall hn r (k + 1) is' _ H2 T' H' hr his he
        · cases he
      · rw [if_neg hw] at he ⊢
        rw [← ePut_ok h2 hn]
        exact eIs_ok hcall hn r (k + 1) is' _ H T' H' hr his he
    · cases hc

theorem den_at {d : Nat} (hd : d < nt) : (TT.den nt T).getD d undefV = T.at d := TT.den_get nt T d hd

theorem cCk_ok {ops : Array Oper} {both : Bool} : ∀ (l : List Nat) (cs : List Ck), cCk P nt ops both l = some cs → cs.all (eCk P h T H H') = true →
    ∀ j ∈ l, stillL P ops (TT.den nt T) (h.den H') j = true ∧ (both = true → stillA P ops (TT.den nt T) (h.den H) (h.den H') j = true)
  | [], cs, _, _, j, hj => by simp at hj
  | i :: r, cs, hc, ha, j, hj => by
    simp only [cCk] at hc
    split at hc
    · rename_i o cs' ho hcs'
      have hAX : isX P o = true → isA o = false := by
        intro hx
        cases hA : isA o with
        | false => rfl
        | true =>
          unfold isA at hA
          unfold isX at hx
          split at hA <;> (rename_i hop; simp [hop, isM] at hx)
          cases hA
      have hLA : isL o = true → isA o = false := by
        intro hL
        unfold isL at hL
        unfold isA
        split at hL <;> first | (rename_i hop; simp [hop]) | cases hL
      split at hc
      · rename_i hx
        cases hc
        rcases List.mem_cons.1 hj with rfl | hj
        · refine ⟨by simp [stillL, ho, hx], fun _ => by simp [stillA, ho, hAX hx]⟩
        · exact cCk_ok r cs hcs' ha j hj
      · rename_i hx
        split at hc
        · rename_i d g hd hg
          split at hc
          · rename_i hlt
            split at hc
            · rename_i hl
              split at hc
              · rename_i e hce
                cases hc
                simp only [List.all_cons, Bool.and_eq_true] at ha
                rcases List.mem_cons.1 hj with rfl | hj
                · refine ⟨?_, fun _ => by simp [stillA, ho, hLA hl]⟩
                  simp only [stillL, ho, if_neg hx, hl, if_true]
                  rw [eW_ok hg]
                  have h1 := ha.1
                  simp only [eCk] at h1
                  split at h1
                  · rename_i hw
                    rw [if_pos hw]
                    simp only [hd]
                    split at h1
                    · rename_i v H2 hv
                      rw [cA_ok hce hv]
                      simp only
                      rw [den_at hlt]
                      exact h1
                    · cases h1
                  · rename_i hw
                    rw [if_neg hw]
                · exact cCk_ok r cs' hcs' ha.2 j hj
              · cases hc
            · rename_i hl
              split at hc
              · rename_i hA
                split at hc
                · rename_i hboth
                  cases hc
                  simp only [List.all_cons, Bool.and_eq_true] at ha
                  rcases List.mem_cons.1 hj with rfl | hj
                  · refine ⟨by simp [stillL, ho, hx, hl], fun _ => ?_⟩
                    simp only [stillA, ho, hA, if_true]
                    rw [eW_ok hg]
                    have h1 := ha.1
                    simp only [eCk] at h1
                    split at h1
                    · rename_i hw
                      rw [if_pos hw]
                      simp only [hd]
                      rw [den_at hlt]
                      split at h1
                      · rename_i b hb
                        rw [hb]
                        simp only
                        rw [h.den_get, h.den_get]
                        exact h1
                      · cases h1
                    · rename_i hw
                      rw [if_neg hw]
                  · exact cCk_ok r cs' hcs' ha.2 j hj
                · rename_i hboth
                  cases hc
                  rcases List.mem_cons.1 hj with rfl | hj
                  · exact ⟨by simp [stillL, ho, hx, hl], fun hb => absurd hb hboth⟩
                  · exact cCk_ok r cs hcs' ha j hj
              · rename_i hA
                cases hc
                rcases List.mem_cons.1 hj with rfl | hj
                · exact ⟨by simp [stillL, ho, hx, hl], fun _ => by simp [stillA, ho, hA]⟩
                · exact cCk_ok r cs hcs' ha j hj
          · cases hc
        · cases hc
    · cases hc

theorem cDst_lt {d : Tmp} {d' : Option Nat} (hd : cDst nt (some d) = some d') : d < nt ∧ d' = some d := by
  simp only [cDst] at hd
  split at hd
  · cases hd; exact ⟨by assumption, rfl⟩
  · cases hd

theorem eOrd_ok (hcall : CallRef P h ec call) (hn : nt ≤ 512) {ops : Array Oper} {pr : List (Nat × List Nat)} : ∀ (l pre : List Nat) (ds : List DI) (T : TT) (H : h.σ) (T' : TT) (H' : h.σ), cDraw P nt ops pr pre l = some ds →
    eOrd P h ec ds T H = some (T', H') → evOrd P call ops pr pre l (TT.den nt T) (h.den H) = some (TT.den nt T', h.den H')
  | [], pre, ds, T, H, T', H', hc, he => by
    cases hc
    cases he
    rfl
  | i :: r, pre, ds, T, H, T', H', hc, he => by
    simp only [cDraw] at hc
    split at hc
    · cases hc
    · rename_i o ho
      split at hc
      · rename_i ei ds' hei hds'
        obtain ⟨h1, h2, h3⟩ := cEI_spec hei
        simp only [evOrd, ho]
        split at hc
        · rename_i hx
          rw [if_pos hx, eW_ok h3]
          split at hc
          · rename_i cs hcs
            cases hc
            simp only [eOrd] at he
            by_cases hw : eW T ei.grd = true
            · rw [if_pos hw] at he ⊢
              split at he
              · rename_i v H2 hv
                split at he
                · rename_i hall
                  rw [eI_ok hcall h1 hv]
                  simp only
                  rw [if_pos, ← ePut_ok h2 hn]
                  · exact eOrd_ok hcall hn r (i :: pre) ds' _ H2 T' H' hds' he
                  · rw [List.all_eq_true]
                    intro j hj
                    cases hp : hasP pr j i with
                    | true => rfl
                    | false =>
                      have := cCk_ok (P := P) (h := h) (T := T) (H := H) (H' := H2) _ _ hcs hall j (List.mem_filter.2 ⟨hj, by rw [hp]; rfl⟩)
                      simp only [Bool.false_or, Bool.and_eq_true]
                      exact ⟨this.1, this.2 rfl⟩
                · cases he
              · cases he
            · rw [if_neg hw] at he ⊢
              rw [← ePut_ok h2 hn]
              exact eOrd_ok hcall hn r (i :: pre) ds' _ H T' H' hds' he
          · cases hc
        · rename_i hx
          rw [if_neg hx]
          split at hc
          · cases hc
          · rename_i d hd
            rw [hd] at h2
            obtain ⟨hlt, hdd⟩ := cDst_lt h2
            simp only [hd]
            rw [if_pos (by rw [TT.den_length]; exact hlt), eW_ok h3]
            have hput : ∀ v, (TT.den nt T).set d v = TT.den nt (ePut T ei.dst v) := fun v => by
              rw [hdd]
              exact (TT.den_put nt T d v hn hlt).symm
            have heA : ∀ v H2, eI P h ec T H ei.act = some (v, H2) → evA P (evalO (TT.den nt T)) o (h.den H) = some (v, h.den H2) := by
              intro v H2 hv
              have := eI_ok hcall h1 hv
              unfold evOp at this
              have hnM : ¬ isM P o = true := fun hm => hx (by unfold isX; rw [if_pos hm])
              rw [if_neg hnM] at this
              split at this
              · rename_i c hop
                split at this
                · rename_i b hb
                  unfold evA
                  simpa only [hop, hb] using this
                · rename_i f hf
                  exact absurd (by unfold isX; rw [if_neg hnM]; simp [hop, hf]) hx
                · rename_i y nm hf
                  exact absurd (by unfold isX; rw [if_neg hnM]; simp [hop, hf]) hx
              · exact this
            split at hc
            · rename_i hA
              split at hc
              · rename_i cs hcs
                cases hc
                simp only [eOrd] at he
                by_cases hw : eW T ei.grd = true
                · rw [if_pos hw] at he ⊢
                  split at he
                  · rename_i v H2 hv
                    split at he
                    · rename_i hall
                      rw [heA v H2 hv]
                      simp only [hA, if_true]
                      rw [if_pos, hput]
                      · exact eOrd_ok hcall hn r (i :: pre) ds' _ H2 T' H' hds' he
                      · rw [List.all_eq_true]
                        intro j hj
                        exact (cCk_ok (P := P) (h := h) (T := T) (H := H) (H' := H2) _ _ hcs hall j hj).1
                    · cases he
                  · cases he
                · rw [if_neg hw] at he ⊢
                  rw [hput]
                  exact eOrd_ok hcall hn r (i :: pre) ds' _ H T' H' hds' he
              · cases hc
            · rename_i hA
              cases hc
              simp only [eOrd] at he
              by_cases hw : eW T ei.grd = true
              · rw [if_pos hw] at he ⊢
                split at he
                · rename_i v H2 hv
                  rw [heA v H2 hv]
                  simp only
                  rw [if_neg hA, hput]
                  exact eOrd_ok hcall hn r (i :: pre) ds' _ H2 T' H' hds' he
                · cases he
              · rw [if_neg hw] at he ⊢
                rw [hput]
                exact eOrd_ok hcall hn r (i :: pre) ds' _ H T' H' hds' he
      · cases hc

end

end

end Go.Proofs.Ev

namespace Go.Proofs.Ev
open Go Go.RowKit
noncomputable section

section
variable {P : Program} {nt : Nat} {h : HP} {ec : ECall h} {call : CallF}

def dSt (h : HP) (nt : Nat) : ESt h → St
  | (x, T, H) => (x, TT.den nt T, h.den H)

theorem eIter_ok {n0 : Nat} {f : TT → h.σ → Option (ESt h)} {g : List V → Heap → Option St} (hf : ∀ T H x T' H', f T H = some (x, T', H') → g (TT.den nt T) (h.den H) = some (x, TT.den nt T', h.den H')) :
    ∀ (n : Nat) (T : TT) (H : h.σ) (x : Ex) (T' : TT) (H' : h.σ), eIter f n T H = some (x, T', H') → iter g n (TT.den nt T) (h.den H) = some (x, TT.den nt T', h.den H')
  | 0, T, H, x, T', H', he => by simp [eIter] at he
  | n + 1, T, H, x, T', H', he => by
    simp only [eIter] at he
    simp only [iter]
    split at he
    · rename_i T1 H1 h1
      rw [hf _ _ _ _ _ h1]
      exact eIter_ok (n0 := n0) hf n T1 H1 x T' H' he
    · rename_i hne
      rw [hf _ _ _ _ _ he]
      cases x with
      | normal => exact absurd he (hne _ _)
      | exit id => rfl
      | ret => rfl

theorem eC_ok (hcall : CallRef P h ec call) (hn : nt ≤ 512) (n : Nat) : ∀ (c : Code) (e : EC) (T : TT) (H : h.σ) (x : Ex) (T' : TT) (H' : h.σ), cC P nt c = some e → eC P h ec n e T H = some (x, T', H') →
    evC P call n c (TT.den nt T) (h.den H) = some (x, TT.den nt T', h.den H') := by
  intro c
  induction c with
  | skip => intro e T H x T' H' hc he; cases hc; cases he; rfl
  | region id ops draw =>
    intro e T H x T' H' hc he
    simp only [cC] at hc
    cases draw with
    | true =>
      simp only [if_true] at hc
      split at hc
      · rename_i hd
        split at hc
        · rename_i l hl
          cases hc
          simp only [eC] at he
          split at he
          · rename_i T1 H1 h1
            cases he
            simp only [evC, if_true, evDraw]
            rw [if_pos hd, eOrd_ok hcall hn _ _ _ _ _ _ _ hl h1]
          · cases he
        · cases hc
      · cases hc
    | false =>
      simp only [Bool.false_eq_true, if_false] at hc
      split at hc
      · rename_i l hl
        cases hc
        simp only [eC] at he
        split at he
        · rename_i T1 H1 h1
          cases he
          have h2 := eIs_ok hcall hn ops.toList 0 l T H T' H' (by simp) hl h1
          simp only [evC, Bool.false_eq_true, if_false]
          rw [List.range_eq_range', ← Array.length_toList, h2]
        · cases he
      · cases hc
  | seq a b iha ihb =>
    intro e T H x T' H' hc he
    simp only [cC] at hc
    split at hc
    · rename_i ea eb ha hb
      cases hc
      simp only [eC] at he
      simp only [evC]
      split at he
      · rename_i T1 H1 h1
        rw [iha ea T H .normal T1 H1 ha h1]
        exact ihb eb T1 H1 x T' H' hb he
      · rename_i hne
        rw [iha ea T H x T' H' ha he]
        cases x with
        | normal => exact absurd he (hne _ _)
        | exit id => rfl
        | ret => rfl
    · cases hc
  | cond c a b iha ihb =>
    intro e T H x T' H' hc he
    simp only [cC] at hc
    split at hc
    · rename_i ce ea eb hce ha hb
      cases hc
      simp only [eC] at he
      simp only [evC, cO_ok T hce]
      split at he
      · rename_i hv; rw [hv]; exact iha ea T H x T' H' ha he
      · rename_i hv; rw [hv]; exact ihb eb T H x T' H' hb he
      · cases he
    · cases hc
  | block id c ih =>
    intro e T H x T' H' hc he
    simp only [cC] at hc
    split at hc
    · rename_i ec' hec
      cases hc
      simp only [eC] at he
      simp only [evC]
      split at he
      · rename_i j T1 H1 h1
        rw [ih ec' T H (.exit j) T1 H1 hec h1]
        simp only
        split at he
        · rename_i hj
          cases he
          rw [if_pos hj]
        · rename_i hj
          cases he
          rw [if_neg hj]
      · rename_i hne
        rw [ih ec' T H x T' H' hec he]
        cases x with
        | normal => rfl
        | exit j => exact absurd he (hne _ _ _)
        | ret => rfl
    · cases hc
  | loop c ih =>
    intro e T H x T' H' hc he
    simp only [cC] at hc
    split at hc
    · rename_i ec' hec
      cases hc
      simp only [eC] at he
      simp only [evC]
      exact eIter_ok (n0 := n) (fun T H x T' H' h1 => ih ec' T H x T' H' hec h1) n T H x T' H' he
    · cases hc
  | exit id => intro e T H x T' H' hc he; cases hc; cases he; rfl
  | ret => intro e T H x T' H' hc he; cases hc; cases he; rfl
  | label l => intro e T H x T' H' hc he; cases hc; cases he; rfl
  | _ => intro e T H x T' H' hc; simp [cC] at hc

theorem eRes_ok {T : TT} {H : h.σ} : ∀ (rs : List ResultVar) (es : List ERes) (vs : List V), cRes P nt rs = some es → eRes h T H es = some vs → evRes P (TT.den nt T) (h.den H) rs = some vs
  | [], es, vs, hc, he => by cases hc; cases he; rfl
  | .tmp t :: r, es, vs, hc, he => by
    simp only [cRes] at hc
    split at hc
    · rename_i hlt
      split at hc
      · rename_i es' hes
        cases hc
        simp only [eRes] at he
        split at he
        · rename_i vs' hvs
          cases he
          simp only [evRes, eRes_ok r es' vs' hes hvs, den_at hlt]
        · cases he
      · cases hc
    · cases hc
  | .cell x t :: r, es, vs, hc, he => by
    simp only [cRes] at hc
    split at hc
    · rename_i hlt
      split at hc
      · rename_i es' ht hes
        split at hc
        · rename_i n hsz
          cases hc
          simp only [eRes] at he
          split at he
          · rename_i b o hp
            split at he
            · rename_i us hus
              split at he
              · rename_i vs' hvs
                cases he
                simp only [evRes, den_at hlt, hp, evLoad, ht, hsz, eLd_ok, hus, eRes_ok r es' vs' hes hvs]
              · cases he
            · cases he
          · cases he
        · cases hc
      · rename_i es' ht hes
        cases hc
        simp only [eRes] at he
        split at he
        · rename_i b o hp
          split at he
          · rename_i us hus
            split at he
            · rename_i v hv
              split at he
              · rename_i vs' hvs
                cases he
                simp only [evRes, den_at hlt, hp, evLoad, ht, eLd_ok, hus, hv, eRes_ok r es' vs' hes hvs]
              · cases he
            · cases he
          · cases he
        · cases he
      · cases hc
    · cases hc

theorem ldE_ok (H : h.σ) (b o n : Nat) : ldCells (h.den H) b o n = ldE h H b o n := by
  unfold ldE eLd ldCells
  rw [h.den_get]
  all_goals rfl

theorem eIns_ok {z bytes : Nat} {vs : List V} {H H' : h.σ} {v : V} (he : eIns h z bytes vs H = some (v, H')) : evIns z bytes vs (h.den H) = some (v, h.den H') := by
  unfold eIns at he
  unfold evIns
  split at he
  case h_2 => cases he
  rename_i a n k vb vo z2 m
  simp only
  split at he
  case isFalse => cases he
  rename_i hc
  rw [if_pos hc, ldE_ok]
  split at he
  case h_2 => cases he
  rename_i news hnews
  rw [hnews]
  simp only
  split at he
  case isFalse => cases he
  rename_i hone
  rw [if_pos hone]
  split at he
  · split at he
    case isFalse => cases he
    rename_i hn
    obtain ⟨rfl, h2⟩ := eNew_ok he
    simp only
    rw [if_pos hn, h2, h.den_len]
  · rename_i b o z1
    split at he
    case isFalse => cases he
    rename_i hz
    simp only
    rw [if_pos hz, h.den_get, h.den_get]
    split at he
    case h_2 => cases he
    rename_i kb kv hkb hkv
    rw [hkb, hkv]
    simp only
    split at he
    case isFalse => cases he
    rename_i hst
    rw [if_pos hst, ldE_ok]
    split at he
    case h_2 => cases he
    rename_i olds holds
    rw [holds]
    simp only
    split at he
    case isFalse => cases he
    rename_i hone2
    rw [if_pos hone2]
    obtain ⟨rfl, h2⟩ := eNew_ok he
    rw [h2, h.den_set, h.den_len]

theorem eSrt_ok {str : Bool} {vs : List V} {H H' : h.σ} {v : V} (he : eSrt h str vs H = some (v, H')) : evSrt str vs (h.den H) = some (v, h.den H') := by
  unfold eSrt at he
  unfold evSrt
  split at he
  · split at he
    case isFalse => cases he
    rename_i hn
    cases he
    simp only
    rw [if_pos hn]
  · rename_i b o z n
    split at he
    · rename_i hn
      cases he
      simp only
      rw [if_pos hn]
    rename_i hn0
    split at he
    case isFalse => cases he
    rename_i hc
    simp only
    rw [if_neg hn0, if_pos hc, h.den_get]
    split at he
    case h_2 => cases he
    rename_i kb hkb
    rw [hkb]
    simp only
    split at he
    case isFalse => cases he
    rename_i hst
    rw [if_pos hst, ldE_ok]
    split at he
    case h_2 => cases he
    rename_i us hus
    rw [hus]
    simp only
    split at he
    case h_2 => cases he
    rename_i ws hws
    cases he
    rw [hws]
    simp only
    rw [h.den_set]
  · cases he

theorem eFn_ok {pr : Prims} (hpr : PrimsOK P pr) {tbl : Nat → Option EFn} (htbl : ∀ f e, tbl f = some e → cFn P f = some e) : ∀ (k : Nat), CallRef P h (eFn P pr tbl h k) (evFn P pr k) := by
  intro k
  induction k with
  | zero => intro f vs H v H' he; simp [eFn] at he
  | succ k ih =>
    intro f vs H v H' he
    simp only [eFn] at he
    split at he
    · rename_i p hp
      refine ⟨(hpr f p hp).1, ?_⟩
      simp only [evFn, hp]
      cases p with
      | ins z bytes => exact eIns_ok he
      | yes =>
        cases vs with
        | nil => cases he; rfl
        | cons a l => cases he
      | srt str => exact eSrt_ok he
    rename_i hnp
    split at he
    · cases he
    · rename_i ef hef
      have hc := htbl f ef hef
      unfold cFn at hc
      split at hc
      · rename_i fn hfn
        split at hc
        · rename_i c hbody
          split at hc
          · rename_i hname
            split at hc
            · rename_i hnt
              split at hc
              · rename_i x rs hx hrs
                cases hc
                refine ⟨by simp only [enterable, hfn, hbody]; exact hname, ?_⟩
                simp only at he
                split at he
                · rename_i hlen
                  have hst := TT.den_start vs fn.ntmps hlen hnt
                  have done : ∀ (ex : Ex) (T : TT) (H2 : h.σ), eC P h (eFn P pr tbl h k) k x (TT.start vs 0 .nil) H = some (ex, T, H2) → (ex = .normal ∨ ex = .ret) →
                      (match eRes h T H2 rs with | some rs => some (oneOf rs, H2) | none => none) = some (v, H') → evFn P pr (k + 1) f vs (h.den H) = some (v, h.den H') := by
                    intro ex T H2 h1 hex hres
                    have h2 := eC_ok ih hnt k c x _ H ex T H2 hx h1
                    rw [hst] at h2
                    split at hres
                    · rename_i us hus
                      cases hres
                      have h3 := eRes_ok (P := P) (nt := fn.ntmps) (T := T) (H := H') _ _ us hrs hus
                      simp only [evFn, hnp, evBody, hfn, hbody, h2]
                      rcases hex with rfl | rfl
                      · simp only [h3]
                      · simp only [h3]
                    · cases hres
                  split at he
                  · cases he
                  · rename_i ex T H2 hne h1
                    refine done ex T H2 h1 ?_ he
                    cases ex with
                    | normal => exact .inl rfl
                    | exit id => exact absurd rfl (hne id)
                    | ret => exact .inr rfl
                  · cases he
                · cases he
              · cases hc
            · cases hc
          · cases hc
        · cases hc
      · cases hc

def saysTrueE {h : HP} : Option (V × h.σ) → Bool
  | some (.bool true, _) => true
  | _ => false

/-- A function without arguments that answers true, as the kernel carries it out. -/
theorem closed_trueE (hm : P.follows .mixedOrders = true) {pr : Prims} (hpr : PrimsOK P pr) {k f : Nat} (he : saysTrueE (h := tabHP) (eFn P pr (cFn P) tabHP k f [] (⟨0, .nil⟩ : HT)) = true) (w : World) :
    Calls P f #[] w fun e w' => e = .returned (.bool true) ∧ Below w.heap.size w w' := by
  unfold saysTrueE at he
  split at he
  · rename_i H' hev
    have h1 := (eFn_ok hpr (fun f e h => h) k f [] _ _ _ hev).2
    have h2 : tabHP.den (⟨0, .nil⟩ : HT) = [] := rfl
    rw [h2] at h1
    exact closed_true hm hpr (k := k) (by rw [h1]; rfl) w
  · cases he

end

end

end Go.Proofs.Ev

namespace Go.Proofs.Ev
open Go Go.RowKit
noncomputable section
noncomputable section

def eA_mv (x : EO) (P : Program) (h : HP) (T : TT) (H : h.σ) : Option (V × h.σ) := some (eo T x, H)

def eA_pick (c : EO) (a : EO) (b : EO) (P : Program) (h : HP) (T : TT) (H : h.σ) : Option (V × h.σ) := match eo T c with
    | .bool true => some (eo T a, H)
    | .bool false => some (eo T b, H)
    | _ => none

def eA_new (k : List V) (P : Program) (h : HP) (T : TT) (H : h.σ) : Option (V × h.σ) := eNew h H ⟨k, 2⟩ (.ptr (some (h.len H, 0)))

def eA_box (x : EO) (P : Program) (h : HP) (T : TT) (H : h.σ) : Option (V × h.σ) := eNew h H ⟨(eo T x).cells, 2⟩ (.ptr (some (h.len H, 0)))

def eA_build (z : List V) (ps : List (Nat × Nat × EO)) (P : Program) (h : HP) (T : TT) (H : h.σ) : Option (V × h.σ) := match eFill T z ps with
    | some vs => some (.agg vs, H)
    | none => none

def eA_bslice (z : Nat) (n : Nat) (zs : List V) (ps : List (Nat × Nat × EO)) (P : Program) (h : HP) (T : TT) (H : h.σ) : Option (V × h.σ) := match eFill T zs ps with
    | some vs => eNew h H ⟨vs, 2⟩ (.sl (some (h.len H, 0, z)) n)
    | none => none

def eA_ld1 (x : EO) (P : Program) (h : HP) (T : TT) (H : h.σ) : Option (V × h.σ) := match eo T x with
    | .ptr (some (b, o)) => match eLd (h.get H b) o 1 with
      | some vs => match vs.head? with
        | some v => some (v, H)
        | none => none
      | none => none
    | _ => none

def eA_ldn (n : Nat) (x : EO) (P : Program) (h : HP) (T : TT) (H : h.σ) : Option (V × h.σ) := match eo T x with
    | .ptr (some (b, o)) => match eLd (h.get H b) o n with
      | some vs => some (.agg vs, H)
      | none => none
    | _ => none

def eA_st (n : Nat) (x : EO) (y : EO) (P : Program) (h : HP) (T : TT) (H : h.σ) : Option (V × h.σ) := match eo T x with
    | .ptr (some (b, o)) => if n = (eo T y).cells.length then (match eSt h H b o (eo T y).cells with
      | some H' => some (undefV, H')
      | none => none) else none
    | _ => none

def eA_nilchk (x : EO) (P : Program) (h : HP) (T : TT) (H : h.σ) : Option (V × h.σ) := match eo T x with
    | .ptr (some p) => some (.ptr (some p), H)
    | .fn f vs => some (.fn f vs, H)
    | .ifc t v => some (.ifc t v, H)
    | _ => none

def eA_bin (op : BinOp) (nk : Nat) (x : EO) (y : EO) (P : Program) (h : HP) (T : TT) (H : h.σ) : Option (V × h.σ) := match eBin op nk (eo T x) (eo T y) with
    | some v => some (v, H)
    | none => none

def eA_not (x : EO) (P : Program) (h : HP) (T : TT) (H : h.σ) : Option (V × h.σ) := match eo T x with
    | .bool b => some (.bool (!b), H)
    | _ => none

def eA_conv (k : IntKind) (x : EO) (P : Program) (h : HP) (T : TT) (H : h.σ) : Option (V × h.σ) := match eo T x with
    | .int _ n => some (.int k (wrapF k n), H)
    | _ => none

def eA_bytes (x : EO) (P : Program) (h : HP) (T : TT) (H : h.σ) : Option (V × h.σ) := match eo T x with
    | .str s => eNew h H ⟨s.map fun b => .int .u8 b.toNat, 3⟩ (.sl (some (h.len H, 0, 1)) s.length)
    | _ => none

def eA_string (x : EO) (P : Program) (h : HP) (T : TT) (H : h.σ) : Option (V × h.σ) := match eo T x with
    | .sl none n => if n = 0 then some (.str [], H) else none
    | .sl (some (b, o, z)) n => if n = 0 then some (.str [], H) else (match eLd (h.get H b) o n with
      | some vs => match toBytes vs with
        | some s => some (.str s, H)
        | none => none
      | none => none)
    | _ => none

def eA_ifc (t : Nat) (x : EO) (P : Program) (h : HP) (T : TT) (H : h.σ) : Option (V × h.σ) := some (.ifc t (eo T x), H)

def eA_fn (f : Nat) (xs : List EO) (P : Program) (h : HP) (T : TT) (H : h.σ) : Option (V × h.σ) := some (.fn f (xs.map (eo T)), H)

def eA_cut (z : Nat) (arr : Option Nat) (x : EO) (lo : Option EO) (hi : Option EO) (P : Program) (h : HP) (T : TT) (H : h.σ) : Option (V × h.σ) := match arr, eo T x with
    | none, .sl a n => match bndV (eOpt T hi) n, bndV (eOpt T lo) 0 with
      | some hh, some l => if l ≤ hh ∧ hh ≤ n then (match a with
        | some (b, o, z1) => if z1 = z then some (.sl (some (b, o + l * z, z)) (hh - l), H) else if n = 0 then some (.sl (some (b, o, z1)) 0, H) else none
        | none => if n = 0 then some (.sl none 0, H) else none) else none
      | _, _ => none
    | some n, .ptr (some (b, o)) => match bndV (eOpt T hi) n, bndV (eOpt T lo) 0 with
      | some hh, some l => if l ≤ hh ∧ hh ≤ n then (match eLd (h.get H b) o (n * z) with
        | some _ => some (.sl (some (b, o + l * z, z)) (hh - l), H)
        | none => none) else none
      | _, _ => none
    | _, _ => none

def eA_cuts (x : EO) (lo : Option EO) (hi : Option EO) (P : Program) (h : HP) (T : TT) (H : h.σ) : Option (V × h.σ) := match eo T x with
    | .str s => match bndV (eOpt T hi) s.length, bndV (eOpt T lo) 0 with
      | some hh, some l => if l ≤ hh ∧ hh ≤ s.length then some (.str ((s.drop l).take (hh - l)), H) else none
      | _, _ => none
    | _ => none

def eA_fa (off : Nat) (x : EO) (P : Program) (h : HP) (T : TT) (H : h.σ) : Option (V × h.σ) := match eo T x with
    | .ptr (some (b, o)) => some (.ptr (some (b, o + off)), H)
    | _ => none

def eA_fld (n : Option Nat) (off : Nat) (x : EO) (P : Program) (h : HP) (T : TT) (H : h.σ) : Option (V × h.σ) := match eo T x with
    | .agg vs => match n with
      | some n => some (.agg ((vs.drop off).take n), H)
      | none => match vs[off]? with
        | some v => some (v, H)
        | none => none
    | _ => none

def eA_ia (z : Nat) (arr : Option Nat) (x : EO) (i : EO) (P : Program) (h : HP) (T : TT) (H : h.σ) : Option (V × h.σ) := match eo T i with
    | .int _ i => match arr, eo T x with
      | none, .sl (some (b, o, z1)) n => if z1 = z ∧ 0 ≤ i ∧ i < n then some (.ptr (some (b, o + i.toNat * z)), H) else none
      | some n, .ptr (some (b, o)) => if 0 ≤ i ∧ i < n then some (.ptr (some (b, o + i.toNat * z)), H) else none
      | _, _ => none
    | _ => none

def eA_idx (z : Nat) (n : Option Nat) (arr : Nat) (x : EO) (i : EO) (P : Program) (h : HP) (T : TT) (H : h.σ) : Option (V × h.σ) := match eo T x, eo T i with
    | .agg vs, .int _ i => if 0 ≤ i ∧ i < arr then (match n with
      | some n => some (.agg ((vs.drop (i.toNat * z)).take n), H)
      | none => match vs[i.toNat * z]? with
        | some v => some (v, H)
        | none => none) else none
    | _, _ => none

def eA_idxs (x : EO) (i : EO) (P : Program) (h : HP) (T : TT) (H : h.σ) : Option (V × h.σ) := match eo T x, eo T i with
    | .str s, .int _ i => if 0 ≤ i then (match s[i.toNat]? with
      | some b => some (.int .u8 b.toNat, H)
      | none => none) else none
    | _, _ => none

def eA_ext (x : EO) (i : Nat) (P : Program) (h : HP) (T : TT) (H : h.σ) : Option (V × h.σ) := match eo T x with
    | .tup vs => match vs[i]? with
      | some v => some (v, H)
      | none => none
    | _ => none

def eA_len (x : EO) (P : Program) (h : HP) (T : TT) (H : h.σ) : Option (V × h.σ) := match eo T x with
    | .sl _ n => some (.int .i64 (n : Nat), H)
    | _ => none

def eA_lenstr (x : EO) (P : Program) (h : HP) (T : TT) (H : h.σ) : Option (V × h.σ) := match eo T x with
    | .str s => some (.int .i64 (s.length : Nat), H)
    | _ => none

def eA_app (z : Nat) (bytes : Nat) (str : Bool) (x : EO) (y : EO) (P : Program) (h : HP) (T : TT) (H : h.σ) : Option (V × h.σ) := match eSrc h H str z (eo T y) with
    | some (n, news) => if news.all V.one = true then (match eo T x with
      | .sl none m => if m = 0 then (if n = 0 then some (.sl none 0, H) else if n * bytes ≤ 140737488355328 ∧ n ≤ 4611686018427387904 then eNew h H ⟨news, 2⟩ (.sl (some (h.len H, 0, z)) n) else none) else none
      | .sl (some (b, o, z1)) m => if n = 0 then some (.sl (some (b, o, z1)) m, H) else if z1 = z then (match h.get H b with
        | some k => if 2 ≤ k.st then (match eLd (some k) o (m * z) with
          | some olds => if (m + n) * bytes ≤ 140737488355328 ∧ m + n ≤ 4611686018427387904 then eNew h (h.set H b dead) ⟨olds ++ news, k.st⟩ (.sl (some (h.len H, 0, z)) (m + n)) else none
          | none => none) else none
        | none => none) else none
      | _ => none) else none
    | none => none

def eA_grow (z : Nat) (bytes : Nat) (zero : List V) (x : EO) (y : EO) (P : Program) (h : HP) (T : TT) (H : h.σ) : Option (V × h.σ) := match eo T x, eo T y with
    | .sl none m, .int _ l => if m = 0 ∧ IntKind.i64.wrap l = l ∧ 0 ≤ l ∧ l * bytes ≤ 140737488355328 ∧ l ≤ 1152921504606846976 then
        (if l = 0 then some (.sl none 0, H) else eNew h H ⟨zrow zero (l.toNat * z), 2⟩ (.sl (some (h.len H, 0, z)) l.toNat)) else none
    | _, _ => none

def eA_cpy (z : Nat) (x : EO) (y : EO) (P : Program) (h : HP) (T : TT) (H : h.σ) : Option (V × h.σ) := match eo T x, eo T y with
    | .sl dp m, .sl xp n => if min n m = 0 then some (.int .i64 0, H) else (match dp, xp with
      | some (b, o, z1), some (c, y, z2) => if z1 = z ∧ z2 = z then (match eLd (h.get H c) y (min n m * z) with
        | some vs => match eSt h H b o vs with
          | some H' => some (.int .i64 (min n m : Nat), H')
          | none => none
        | none => none) else none
      | _, _ => none)
    | _, _ => none

def eA_clr (z : Nat) (zero : List V) (x : EO) (P : Program) (h : HP) (T : TT) (H : h.σ) : Option (V × h.σ) := match eo T x with
    | .sl none n => if n = 0 then some (undefV, H) else none
    | .sl (some (b, o, z1)) n => if n = 0 then some (undefV, H) else if z1 = z then (match eSt h H b o (zrow zero (n * z)) with
      | some H' => some (undefV, H')
      | none => none) else none
    | _ => none

def eA_mks (z : Nat) (bytes : Nat) (zero : List V) (l : EO) (c : EO) (P : Program) (h : HP) (T : TT) (H : h.σ) : Option (V × h.σ) := match eo T l, eo T c with
    | .int _ l, .int _ c => if IntKind.i64.wrap l = l ∧ IntKind.i64.wrap c = c ∧ 0 ≤ l ∧ l ≤ c ∧ (bytes : Int) * c ≤ 140737488355328 then
        eNew h H ⟨zrow zero (c.toNat * z), 2⟩ (.sl (some (h.len H, 0, z)) l.toNat) else none
    | _, _ => none

def eA_mget (kd : IntKind) (z : V) (m : EO) (k : EO) (P : Program) (h : HP) (T : TT) (H : h.σ) : Option (V × h.σ) := match eo T m with
    | .mp b => match evGet P (h.get H (b + 1)) kd z (eo T k) with
      | some v => some (v, H)
      | none => none
    | _ => none

def eA_slow (o : Oper) (P : Program) (h : HP) (T : TT) (H : h.σ) : Option (V × h.σ) := match evA P (fun
      | .tmp i => some (T.at i)
      | .const c => absN 9 c
      | .global g => some (.raw ⟨g, 0, none⟩)
      | .func f => some (.fn f [])) o [] with
    | some (v, []) => some (v, H)
    | _ => none
end

def fA (op : EOp) : (P : Program) → (h : HP) → TT → h.σ → Option (V × h.σ) := match op with
  | .mv x0 => eA_mv x0
  | .pick x0 x1 x2 => eA_pick x0 x1 x2
  | .new x0 => eA_new x0
  | .box x0 => eA_box x0
  | .build x0 x1 => eA_build x0 x1
  | .bslice x0 x1 x2 x3 => eA_bslice x0 x1 x2 x3
  | .ld1 x0 => eA_ld1 x0
  | .ldn x0 x1 => eA_ldn x0 x1
  | .st x0 x1 x2 => eA_st x0 x1 x2
  | .nilchk x0 => eA_nilchk x0
  | .bin x0 x1 x2 x3 => eA_bin x0 x1 x2 x3
  | .not x0 => eA_not x0
  | .conv x0 x1 => eA_conv x0 x1
  | .bytes x0 => eA_bytes x0
  | .string x0 => eA_string x0
  | .ifc x0 x1 => eA_ifc x0 x1
  | .fn x0 x1 => eA_fn x0 x1
  | .cut x0 x1 x2 x3 x4 => eA_cut x0 x1 x2 x3 x4
  | .cuts x0 x1 x2 => eA_cuts x0 x1 x2
  | .fa x0 x1 => eA_fa x0 x1
  | .fld x0 x1 x2 => eA_fld x0 x1 x2
  | .ia x0 x1 x2 x3 => eA_ia x0 x1 x2 x3
  | .idx x0 x1 x2 x3 x4 => eA_idx x0 x1 x2 x3 x4
  | .idxs x0 x1 => eA_idxs x0 x1
  | .ext x0 x1 => eA_ext x0 x1
  | .len x0 => eA_len x0
  | .lenstr x0 => eA_lenstr x0
  | .app x0 x1 x2 x3 x4 => eA_app x0 x1 x2 x3 x4
  | .grow x0 x1 x2 x3 x4 => eA_grow x0 x1 x2 x3 x4
  | .cpy x0 x1 x2 => eA_cpy x0 x1 x2
  | .clr x0 x1 x2 => eA_clr x0 x1 x2
  | .mks x0 x1 x2 x3 x4 => eA_mks x0 x1 x2 x3 x4
  | .mget x0 x1 x2 x3 => eA_mget x0 x1 x2 x3
  | .slow x0 => eA_slow x0

theorem fA_eq (op : EOp) (P : Program) (h : HP) (T : TT) (H : h.σ) : fA op P h T H = eA P h T H op := by cases op <;> rfl

/-! ### Actions -/

abbrev FI := (P : Program) → (h : HP) → ECall h → TT → h.σ → Option (V × h.σ)
def fI_op (e : EOp) : FI := fun P h call T H => fA e P h T H
def fI_call (f : Nat) (xs : List EO) : FI := fun P h call T H => call f (xs.map (eo T)) H
def fI_callv (x : EO) (xs : List EO) : FI := fun P h call T H => match eo T x with
  | .fn g cap => call g (xs.map (eo T) ++ cap) H
  | _ => none
def fI_inv (x : EO) (name : String) (xs : List EO) (o : Oper) : FI := fun P h call T H => match eo T x with
  | .ifc t v => match methodOf P t name with
    | some f => if enterable P f = true then call f (v :: xs.map (eo T)) H else eExt P h T H o
    | none => none
  | _ => none
def fI_mop (m : MOp) : FI := fun P h call T H => eM h T H m
def fI_ext (o : Oper) : FI := fun P h call T H => eExt P h T H o
def fI (a : EAct) : FI := match a with
  | .op e => fI_op e
  | .call f xs => fI_call f xs
  | .callv x xs => fI_callv x xs
  | .inv x name xs o => fI_inv x name xs o
  | .ext o => fI_ext o
  | .mop m => fI_mop m

theorem fI_eq (a : EAct) (P : Program) (h : HP) (call : ECall h) (T : TT) (H : h.σ) : fI a P h call T H = eI P h call T H a := by
  cases a with
  | op e => exact fA_eq e P h T H
  | _ => rfl

/-! ### Rows of instructions -/

abbrev FIs := (P : Program) → (h : HP) → ECall h → TT → h.σ → Option (TT × h.σ)
def fIs_nil : FIs := fun P h call T H => some (T, H)
def fIs_go (i : EI) (r : FIs) (P : Program) (h : HP) (call : ECall h) (T : TT) : Option (V × h.σ) → Option (TT × h.σ)
  | some (v, H') => r P h call (ePut T i.dst v) H'
  | none => none
def fIs_cons (i : EI) (r : FIs) : FIs := fun P h call T H => bif eW T i.grd then fIs_go i r P h call T (fI i.act P h call T H) else r P h call (ePut T i.dst undefV) H
def fIs (l : List EI) : FIs := List.rec (motive := fun _ => FIs) fIs_nil (fun i _ ih => fIs_cons i ih) l

theorem fIs_eq (l : List EI) : ∀ (P : Program) (h : HP) (call : ECall h) (T : TT) (H : h.σ), fIs l P h call T H = eIs P h call l T H := by
  induction l with
  | nil => intro P h call T H; rfl
  | cons i r ih =>
    intro P h call T H
    show fIs_cons i (fIs r) P h call T H = _
    simp only [fIs_cons, eIs, fI_eq]
    cases hw : eW T i.grd with
    | true =>
      simp only [cond_true, if_true]
      cases hv : eI P h call T H i.act with
      | none => rfl
      | some p => obtain ⟨v, H'⟩ := p; exact ih P h call _ _
    | false =>
      simp only [cond_false, Bool.false_eq_true, if_false]
      exact ih P h call _ _

def fCk_l (e : EOp) (g : Option (Nat × Bool)) (d : Nat) : (P : Program) → (h : HP) → TT → h.σ → h.σ → Bool := fun P h T H H' => bif eW T g then (match fA e P h T H' with
    | some (v, _) => V.beq v (T.at d)
    | none => false) else true
def fCk_a (g : Option (Nat × Bool)) (d : Nat) : (P : Program) → (h : HP) → TT → h.σ → h.σ → Bool := fun P h T H H' => bif eW T g then (match vblk (T.at d) with
    | some b => Blk.alike (h.get H b) (h.get H' b)
    | none => false) else true
def fCk (c : Ck) : (P : Program) → (h : HP) → TT → h.σ → h.σ → Bool := match c with
  | .l e g d => fCk_l e g d
  | .a g d => fCk_a g d

theorem fCk_eq (c : Ck) (P : Program) (h : HP) (T : TT) (H H' : h.σ) : fCk c P h T H H' = eCk P h T H H' c := by
  cases c with
  | l e g d =>
    simp only [fCk, fCk_l, eCk, fA_eq]
    cases eW T g <;> rfl
  | a g d =>
    simp only [fCk, fCk_a, eCk]
    cases eW T g <;> rfl

def fCks (l : List Ck) : (P : Program) → (h : HP) → TT → h.σ → h.σ → Bool := List.rec (motive := fun _ => (P : Program) → (h : HP) → TT → h.σ → h.σ → Bool) (fun _ _ _ _ _ => true) (fun c _ ih => fun P h T H H' => bif fCk c P h T H H' then ih P h T H H' else false) l

theorem fCks_eq (l : List Ck) (P : Program) (h : HP) (T : TT) (H H' : h.σ) : fCks l P h T H H' = l.all (eCk P h T H H') := by
  induction l with
  | nil => rfl
  | cons c r ih =>
    show (bif fCk c P h T H H' then fCks r P h T H H' else false) = _
    rw [fCk_eq, ih, List.all_cons]
    cases eCk P h T H H' c <;> rfl

def fOrd_go (i : DI) (r : FIs) (P : Program) (h : HP) (call : ECall h) (T : TT) (H : h.σ) : Option (V × h.σ) → Option (TT × h.σ)
  | some (v, H') => match i.kind with
    | .n => r P h call (ePut T i.ins.dst v) H'
    | _ => bif fCks i.chk P h T H H' then r P h call (ePut T i.ins.dst v) H' else none
  | none => none
def fOrd_cons (i : DI) (r : FIs) : FIs := fun P h call T H => bif eW T i.ins.grd then fOrd_go i r P h call T H (fI i.ins.act P h call T H) else r P h call (ePut T i.ins.dst undefV) H
def fOrd (l : List DI) : FIs := List.rec (motive := fun _ => FIs) fIs_nil (fun i _ ih => fOrd_cons i ih) l

theorem fOrd_eq (l : List DI) : ∀ (P : Program) (h : HP) (call : ECall h) (T : TT) (H : h.σ), fOrd l P h call T H = eOrd P h call l T H := by
  induction l with
  | nil => intro P h call T H; rfl
  | cons i r ih =>
    intro P h call T H
    show fOrd_cons i (fOrd r) P h call T H = _
    simp only [fOrd_cons, eOrd, fI_eq]
    cases hw : eW T i.ins.grd with
    | true =>
      simp only [cond_true, if_true]
      cases hv : eI P h call T H i.ins.act with
      | none => rfl
      | some p =>
        obtain ⟨v, H'⟩ := p
        simp only [fOrd_go, fCks_eq]
        cases i.kind with
        | n => exact ih P h call _ _
        | x =>
          simp only
          cases hc : i.chk.all (eCk P h T H H') with
          | true => simp only [cond_true, if_true]; exact ih P h call _ _
          | false => simp
        | a =>
          simp only
          cases hc : i.chk.all (eCk P h T H H') with
          | true => simp only [cond_true, if_true]; exact ih P h call _ _
          | false => simp
    | false =>
      simp only [cond_false, Bool.false_eq_true, if_false]
      exact ih P h call _ _

/-! ### Texts -/

abbrev FC := (P : Program) → (h : HP) → ECall h → Nat → TT → h.σ → Option (ESt h)
def fC_skip : FC := fun P h call n T H => some (.normal, T, H)
def fC_of {h : HP} : Option (TT × h.σ) → Option (ESt h)
  | some (T', H') => some (.normal, T', H')
  | none => none
def fC_reg (l : List EI) : FC := fun P h call n T H => fC_of (fIs l P h call T H)
def fC_drw (l : List DI) : FC := fun P h call n T H => fC_of (fOrd l P h call T H)
def fC_then {h : HP} (k : TT → h.σ → Option (ESt h)) : Option (ESt h) → Option (ESt h)
  | some (.normal, T', H') => k T' H'
  | r => r
def fC_seq (_ _ : EC) (ra rb : FC) : FC := fun P h call n T H => fC_then (rb P h call n) (ra P h call n T H)
def fC_pick {h : HP} (c : V) (rx ry : TT → h.σ → Option (ESt h)) (T : TT) (H : h.σ) : Option (ESt h) := match c with
  | .bool b => bif b then rx T H else ry T H
  | _ => none
def fC_cond (c : EO) (_ _ : EC) (rx ry : FC) : FC := fun P h call n T H => fC_pick (eo T c) (rx P h call n) (ry P h call n) T H
def fC_out {h : HP} (id : Nat) : Option (ESt h) → Option (ESt h)
  | some (.exit j, T', H') => bif Nat.beq j id then some (.normal, T', H') else some (.exit j, T', H')
  | r => r
def fC_block (id : Nat) (_ : EC) (r : FC) : FC := fun P h call n T H => fC_out id (r P h call n T H)
def fC_iter {h : HP} (f : TT → h.σ → Option (ESt h)) (n : Nat) : TT → h.σ → Option (ESt h) := Nat.rec (motive := fun _ => TT → h.σ → Option (ESt h)) (fun _ _ => none) (fun _ ih T H => fC_then ih (f T H)) n
def fC_loop (_ : EC) (r : FC) : FC := fun P h call n T H => fC_iter (r P h call n) n T H
def fC_exit (id : Nat) : FC := fun P h call n T H => some (.exit id, T, H)
def fC_ret : FC := fun P h call n T H => some (.ret, T, H)
def fC (e : EC) : FC := EC.rec (motive := fun _ => FC) fC_skip fC_reg fC_drw fC_seq fC_cond fC_block fC_loop fC_exit fC_ret e

theorem fC_iter_eq {h : HP} (f : TT → h.σ → Option (ESt h)) : ∀ (n : Nat) (T : TT) (H : h.σ), fC_iter f n T H = eIter f n T H
  | 0, T, H => rfl
  | n + 1, T, H => by
    show fC_then (fC_iter f n) (f T H) = _
    simp only [eIter]
    cases hf : f T H with
    | none => rfl
    | some p =>
      obtain ⟨x, T', H'⟩ := p
      cases x with
      | normal => exact fC_iter_eq f n T' H'
      | exit id => rfl
      | ret => rfl

theorem fC_eq (e : EC) : ∀ (P : Program) (h : HP) (call : ECall h) (n : Nat) (T : TT) (H : h.σ), fC e P h call n T H = eC P h call n e T H := by
  induction e with
  | skip => intros; rfl
  | reg l =>
    intro P h call n T H
    show fC_of (fIs l P h call T H) = _
    rw [fIs_eq]
    rfl
  | drw l =>
    intro P h call n T H
    show fC_of (fOrd l P h call T H) = _
    rw [fOrd_eq]
    rfl
  | seq a b iha ihb =>
    intro P h call n T H
    show fC_then (fC b P h call n) (fC a P h call n T H) = _
    rw [iha]
    simp only [eC]
    cases hf : eC P h call n a T H with
    | none => rfl
    | some p =>
      obtain ⟨x, T', H'⟩ := p
      cases x with
      | normal => exact ihb P h call n T' H'
      | exit id => rfl
      | ret => rfl
  | cond c a b iha ihb =>
    intro P h call n T H
    show fC_pick (eo T c) (fC a P h call n) (fC b P h call n) T H = _
    simp only [eC, fC_pick]
    cases eo T c <;> simp only
    rename_i v
    cases v
    · exact ihb P h call n T H
    · exact iha P h call n T H
  | block id c ih =>
    intro P h call n T H
    show fC_out id (fC c P h call n T H) = _
    rw [ih]
    simp only [eC]
    cases hf : eC P h call n c T H with
    | none => rfl
    | some p =>
      obtain ⟨x, T', H'⟩ := p
      cases x with
      | normal => rfl
      | ret => rfl
      | exit j =>
        simp only [fC_out]
        by_cases hj : j = id
        · rw [if_pos hj, (beq_iff _ _).2 hj]; rfl
        · rw [if_neg hj, beq_false _ _ hj]; rfl
  | loop c ih =>
    intro P h call n T H
    show fC_iter (fC c P h call n) n T H = _
    simp only [eC]
    rw [fC_iter_eq]
    congr 1
    funext T H
    exact ih P h call n T H
  | exit id => intros; rfl
  | ret => intros; rfl

/-! ### Functions -/

def fFn_out (h : HP) (res : List ERes) : Option (ESt h) → Option (V × h.σ)
  | some (.exit _, _, _) => none
  | some (_, T, H') => match eRes h T H' res with
    | some rs => some (oneOf rs, H')
    | none => none
  | none => none
def fFn_in (P : Program) (h : HP) (call : ECall h) (k : Nat) (vs : List V) (H : h.σ) : Option EFn → Option (V × h.σ)
  | some ef => bif Nat.ble vs.length ef.nt then fFn_out h ef.res (fC ef.body P h call k (TT.start vs 0 .nil) H) else none
  | none => none
def fFn_pr (P : Program) (tbl : Nat → Option EFn) (h : HP) (call : ECall h) (k f : Nat) (vs : List V) (H : h.σ) : Option Prim → Option (V × h.σ)
  | some p => ePrim h p vs H
  | none => fFn_in P h call k vs H (tbl f)
def fFn (P : Program) (pr : Prims) (tbl : Nat → Option EFn) (h : HP) (k : Nat) : ECall h := Nat.rec (motive := fun _ => ECall h) (fun _ _ _ => none) (fun k ih f vs H => fFn_pr P tbl h ih k f vs H (pr f)) k

theorem fFn_eq (P : Program) (pr : Prims) (tbl : Nat → Option EFn) (h : HP) : ∀ (k f : Nat) (vs : List V) (H : h.σ), fFn P pr tbl h k f vs H = eFn P pr tbl h k f vs H
  | 0, f, vs, H => rfl
  | k + 1, f, vs, H => by
    show fFn_pr P tbl h (fFn P pr tbl h k) k f vs H (pr f) = _
    have ih : fFn P pr tbl h k = eFn P pr tbl h k := by funext f vs H; exact fFn_eq P pr tbl h k f vs H
    rw [ih]
    simp only [eFn]
    cases pr f with
    | some p => rfl
    | none =>
    simp only [fFn_pr]
    cases tbl f with
    | none => rfl
    | some ef =>
      simp only [fFn_in]
      by_cases hl : vs.length ≤ ef.nt
      · rw [if_pos hl, Nat.ble_eq_true_of_le hl, cond_true, fC_eq]
        cases eC P h (eFn P pr tbl h k) k ef.body (TT.start vs 0 .nil) H with
        | none => rfl
        | some p =>
          obtain ⟨x, T', H'⟩ := p
          cases x <;> rfl
      · have hb : Nat.ble vs.length ef.nt = false := by
          cases hb : Nat.ble vs.length ef.nt with
          | false => rfl
          | true => exact absurd (Nat.le_of_ble_eq_true hb) hl
        rw [if_neg hl, hb]
        rfl

theorem closed_trueF {P : Program} (hm : P.follows .mixedOrders = true) {pr : Prims} (hpr : PrimsOK P pr) {k f : Nat} (he : saysTrueE (h := tabHP) (fFn P pr (cFn P) tabHP k f [] (⟨0, .nil⟩ : HT)) = true) (w : World) :
    Calls P f #[] w fun e w' => e = .returned (.bool true) ∧ Below w.heap.size w w' := by
  have h2 := fFn_eq P pr (cFn P) tabHP k f [] (⟨0, .nil⟩ : HT)
  exact closed_trueE hm hpr (k := k) (f := f) (by rw [← h2]; exact he) w

end

end Go.Proofs.Ev
