/-
  What is proved here: a law whose argument may be a piece (a number and a text): what it gives on values that stay, the model's run gives.
  Conditions: none.
-/
import Derived.Test.YtpinhopgeaamdaaDv3
import Derived.OpenShut
import Derived.ChangeArms
import Derived.WideShapes
import Derived.WalkKit
import Derived.ProofKit
set_option linter.unusedVariables false
set_option linter.unusedSimpArgs false
namespace Go.Proofs.Dv
open Go Go.RowKit Go.Proofs.Ev Go.WideShapes Go.ChangeShapes Go.ChangeAt

inductive In1S (w : World) : Value → F → Prop
  | old {c : Value} {x : F} (h : In1 w c x) : In1S w c x
  | here {c : Value} {v : V} {x : F} (h : Arg [] c v x) : In1S w c x
inductive InsS (w : World) : List Value → List F → Prop
  | nil : InsS w [] []
  | cons {c : Value} {x : F} {cs : List Value} {xs : List F} (h : In1S w c x) (k : InsS w cs xs) : InsS w (c :: cs) (x :: xs)
theorem In1S.arg {w : World} {c : Value} {x : F} (h : In1S w c x) (l0 : List Came) : ∃ l1 v, Arg (l0 ++ l1) c v x ∧ ∀ a ∈ l1, a.ok w := by
  cases h with
  | old h => exact h.arg l0
  | here h => exact ⟨[], _, by simpa using h.app l0, fun a h => by cases h⟩
theorem InsS.args {w : World} {cs : List Value} {xs : List F} (h : InsS w cs xs) : ∀ l0 : List Came, ∃ l1 vs, (∀ l2, Args (l0 ++ l1 ++ l2) cs vs xs) ∧ ∀ a ∈ l1, a.ok w := by
  induction h with
  | nil => intro l0; exact ⟨[], [], fun _ => .nil, fun a h => by cases h⟩
  | cons h k ih =>
    intro l0
    obtain ⟨l1, v, h1, h2⟩ := h.arg l0
    obtain ⟨l2, vs, h3, h4⟩ := ih (l0 ++ l1)
    refine ⟨l1 ++ l2, v :: vs, fun l3 => .cons ?_ ?_, fun a ha => ?_⟩
    · have := h1.app (l2 ++ l3)
      simpa [List.append_assoc] using this
    · have := h3 l3
      simpa [List.append_assoc] using this
    · rcases List.mem_append.1 ha with h | h
      · exact h2 a h
      · exact h4 a h
/-- A law that gives true, of what comes in. -/
theorem law_inS {P : Program} {w : World} {pr : Prims} {tblE : Nat → Option EFn} {dx : DX} {tbl : Nat → Option DFn} (hm : P.follows .mixedOrders = true) (hpr : PrimsOK P pr) (ht : TblOK P pr tblE dx tbl) (hE : ∀ f e, tblE f = some e → cFn P f = some e) {f : Nat} {df : DFn}
    (hp : pr f = none) (hx : dx f = none) (hf : tbl f = some df) (hmo : df.mode = .pure) {cs : List Value} {xs : List F} (ha : InsS w cs xs) (h : pureI P pr dx tbl f xs = some (.bool true)) :
    Calls P f cs.toArray w fun e w' => e = .returned (.bool true) ∧ Below w.heap.size w w' := by
  obtain ⟨l1, vs, h1, h2⟩ := ha.args []
  have h1 := h1 []
  simp only [List.nil_append, List.append_nil] at h1
  exact law_true hm hpr ht hE hp hx hf hmo h2 h1 h
theorem in_seg {P : Program} {w : World} {base : Nat} {t e1 e2 : TypeId} {fs : Array Field} {v : Value} (hu : P.underlying t = some (.struct fs)) (hct : P.cellTypes P.depth t = some [e1, e2] ∧ P.cellsOf t = 2) (h1 : P.underlying e1 = some (.int .i64)) (h2 : P.underlying e2 = some .string)
    (hok : Value.okWide P w .any base t v) : ∃ (n : Int) (s : List UInt8), In1S w v (.agg [.int .i64 n, .str s]) := by
  obtain ⟨hct, hc⟩ := hct
  simp only [Value.okWide, hu] at hok
  obtain ⟨cs, rfl, hsz, ts, hts, _, hall⟩ := hok
  rw [hct] at hts
  cases hts
  rw [hc] at hsz
  obtain ⟨l⟩ := cs
  match l, hsz with
  | [a, b], _ =>
    obtain ⟨u, hu1, hk1⟩ := hall 0 a (by simp)
    obtain ⟨u', hu2, hk2⟩ := hall 1 b (by simp)
    simp at hu1 hu2
    subst hu1 hu2
    obtain ⟨n, rfl⟩ : ∃ n, a = .int .i64 n := by
      simp only [Cell.okWide, h1] at hk1
      cases a <;> simp_all [Cell.ok]
    obtain ⟨s, rfl⟩ : ∃ s, b = .string s := by
      simp only [Cell.okWide, h2] at hk2
      cases b <;> simp_all [Cell.ok]
    refine ⟨n, s.data.toList, .here (v := .agg [.int .i64 n, .str s.data.toList]) (.agg (by simp) (by simp) ?_)⟩
    intro j c v x hc hv hx
    match j with
    | 0 =>
      simp at hc hv hx
      subst hc hv hx
      exact .int _ _
    | 1 =>
      simp at hc hv hx
      subst hc hv hx
      exact .str _
    | j + 2 => simp at hc
end Go.Proofs.Dv
