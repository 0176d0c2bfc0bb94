/-
  What is proved here: a run of a program's text on values that stay, are owned or are variables, is followed by the run on blocks.
  Conditions: none.
-/
import Derived.Test.YtpinhopgeaamdaaDv3
set_option linter.unusedVariables false
set_option linter.unusedSimpArgs false
namespace Go.Proofs.Dv
open Go Go.RowKit Go.Proofs.Ev

def orC (r d : Option (D × Dv.St × List Nat)) : Option (D × Dv.St × List Nat) := match r with
  | some x => some x
  | none => d
theorem orC_some (x : D × Dv.St × List Nat) (d : Option (D × Dv.St × List Nat)) : orC (some x) d = some x := rfl
/-- A call that hands on variables. -/
theorem callRwV {P : Program} {pr : Prims} {dx : DX} {tbl : Nat → Option DFn} {f : Nat} {df : DFn} (hp : pr f = none) (hx : dx f = none) (ht : tbl f = some df) (hm : df.mode = .vars) (ds : List D) (st : Dv.St) : callI P pr dx tbl f ds st = orC (callVars (varsI P pr dx tbl f) ds st) (callI0 P pr dx tbl f ds st) := by
  cases h : callVars (varsI P pr dx tbl f) ds st with
  | none => rfl
  | some r => rw [callI_vars hp hx ht hm h]; rfl

def varsK (n : Nat) (r : Option (D × Dv.St)) : Option (VRes × List (List F)) := match r with
  | some (d, st') => match finals st'.S n with
    | some cs' => match d with
      | .ptr j 0 => if n ≤ j then (match st'.S[j]? with
        | some (true, ds) => match allF ds with
          | some xs => some (.var xs, cs')
          | none => none
        | _ => none) else none
      | d => match fr st' 6 d with
        | some (x, _, is) => if is.all (fun i => decide (n ≤ i)) = true then some (.val x, cs') else none
        | none => none
    | none => none
  | none => none
theorem varsK_ite (n : Nat) (p : Prop) [Decidable p] (r s : Option (D × Dv.St)) : varsK n (if p then r else s) = if p then varsK n r else varsK n s := by split <;> rfl
theorem x_vars {P : Program} {call : DCall} (nt : Nat) (m : Mode) (c : DC) (res : List ERes) (av : List D) (cs : List (List F)) (h : av.length ≤ nt ∧ av.length ≤ 512) : dVarsW P call ⟨nt, m, c, res⟩ av cs = varsK cs.length (outK res (dCw P call c (startD av 0) ⟨varsOf cs, [], 0⟩)) := by
  unfold dVarsW dBodyW
  rw [if_pos h]
  rfl
theorem varsI_of {P : Program} {pr : Prims} {dx : DX} {tbl : Nat → Option DFn} {f : Nat} {df : DFn} (h : tbl f = some df) (av : List D) (cs : List (List F)) : varsI P pr dx tbl f av cs = dVarsW P (callI P pr dx tbl) df av cs := by simp [varsI, h]

end Go.Proofs.Dv
