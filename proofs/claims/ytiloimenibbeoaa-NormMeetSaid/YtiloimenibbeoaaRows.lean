/-
  No cell of these rows narrows 'for every input' (looked for: loops, veiled, ifaces, maps, wideKeys, modest, calm, conditions, laid).
  DERIVED. THE GIVEN ROWS OF THIS SEAT. 6 by the template 'for every input the law returns true; each argument reads behind the call as it read before'; 0 by the template 'total and deterministic' (their statements: YtiloimenibbeoaaTotals.lean).
  GIVEN WITH THE SEED: the statements are not yours to turn. If you find one false, say at which input.
  Laid BY PROGRAM, IN A SANDBOX (cutbox-rows.mjs): the forced cells as the released guide's own fill.sh prints them over the translation 93fb6a60dcdba2c8… (all of the seat's roots in one cut). By AI agents, Wed Nov 11 2026. No macro, syntax, notation, axiom, sorry.
-/
import Derived.Test.YtiloimenibbeoaaChecked
import GoSem.Claim
import GoSem.ClaimJoined
import GoSem.ClaimMapViews
import Derived.JoinedTies
import Derived.KernelRfl
namespace Go.Proofs.Ytiloimenibbeoaa
/- THE CELL 'sum', in the pinned program and in every row, IS THE sha256 OF THE DUMP (.gsa) THAT YtiloimenibbeoaaProg.lean LOADS. Nothing in Lean hashes anything: it is a label: what it is worth is what the hold of that sum in a sandbox is worth. -/
noncomputable def Try.pinned : Pinned := { name := "ytiloimenibbeoaa", sum := "93fb6a60dcdba2c8086bc4c79b7f38f50253063d7a22e2da356d3e1a0b656d76", checked := Try.checked }
namespace Rows
def none {H : Type} : Left H := { results := [], args := [] }

/-- 'cardamomlaw7.NormAll': WHATEVER THE INPUT: true; the input reads as it did. -/
def normAllSpec : ChangeSpec := { name := "normAll", fn := fun _ => fun
  | [d1, d2] => { results := [.lit (.bool true)], args := [d1, d2] }
  | _ => none }
def normAllRow : OpenClaim := { program := "ytiloimenibbeoaa", sum := "93fb6a60dcdba2c8086bc4c79b7f38f50253063d7a22e2da356d3e1a0b656d76", func := "cardamom/cardamomlaw7.NormAll", spec := "normAll", unfollowed := true, recurses := true, apart := false }
def NormAllSaid : Prop := normAllRow.holds Try.pinned (OpenSpec.ofChange normAllSpec)

/-- ITS FALSE NEIGHBOUR: 'it returns false'. Refute it at one input. -/
def normAllWrong : ChangeSpec := { name := "normAll", fn := fun _ => fun
  | [d1, d2] => { results := [.lit (.bool false)], args := [d1, d2] }
  | _ => none }
def NormAllWrongFalsely : Prop := normAllRow.holds Try.pinned (OpenSpec.ofChange normAllWrong)

/-- 'cardamomlaw7.NormMeet': WHATEVER THE INPUT: true; the input reads as it did. -/
def normMeetSpec : ChangeSpec := { name := "normMeet", fn := fun _ => fun
  | [d1, d2] => { results := [.lit (.bool true)], args := [d1, d2] }
  | _ => none }
def normMeetRow : OpenClaim := { program := "ytiloimenibbeoaa", sum := "93fb6a60dcdba2c8086bc4c79b7f38f50253063d7a22e2da356d3e1a0b656d76", func := "cardamom/cardamomlaw7.NormMeet", spec := "normMeet", unfollowed := true, recurses := true, apart := false }
def NormMeetSaid : Prop := normMeetRow.holds Try.pinned (OpenSpec.ofChange normMeetSpec)

/-- ITS FALSE NEIGHBOUR: 'it returns false'. Refute it at one input. -/
def normMeetWrong : ChangeSpec := { name := "normMeet", fn := fun _ => fun
  | [d1, d2] => { results := [.lit (.bool false)], args := [d1, d2] }
  | _ => none }
def NormMeetWrongFalsely : Prop := normMeetRow.holds Try.pinned (OpenSpec.ofChange normMeetWrong)

/-- 'cardamomlaw7.NormTrue': WHATEVER THE INPUT: true; the input reads as it did. -/
def normTrueSpec : ChangeSpec := { name := "normTrue", fn := fun _ => fun
  | [d1, d2] => { results := [.lit (.bool true)], args := [d1, d2] }
  | _ => none }
def normTrueRow : OpenClaim := { program := "ytiloimenibbeoaa", sum := "93fb6a60dcdba2c8086bc4c79b7f38f50253063d7a22e2da356d3e1a0b656d76", func := "cardamom/cardamomlaw7.NormTrue", spec := "normTrue", unfollowed := true, recurses := true, apart := false }
def NormTrueSaid : Prop := normTrueRow.holds Try.pinned (OpenSpec.ofChange normTrueSpec)

/-- ITS FALSE NEIGHBOUR: 'it returns false'. Refute it at one input. -/
def normTrueWrong : ChangeSpec := { name := "normTrue", fn := fun _ => fun
  | [d1, d2] => { results := [.lit (.bool false)], args := [d1, d2] }
  | _ => none }
def NormTrueWrongFalsely : Prop := normTrueRow.holds Try.pinned (OpenSpec.ofChange normTrueWrong)

/-- 'cardamomlaw7.NormBoth': WHATEVER THE INPUT: true; the input reads as it did. -/
def normBothSpec : ChangeSpec := { name := "normBoth", fn := fun _ => fun
  | [d1, d2] => { results := [.lit (.bool true)], args := [d1, d2] }
  | _ => none }
def normBothRow : OpenClaim := { program := "ytiloimenibbeoaa", sum := "93fb6a60dcdba2c8086bc4c79b7f38f50253063d7a22e2da356d3e1a0b656d76", func := "cardamom/cardamomlaw7.NormBoth", spec := "normBoth", unfollowed := true, recurses := true, apart := false }
def NormBothSaid : Prop := normBothRow.holds Try.pinned (OpenSpec.ofChange normBothSpec)

/-- ITS FALSE NEIGHBOUR: 'it returns false'. Refute it at one input. -/
def normBothWrong : ChangeSpec := { name := "normBoth", fn := fun _ => fun
  | [d1, d2] => { results := [.lit (.bool false)], args := [d1, d2] }
  | _ => none }
def NormBothWrongFalsely : Prop := normBothRow.holds Try.pinned (OpenSpec.ofChange normBothWrong)

/-- 'cardamomlaw7.NormForms': WHATEVER THE INPUT: true; the input reads as it did. -/
def normFormsSpec : ChangeSpec := { name := "normForms", fn := fun _ => fun
  | [] => { results := [.lit (.bool true)], args := [] }
  | _ => none }
def normFormsRow : OpenClaim := { program := "ytiloimenibbeoaa", sum := "93fb6a60dcdba2c8086bc4c79b7f38f50253063d7a22e2da356d3e1a0b656d76", func := "cardamom/cardamomlaw7.NormForms", spec := "normForms", unfollowed := true, recurses := true, apart := false }
def NormFormsSaid : Prop := normFormsRow.holds Try.pinned (OpenSpec.ofChange normFormsSpec)

/-- ITS FALSE NEIGHBOUR: 'it returns false'. Refute it at one input. -/
def normFormsWrong : ChangeSpec := { name := "normForms", fn := fun _ => fun
  | [] => { results := [.lit (.bool false)], args := [] }
  | _ => none }
def NormFormsWrongFalsely : Prop := normFormsRow.holds Try.pinned (OpenSpec.ofChange normFormsWrong)

/-- 'cardamomlaw7.NormNot': WHATEVER THE INPUT: true; the input reads as it did. -/
def normNotSpec : ChangeSpec := { name := "normNot", fn := fun _ => fun
  | [d1, d2] => { results := [.lit (.bool true)], args := [d1, d2] }
  | _ => none }
def normNotRow : OpenClaim := { program := "ytiloimenibbeoaa", sum := "93fb6a60dcdba2c8086bc4c79b7f38f50253063d7a22e2da356d3e1a0b656d76", func := "cardamom/cardamomlaw7.NormNot", spec := "normNot", unfollowed := true, recurses := true, apart := false }
def NormNotSaid : Prop := normNotRow.holds Try.pinned (OpenSpec.ofChange normNotSpec)

/-- ITS FALSE NEIGHBOUR: 'it returns false'. Refute it at one input. -/
def normNotWrong : ChangeSpec := { name := "normNot", fn := fun _ => fun
  | [d1, d2] => { results := [.lit (.bool false)], args := [d1, d2] }
  | _ => none }
def NormNotWrongFalsely : Prop := normNotRow.holds Try.pinned (OpenSpec.ofChange normNotWrong)

/- THE SECOND FORM. 'bulk': how many values and letters a reading holds, each counted each time it is reached (what is shared counts as often as it is met; a slice's spare places count too). A statement '..UptoSaid' is the law's where the arguments, and the package variables that the reading takes, are together of bulk at most 1048576: NARROWER than '..Said'. Prove '..Said' where nothing that the law and all that it calls make is longer than what came in: it says more and counts as full. Else prove '..UptoSaid'. A law counts once. -/
mutual
def uptoBulk {H : Type} : DataW H → Nat
  | .lit (.string bytes) => bytes.length + 1
  | .lit _ => 1
  | .nil => 1
  | .ptr d => uptoBulk d + 1
  | .slice elems spare => uptoBulkAll elems + uptoBulkAll spare + 1
  | .agg parts => uptoBulkAll parts + 1
  | .iface _ d => uptoBulk d + 1
  | .map entries => uptoBulkEntries entries + 1
  | .held _ => 1
def uptoBulkAll {H : Type} : List (DataW H) → Nat
  | [] => 0
  | d :: r => uptoBulk d + uptoBulkAll r
def uptoBulkEntries {H : Type} : List (Lit × DataW H) → Nat
  | [] => 0
  | x :: r => uptoBulkEntry x + uptoBulkEntries r
def uptoBulkEntry {H : Type} : Lit × DataW H → Nat
  | (.string bytes, d) => bytes.length + uptoBulk d + 1
  | (_, d) => uptoBulk d + 1
 end
def uptoSmall : (H : Type) → List (DataW H) → Bool := fun _ ds => decide (uptoBulkAll ds ≤ 1048576)
def OpenSpec.upto (s : _root_.Go.ChangeSpec) : _root_.Go.OpenSpec := { _root_.Go.OpenSpec.ofChange s with cond := some uptoSmall }

/-- 'cardamomlaw7.NormAll', WHERE WHAT IT READS IS OF BULK AT MOST 1048576: true; the input reads as it did. -/
def normAllUptoRow : OpenClaim := { program := "ytiloimenibbeoaa", sum := "93fb6a60dcdba2c8086bc4c79b7f38f50253063d7a22e2da356d3e1a0b656d76", func := "cardamom/cardamomlaw7.NormAll", spec := "normAll", unfollowed := true, recurses := true, apart := false, narrowed := true }
def NormAllUptoSaid : Prop := normAllUptoRow.holds Try.pinned (OpenSpec.upto normAllSpec)

/-- 'cardamomlaw7.NormMeet', WHERE WHAT IT READS IS OF BULK AT MOST 1048576: true; the input reads as it did. -/
def normMeetUptoRow : OpenClaim := { program := "ytiloimenibbeoaa", sum := "93fb6a60dcdba2c8086bc4c79b7f38f50253063d7a22e2da356d3e1a0b656d76", func := "cardamom/cardamomlaw7.NormMeet", spec := "normMeet", unfollowed := true, recurses := true, apart := false, narrowed := true }
def NormMeetUptoSaid : Prop := normMeetUptoRow.holds Try.pinned (OpenSpec.upto normMeetSpec)

/-- 'cardamomlaw7.NormTrue', WHERE WHAT IT READS IS OF BULK AT MOST 1048576: true; the input reads as it did. -/
def normTrueUptoRow : OpenClaim := { program := "ytiloimenibbeoaa", sum := "93fb6a60dcdba2c8086bc4c79b7f38f50253063d7a22e2da356d3e1a0b656d76", func := "cardamom/cardamomlaw7.NormTrue", spec := "normTrue", unfollowed := true, recurses := true, apart := false, narrowed := true }
def NormTrueUptoSaid : Prop := normTrueUptoRow.holds Try.pinned (OpenSpec.upto normTrueSpec)

/-- 'cardamomlaw7.NormBoth', WHERE WHAT IT READS IS OF BULK AT MOST 1048576: true; the input reads as it did. -/
def normBothUptoRow : OpenClaim := { program := "ytiloimenibbeoaa", sum := "93fb6a60dcdba2c8086bc4c79b7f38f50253063d7a22e2da356d3e1a0b656d76", func := "cardamom/cardamomlaw7.NormBoth", spec := "normBoth", unfollowed := true, recurses := true, apart := false, narrowed := true }
def NormBothUptoSaid : Prop := normBothUptoRow.holds Try.pinned (OpenSpec.upto normBothSpec)

/-- 'cardamomlaw7.NormForms', WHERE WHAT IT READS IS OF BULK AT MOST 1048576: true; the input reads as it did. -/
def normFormsUptoRow : OpenClaim := { program := "ytiloimenibbeoaa", sum := "93fb6a60dcdba2c8086bc4c79b7f38f50253063d7a22e2da356d3e1a0b656d76", func := "cardamom/cardamomlaw7.NormForms", spec := "normForms", unfollowed := true, recurses := true, apart := false, narrowed := true }
def NormFormsUptoSaid : Prop := normFormsUptoRow.holds Try.pinned (OpenSpec.upto normFormsSpec)

/-- 'cardamomlaw7.NormNot', WHERE WHAT IT READS IS OF BULK AT MOST 1048576: true; the input reads as it did. -/
def normNotUptoRow : OpenClaim := { program := "ytiloimenibbeoaa", sum := "93fb6a60dcdba2c8086bc4c79b7f38f50253063d7a22e2da356d3e1a0b656d76", func := "cardamom/cardamomlaw7.NormNot", spec := "normNot", unfollowed := true, recurses := true, apart := false, narrowed := true }
def NormNotUptoSaid : Prop := normNotUptoRow.holds Try.pinned (OpenSpec.upto normNotSpec)

end Rows
end Go.Proofs.Ytiloimenibbeoaa
