/-
  No cell of these rows narrows 'for every input' (looked for: loops, veiled, ifaces, maps, wideKeys, modest, calm, conditions, laid).
  DERIVED. THE GIVEN ROWS OF THIS SEAT. 11 by the template 'for every input the law returns true; each argument reads behind the call as it read before'; 0 by the template 'total and deterministic' (their statements: YtmbboljcgpccfaaTotals.lean).
  GIVEN WITH THE SEED: the statements are not yours to turn. If you find one false, say at which input.
  Laid BY PROGRAM, IN A SANDBOX (cutbox-rows.mjs): the forced cells as the released guide's own fill.sh prints them over the translation 7b559b813eabb0ab… (all of the seat's roots in one cut). By AI agents, Wed Nov 11 2026. No macro, syntax, notation, axiom, sorry.
-/
import Derived.Test.YtmbboljcgpccfaaChecked
import GoSem.Claim
import GoSem.ClaimJoined
import GoSem.ClaimMapViews
import Derived.JoinedTies
import Derived.KernelRfl
namespace Go.Proofs.Ytmbboljcgpccfaa
/- THE CELL 'sum', in the pinned program and in every row, IS THE sha256 OF THE DUMP (.gsa) THAT YtmbboljcgpccfaaProg.lean LOADS. Nothing in Lean hashes anything: it is a label: what it is worth is what the hold of that sum in a sandbox is worth. -/
noncomputable def Try.pinned : Pinned := { name := "ytmbboljcgpccfaa", sum := "7b559b813eabb0ab15b027c3e1c96859de9c6eaab3fb0610450230b88e2015df", checked := Try.checked }
namespace Rows
def none {H : Type} : Left H := { results := [], args := [] }

/-- 'cardamomlaw10.HoldAll': WHATEVER THE INPUT: true; the input reads as it did. -/
def holdAllSpec : ChangeSpec := { name := "holdAll", fn := fun _ => fun
  | [d1, d2, d3, d4] => { results := [.lit (.bool true)], args := [d1, d2, d3, d4] }
  | _ => none }
def holdAllRow : OpenClaim := { program := "ytmbboljcgpccfaa", sum := "7b559b813eabb0ab15b027c3e1c96859de9c6eaab3fb0610450230b88e2015df", func := "cardamom/cardamomlaw10.HoldAll", spec := "holdAll", inPlace := ["slices.overlaps[cardamom/api.Version]"], unfollowed := true, recurses := true, apart := false }
def HoldAllSaid : Prop := holdAllRow.holds Try.pinned (OpenSpec.ofChange holdAllSpec)

/-- ITS FALSE NEIGHBOUR: 'it returns false'. Refute it at one input. -/
def holdAllWrong : ChangeSpec := { name := "holdAll", fn := fun _ => fun
  | [d1, d2, d3, d4] => { results := [.lit (.bool false)], args := [d1, d2, d3, d4] }
  | _ => none }
def HoldAllWrongFalsely : Prop := holdAllRow.holds Try.pinned (OpenSpec.ofChange holdAllWrong)

/-- 'cardamomlaw10.HoldOnce': WHATEVER THE INPUT: true; the input reads as it did. -/
def holdOnceSpec : ChangeSpec := { name := "holdOnce", fn := fun _ => fun
  | [d1, d2] => { results := [.lit (.bool true)], args := [d1, d2] }
  | _ => none }
def holdOnceRow : OpenClaim := { program := "ytmbboljcgpccfaa", sum := "7b559b813eabb0ab15b027c3e1c96859de9c6eaab3fb0610450230b88e2015df", func := "cardamom/cardamomlaw10.HoldOnce", spec := "holdOnce", inPlace := ["slices.overlaps[cardamom/api.Version]"], unfollowed := true, recurses := true, apart := false }
def HoldOnceSaid : Prop := holdOnceRow.holds Try.pinned (OpenSpec.ofChange holdOnceSpec)

/-- ITS FALSE NEIGHBOUR: 'it returns false'. Refute it at one input. -/
def holdOnceWrong : ChangeSpec := { name := "holdOnce", fn := fun _ => fun
  | [d1, d2] => { results := [.lit (.bool false)], args := [d1, d2] }
  | _ => none }
def HoldOnceWrongFalsely : Prop := holdOnceRow.holds Try.pinned (OpenSpec.ofChange holdOnceWrong)

/-- 'cardamomlaw10.HoldParts': WHATEVER THE INPUT: true; the input reads as it did. -/
def holdPartsSpec : ChangeSpec := { name := "holdParts", fn := fun _ => fun
  | [d1, d2] => { results := [.lit (.bool true)], args := [d1, d2] }
  | _ => none }
def holdPartsRow : OpenClaim := { program := "ytmbboljcgpccfaa", sum := "7b559b813eabb0ab15b027c3e1c96859de9c6eaab3fb0610450230b88e2015df", func := "cardamom/cardamomlaw10.HoldParts", spec := "holdParts", inPlace := ["slices.overlaps[cardamom/api.Version]"], unfollowed := true, recurses := true, apart := false }
def HoldPartsSaid : Prop := holdPartsRow.holds Try.pinned (OpenSpec.ofChange holdPartsSpec)

/-- ITS FALSE NEIGHBOUR: 'it returns false'. Refute it at one input. -/
def holdPartsWrong : ChangeSpec := { name := "holdParts", fn := fun _ => fun
  | [d1, d2] => { results := [.lit (.bool false)], args := [d1, d2] }
  | _ => none }
def HoldPartsWrongFalsely : Prop := holdPartsRow.holds Try.pinned (OpenSpec.ofChange holdPartsWrong)

/-- 'cardamomlaw10.HoldForms': WHATEVER THE INPUT: true; the input reads as it did. -/
def holdFormsSpec : ChangeSpec := { name := "holdForms", fn := fun _ => fun
  | [] => { results := [.lit (.bool true)], args := [] }
  | _ => none }
def holdFormsRow : OpenClaim := { program := "ytmbboljcgpccfaa", sum := "7b559b813eabb0ab15b027c3e1c96859de9c6eaab3fb0610450230b88e2015df", func := "cardamom/cardamomlaw10.HoldForms", spec := "holdForms", inPlace := ["slices.overlaps[cardamom/api.Version]"], unfollowed := true, recurses := true, apart := false }
def HoldFormsSaid : Prop := holdFormsRow.holds Try.pinned (OpenSpec.ofChange holdFormsSpec)

/-- ITS FALSE NEIGHBOUR: 'it returns false'. Refute it at one input. -/
def holdFormsWrong : ChangeSpec := { name := "holdForms", fn := fun _ => fun
  | [] => { results := [.lit (.bool false)], args := [] }
  | _ => none }
def HoldFormsWrongFalsely : Prop := holdFormsRow.holds Try.pinned (OpenSpec.ofChange holdFormsWrong)

/-- 'cardamomlaw9.SeenAll': WHATEVER THE INPUT: true; the input reads as it did. -/
def seenAllSpec : ChangeSpec := { name := "seenAll", fn := fun _ => fun
  | [d1, d2, d3, d4, d5] => { results := [.lit (.bool true)], args := [d1, d2, d3, d4, d5] }
  | _ => none }
def seenAllRow : OpenClaim := { program := "ytmbboljcgpccfaa", sum := "7b559b813eabb0ab15b027c3e1c96859de9c6eaab3fb0610450230b88e2015df", func := "cardamom/cardamomlaw9.SeenAll", spec := "seenAll", inPlace := ["slices.overlaps[cardamom/api.Head]", "internal/reflectlite.TypeOf"], unfollowed := true, recurses := true, apart := false }
def SeenAllSaid : Prop := seenAllRow.holds Try.pinned (OpenSpec.ofChange seenAllSpec)

/-- ITS FALSE NEIGHBOUR: 'it returns false'. Refute it at one input. -/
def seenAllWrong : ChangeSpec := { name := "seenAll", fn := fun _ => fun
  | [d1, d2, d3, d4, d5] => { results := [.lit (.bool false)], args := [d1, d2, d3, d4, d5] }
  | _ => none }
def SeenAllWrongFalsely : Prop := seenAllRow.holds Try.pinned (OpenSpec.ofChange seenAllWrong)

/-- 'cardamomlaw9.SeenMost': WHATEVER THE INPUT: true; the input reads as it did. -/
def seenMostSpec : ChangeSpec := { name := "seenMost", fn := fun _ => fun
  | [d1, d2, d3] => { results := [.lit (.bool true)], args := [d1, d2, d3] }
  | _ => none }
def seenMostRow : OpenClaim := { program := "ytmbboljcgpccfaa", sum := "7b559b813eabb0ab15b027c3e1c96859de9c6eaab3fb0610450230b88e2015df", func := "cardamom/cardamomlaw9.SeenMost", spec := "seenMost", inPlace := ["slices.overlaps[cardamom/api.Head]", "internal/reflectlite.TypeOf"], unfollowed := true, recurses := true, apart := false }
def SeenMostSaid : Prop := seenMostRow.holds Try.pinned (OpenSpec.ofChange seenMostSpec)

/-- ITS FALSE NEIGHBOUR: 'it returns false'. Refute it at one input. -/
def seenMostWrong : ChangeSpec := { name := "seenMost", fn := fun _ => fun
  | [d1, d2, d3] => { results := [.lit (.bool false)], args := [d1, d2, d3] }
  | _ => none }
def SeenMostWrongFalsely : Prop := seenMostRow.holds Try.pinned (OpenSpec.ofChange seenMostWrong)

/-- 'cardamomlaw9.SeenGrows': WHATEVER THE INPUT: true; the input reads as it did. -/
def seenGrowsSpec : ChangeSpec := { name := "seenGrows", fn := fun _ => fun
  | [d1, d2] => { results := [.lit (.bool true)], args := [d1, d2] }
  | _ => none }
def seenGrowsRow : OpenClaim := { program := "ytmbboljcgpccfaa", sum := "7b559b813eabb0ab15b027c3e1c96859de9c6eaab3fb0610450230b88e2015df", func := "cardamom/cardamomlaw9.SeenGrows", spec := "seenGrows", inPlace := ["slices.overlaps[cardamom/api.Head]", "internal/reflectlite.TypeOf"], unfollowed := true, recurses := true, apart := false }
def SeenGrowsSaid : Prop := seenGrowsRow.holds Try.pinned (OpenSpec.ofChange seenGrowsSpec)

/-- ITS FALSE NEIGHBOUR: 'it returns false'. Refute it at one input. -/
def seenGrowsWrong : ChangeSpec := { name := "seenGrows", fn := fun _ => fun
  | [d1, d2] => { results := [.lit (.bool false)], args := [d1, d2] }
  | _ => none }
def SeenGrowsWrongFalsely : Prop := seenGrowsRow.holds Try.pinned (OpenSpec.ofChange seenGrowsWrong)

/-- 'cardamomlaw9.SeenForms': WHATEVER THE INPUT: true; the input reads as it did. -/
def seenFormsSpec : ChangeSpec := { name := "seenForms", fn := fun _ => fun
  | [] => { results := [.lit (.bool true)], args := [] }
  | _ => none }
def seenFormsRow : OpenClaim := { program := "ytmbboljcgpccfaa", sum := "7b559b813eabb0ab15b027c3e1c96859de9c6eaab3fb0610450230b88e2015df", func := "cardamom/cardamomlaw9.SeenForms", spec := "seenForms", inPlace := ["slices.overlaps[cardamom/api.Head]", "internal/reflectlite.TypeOf"], unfollowed := true, recurses := true, apart := false }
def SeenFormsSaid : Prop := seenFormsRow.holds Try.pinned (OpenSpec.ofChange seenFormsSpec)

/-- ITS FALSE NEIGHBOUR: 'it returns false'. Refute it at one input. -/
def seenFormsWrong : ChangeSpec := { name := "seenForms", fn := fun _ => fun
  | [] => { results := [.lit (.bool false)], args := [] }
  | _ => none }
def SeenFormsWrongFalsely : Prop := seenFormsRow.holds Try.pinned (OpenSpec.ofChange seenFormsWrong)

/-- 'cardamomlaw9.SeenBoth': WHATEVER THE INPUT: true; the input reads as it did. -/
def seenBothSpec : ChangeSpec := { name := "seenBoth", fn := fun _ => fun
  | [d1, d2, d3] => { results := [.lit (.bool true)], args := [d1, d2, d3] }
  | _ => none }
def seenBothRow : OpenClaim := { program := "ytmbboljcgpccfaa", sum := "7b559b813eabb0ab15b027c3e1c96859de9c6eaab3fb0610450230b88e2015df", func := "cardamom/cardamomlaw9.SeenBoth", spec := "seenBoth", inPlace := ["slices.overlaps[cardamom/api.Head]", "internal/reflectlite.TypeOf"], unfollowed := true, recurses := true, apart := false }
def SeenBothSaid : Prop := seenBothRow.holds Try.pinned (OpenSpec.ofChange seenBothSpec)

/-- ITS FALSE NEIGHBOUR: 'it returns false'. Refute it at one input. -/
def seenBothWrong : ChangeSpec := { name := "seenBoth", fn := fun _ => fun
  | [d1, d2, d3] => { results := [.lit (.bool false)], args := [d1, d2, d3] }
  | _ => none }
def SeenBothWrongFalsely : Prop := seenBothRow.holds Try.pinned (OpenSpec.ofChange seenBothWrong)

/-- 'cardamomlaw24.TopoSteps': WHATEVER THE INPUT: true; the input reads as it did. -/
def topoStepsSpec : ChangeSpec := { name := "topoSteps", fn := fun _ => fun
  | [d1, d2] => { results := [.lit (.bool true)], args := [d1, d2] }
  | _ => none }
def topoStepsRow : OpenClaim := { program := "ytmbboljcgpccfaa", sum := "7b559b813eabb0ab15b027c3e1c96859de9c6eaab3fb0610450230b88e2015df", func := "cardamom/cardamomlaw24.TopoSteps", spec := "topoSteps", apart := false }
def TopoStepsSaid : Prop := topoStepsRow.holds Try.pinned (OpenSpec.ofChange topoStepsSpec)

/-- ITS FALSE NEIGHBOUR: 'it returns false'. Refute it at one input. -/
def topoStepsWrong : ChangeSpec := { name := "topoSteps", fn := fun _ => fun
  | [d1, d2] => { results := [.lit (.bool false)], args := [d1, d2] }
  | _ => none }
def TopoStepsWrongFalsely : Prop := topoStepsRow.holds Try.pinned (OpenSpec.ofChange topoStepsWrong)

/-- 'cardamomlaw24.TopoMore': WHATEVER THE INPUT: true; the input reads as it did. -/
def topoMoreSpec : ChangeSpec := { name := "topoMore", fn := fun _ => fun
  | [d1, d2, d3, d4] => { results := [.lit (.bool true)], args := [d1, d2, d3, d4] }
  | _ => none }
def topoMoreRow : OpenClaim := { program := "ytmbboljcgpccfaa", sum := "7b559b813eabb0ab15b027c3e1c96859de9c6eaab3fb0610450230b88e2015df", func := "cardamom/cardamomlaw24.TopoMore", spec := "topoMore", apart := false }
def TopoMoreSaid : Prop := topoMoreRow.holds Try.pinned (OpenSpec.ofChange topoMoreSpec)

/-- ITS FALSE NEIGHBOUR: 'it returns false'. Refute it at one input. -/
def topoMoreWrong : ChangeSpec := { name := "topoMore", fn := fun _ => fun
  | [d1, d2, d3, d4] => { results := [.lit (.bool false)], args := [d1, d2, d3, d4] }
  | _ => none }
def TopoMoreWrongFalsely : Prop := topoMoreRow.holds Try.pinned (OpenSpec.ofChange topoMoreWrong)

/- THE SECOND FORM. 'bulk': how many values and letters a reading holds, each counted each time it is reached (what is shared counts as often as it is met; a slice's spare places count too). A statement '..UptoSaid' is the law's where the arguments, and the package variables that the reading takes, are together of bulk at most 1048576: NARROWER than '..Said'. Prove '..Said' where nothing that the law and all that it calls make is longer than what came in: it says more and counts as full. Else prove '..UptoSaid'. A law counts once. -/
mutual
def uptoBulk {H : Type} : DataW H → Nat
  | .lit (.string bytes) => bytes.length + 1
  | .lit _ => 1
  | .nil => 1
  | .ptr d => uptoBulk d + 1
  | .slice elems spare => uptoBulkAll elems + uptoBulkAll spare + 1
  | .agg parts => uptoBulkAll parts + 1
  | .iface _ d => uptoBulk d + 1
  | .map entries => uptoBulkEntries entries + 1
  | .held _ => 1
def uptoBulkAll {H : Type} : List (DataW H) → Nat
  | [] => 0
  | d :: r => uptoBulk d + uptoBulkAll r
def uptoBulkEntries {H : Type} : List (Lit × DataW H) → Nat
  | [] => 0
  | x :: r => uptoBulkEntry x + uptoBulkEntries r
def uptoBulkEntry {H : Type} : Lit × DataW H → Nat
  | (.string bytes, d) => bytes.length + uptoBulk d + 1
  | (_, d) => uptoBulk d + 1
 end
def uptoSmall : (H : Type) → List (DataW H) → Bool := fun _ ds => decide (uptoBulkAll ds ≤ 1048576)
def OpenSpec.upto (s : _root_.Go.ChangeSpec) : _root_.Go.OpenSpec := { _root_.Go.OpenSpec.ofChange s with cond := some uptoSmall }

/-- 'cardamomlaw10.HoldAll', WHERE WHAT IT READS IS OF BULK AT MOST 1048576: true; the input reads as it did. -/
def holdAllUptoRow : OpenClaim := { program := "ytmbboljcgpccfaa", sum := "7b559b813eabb0ab15b027c3e1c96859de9c6eaab3fb0610450230b88e2015df", func := "cardamom/cardamomlaw10.HoldAll", spec := "holdAll", inPlace := ["slices.overlaps[cardamom/api.Version]"], unfollowed := true, recurses := true, apart := false, narrowed := true }
def HoldAllUptoSaid : Prop := holdAllUptoRow.holds Try.pinned (OpenSpec.upto holdAllSpec)

/-- 'cardamomlaw10.HoldOnce', WHERE WHAT IT READS IS OF BULK AT MOST 1048576: true; the input reads as it did. -/
def holdOnceUptoRow : OpenClaim := { program := "ytmbboljcgpccfaa", sum := "7b559b813eabb0ab15b027c3e1c96859de9c6eaab3fb0610450230b88e2015df", func := "cardamom/cardamomlaw10.HoldOnce", spec := "holdOnce", inPlace := ["slices.overlaps[cardamom/api.Version]"], unfollowed := true, recurses := true, apart := false, narrowed := true }
def HoldOnceUptoSaid : Prop := holdOnceUptoRow.holds Try.pinned (OpenSpec.upto holdOnceSpec)

/-- 'cardamomlaw10.HoldParts', WHERE WHAT IT READS IS OF BULK AT MOST 1048576: true; the input reads as it did. -/
def holdPartsUptoRow : OpenClaim := { program := "ytmbboljcgpccfaa", sum := "7b559b813eabb0ab15b027c3e1c96859de9c6eaab3fb0610450230b88e2015df", func := "cardamom/cardamomlaw10.HoldParts", spec := "holdParts", inPlace := ["slices.overlaps[cardamom/api.Version]"], unfollowed := true, recurses := true, apart := false, narrowed := true }
def HoldPartsUptoSaid : Prop := holdPartsUptoRow.holds Try.pinned (OpenSpec.upto holdPartsSpec)

/-- 'cardamomlaw10.HoldForms', WHERE WHAT IT READS IS OF BULK AT MOST 1048576: true; the input reads as it did. -/
def holdFormsUptoRow : OpenClaim := { program := "ytmbboljcgpccfaa", sum := "7b559b813eabb0ab15b027c3e1c96859de9c6eaab3fb0610450230b88e2015df", func := "cardamom/cardamomlaw10.HoldForms", spec := "holdForms", inPlace := ["slices.overlaps[cardamom/api.Version]"], unfollowed := true, recurses := true, apart := false, narrowed := true }
def HoldFormsUptoSaid : Prop := holdFormsUptoRow.holds Try.pinned (OpenSpec.upto holdFormsSpec)

/-- 'cardamomlaw9.SeenAll', WHERE WHAT IT READS IS OF BULK AT MOST 1048576: true; the input reads as it did. -/
def seenAllUptoRow : OpenClaim := { program := "ytmbboljcgpccfaa", sum := "7b559b813eabb0ab15b027c3e1c96859de9c6eaab3fb0610450230b88e2015df", func := "cardamom/cardamomlaw9.SeenAll", spec := "seenAll", inPlace := ["slices.overlaps[cardamom/api.Head]", "internal/reflectlite.TypeOf"], unfollowed := true, recurses := true, apart := false, narrowed := true }
def SeenAllUptoSaid : Prop := seenAllUptoRow.holds Try.pinned (OpenSpec.upto seenAllSpec)

/-- 'cardamomlaw9.SeenMost', WHERE WHAT IT READS IS OF BULK AT MOST 1048576: true; the input reads as it did. -/
def seenMostUptoRow : OpenClaim := { program := "ytmbboljcgpccfaa", sum := "7b559b813eabb0ab15b027c3e1c96859de9c6eaab3fb0610450230b88e2015df", func := "cardamom/cardamomlaw9.SeenMost", spec := "seenMost", inPlace := ["slices.overlaps[cardamom/api.Head]", "internal/reflectlite.TypeOf"], unfollowed := true, recurses := true, apart := false, narrowed := true }
def SeenMostUptoSaid : Prop := seenMostUptoRow.holds Try.pinned (OpenSpec.upto seenMostSpec)

/-- 'cardamomlaw9.SeenGrows', WHERE WHAT IT READS IS OF BULK AT MOST 1048576: true; the input reads as it did. -/
def seenGrowsUptoRow : OpenClaim := { program := "ytmbboljcgpccfaa", sum := "7b559b813eabb0ab15b027c3e1c96859de9c6eaab3fb0610450230b88e2015df", func := "cardamom/cardamomlaw9.SeenGrows", spec := "seenGrows", inPlace := ["slices.overlaps[cardamom/api.Head]", "internal/reflectlite.TypeOf"], unfollowed := true, recurses := true, apart := false, narrowed := true }
def SeenGrowsUptoSaid : Prop := seenGrowsUptoRow.holds Try.pinned (OpenSpec.upto seenGrowsSpec)

/-- 'cardamomlaw9.SeenForms', WHERE WHAT IT READS IS OF BULK AT MOST 1048576: true; the input reads as it did. -/
def seenFormsUptoRow : OpenClaim := { program := "ytmbboljcgpccfaa", sum := "7b559b813eabb0ab15b027c3e1c96859de9c6eaab3fb0610450230b88e2015df", func := "cardamom/cardamomlaw9.SeenForms", spec := "seenForms", inPlace := ["slices.overlaps[cardamom/api.Head]", "internal/reflectlite.TypeOf"], unfollowed := true, recurses := true, apart := false, narrowed := true }
def SeenFormsUptoSaid : Prop := seenFormsUptoRow.holds Try.pinned (OpenSpec.upto seenFormsSpec)

/-- 'cardamomlaw9.SeenBoth', WHERE WHAT IT READS IS OF BULK AT MOST 1048576: true; the input reads as it did. -/
def seenBothUptoRow : OpenClaim := { program := "ytmbboljcgpccfaa", sum := "7b559b813eabb0ab15b027c3e1c96859de9c6eaab3fb0610450230b88e2015df", func := "cardamom/cardamomlaw9.SeenBoth", spec := "seenBoth", inPlace := ["slices.overlaps[cardamom/api.Head]", "internal/reflectlite.TypeOf"], unfollowed := true, recurses := true, apart := false, narrowed := true }
def SeenBothUptoSaid : Prop := seenBothUptoRow.holds Try.pinned (OpenSpec.upto seenBothSpec)

/-- 'cardamomlaw24.TopoSteps', WHERE WHAT IT READS IS OF BULK AT MOST 1048576: true; the input reads as it did. -/
def topoStepsUptoRow : OpenClaim := { program := "ytmbboljcgpccfaa", sum := "7b559b813eabb0ab15b027c3e1c96859de9c6eaab3fb0610450230b88e2015df", func := "cardamom/cardamomlaw24.TopoSteps", spec := "topoSteps", apart := false, narrowed := true }
def TopoStepsUptoSaid : Prop := topoStepsUptoRow.holds Try.pinned (OpenSpec.upto topoStepsSpec)

/-- 'cardamomlaw24.TopoMore', WHERE WHAT IT READS IS OF BULK AT MOST 1048576: true; the input reads as it did. -/
def topoMoreUptoRow : OpenClaim := { program := "ytmbboljcgpccfaa", sum := "7b559b813eabb0ab15b027c3e1c96859de9c6eaab3fb0610450230b88e2015df", func := "cardamom/cardamomlaw24.TopoMore", spec := "topoMore", apart := false, narrowed := true }
def TopoMoreUptoSaid : Prop := topoMoreUptoRow.holds Try.pinned (OpenSpec.upto topoMoreSpec)

end Rows
end Go.Proofs.Ytmbboljcgpccfaa
