/-
  No cell of these rows narrows 'for every input' (looked for: loops, veiled, ifaces, maps, wideKeys, modest, calm, conditions, laid).
  DERIVED. THE GIVEN ROWS OF THIS SEAT. 11 by the template 'for every input the law returns true; each argument reads behind the call as it read before'; 0 by the template 'total and deterministic' (their statements: YtpinhopgeaamdaaTotals.lean).
  GIVEN WITH THE SEED: the statements are not yours to turn. If you find one false, say at which input.
  Laid BY PROGRAM, IN A SANDBOX (cutbox-rows.mjs): the forced cells as the released guide's own fill.sh prints them over the translation 75ceebc1a004eb58… (all of the seat's roots in one cut). By AI agents, Wed Nov 11 2026. No macro, syntax, notation, axiom, sorry.
-/
import Derived.Test.YtpinhopgeaamdaaChecked
import GoSem.Claim
import GoSem.ClaimJoined
import GoSem.ClaimMapViews
import Derived.JoinedTies
import Derived.KernelRfl
namespace Go.Proofs.Ytpinhopgeaamdaa
/- THE CELL 'sum', in the pinned program and in every row, IS THE sha256 OF THE DUMP (.gsa) THAT YtpinhopgeaamdaaProg.lean LOADS. Nothing in Lean hashes anything: it is a label: what it is worth is what the hold of that sum in a sandbox is worth. -/
noncomputable def Try.pinned : Pinned := { name := "ytpinhopgeaamdaa", sum := "75ceebc1a004eb5853b229dc08e84c249931352a7c212bd9a0e709b4519b8257", checked := Try.checked }
namespace Rows
def none {H : Type} : Left H := { results := [], args := [] }

/-- 'cardamomlaw1.StampAll': WHATEVER THE INPUT: true; the input reads as it did. -/
def stampAllSpec : ChangeSpec := { name := "stampAll", fn := fun _ => fun
  | [d1, d2, d3, d4, d5, d6] => { results := [.lit (.bool true)], args := [d1, d2, d3, d4, d5, d6] }
  | _ => none }
def stampAllRow : OpenClaim := { program := "ytpinhopgeaamdaa", sum := "75ceebc1a004eb5853b229dc08e84c249931352a7c212bd9a0e709b4519b8257", func := "cardamom/cardamomlaw1.StampAll", spec := "stampAll", inPlace := ["internal/reflectlite.TypeOf"], unfollowed := true, recurses := true, apart := false }
def StampAllSaid : Prop := stampAllRow.holds Try.pinned (OpenSpec.ofChange stampAllSpec)

/-- ITS FALSE NEIGHBOUR: 'it returns false'. Refute it at one input. -/
def stampAllWrong : ChangeSpec := { name := "stampAll", fn := fun _ => fun
  | [d1, d2, d3, d4, d5, d6] => { results := [.lit (.bool false)], args := [d1, d2, d3, d4, d5, d6] }
  | _ => none }
def StampAllWrongFalsely : Prop := stampAllRow.holds Try.pinned (OpenSpec.ofChange stampAllWrong)

/-- 'cardamomlaw1.StampOrder': WHATEVER THE INPUT: true; the input reads as it did. -/
def stampOrderSpec : ChangeSpec := { name := "stampOrder", fn := fun _ => fun
  | [d1, d2, d3] => { results := [.lit (.bool true)], args := [d1, d2, d3] }
  | _ => none }
def stampOrderRow : OpenClaim := { program := "ytpinhopgeaamdaa", sum := "75ceebc1a004eb5853b229dc08e84c249931352a7c212bd9a0e709b4519b8257", func := "cardamom/cardamomlaw1.StampOrder", spec := "stampOrder", inPlace := ["internal/reflectlite.TypeOf"], unfollowed := true, recurses := true, apart := false }
def StampOrderSaid : Prop := stampOrderRow.holds Try.pinned (OpenSpec.ofChange stampOrderSpec)

/-- ITS FALSE NEIGHBOUR: 'it returns false'. Refute it at one input. -/
def stampOrderWrong : ChangeSpec := { name := "stampOrder", fn := fun _ => fun
  | [d1, d2, d3] => { results := [.lit (.bool false)], args := [d1, d2, d3] }
  | _ => none }
def StampOrderWrongFalsely : Prop := stampOrderRow.holds Try.pinned (OpenSpec.ofChange stampOrderWrong)

/-- 'cardamomlaw1.StampNext': WHATEVER THE INPUT: true; the input reads as it did. -/
def stampNextSpec : ChangeSpec := { name := "stampNext", fn := fun _ => fun
  | [d1, d2, d3, d4] => { results := [.lit (.bool true)], args := [d1, d2, d3, d4] }
  | _ => none }
def stampNextRow : OpenClaim := { program := "ytpinhopgeaamdaa", sum := "75ceebc1a004eb5853b229dc08e84c249931352a7c212bd9a0e709b4519b8257", func := "cardamom/cardamomlaw1.StampNext", spec := "stampNext", inPlace := ["internal/reflectlite.TypeOf"], unfollowed := true, recurses := true, apart := false }
def StampNextSaid : Prop := stampNextRow.holds Try.pinned (OpenSpec.ofChange stampNextSpec)

/-- ITS FALSE NEIGHBOUR: 'it returns false'. Refute it at one input. -/
def stampNextWrong : ChangeSpec := { name := "stampNext", fn := fun _ => fun
  | [d1, d2, d3, d4] => { results := [.lit (.bool false)], args := [d1, d2, d3, d4] }
  | _ => none }
def StampNextWrongFalsely : Prop := stampNextRow.holds Try.pinned (OpenSpec.ofChange stampNextWrong)

/-- 'cardamomlaw1.StampForms': WHATEVER THE INPUT: true; the input reads as it did. -/
def stampFormsSpec : ChangeSpec := { name := "stampForms", fn := fun _ => fun
  | [] => { results := [.lit (.bool true)], args := [] }
  | _ => none }
def stampFormsRow : OpenClaim := { program := "ytpinhopgeaamdaa", sum := "75ceebc1a004eb5853b229dc08e84c249931352a7c212bd9a0e709b4519b8257", func := "cardamom/cardamomlaw1.StampForms", spec := "stampForms", inPlace := ["internal/reflectlite.TypeOf"], unfollowed := true, recurses := true, apart := false }
def StampFormsSaid : Prop := stampFormsRow.holds Try.pinned (OpenSpec.ofChange stampFormsSpec)

/-- ITS FALSE NEIGHBOUR: 'it returns false'. Refute it at one input. -/
def stampFormsWrong : ChangeSpec := { name := "stampForms", fn := fun _ => fun
  | [] => { results := [.lit (.bool false)], args := [] }
  | _ => none }
def StampFormsWrongFalsely : Prop := stampFormsRow.holds Try.pinned (OpenSpec.ofChange stampFormsWrong)

/-- 'cardamomlaw1.StampTime': WHATEVER THE INPUT: true; the input reads as it did. -/
def stampTimeSpec : ChangeSpec := { name := "stampTime", fn := fun _ => fun
  | [d] => { results := [.lit (.bool true)], args := [d] }
  | _ => none }
def stampTimeRow : OpenClaim := { program := "ytpinhopgeaamdaa", sum := "75ceebc1a004eb5853b229dc08e84c249931352a7c212bd9a0e709b4519b8257", func := "cardamom/cardamomlaw1.StampTime", spec := "stampTime", inPlace := ["internal/reflectlite.TypeOf"], unfollowed := true, recurses := true, apart := false }
def StampTimeSaid : Prop := stampTimeRow.holds Try.pinned (OpenSpec.ofChange stampTimeSpec)

/-- ITS FALSE NEIGHBOUR: 'it returns false'. Refute it at one input. -/
def stampTimeWrong : ChangeSpec := { name := "stampTime", fn := fun _ => fun
  | [d] => { results := [.lit (.bool false)], args := [d] }
  | _ => none }
def StampTimeWrongFalsely : Prop := stampTimeRow.holds Try.pinned (OpenSpec.ofChange stampTimeWrong)

/-- 'cardamomlaw2.KnowOrder': WHATEVER THE INPUT: true; the input reads as it did. -/
def knowOrderSpec : ChangeSpec := { name := "knowOrder", fn := fun _ => fun
  | [d1, d2] => { results := [.lit (.bool true)], args := [d1, d2] }
  | _ => none }
def knowOrderRow : OpenClaim := { program := "ytpinhopgeaamdaa", sum := "75ceebc1a004eb5853b229dc08e84c249931352a7c212bd9a0e709b4519b8257", func := "cardamom/cardamomlaw2.KnowOrder", spec := "knowOrder", inPlace := ["slices.overlaps[int]", "internal/reflectlite.TypeOf"], unfollowed := true, recurses := true, apart := false }
def KnowOrderSaid : Prop := knowOrderRow.holds Try.pinned (OpenSpec.ofChange knowOrderSpec)

/-- ITS FALSE NEIGHBOUR: 'it returns false'. Refute it at one input. -/
def knowOrderWrong : ChangeSpec := { name := "knowOrder", fn := fun _ => fun
  | [d1, d2] => { results := [.lit (.bool false)], args := [d1, d2] }
  | _ => none }
def KnowOrderWrongFalsely : Prop := knowOrderRow.holds Try.pinned (OpenSpec.ofChange knowOrderWrong)

/-- 'cardamomlaw2.KnowBoth': WHATEVER THE INPUT: true; the input reads as it did. -/
def knowBothSpec : ChangeSpec := { name := "knowBoth", fn := fun _ => fun
  | [d1, d2, d3] => { results := [.lit (.bool true)], args := [d1, d2, d3] }
  | _ => none }
def knowBothRow : OpenClaim := { program := "ytpinhopgeaamdaa", sum := "75ceebc1a004eb5853b229dc08e84c249931352a7c212bd9a0e709b4519b8257", func := "cardamom/cardamomlaw2.KnowBoth", spec := "knowBoth", inPlace := ["slices.overlaps[int]", "internal/reflectlite.TypeOf"], unfollowed := true, recurses := true, apart := false }
def KnowBothSaid : Prop := knowBothRow.holds Try.pinned (OpenSpec.ofChange knowBothSpec)

/-- ITS FALSE NEIGHBOUR: 'it returns false'. Refute it at one input. -/
def knowBothWrong : ChangeSpec := { name := "knowBoth", fn := fun _ => fun
  | [d1, d2, d3] => { results := [.lit (.bool false)], args := [d1, d2, d3] }
  | _ => none }
def KnowBothWrongFalsely : Prop := knowBothRow.holds Try.pinned (OpenSpec.ofChange knowBothWrong)

/-- 'cardamomlaw2.KnowForms': WHATEVER THE INPUT: true; the input reads as it did. -/
def knowFormsSpec : ChangeSpec := { name := "knowForms", fn := fun _ => fun
  | [] => { results := [.lit (.bool true)], args := [] }
  | _ => none }
def knowFormsRow : OpenClaim := { program := "ytpinhopgeaamdaa", sum := "75ceebc1a004eb5853b229dc08e84c249931352a7c212bd9a0e709b4519b8257", func := "cardamom/cardamomlaw2.KnowForms", spec := "knowForms", inPlace := ["slices.overlaps[int]", "internal/reflectlite.TypeOf"], unfollowed := true, recurses := true, apart := false }
def KnowFormsSaid : Prop := knowFormsRow.holds Try.pinned (OpenSpec.ofChange knowFormsSpec)

/-- ITS FALSE NEIGHBOUR: 'it returns false'. Refute it at one input. -/
def knowFormsWrong : ChangeSpec := { name := "knowForms", fn := fun _ => fun
  | [] => { results := [.lit (.bool false)], args := [] }
  | _ => none }
def KnowFormsWrongFalsely : Prop := knowFormsRow.holds Try.pinned (OpenSpec.ofChange knowFormsWrong)

/-- 'cardamomlaw21.RcvrAll': WHATEVER THE INPUT: true; the input reads as it did. -/
def rcvrAllSpec : ChangeSpec := { name := "rcvrAll", fn := fun _ => fun
  | [d1, d2] => { results := [.lit (.bool true)], args := [d1, d2] }
  | _ => none }
def rcvrAllRow : OpenClaim := { program := "ytpinhopgeaamdaa", sum := "75ceebc1a004eb5853b229dc08e84c249931352a7c212bd9a0e709b4519b8257", func := "cardamom/cardamomlaw21.RcvrAll", spec := "rcvrAll", inPlace := ["slices.overlaps[int]", "slices.overlaps[cardamom/api.Seg]"], unfollowed := true, recurses := true, apart := false }
def RcvrAllSaid : Prop := rcvrAllRow.holds Try.pinned (OpenSpec.ofChange rcvrAllSpec)

/-- ITS FALSE NEIGHBOUR: 'it returns false'. Refute it at one input. -/
def rcvrAllWrong : ChangeSpec := { name := "rcvrAll", fn := fun _ => fun
  | [d1, d2] => { results := [.lit (.bool false)], args := [d1, d2] }
  | _ => none }
def RcvrAllWrongFalsely : Prop := rcvrAllRow.holds Try.pinned (OpenSpec.ofChange rcvrAllWrong)

/-- 'cardamomlaw21.RcvrForms': WHATEVER THE INPUT: true; the input reads as it did. -/
def rcvrFormsSpec : ChangeSpec := { name := "rcvrForms", fn := fun _ => fun
  | [] => { results := [.lit (.bool true)], args := [] }
  | _ => none }
def rcvrFormsRow : OpenClaim := { program := "ytpinhopgeaamdaa", sum := "75ceebc1a004eb5853b229dc08e84c249931352a7c212bd9a0e709b4519b8257", func := "cardamom/cardamomlaw21.RcvrForms", spec := "rcvrForms", inPlace := ["slices.overlaps[int]", "slices.overlaps[cardamom/api.Seg]"], unfollowed := true, recurses := true, apart := false }
def RcvrFormsSaid : Prop := rcvrFormsRow.holds Try.pinned (OpenSpec.ofChange rcvrFormsSpec)

/-- ITS FALSE NEIGHBOUR: 'it returns false'. Refute it at one input. -/
def rcvrFormsWrong : ChangeSpec := { name := "rcvrForms", fn := fun _ => fun
  | [] => { results := [.lit (.bool false)], args := [] }
  | _ => none }
def RcvrFormsWrongFalsely : Prop := rcvrFormsRow.holds Try.pinned (OpenSpec.ofChange rcvrFormsWrong)

/-- 'cardamomlaw21.RcvrLink': WHATEVER THE INPUT: true; the input reads as it did. -/
def rcvrLinkSpec : ChangeSpec := { name := "rcvrLink", fn := fun _ => fun
  | [d1, d2] => { results := [.lit (.bool true)], args := [d1, d2] }
  | _ => none }
def rcvrLinkRow : OpenClaim := { program := "ytpinhopgeaamdaa", sum := "75ceebc1a004eb5853b229dc08e84c249931352a7c212bd9a0e709b4519b8257", func := "cardamom/cardamomlaw21.RcvrLink", spec := "rcvrLink", inPlace := ["slices.overlaps[int]", "slices.overlaps[cardamom/api.Seg]"], unfollowed := true, recurses := true, apart := false }
def RcvrLinkSaid : Prop := rcvrLinkRow.holds Try.pinned (OpenSpec.ofChange rcvrLinkSpec)

/-- ITS FALSE NEIGHBOUR: 'it returns false'. Refute it at one input. -/
def rcvrLinkWrong : ChangeSpec := { name := "rcvrLink", fn := fun _ => fun
  | [d1, d2] => { results := [.lit (.bool false)], args := [d1, d2] }
  | _ => none }
def RcvrLinkWrongFalsely : Prop := rcvrLinkRow.holds Try.pinned (OpenSpec.ofChange rcvrLinkWrong)

/- THE SECOND FORM. 'bulk': how many values and letters a reading holds, each counted each time it is reached (what is shared counts as often as it is met; a slice's spare places count too). A statement '..UptoSaid' is the law's where the arguments, and the package variables that the reading takes, are together of bulk at most 1048576: NARROWER than '..Said'. Prove '..Said' where nothing that the law and all that it calls make is longer than what came in: it says more and counts as full. Else prove '..UptoSaid'. A law counts once. -/
mutual
def uptoBulk {H : Type} : DataW H → Nat
  | .lit (.string bytes) => bytes.length + 1
  | .lit _ => 1
  | .nil => 1
  | .ptr d => uptoBulk d + 1
  | .slice elems spare => uptoBulkAll elems + uptoBulkAll spare + 1
  | .agg parts => uptoBulkAll parts + 1
  | .iface _ d => uptoBulk d + 1
  | .map entries => uptoBulkEntries entries + 1
  | .held _ => 1
def uptoBulkAll {H : Type} : List (DataW H) → Nat
  | [] => 0
  | d :: r => uptoBulk d + uptoBulkAll r
def uptoBulkEntries {H : Type} : List (Lit × DataW H) → Nat
  | [] => 0
  | x :: r => uptoBulkEntry x + uptoBulkEntries r
def uptoBulkEntry {H : Type} : Lit × DataW H → Nat
  | (.string bytes, d) => bytes.length + uptoBulk d + 1
  | (_, d) => uptoBulk d + 1
 end
def uptoSmall : (H : Type) → List (DataW H) → Bool := fun _ ds => decide (uptoBulkAll ds ≤ 1048576)
def OpenSpec.upto (s : _root_.Go.ChangeSpec) : _root_.Go.OpenSpec := { _root_.Go.OpenSpec.ofChange s with cond := some uptoSmall }

/-- 'cardamomlaw1.StampAll', WHERE WHAT IT READS IS OF BULK AT MOST 1048576: true; the input reads as it did. -/
def stampAllUptoRow : OpenClaim := { program := "ytpinhopgeaamdaa", sum := "75ceebc1a004eb5853b229dc08e84c249931352a7c212bd9a0e709b4519b8257", func := "cardamom/cardamomlaw1.StampAll", spec := "stampAll", inPlace := ["internal/reflectlite.TypeOf"], unfollowed := true, recurses := true, apart := false, narrowed := true }
def StampAllUptoSaid : Prop := stampAllUptoRow.holds Try.pinned (OpenSpec.upto stampAllSpec)

/-- 'cardamomlaw1.StampOrder', WHERE WHAT IT READS IS OF BULK AT MOST 1048576: true; the input reads as it did. -/
def stampOrderUptoRow : OpenClaim := { program := "ytpinhopgeaamdaa", sum := "75ceebc1a004eb5853b229dc08e84c249931352a7c212bd9a0e709b4519b8257", func := "cardamom/cardamomlaw1.StampOrder", spec := "stampOrder", inPlace := ["internal/reflectlite.TypeOf"], unfollowed := true, recurses := true, apart := false, narrowed := true }
def StampOrderUptoSaid : Prop := stampOrderUptoRow.holds Try.pinned (OpenSpec.upto stampOrderSpec)

/-- 'cardamomlaw1.StampNext', WHERE WHAT IT READS IS OF BULK AT MOST 1048576: true; the input reads as it did. -/
def stampNextUptoRow : OpenClaim := { program := "ytpinhopgeaamdaa", sum := "75ceebc1a004eb5853b229dc08e84c249931352a7c212bd9a0e709b4519b8257", func := "cardamom/cardamomlaw1.StampNext", spec := "stampNext", inPlace := ["internal/reflectlite.TypeOf"], unfollowed := true, recurses := true, apart := false, narrowed := true }
def StampNextUptoSaid : Prop := stampNextUptoRow.holds Try.pinned (OpenSpec.upto stampNextSpec)

/-- 'cardamomlaw1.StampForms', WHERE WHAT IT READS IS OF BULK AT MOST 1048576: true; the input reads as it did. -/
def stampFormsUptoRow : OpenClaim := { program := "ytpinhopgeaamdaa", sum := "75ceebc1a004eb5853b229dc08e84c249931352a7c212bd9a0e709b4519b8257", func := "cardamom/cardamomlaw1.StampForms", spec := "stampForms", inPlace := ["internal/reflectlite.TypeOf"], unfollowed := true, recurses := true, apart := false, narrowed := true }
def StampFormsUptoSaid : Prop := stampFormsUptoRow.holds Try.pinned (OpenSpec.upto stampFormsSpec)

/-- 'cardamomlaw1.StampTime', WHERE WHAT IT READS IS OF BULK AT MOST 1048576: true; the input reads as it did. -/
def stampTimeUptoRow : OpenClaim := { program := "ytpinhopgeaamdaa", sum := "75ceebc1a004eb5853b229dc08e84c249931352a7c212bd9a0e709b4519b8257", func := "cardamom/cardamomlaw1.StampTime", spec := "stampTime", inPlace := ["internal/reflectlite.TypeOf"], unfollowed := true, recurses := true, apart := false, narrowed := true }
def StampTimeUptoSaid : Prop := stampTimeUptoRow.holds Try.pinned (OpenSpec.upto stampTimeSpec)

/-- 'cardamomlaw2.KnowOrder', WHERE WHAT IT READS IS OF BULK AT MOST 1048576: true; the input reads as it did. -/
def knowOrderUptoRow : OpenClaim := { program := "ytpinhopgeaamdaa", sum := "75ceebc1a004eb5853b229dc08e84c249931352a7c212bd9a0e709b4519b8257", func := "cardamom/cardamomlaw2.KnowOrder", spec := "knowOrder", inPlace := ["slices.overlaps[int]", "internal/reflectlite.TypeOf"], unfollowed := true, recurses := true, apart := false, narrowed := true }
def KnowOrderUptoSaid : Prop := knowOrderUptoRow.holds Try.pinned (OpenSpec.upto knowOrderSpec)

/-- 'cardamomlaw2.KnowBoth', WHERE WHAT IT READS IS OF BULK AT MOST 1048576: true; the input reads as it did. -/
def knowBothUptoRow : OpenClaim := { program := "ytpinhopgeaamdaa", sum := "75ceebc1a004eb5853b229dc08e84c249931352a7c212bd9a0e709b4519b8257", func := "cardamom/cardamomlaw2.KnowBoth", spec := "knowBoth", inPlace := ["slices.overlaps[int]", "internal/reflectlite.TypeOf"], unfollowed := true, recurses := true, apart := false, narrowed := true }
def KnowBothUptoSaid : Prop := knowBothUptoRow.holds Try.pinned (OpenSpec.upto knowBothSpec)

/-- 'cardamomlaw2.KnowForms', WHERE WHAT IT READS IS OF BULK AT MOST 1048576: true; the input reads as it did. -/
def knowFormsUptoRow : OpenClaim := { program := "ytpinhopgeaamdaa", sum := "75ceebc1a004eb5853b229dc08e84c249931352a7c212bd9a0e709b4519b8257", func := "cardamom/cardamomlaw2.KnowForms", spec := "knowForms", inPlace := ["slices.overlaps[int]", "internal/reflectlite.TypeOf"], unfollowed := true, recurses := true, apart := false, narrowed := true }
def KnowFormsUptoSaid : Prop := knowFormsUptoRow.holds Try.pinned (OpenSpec.upto knowFormsSpec)

/-- 'cardamomlaw21.RcvrAll', WHERE WHAT IT READS IS OF BULK AT MOST 1048576: true; the input reads as it did. -/
def rcvrAllUptoRow : OpenClaim := { program := "ytpinhopgeaamdaa", sum := "75ceebc1a004eb5853b229dc08e84c249931352a7c212bd9a0e709b4519b8257", func := "cardamom/cardamomlaw21.RcvrAll", spec := "rcvrAll", inPlace := ["slices.overlaps[int]", "slices.overlaps[cardamom/api.Seg]"], unfollowed := true, recurses := true, apart := false, narrowed := true }
def RcvrAllUptoSaid : Prop := rcvrAllUptoRow.holds Try.pinned (OpenSpec.upto rcvrAllSpec)

/-- 'cardamomlaw21.RcvrForms', WHERE WHAT IT READS IS OF BULK AT MOST 1048576: true; the input reads as it did. -/
def rcvrFormsUptoRow : OpenClaim := { program := "ytpinhopgeaamdaa", sum := "75ceebc1a004eb5853b229dc08e84c249931352a7c212bd9a0e709b4519b8257", func := "cardamom/cardamomlaw21.RcvrForms", spec := "rcvrForms", inPlace := ["slices.overlaps[int]", "slices.overlaps[cardamom/api.Seg]"], unfollowed := true, recurses := true, apart := false, narrowed := true }
def RcvrFormsUptoSaid : Prop := rcvrFormsUptoRow.holds Try.pinned (OpenSpec.upto rcvrFormsSpec)

/-- 'cardamomlaw21.RcvrLink', WHERE WHAT IT READS IS OF BULK AT MOST 1048576: true; the input reads as it did. -/
def rcvrLinkUptoRow : OpenClaim := { program := "ytpinhopgeaamdaa", sum := "75ceebc1a004eb5853b229dc08e84c249931352a7c212bd9a0e709b4519b8257", func := "cardamom/cardamomlaw21.RcvrLink", spec := "rcvrLink", inPlace := ["slices.overlaps[int]", "slices.overlaps[cardamom/api.Seg]"], unfollowed := true, recurses := true, apart := false, narrowed := true }
def RcvrLinkUptoSaid : Prop := rcvrLinkUptoRow.holds Try.pinned (OpenSpec.upto rcvrLinkSpec)

end Rows
end Go.Proofs.Ytpinhopgeaamdaa
