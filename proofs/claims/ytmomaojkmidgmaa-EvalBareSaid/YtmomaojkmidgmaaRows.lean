/-
  No cell of these rows narrows 'for every input' (looked for: loops, veiled, ifaces, maps, wideKeys, modest, calm, conditions, laid).
  DERIVED. THE GIVEN ROWS OF THIS SEAT. 14 by the template 'for every input the law returns true; each argument reads behind the call as it read before'; 0 by the template 'total and deterministic' (their statements: YtmomaojkmidgmaaTotals.lean).
  GIVEN WITH THE SEED: the statements are not yours to turn. If you find one false, say at which input.
  Laid BY PROGRAM, IN A SANDBOX (cutbox-rows.mjs): the forced cells as the released guide's own fill.sh prints them over the translation eb908d2d986b50b6… (all of the seat's roots in one cut). By AI agents, Wed Nov 11 2026. No macro, syntax, notation, axiom, sorry.
-/
import Derived.Test.YtmomaojkmidgmaaChecked
import GoSem.Claim
import GoSem.ClaimJoined
import GoSem.ClaimMapViews
import Derived.JoinedTies
import Derived.KernelRfl
namespace Go.Proofs.Ytmomaojkmidgmaa
/- THE CELL 'sum', in the pinned program and in every row, IS THE sha256 OF THE DUMP (.gsa) THAT YtmomaojkmidgmaaProg.lean LOADS. Nothing in Lean hashes anything: it is a label: what it is worth is what the hold of that sum in a sandbox is worth. -/
noncomputable def Try.pinned : Pinned := { name := "ytmomaojkmidgmaa", sum := "eb908d2d986b50b6433c2104e48d4e1a9cad6f3297da01fd7f4d79b4ef44c323", checked := Try.checked }
namespace Rows
def none {H : Type} : Left H := { results := [], args := [] }

/-- 'cardamomlaw22.BackAll': WHATEVER THE INPUT: true; the input reads as it did. -/
def backAllSpec : ChangeSpec := { name := "backAll", fn := fun _ => fun
  | [d1, d2, d3] => { results := [.lit (.bool true)], args := [d1, d2, d3] }
  | _ => none }
def backAllRow : OpenClaim := { program := "ytmomaojkmidgmaa", sum := "eb908d2d986b50b6433c2104e48d4e1a9cad6f3297da01fd7f4d79b4ef44c323", func := "cardamom/cardamomlaw22.BackAll", spec := "backAll", apart := false }
def BackAllSaid : Prop := backAllRow.holds Try.pinned (OpenSpec.ofChange backAllSpec)

/-- ITS FALSE NEIGHBOUR: 'it returns false'. Refute it at one input. -/
def backAllWrong : ChangeSpec := { name := "backAll", fn := fun _ => fun
  | [d1, d2, d3] => { results := [.lit (.bool false)], args := [d1, d2, d3] }
  | _ => none }
def BackAllWrongFalsely : Prop := backAllRow.holds Try.pinned (OpenSpec.ofChange backAllWrong)

/-- 'cardamomlaw22.BackGaps': WHATEVER THE INPUT: true; the input reads as it did. -/
def backGapsSpec : ChangeSpec := { name := "backGaps", fn := fun _ => fun
  | [d] => { results := [.lit (.bool true)], args := [d] }
  | _ => none }
def backGapsRow : OpenClaim := { program := "ytmomaojkmidgmaa", sum := "eb908d2d986b50b6433c2104e48d4e1a9cad6f3297da01fd7f4d79b4ef44c323", func := "cardamom/cardamomlaw22.BackGaps", spec := "backGaps", apart := false }
def BackGapsSaid : Prop := backGapsRow.holds Try.pinned (OpenSpec.ofChange backGapsSpec)

/-- ITS FALSE NEIGHBOUR: 'it returns false'. Refute it at one input. -/
def backGapsWrong : ChangeSpec := { name := "backGaps", fn := fun _ => fun
  | [d] => { results := [.lit (.bool false)], args := [d] }
  | _ => none }
def BackGapsWrongFalsely : Prop := backGapsRow.holds Try.pinned (OpenSpec.ofChange backGapsWrong)

/-- 'cardamomlaw22.BackLate': WHATEVER THE INPUT: true; the input reads as it did. -/
def backLateSpec : ChangeSpec := { name := "backLate", fn := fun _ => fun
  | [d1, d2] => { results := [.lit (.bool true)], args := [d1, d2] }
  | _ => none }
def backLateRow : OpenClaim := { program := "ytmomaojkmidgmaa", sum := "eb908d2d986b50b6433c2104e48d4e1a9cad6f3297da01fd7f4d79b4ef44c323", func := "cardamom/cardamomlaw22.BackLate", spec := "backLate", apart := false }
def BackLateSaid : Prop := backLateRow.holds Try.pinned (OpenSpec.ofChange backLateSpec)

/-- ITS FALSE NEIGHBOUR: 'it returns false'. Refute it at one input. -/
def backLateWrong : ChangeSpec := { name := "backLate", fn := fun _ => fun
  | [d1, d2] => { results := [.lit (.bool false)], args := [d1, d2] }
  | _ => none }
def BackLateWrongFalsely : Prop := backLateRow.holds Try.pinned (OpenSpec.ofChange backLateWrong)

/-- 'cardamomlaw16.CrcAll': WHATEVER THE INPUT: true; the input reads as it did. -/
def crcAllSpec : ChangeSpec := { name := "crcAll", fn := fun _ => fun
  | [d] => { results := [.lit (.bool true)], args := [d] }
  | _ => none }
def crcAllRow : OpenClaim := { program := "ytmomaojkmidgmaa", sum := "eb908d2d986b50b6433c2104e48d4e1a9cad6f3297da01fd7f4d79b4ef44c323", func := "cardamom/cardamomlaw16.CrcAll", spec := "crcAll", apart := false }
def CrcAllSaid : Prop := crcAllRow.holds Try.pinned (OpenSpec.ofChange crcAllSpec)

/-- ITS FALSE NEIGHBOUR: 'it returns false'. Refute it at one input. -/
def crcAllWrong : ChangeSpec := { name := "crcAll", fn := fun _ => fun
  | [d] => { results := [.lit (.bool false)], args := [d] }
  | _ => none }
def CrcAllWrongFalsely : Prop := crcAllRow.holds Try.pinned (OpenSpec.ofChange crcAllWrong)

/-- 'cardamomlaw16.CrcTurned': WHATEVER THE INPUT: true; the input reads as it did. -/
def crcTurnedSpec : ChangeSpec := { name := "crcTurned", fn := fun _ => fun
  | [d1, d2, d3] => { results := [.lit (.bool true)], args := [d1, d2, d3] }
  | _ => none }
def crcTurnedRow : OpenClaim := { program := "ytmomaojkmidgmaa", sum := "eb908d2d986b50b6433c2104e48d4e1a9cad6f3297da01fd7f4d79b4ef44c323", func := "cardamom/cardamomlaw16.CrcTurned", spec := "crcTurned", apart := false }
def CrcTurnedSaid : Prop := crcTurnedRow.holds Try.pinned (OpenSpec.ofChange crcTurnedSpec)

/-- ITS FALSE NEIGHBOUR: 'it returns false'. Refute it at one input. -/
def crcTurnedWrong : ChangeSpec := { name := "crcTurned", fn := fun _ => fun
  | [d1, d2, d3] => { results := [.lit (.bool false)], args := [d1, d2, d3] }
  | _ => none }
def CrcTurnedWrongFalsely : Prop := crcTurnedRow.holds Try.pinned (OpenSpec.ofChange crcTurnedWrong)

/-- 'cardamomlaw16.CrcRest': WHATEVER THE INPUT: true; the input reads as it did. -/
def crcRestSpec : ChangeSpec := { name := "crcRest", fn := fun _ => fun
  | [d] => { results := [.lit (.bool true)], args := [d] }
  | _ => none }
def crcRestRow : OpenClaim := { program := "ytmomaojkmidgmaa", sum := "eb908d2d986b50b6433c2104e48d4e1a9cad6f3297da01fd7f4d79b4ef44c323", func := "cardamom/cardamomlaw16.CrcRest", spec := "crcRest", apart := false }
def CrcRestSaid : Prop := crcRestRow.holds Try.pinned (OpenSpec.ofChange crcRestSpec)

/-- ITS FALSE NEIGHBOUR: 'it returns false'. Refute it at one input. -/
def crcRestWrong : ChangeSpec := { name := "crcRest", fn := fun _ => fun
  | [d] => { results := [.lit (.bool false)], args := [d] }
  | _ => none }
def CrcRestWrongFalsely : Prop := crcRestRow.holds Try.pinned (OpenSpec.ofChange crcRestWrong)

/-- 'cardamomlaw16.CrcJoin': WHATEVER THE INPUT: true; the input reads as it did. -/
def crcJoinSpec : ChangeSpec := { name := "crcJoin", fn := fun _ => fun
  | [d1, d2, d3] => { results := [.lit (.bool true)], args := [d1, d2, d3] }
  | _ => none }
def crcJoinRow : OpenClaim := { program := "ytmomaojkmidgmaa", sum := "eb908d2d986b50b6433c2104e48d4e1a9cad6f3297da01fd7f4d79b4ef44c323", func := "cardamom/cardamomlaw16.CrcJoin", spec := "crcJoin", apart := false }
def CrcJoinSaid : Prop := crcJoinRow.holds Try.pinned (OpenSpec.ofChange crcJoinSpec)

/-- ITS FALSE NEIGHBOUR: 'it returns false'. Refute it at one input. -/
def crcJoinWrong : ChangeSpec := { name := "crcJoin", fn := fun _ => fun
  | [d1, d2, d3] => { results := [.lit (.bool false)], args := [d1, d2, d3] }
  | _ => none }
def CrcJoinWrongFalsely : Prop := crcJoinRow.holds Try.pinned (OpenSpec.ofChange crcJoinWrong)

/-- 'cardamomlaw16.CrcForms': WHATEVER THE INPUT: true; the input reads as it did. -/
def crcFormsSpec : ChangeSpec := { name := "crcForms", fn := fun _ => fun
  | [] => { results := [.lit (.bool true)], args := [] }
  | _ => none }
def crcFormsRow : OpenClaim := { program := "ytmomaojkmidgmaa", sum := "eb908d2d986b50b6433c2104e48d4e1a9cad6f3297da01fd7f4d79b4ef44c323", func := "cardamom/cardamomlaw16.CrcForms", spec := "crcForms", apart := false }
def CrcFormsSaid : Prop := crcFormsRow.holds Try.pinned (OpenSpec.ofChange crcFormsSpec)

/-- ITS FALSE NEIGHBOUR: 'it returns false'. Refute it at one input. -/
def crcFormsWrong : ChangeSpec := { name := "crcForms", fn := fun _ => fun
  | [] => { results := [.lit (.bool false)], args := [] }
  | _ => none }
def CrcFormsWrongFalsely : Prop := crcFormsRow.holds Try.pinned (OpenSpec.ofChange crcFormsWrong)

/-- 'cardamomlaw6.EvalAll': WHATEVER THE INPUT: true; the input reads as it did. -/
def evalAllSpec : ChangeSpec := { name := "evalAll", fn := fun _ => fun
  | [d1, d2] => { results := [.lit (.bool true)], args := [d1, d2] }
  | _ => none }
def evalAllRow : OpenClaim := { program := "ytmomaojkmidgmaa", sum := "eb908d2d986b50b6433c2104e48d4e1a9cad6f3297da01fd7f4d79b4ef44c323", func := "cardamom/cardamomlaw6.EvalAll", spec := "evalAll", unfollowed := true, recurses := true, apart := false }
def EvalAllSaid : Prop := evalAllRow.holds Try.pinned (OpenSpec.ofChange evalAllSpec)

/-- ITS FALSE NEIGHBOUR: 'it returns false'. Refute it at one input. -/
def evalAllWrong : ChangeSpec := { name := "evalAll", fn := fun _ => fun
  | [d1, d2] => { results := [.lit (.bool false)], args := [d1, d2] }
  | _ => none }
def EvalAllWrongFalsely : Prop := evalAllRow.holds Try.pinned (OpenSpec.ofChange evalAllWrong)

/-- 'cardamomlaw6.EvalLogic': WHATEVER THE INPUT: true; the input reads as it did. -/
def evalLogicSpec : ChangeSpec := { name := "evalLogic", fn := fun _ => fun
  | [d1, d2, d3] => { results := [.lit (.bool true)], args := [d1, d2, d3] }
  | _ => none }
def evalLogicRow : OpenClaim := { program := "ytmomaojkmidgmaa", sum := "eb908d2d986b50b6433c2104e48d4e1a9cad6f3297da01fd7f4d79b4ef44c323", func := "cardamom/cardamomlaw6.EvalLogic", spec := "evalLogic", unfollowed := true, recurses := true, apart := false }
def EvalLogicSaid : Prop := evalLogicRow.holds Try.pinned (OpenSpec.ofChange evalLogicSpec)

/-- ITS FALSE NEIGHBOUR: 'it returns false'. Refute it at one input. -/
def evalLogicWrong : ChangeSpec := { name := "evalLogic", fn := fun _ => fun
  | [d1, d2, d3] => { results := [.lit (.bool false)], args := [d1, d2, d3] }
  | _ => none }
def EvalLogicWrongFalsely : Prop := evalLogicRow.holds Try.pinned (OpenSpec.ofChange evalLogicWrong)

/-- 'cardamomlaw6.EvalBare': WHATEVER THE INPUT: true; the input reads as it did. -/
def evalBareSpec : ChangeSpec := { name := "evalBare", fn := fun _ => fun
  | [d1, d2] => { results := [.lit (.bool true)], args := [d1, d2] }
  | _ => none }
def evalBareRow : OpenClaim := { program := "ytmomaojkmidgmaa", sum := "eb908d2d986b50b6433c2104e48d4e1a9cad6f3297da01fd7f4d79b4ef44c323", func := "cardamom/cardamomlaw6.EvalBare", spec := "evalBare", unfollowed := true, recurses := true, apart := false }
def EvalBareSaid : Prop := evalBareRow.holds Try.pinned (OpenSpec.ofChange evalBareSpec)

/-- ITS FALSE NEIGHBOUR: 'it returns false'. Refute it at one input. -/
def evalBareWrong : ChangeSpec := { name := "evalBare", fn := fun _ => fun
  | [d1, d2] => { results := [.lit (.bool false)], args := [d1, d2] }
  | _ => none }
def EvalBareWrongFalsely : Prop := evalBareRow.holds Try.pinned (OpenSpec.ofChange evalBareWrong)

/-- 'cardamomlaw6.EvalRange': WHATEVER THE INPUT: true; the input reads as it did. -/
def evalRangeSpec : ChangeSpec := { name := "evalRange", fn := fun _ => fun
  | [d1, d2, d3, d4, d5] => { results := [.lit (.bool true)], args := [d1, d2, d3, d4, d5] }
  | _ => none }
def evalRangeRow : OpenClaim := { program := "ytmomaojkmidgmaa", sum := "eb908d2d986b50b6433c2104e48d4e1a9cad6f3297da01fd7f4d79b4ef44c323", func := "cardamom/cardamomlaw6.EvalRange", spec := "evalRange", unfollowed := true, recurses := true, apart := false }
def EvalRangeSaid : Prop := evalRangeRow.holds Try.pinned (OpenSpec.ofChange evalRangeSpec)

/-- ITS FALSE NEIGHBOUR: 'it returns false'. Refute it at one input. -/
def evalRangeWrong : ChangeSpec := { name := "evalRange", fn := fun _ => fun
  | [d1, d2, d3, d4, d5] => { results := [.lit (.bool false)], args := [d1, d2, d3, d4, d5] }
  | _ => none }
def EvalRangeWrongFalsely : Prop := evalRangeRow.holds Try.pinned (OpenSpec.ofChange evalRangeWrong)

/-- 'cardamomlaw6.EvalForms': WHATEVER THE INPUT: true; the input reads as it did. -/
def evalFormsSpec : ChangeSpec := { name := "evalForms", fn := fun _ => fun
  | [] => { results := [.lit (.bool true)], args := [] }
  | _ => none }
def evalFormsRow : OpenClaim := { program := "ytmomaojkmidgmaa", sum := "eb908d2d986b50b6433c2104e48d4e1a9cad6f3297da01fd7f4d79b4ef44c323", func := "cardamom/cardamomlaw6.EvalForms", spec := "evalForms", unfollowed := true, recurses := true, apart := false }
def EvalFormsSaid : Prop := evalFormsRow.holds Try.pinned (OpenSpec.ofChange evalFormsSpec)

/-- ITS FALSE NEIGHBOUR: 'it returns false'. Refute it at one input. -/
def evalFormsWrong : ChangeSpec := { name := "evalForms", fn := fun _ => fun
  | [] => { results := [.lit (.bool false)], args := [] }
  | _ => none }
def EvalFormsWrongFalsely : Prop := evalFormsRow.holds Try.pinned (OpenSpec.ofChange evalFormsWrong)

/-- 'cardamomlaw6.EvalTags': WHATEVER THE INPUT: true; the input reads as it did. -/
def evalTagsSpec : ChangeSpec := { name := "evalTags", fn := fun _ => fun
  | [d1, d2] => { results := [.lit (.bool true)], args := [d1, d2] }
  | _ => none }
def evalTagsRow : OpenClaim := { program := "ytmomaojkmidgmaa", sum := "eb908d2d986b50b6433c2104e48d4e1a9cad6f3297da01fd7f4d79b4ef44c323", func := "cardamom/cardamomlaw6.EvalTags", spec := "evalTags", unfollowed := true, recurses := true, apart := false }
def EvalTagsSaid : Prop := evalTagsRow.holds Try.pinned (OpenSpec.ofChange evalTagsSpec)

/-- ITS FALSE NEIGHBOUR: 'it returns false'. Refute it at one input. -/
def evalTagsWrong : ChangeSpec := { name := "evalTags", fn := fun _ => fun
  | [d1, d2] => { results := [.lit (.bool false)], args := [d1, d2] }
  | _ => none }
def EvalTagsWrongFalsely : Prop := evalTagsRow.holds Try.pinned (OpenSpec.ofChange evalTagsWrong)

/- THE SECOND FORM. 'bulk': how many values and letters a reading holds, each counted each time it is reached (what is shared counts as often as it is met; a slice's spare places count too). A statement '..UptoSaid' is the law's where the arguments, and the package variables that the reading takes, are together of bulk at most 1048576: NARROWER than '..Said'. Prove '..Said' where nothing that the law and all that it calls make is longer than what came in: it says more and counts as full. Else prove '..UptoSaid'. A law counts once. -/
mutual
def uptoBulk {H : Type} : DataW H → Nat
  | .lit (.string bytes) => bytes.length + 1
  | .lit _ => 1
  | .nil => 1
  | .ptr d => uptoBulk d + 1
  | .slice elems spare => uptoBulkAll elems + uptoBulkAll spare + 1
  | .agg parts => uptoBulkAll parts + 1
  | .iface _ d => uptoBulk d + 1
  | .map entries => uptoBulkEntries entries + 1
  | .held _ => 1
def uptoBulkAll {H : Type} : List (DataW H) → Nat
  | [] => 0
  | d :: r => uptoBulk d + uptoBulkAll r
def uptoBulkEntries {H : Type} : List (Lit × DataW H) → Nat
  | [] => 0
  | x :: r => uptoBulkEntry x + uptoBulkEntries r
def uptoBulkEntry {H : Type} : Lit × DataW H → Nat
  | (.string bytes, d) => bytes.length + uptoBulk d + 1
  | (_, d) => uptoBulk d + 1
 end
def uptoSmall : (H : Type) → List (DataW H) → Bool := fun _ ds => decide (uptoBulkAll ds ≤ 1048576)
def OpenSpec.upto (s : _root_.Go.ChangeSpec) : _root_.Go.OpenSpec := { _root_.Go.OpenSpec.ofChange s with cond := some uptoSmall }

/-- 'cardamomlaw22.BackAll', WHERE WHAT IT READS IS OF BULK AT MOST 1048576: true; the input reads as it did. -/
def backAllUptoRow : OpenClaim := { program := "ytmomaojkmidgmaa", sum := "eb908d2d986b50b6433c2104e48d4e1a9cad6f3297da01fd7f4d79b4ef44c323", func := "cardamom/cardamomlaw22.BackAll", spec := "backAll", apart := false, narrowed := true }
def BackAllUptoSaid : Prop := backAllUptoRow.holds Try.pinned (OpenSpec.upto backAllSpec)

/-- 'cardamomlaw22.BackGaps', WHERE WHAT IT READS IS OF BULK AT MOST 1048576: true; the input reads as it did. -/
def backGapsUptoRow : OpenClaim := { program := "ytmomaojkmidgmaa", sum := "eb908d2d986b50b6433c2104e48d4e1a9cad6f3297da01fd7f4d79b4ef44c323", func := "cardamom/cardamomlaw22.BackGaps", spec := "backGaps", apart := false, narrowed := true }
def BackGapsUptoSaid : Prop := backGapsUptoRow.holds Try.pinned (OpenSpec.upto backGapsSpec)

/-- 'cardamomlaw22.BackLate', WHERE WHAT IT READS IS OF BULK AT MOST 1048576: true; the input reads as it did. -/
def backLateUptoRow : OpenClaim := { program := "ytmomaojkmidgmaa", sum := "eb908d2d986b50b6433c2104e48d4e1a9cad6f3297da01fd7f4d79b4ef44c323", func := "cardamom/cardamomlaw22.BackLate", spec := "backLate", apart := false, narrowed := true }
def BackLateUptoSaid : Prop := backLateUptoRow.holds Try.pinned (OpenSpec.upto backLateSpec)

/-- 'cardamomlaw16.CrcAll', WHERE WHAT IT READS IS OF BULK AT MOST 1048576: true; the input reads as it did. -/
def crcAllUptoRow : OpenClaim := { program := "ytmomaojkmidgmaa", sum := "eb908d2d986b50b6433c2104e48d4e1a9cad6f3297da01fd7f4d79b4ef44c323", func := "cardamom/cardamomlaw16.CrcAll", spec := "crcAll", apart := false, narrowed := true }
def CrcAllUptoSaid : Prop := crcAllUptoRow.holds Try.pinned (OpenSpec.upto crcAllSpec)

/-- 'cardamomlaw16.CrcTurned', WHERE WHAT IT READS IS OF BULK AT MOST 1048576: true; the input reads as it did. -/
def crcTurnedUptoRow : OpenClaim := { program := "ytmomaojkmidgmaa", sum := "eb908d2d986b50b6433c2104e48d4e1a9cad6f3297da01fd7f4d79b4ef44c323", func := "cardamom/cardamomlaw16.CrcTurned", spec := "crcTurned", apart := false, narrowed := true }
def CrcTurnedUptoSaid : Prop := crcTurnedUptoRow.holds Try.pinned (OpenSpec.upto crcTurnedSpec)

/-- 'cardamomlaw16.CrcRest', WHERE WHAT IT READS IS OF BULK AT MOST 1048576: true; the input reads as it did. -/
def crcRestUptoRow : OpenClaim := { program := "ytmomaojkmidgmaa", sum := "eb908d2d986b50b6433c2104e48d4e1a9cad6f3297da01fd7f4d79b4ef44c323", func := "cardamom/cardamomlaw16.CrcRest", spec := "crcRest", apart := false, narrowed := true }
def CrcRestUptoSaid : Prop := crcRestUptoRow.holds Try.pinned (OpenSpec.upto crcRestSpec)

/-- 'cardamomlaw16.CrcJoin', WHERE WHAT IT READS IS OF BULK AT MOST 1048576: true; the input reads as it did. -/
def crcJoinUptoRow : OpenClaim := { program := "ytmomaojkmidgmaa", sum := "eb908d2d986b50b6433c2104e48d4e1a9cad6f3297da01fd7f4d79b4ef44c323", func := "cardamom/cardamomlaw16.CrcJoin", spec := "crcJoin", apart := false, narrowed := true }
def CrcJoinUptoSaid : Prop := crcJoinUptoRow.holds Try.pinned (OpenSpec.upto crcJoinSpec)

/-- 'cardamomlaw16.CrcForms', WHERE WHAT IT READS IS OF BULK AT MOST 1048576: true; the input reads as it did. -/
def crcFormsUptoRow : OpenClaim := { program := "ytmomaojkmidgmaa", sum := "eb908d2d986b50b6433c2104e48d4e1a9cad6f3297da01fd7f4d79b4ef44c323", func := "cardamom/cardamomlaw16.CrcForms", spec := "crcForms", apart := false, narrowed := true }
def CrcFormsUptoSaid : Prop := crcFormsUptoRow.holds Try.pinned (OpenSpec.upto crcFormsSpec)

/-- 'cardamomlaw6.EvalAll', WHERE WHAT IT READS IS OF BULK AT MOST 1048576: true; the input reads as it did. -/
def evalAllUptoRow : OpenClaim := { program := "ytmomaojkmidgmaa", sum := "eb908d2d986b50b6433c2104e48d4e1a9cad6f3297da01fd7f4d79b4ef44c323", func := "cardamom/cardamomlaw6.EvalAll", spec := "evalAll", unfollowed := true, recurses := true, apart := false, narrowed := true }
def EvalAllUptoSaid : Prop := evalAllUptoRow.holds Try.pinned (OpenSpec.upto evalAllSpec)

/-- 'cardamomlaw6.EvalLogic', WHERE WHAT IT READS IS OF BULK AT MOST 1048576: true; the input reads as it did. -/
def evalLogicUptoRow : OpenClaim := { program := "ytmomaojkmidgmaa", sum := "eb908d2d986b50b6433c2104e48d4e1a9cad6f3297da01fd7f4d79b4ef44c323", func := "cardamom/cardamomlaw6.EvalLogic", spec := "evalLogic", unfollowed := true, recurses := true, apart := false, narrowed := true }
def EvalLogicUptoSaid : Prop := evalLogicUptoRow.holds Try.pinned (OpenSpec.upto evalLogicSpec)

/-- 'cardamomlaw6.EvalBare', WHERE WHAT IT READS IS OF BULK AT MOST 1048576: true; the input reads as it did. -/
def evalBareUptoRow : OpenClaim := { program := "ytmomaojkmidgmaa", sum := "eb908d2d986b50b6433c2104e48d4e1a9cad6f3297da01fd7f4d79b4ef44c323", func := "cardamom/cardamomlaw6.EvalBare", spec := "evalBare", unfollowed := true, recurses := true, apart := false, narrowed := true }
def EvalBareUptoSaid : Prop := evalBareUptoRow.holds Try.pinned (OpenSpec.upto evalBareSpec)

/-- 'cardamomlaw6.EvalRange', WHERE WHAT IT READS IS OF BULK AT MOST 1048576: true; the input reads as it did. -/
def evalRangeUptoRow : OpenClaim := { program := "ytmomaojkmidgmaa", sum := "eb908d2d986b50b6433c2104e48d4e1a9cad6f3297da01fd7f4d79b4ef44c323", func := "cardamom/cardamomlaw6.EvalRange", spec := "evalRange", unfollowed := true, recurses := true, apart := false, narrowed := true }
def EvalRangeUptoSaid : Prop := evalRangeUptoRow.holds Try.pinned (OpenSpec.upto evalRangeSpec)

/-- 'cardamomlaw6.EvalForms', WHERE WHAT IT READS IS OF BULK AT MOST 1048576: true; the input reads as it did. -/
def evalFormsUptoRow : OpenClaim := { program := "ytmomaojkmidgmaa", sum := "eb908d2d986b50b6433c2104e48d4e1a9cad6f3297da01fd7f4d79b4ef44c323", func := "cardamom/cardamomlaw6.EvalForms", spec := "evalForms", unfollowed := true, recurses := true, apart := false, narrowed := true }
def EvalFormsUptoSaid : Prop := evalFormsUptoRow.holds Try.pinned (OpenSpec.upto evalFormsSpec)

/-- 'cardamomlaw6.EvalTags', WHERE WHAT IT READS IS OF BULK AT MOST 1048576: true; the input reads as it did. -/
def evalTagsUptoRow : OpenClaim := { program := "ytmomaojkmidgmaa", sum := "eb908d2d986b50b6433c2104e48d4e1a9cad6f3297da01fd7f4d79b4ef44c323", func := "cardamom/cardamomlaw6.EvalTags", spec := "evalTags", unfollowed := true, recurses := true, apart := false, narrowed := true }
def EvalTagsUptoSaid : Prop := evalTagsUptoRow.holds Try.pinned (OpenSpec.upto evalTagsSpec)

end Rows
end Go.Proofs.Ytmomaojkmidgmaa
