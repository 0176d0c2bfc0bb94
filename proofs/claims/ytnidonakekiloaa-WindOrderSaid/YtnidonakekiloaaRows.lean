/-
  No cell of these rows narrows 'for every input' (looked for: loops, veiled, ifaces, maps, wideKeys, modest, calm, conditions, laid).
  DERIVED. THE GIVEN ROWS OF THIS SEAT. 10 by the template 'for every input the law returns true; each argument reads behind the call as it read before'; 0 by the template 'total and deterministic' (their statements: YtnidonakekiloaaTotals.lean).
  GIVEN WITH THE SEED: the statements are not yours to turn. If you find one false, say at which input.
  Laid BY PROGRAM, IN A SANDBOX (cutbox-rows.mjs): the forced cells as the released guide's own fill.sh prints them over the translation 5c1528afbb917df1… (all of the seat's roots in one cut). By AI agents, Wed Nov 11 2026. No macro, syntax, notation, axiom, sorry.
-/
import Derived.Test.YtnidonakekiloaaChecked
import GoSem.Claim
import GoSem.ClaimJoined
import GoSem.ClaimMapViews
import Derived.JoinedTies
import Derived.KernelRfl
namespace Go.Proofs.Ytnidonakekiloaa
/- THE CELL 'sum', in the pinned program and in every row, IS THE sha256 OF THE DUMP (.gsa) THAT YtnidonakekiloaaProg.lean LOADS. Nothing in Lean hashes anything: it is a label: what it is worth is what the hold of that sum in a sandbox is worth. -/
noncomputable def Try.pinned : Pinned := { name := "ytnidonakekiloaa", sum := "5c1528afbb917df1c66b9f7c96710fe0dddf8b89f134f267ab723046d9902799", checked := Try.checked }
namespace Rows
def none {H : Type} : Left H := { results := [], args := [] }

/-- 'cardamomlaw20.WindAll': WHATEVER THE INPUT: true; the input reads as it did. -/
def windAllSpec : ChangeSpec := { name := "windAll", fn := fun _ => fun
  | [d1, d2] => { results := [.lit (.bool true)], args := [d1, d2] }
  | _ => none }
def windAllRow : OpenClaim := { program := "ytnidonakekiloaa", sum := "5c1528afbb917df1c66b9f7c96710fe0dddf8b89f134f267ab723046d9902799", func := "cardamom/cardamomlaw20.WindAll", spec := "windAll", unfollowed := true, recurses := true, apart := false }
def WindAllSaid : Prop := windAllRow.holds Try.pinned (OpenSpec.ofChange windAllSpec)

/-- ITS FALSE NEIGHBOUR: 'it returns false'. Refute it at one input. -/
def windAllWrong : ChangeSpec := { name := "windAll", fn := fun _ => fun
  | [d1, d2] => { results := [.lit (.bool false)], args := [d1, d2] }
  | _ => none }
def WindAllWrongFalsely : Prop := windAllRow.holds Try.pinned (OpenSpec.ofChange windAllWrong)

/-- 'cardamomlaw20.WindOrder': WHATEVER THE INPUT: true; the input reads as it did. -/
def windOrderSpec : ChangeSpec := { name := "windOrder", fn := fun _ => fun
  | [d] => { results := [.lit (.bool true)], args := [d] }
  | _ => none }
def windOrderRow : OpenClaim := { program := "ytnidonakekiloaa", sum := "5c1528afbb917df1c66b9f7c96710fe0dddf8b89f134f267ab723046d9902799", func := "cardamom/cardamomlaw20.WindOrder", spec := "windOrder", unfollowed := true, recurses := true, apart := false }
def WindOrderSaid : Prop := windOrderRow.holds Try.pinned (OpenSpec.ofChange windOrderSpec)

/-- ITS FALSE NEIGHBOUR: 'it returns false'. Refute it at one input. -/
def windOrderWrong : ChangeSpec := { name := "windOrder", fn := fun _ => fun
  | [d] => { results := [.lit (.bool false)], args := [d] }
  | _ => none }
def WindOrderWrongFalsely : Prop := windOrderRow.holds Try.pinned (OpenSpec.ofChange windOrderWrong)

/-- 'cardamomlaw20.WindForms': WHATEVER THE INPUT: true; the input reads as it did. -/
def windFormsSpec : ChangeSpec := { name := "windForms", fn := fun _ => fun
  | [] => { results := [.lit (.bool true)], args := [] }
  | _ => none }
def windFormsRow : OpenClaim := { program := "ytnidonakekiloaa", sum := "5c1528afbb917df1c66b9f7c96710fe0dddf8b89f134f267ab723046d9902799", func := "cardamom/cardamomlaw20.WindForms", spec := "windForms", unfollowed := true, recurses := true, apart := false }
def WindFormsSaid : Prop := windFormsRow.holds Try.pinned (OpenSpec.ofChange windFormsSpec)

/-- ITS FALSE NEIGHBOUR: 'it returns false'. Refute it at one input. -/
def windFormsWrong : ChangeSpec := { name := "windForms", fn := fun _ => fun
  | [] => { results := [.lit (.bool false)], args := [] }
  | _ => none }
def WindFormsWrongFalsely : Prop := windFormsRow.holds Try.pinned (OpenSpec.ofChange windFormsWrong)

/-- 'cardamomlaw4.WordAll': WHATEVER THE INPUT: true; the input reads as it did. -/
def wordAllSpec : ChangeSpec := { name := "wordAll", fn := fun _ => fun
  | [d1, d2] => { results := [.lit (.bool true)], args := [d1, d2] }
  | _ => none }
def wordAllRow : OpenClaim := { program := "ytnidonakekiloaa", sum := "5c1528afbb917df1c66b9f7c96710fe0dddf8b89f134f267ab723046d9902799", func := "cardamom/cardamomlaw4.WordAll", spec := "wordAll", inPlace := ["internal/bytealg.IndexByteString"], apart := false }
def WordAllSaid : Prop := wordAllRow.holds Try.pinned (OpenSpec.ofChange wordAllSpec)

/-- ITS FALSE NEIGHBOUR: 'it returns false'. Refute it at one input. -/
def wordAllWrong : ChangeSpec := { name := "wordAll", fn := fun _ => fun
  | [d1, d2] => { results := [.lit (.bool false)], args := [d1, d2] }
  | _ => none }
def WordAllWrongFalsely : Prop := wordAllRow.holds Try.pinned (OpenSpec.ofChange wordAllWrong)

/-- 'cardamomlaw4.WordForms': WHATEVER THE INPUT: true; the input reads as it did. -/
def wordFormsSpec : ChangeSpec := { name := "wordForms", fn := fun _ => fun
  | [] => { results := [.lit (.bool true)], args := [] }
  | _ => none }
def wordFormsRow : OpenClaim := { program := "ytnidonakekiloaa", sum := "5c1528afbb917df1c66b9f7c96710fe0dddf8b89f134f267ab723046d9902799", func := "cardamom/cardamomlaw4.WordForms", spec := "wordForms", inPlace := ["internal/bytealg.IndexByteString"], apart := false }
def WordFormsSaid : Prop := wordFormsRow.holds Try.pinned (OpenSpec.ofChange wordFormsSpec)

/-- ITS FALSE NEIGHBOUR: 'it returns false'. Refute it at one input. -/
def wordFormsWrong : ChangeSpec := { name := "wordForms", fn := fun _ => fun
  | [] => { results := [.lit (.bool false)], args := [] }
  | _ => none }
def WordFormsWrongFalsely : Prop := wordFormsRow.holds Try.pinned (OpenSpec.ofChange wordFormsWrong)

/-- 'cardamomlaw4.WordBack': WHATEVER THE INPUT: true; the input reads as it did. -/
def wordBackSpec : ChangeSpec := { name := "wordBack", fn := fun _ => fun
  | [d1, d2] => { results := [.lit (.bool true)], args := [d1, d2] }
  | _ => none }
def wordBackRow : OpenClaim := { program := "ytnidonakekiloaa", sum := "5c1528afbb917df1c66b9f7c96710fe0dddf8b89f134f267ab723046d9902799", func := "cardamom/cardamomlaw4.WordBack", spec := "wordBack", inPlace := ["internal/bytealg.IndexByteString"], apart := false }
def WordBackSaid : Prop := wordBackRow.holds Try.pinned (OpenSpec.ofChange wordBackSpec)

/-- ITS FALSE NEIGHBOUR: 'it returns false'. Refute it at one input. -/
def wordBackWrong : ChangeSpec := { name := "wordBack", fn := fun _ => fun
  | [d1, d2] => { results := [.lit (.bool false)], args := [d1, d2] }
  | _ => none }
def WordBackWrongFalsely : Prop := wordBackRow.holds Try.pinned (OpenSpec.ofChange wordBackWrong)

/-- 'cardamomlaw17.BitsAll': WHATEVER THE INPUT: true; the input reads as it did. -/
def bitsAllSpec : ChangeSpec := { name := "bitsAll", fn := fun _ => fun
  | [d1, d2, d3, d4] => { results := [.lit (.bool true)], args := [d1, d2, d3, d4] }
  | _ => none }
def bitsAllRow : OpenClaim := { program := "ytnidonakekiloaa", sum := "5c1528afbb917df1c66b9f7c96710fe0dddf8b89f134f267ab723046d9902799", func := "cardamom/cardamomlaw17.BitsAll", spec := "bitsAll", inPlace := ["internal/reflectlite.TypeOf"], unfollowed := true, recurses := true, apart := false }
def BitsAllSaid : Prop := bitsAllRow.holds Try.pinned (OpenSpec.ofChange bitsAllSpec)

/-- ITS FALSE NEIGHBOUR: 'it returns false'. Refute it at one input. -/
def bitsAllWrong : ChangeSpec := { name := "bitsAll", fn := fun _ => fun
  | [d1, d2, d3, d4] => { results := [.lit (.bool false)], args := [d1, d2, d3, d4] }
  | _ => none }
def BitsAllWrongFalsely : Prop := bitsAllRow.holds Try.pinned (OpenSpec.ofChange bitsAllWrong)

/-- 'cardamomlaw17.BitsBack': WHATEVER THE INPUT: true; the input reads as it did. -/
def bitsBackSpec : ChangeSpec := { name := "bitsBack", fn := fun _ => fun
  | [d1, d2, d3, d4] => { results := [.lit (.bool true)], args := [d1, d2, d3, d4] }
  | _ => none }
def bitsBackRow : OpenClaim := { program := "ytnidonakekiloaa", sum := "5c1528afbb917df1c66b9f7c96710fe0dddf8b89f134f267ab723046d9902799", func := "cardamom/cardamomlaw17.BitsBack", spec := "bitsBack", inPlace := ["internal/reflectlite.TypeOf"], unfollowed := true, recurses := true, apart := false }
def BitsBackSaid : Prop := bitsBackRow.holds Try.pinned (OpenSpec.ofChange bitsBackSpec)

/-- ITS FALSE NEIGHBOUR: 'it returns false'. Refute it at one input. -/
def bitsBackWrong : ChangeSpec := { name := "bitsBack", fn := fun _ => fun
  | [d1, d2, d3, d4] => { results := [.lit (.bool false)], args := [d1, d2, d3, d4] }
  | _ => none }
def BitsBackWrongFalsely : Prop := bitsBackRow.holds Try.pinned (OpenSpec.ofChange bitsBackWrong)

/-- 'cardamomlaw17.BitsOne': WHATEVER THE INPUT: true; the input reads as it did. -/
def bitsOneSpec : ChangeSpec := { name := "bitsOne", fn := fun _ => fun
  | [d] => { results := [.lit (.bool true)], args := [d] }
  | _ => none }
def bitsOneRow : OpenClaim := { program := "ytnidonakekiloaa", sum := "5c1528afbb917df1c66b9f7c96710fe0dddf8b89f134f267ab723046d9902799", func := "cardamom/cardamomlaw17.BitsOne", spec := "bitsOne", inPlace := ["internal/reflectlite.TypeOf"], unfollowed := true, recurses := true, apart := false }
def BitsOneSaid : Prop := bitsOneRow.holds Try.pinned (OpenSpec.ofChange bitsOneSpec)

/-- ITS FALSE NEIGHBOUR: 'it returns false'. Refute it at one input. -/
def bitsOneWrong : ChangeSpec := { name := "bitsOne", fn := fun _ => fun
  | [d] => { results := [.lit (.bool false)], args := [d] }
  | _ => none }
def BitsOneWrongFalsely : Prop := bitsOneRow.holds Try.pinned (OpenSpec.ofChange bitsOneWrong)

/-- 'cardamomlaw17.BitsForms': WHATEVER THE INPUT: true; the input reads as it did. -/
def bitsFormsSpec : ChangeSpec := { name := "bitsForms", fn := fun _ => fun
  | [] => { results := [.lit (.bool true)], args := [] }
  | _ => none }
def bitsFormsRow : OpenClaim := { program := "ytnidonakekiloaa", sum := "5c1528afbb917df1c66b9f7c96710fe0dddf8b89f134f267ab723046d9902799", func := "cardamom/cardamomlaw17.BitsForms", spec := "bitsForms", inPlace := ["internal/reflectlite.TypeOf"], unfollowed := true, recurses := true, apart := false }
def BitsFormsSaid : Prop := bitsFormsRow.holds Try.pinned (OpenSpec.ofChange bitsFormsSpec)

/-- ITS FALSE NEIGHBOUR: 'it returns false'. Refute it at one input. -/
def bitsFormsWrong : ChangeSpec := { name := "bitsForms", fn := fun _ => fun
  | [] => { results := [.lit (.bool false)], args := [] }
  | _ => none }
def BitsFormsWrongFalsely : Prop := bitsFormsRow.holds Try.pinned (OpenSpec.ofChange bitsFormsWrong)

/- THE SECOND FORM. 'bulk': how many values and letters a reading holds, each counted each time it is reached (what is shared counts as often as it is met; a slice's spare places count too). A statement '..UptoSaid' is the law's where the arguments, and the package variables that the reading takes, are together of bulk at most 1048576: NARROWER than '..Said'. Prove '..Said' where nothing that the law and all that it calls make is longer than what came in: it says more and counts as full. Else prove '..UptoSaid'. A law counts once. -/
mutual
def uptoBulk {H : Type} : DataW H → Nat
  | .lit (.string bytes) => bytes.length + 1
  | .lit _ => 1
  | .nil => 1
  | .ptr d => uptoBulk d + 1
  | .slice elems spare => uptoBulkAll elems + uptoBulkAll spare + 1
  | .agg parts => uptoBulkAll parts + 1
  | .iface _ d => uptoBulk d + 1
  | .map entries => uptoBulkEntries entries + 1
  | .held _ => 1
def uptoBulkAll {H : Type} : List (DataW H) → Nat
  | [] => 0
  | d :: r => uptoBulk d + uptoBulkAll r
def uptoBulkEntries {H : Type} : List (Lit × DataW H) → Nat
  | [] => 0
  | x :: r => uptoBulkEntry x + uptoBulkEntries r
def uptoBulkEntry {H : Type} : Lit × DataW H → Nat
  | (.string bytes, d) => bytes.length + uptoBulk d + 1
  | (_, d) => uptoBulk d + 1
 end
def uptoSmall : (H : Type) → List (DataW H) → Bool := fun _ ds => decide (uptoBulkAll ds ≤ 1048576)
def OpenSpec.upto (s : _root_.Go.ChangeSpec) : _root_.Go.OpenSpec := { _root_.Go.OpenSpec.ofChange s with cond := some uptoSmall }

/-- 'cardamomlaw20.WindAll', WHERE WHAT IT READS IS OF BULK AT MOST 1048576: true; the input reads as it did. -/
def windAllUptoRow : OpenClaim := { program := "ytnidonakekiloaa", sum := "5c1528afbb917df1c66b9f7c96710fe0dddf8b89f134f267ab723046d9902799", func := "cardamom/cardamomlaw20.WindAll", spec := "windAll", unfollowed := true, recurses := true, apart := false, narrowed := true }
def WindAllUptoSaid : Prop := windAllUptoRow.holds Try.pinned (OpenSpec.upto windAllSpec)

/-- 'cardamomlaw20.WindOrder', WHERE WHAT IT READS IS OF BULK AT MOST 1048576: true; the input reads as it did. -/
def windOrderUptoRow : OpenClaim := { program := "ytnidonakekiloaa", sum := "5c1528afbb917df1c66b9f7c96710fe0dddf8b89f134f267ab723046d9902799", func := "cardamom/cardamomlaw20.WindOrder", spec := "windOrder", unfollowed := true, recurses := true, apart := false, narrowed := true }
def WindOrderUptoSaid : Prop := windOrderUptoRow.holds Try.pinned (OpenSpec.upto windOrderSpec)

/-- 'cardamomlaw20.WindForms', WHERE WHAT IT READS IS OF BULK AT MOST 1048576: true; the input reads as it did. -/
def windFormsUptoRow : OpenClaim := { program := "ytnidonakekiloaa", sum := "5c1528afbb917df1c66b9f7c96710fe0dddf8b89f134f267ab723046d9902799", func := "cardamom/cardamomlaw20.WindForms", spec := "windForms", unfollowed := true, recurses := true, apart := false, narrowed := true }
def WindFormsUptoSaid : Prop := windFormsUptoRow.holds Try.pinned (OpenSpec.upto windFormsSpec)

/-- 'cardamomlaw4.WordAll', WHERE WHAT IT READS IS OF BULK AT MOST 1048576: true; the input reads as it did. -/
def wordAllUptoRow : OpenClaim := { program := "ytnidonakekiloaa", sum := "5c1528afbb917df1c66b9f7c96710fe0dddf8b89f134f267ab723046d9902799", func := "cardamom/cardamomlaw4.WordAll", spec := "wordAll", inPlace := ["internal/bytealg.IndexByteString"], apart := false, narrowed := true }
def WordAllUptoSaid : Prop := wordAllUptoRow.holds Try.pinned (OpenSpec.upto wordAllSpec)

/-- 'cardamomlaw4.WordForms', WHERE WHAT IT READS IS OF BULK AT MOST 1048576: true; the input reads as it did. -/
def wordFormsUptoRow : OpenClaim := { program := "ytnidonakekiloaa", sum := "5c1528afbb917df1c66b9f7c96710fe0dddf8b89f134f267ab723046d9902799", func := "cardamom/cardamomlaw4.WordForms", spec := "wordForms", inPlace := ["internal/bytealg.IndexByteString"], apart := false, narrowed := true }
def WordFormsUptoSaid : Prop := wordFormsUptoRow.holds Try.pinned (OpenSpec.upto wordFormsSpec)

/-- 'cardamomlaw4.WordBack', WHERE WHAT IT READS IS OF BULK AT MOST 1048576: true; the input reads as it did. -/
def wordBackUptoRow : OpenClaim := { program := "ytnidonakekiloaa", sum := "5c1528afbb917df1c66b9f7c96710fe0dddf8b89f134f267ab723046d9902799", func := "cardamom/cardamomlaw4.WordBack", spec := "wordBack", inPlace := ["internal/bytealg.IndexByteString"], apart := false, narrowed := true }
def WordBackUptoSaid : Prop := wordBackUptoRow.holds Try.pinned (OpenSpec.upto wordBackSpec)

/-- 'cardamomlaw17.BitsAll', WHERE WHAT IT READS IS OF BULK AT MOST 1048576: true; the input reads as it did. -/
def bitsAllUptoRow : OpenClaim := { program := "ytnidonakekiloaa", sum := "5c1528afbb917df1c66b9f7c96710fe0dddf8b89f134f267ab723046d9902799", func := "cardamom/cardamomlaw17.BitsAll", spec := "bitsAll", inPlace := ["internal/reflectlite.TypeOf"], unfollowed := true, recurses := true, apart := false, narrowed := true }
def BitsAllUptoSaid : Prop := bitsAllUptoRow.holds Try.pinned (OpenSpec.upto bitsAllSpec)

/-- 'cardamomlaw17.BitsBack', WHERE WHAT IT READS IS OF BULK AT MOST 1048576: true; the input reads as it did. -/
def bitsBackUptoRow : OpenClaim := { program := "ytnidonakekiloaa", sum := "5c1528afbb917df1c66b9f7c96710fe0dddf8b89f134f267ab723046d9902799", func := "cardamom/cardamomlaw17.BitsBack", spec := "bitsBack", inPlace := ["internal/reflectlite.TypeOf"], unfollowed := true, recurses := true, apart := false, narrowed := true }
def BitsBackUptoSaid : Prop := bitsBackUptoRow.holds Try.pinned (OpenSpec.upto bitsBackSpec)

/-- 'cardamomlaw17.BitsOne', WHERE WHAT IT READS IS OF BULK AT MOST 1048576: true; the input reads as it did. -/
def bitsOneUptoRow : OpenClaim := { program := "ytnidonakekiloaa", sum := "5c1528afbb917df1c66b9f7c96710fe0dddf8b89f134f267ab723046d9902799", func := "cardamom/cardamomlaw17.BitsOne", spec := "bitsOne", inPlace := ["internal/reflectlite.TypeOf"], unfollowed := true, recurses := true, apart := false, narrowed := true }
def BitsOneUptoSaid : Prop := bitsOneUptoRow.holds Try.pinned (OpenSpec.upto bitsOneSpec)

/-- 'cardamomlaw17.BitsForms', WHERE WHAT IT READS IS OF BULK AT MOST 1048576: true; the input reads as it did. -/
def bitsFormsUptoRow : OpenClaim := { program := "ytnidonakekiloaa", sum := "5c1528afbb917df1c66b9f7c96710fe0dddf8b89f134f267ab723046d9902799", func := "cardamom/cardamomlaw17.BitsForms", spec := "bitsForms", inPlace := ["internal/reflectlite.TypeOf"], unfollowed := true, recurses := true, apart := false, narrowed := true }
def BitsFormsUptoSaid : Prop := bitsFormsUptoRow.holds Try.pinned (OpenSpec.upto bitsFormsSpec)

end Rows
end Go.Proofs.Ytnidonakekiloaa
