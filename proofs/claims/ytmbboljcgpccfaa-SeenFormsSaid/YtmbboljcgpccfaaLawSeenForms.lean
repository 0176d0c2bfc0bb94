/-
  What is proved here: the law cardamom/cardamomlaw9.SeenForms answers true: the run of its text on values and blocks of its own, carried out by the kernel, and the model's run follows it.
  Conditions: none.
-/
import Derived.Test.YtmbboljcgpccfaaRows
import Derived.Test.YtmbboljcgpccfaaEv2
import Derived.WalkKit
import Derived.ProofKit
import Derived.OpenShut
import Derived.ShutString
import Derived.ChangeOld
import Derived.Below
import Derived.SizedLaws
namespace Go.Proofs.Ytmbboljcgpccfaa.seenForms
open Go.ChangeShapes Go.WideShapes Go.ChangeAt Go.RowKit
open Go.ChangeMaps (open_string shut_string)
set_option linter.unusedVariables false
theorem own : ownKnob Try.prog.godebug = none := by kernel_rfl
def ren59 : Go.Shelf.Ren := ⟨fun n => if n = 29 then 89 else if n = 30 then 90 else n, fun n => if n = 24 then 24 else if n = 9 then 30 else if n = 3 then 3 else if n = 4 then 4 else 0, fun n => n⟩
theorem lay59 : Go.Proofs.Ev.InsLay Try.prog ren59 59 ((Try.prog.info? 30).getD default).size ((Try.prog.info? 30).getD default) (((Try.prog.info? 30).getD default).zero.getD .nilFunc) where
  mixed := Try.checked.mixed
  hf := ⟨Try.f59.name, by rw [Try.func59]; exact congrArg some (show Try.f59 = { Go.Proofs.Body2.n22 ren59 with name := Try.f59.name } from by kernel_rfl)⟩
  hov := fun args w => run_callFunc_extern (fn := Try.f89) Try.func89 (by kernel_rfl) (by kernel_rfl) (by kernel_rfl) (e := Extern.SlicesOverlaps.overlaps #[24, 24] #[4]) (by kernel_rfl) args w
  t3 := by kernel_rfl
  a3 := fun w => Go.Proofs.Ev.tagg_run (by kernel_rfl) w
  z3 := fun w => Go.Proofs.Ev.tsize_run (by kernel_rfl) w
  v3 := fun w => Go.Proofs.Ev.zero_run (by kernel_rfl) w
  t4 := by kernel_rfl
  a4 := fun w => Go.Proofs.Ev.tagg_run (by kernel_rfl) w
  z4 := fun w => Go.Proofs.Ev.tsize_run (by kernel_rfl) w
  v4 := fun w => Go.Proofs.Ev.zero_run (by kernel_rfl) w
  t24 := by kernel_rfl
  a24 := fun w => Go.Proofs.Ev.tagg_run (by kernel_rfl) w
  z24 := fun w => Go.Proofs.Ev.tsize_run (by kernel_rfl) w
  v24 := fun w => Go.Proofs.Ev.zero_run (by kernel_rfl) w
  i9 := by kernel_rfl
  iz := rfl
  ib := Nat.le_of_ble_eq_true (by kernel_rfl)
  izv := by kernel_rfl
  hzv := by kernel_rfl
  hz0 := Nat.le_of_ble_eq_true (by kernel_rfl)
def ren77 : Go.Shelf.Ren := ⟨fun n => if n = 29 then 103 else if n = 30 then 104 else n, fun n => if n = 24 then 45 else if n = 9 then 59 else if n = 3 then 3 else if n = 4 then 4 else 0, fun n => n⟩
theorem lay77 : Go.Proofs.Ev.InsLay Try.prog ren77 77 ((Try.prog.info? 59).getD default).size ((Try.prog.info? 59).getD default) (((Try.prog.info? 59).getD default).zero.getD .nilFunc) where
  mixed := Try.checked.mixed
  hf := ⟨Try.f77.name, by rw [Try.func77]; exact congrArg some (show Try.f77 = { Go.Proofs.Body2.n22 ren77 with name := Try.f77.name } from by kernel_rfl)⟩
  hov := fun args w => run_callFunc_extern (fn := Try.f103) Try.func103 (by kernel_rfl) (by kernel_rfl) (by kernel_rfl) (e := Extern.SlicesOverlaps.overlaps #[45, 45] #[4]) (by kernel_rfl) args w
  t3 := by kernel_rfl
  a3 := fun w => Go.Proofs.Ev.tagg_run (by kernel_rfl) w
  z3 := fun w => Go.Proofs.Ev.tsize_run (by kernel_rfl) w
  v3 := fun w => Go.Proofs.Ev.zero_run (by kernel_rfl) w
  t4 := by kernel_rfl
  a4 := fun w => Go.Proofs.Ev.tagg_run (by kernel_rfl) w
  z4 := fun w => Go.Proofs.Ev.tsize_run (by kernel_rfl) w
  v4 := fun w => Go.Proofs.Ev.zero_run (by kernel_rfl) w
  t24 := by kernel_rfl
  a24 := fun w => Go.Proofs.Ev.tagg_run (by kernel_rfl) w
  z24 := fun w => Go.Proofs.Ev.tsize_run (by kernel_rfl) w
  v24 := fun w => Go.Proofs.Ev.zero_run (by kernel_rfl) w
  i9 := by kernel_rfl
  iz := rfl
  ib := Nat.le_of_ble_eq_true (by kernel_rfl)
  izv := by kernel_rfl
  hzv := by kernel_rfl
  hz0 := Nat.le_of_ble_eq_true (by kernel_rfl)
noncomputable def prims : Go.Proofs.Ev.Prims := fun f => bif Nat.beq f 59 then some (.ins ((Try.prog.info? 30).getD default).size ((Try.prog.info? 30).getD default).bytes) else bif Nat.beq f 77 then some (.ins ((Try.prog.info? 59).getD default).size ((Try.prog.info? 59).getD default).bytes) else none
theorem prims_ok : Go.Proofs.Ev.PrimsOK Try.prog prims := by
  intro f p h
  unfold prims at h
  by_cases h59 : f = 59
  · subst h59
    rw [Nat.beq_refl, cond_true] at h
    rw [← Option.some.inj h]
    exact ⟨by kernel_rfl, fun vs H v H' he β cs w hr s => Go.Proofs.Ev.evIns_ok lay59 (by intro hz; have : (Go.Proofs.Ev.zeroV Try.prog 30).isSome = true := by kernel_rfl
                                                                                          rw [show ren59.t 9 = 30 from rfl] at hz; rw [hz] at this; cases this) vs H v H' he β cs w hr s⟩
  rw [Go.Proofs.Ev.beq_false _ _ h59, cond_false] at h
  by_cases h77 : f = 77
  · subst h77
    rw [Nat.beq_refl, cond_true] at h
    rw [← Option.some.inj h]
    exact ⟨by kernel_rfl, fun vs H v H' he β cs w hr s => Go.Proofs.Ev.evIns_ok lay77 (by intro hz; have : (Go.Proofs.Ev.zeroV Try.prog 59).isSome = true := by kernel_rfl
                                                                                          rw [show ren77.t 9 = 59 from rfl] at hz; rw [hz] at this; cases this) vs H v H' he β cs w hr s⟩
  rw [Go.Proofs.Ev.beq_false _ _ h77, cond_false] at h
  cases h
theorem answers : Go.Proofs.Ev.saysTrueE (h := Go.Proofs.Ev.tabHP) (Go.Proofs.Ev.fFn Try.prog prims (Go.Proofs.Ev.cFn Try.prog) Go.Proofs.Ev.tabHP 400 10 [] (⟨0, .nil⟩ : Go.Proofs.Ev.HT)) = true := by kernel_rfl
theorem walk (W : World) : Calls Try.prog 10 #[] W fun e w' => e = .returned (.bool true) ∧ Below W.heap.size W w' := Go.Proofs.Ev.closed_trueF Try.checked.mixed prims_ok answers W
set_option maxRecDepth 100000 in
theorem lifted (os : Os) (started : os.Started) (H : Type) (enc : TypeId × Value → H) :
    ReturnsInHanded {} Try.checked os 10 .any (Rows.seenFormsSpec.pre6 enc Try.prog Try.f10 Rows.seenFormsRow.domain false) (Rows.seenFormsSpec.post enc Try.prog Try.f10 false true false false) := by
  refine returnsInHanded_of_change_sized (C := Try.checked) own started (by kernel_rfl) Try.func10
    (ChangeSpec.witness6 (enc := enc) (C := Try.checked) false ⟨#[], #[], []⟩ 8 (by kernel_rfl) (by kernel_rfl) (by kernel_rfl) (by kernel_rfl)) ?_
  intro W base args ds gs before hval0 hW hcnd hsz0 _
  have hsz : (DataW.weightsEach Try.prog (Try.f10.params.toList ++ Rows.seenFormsSpec.plain.varTypes Try.prog) (ds ++ gs)).all (· ≤ reachBytes) = true := hsz0
  have hval : ∀ (j : Nat) t v, Try.f10.params[j]? = some t → args[j]? = some v → Value.okWide Try.prog W .any base t v := hval0
  have hW' := hW
  obtain ⟨p, q, hA0, hV, rfl, hfz, hnd⟩ := hW
  have hA : DataW.TrodAll enc Try.prog W 0 (fun _ => true) true Try.f10.params.toList args.toList ds p := hA0
  rw [Try.params10] at hA hval hsz
  obtain ⟨rfl, rfl, rfl⟩ := trodAll_none hA
  obtain ⟨rfl, rfl⟩ := trodVars_none hV
  clear hA0 hval0 hsz0 hsz
  refine (walk W).mono fun e W' ⟨he, bel⟩ => ?_
  subst he
  exact ⟨_, rfl, _, _, _, [], _, [], hW', trodAll_mk1 (shut_bool Try.underlying4 _), trodAll_mk0, rfl, bel.frame _, fun h => by cases h⟩
theorem over : Rows.seenFormsRow.holds Try.pinned (OpenSpec.ofChange Rows.seenFormsSpec) :=
  OpenClaim.holds_of_wide 10 Try.f10 rfl rfl rfl rfl rfl rfl rfl ⟨rfl, rfl, rfl, rfl, rfl⟩ rfl rfl rfl rfl rfl (by kernel_rfl) Try.func10 (by kernel_rfl)
    (of_decide_eq_true (by kernel_rfl)) (by unfold Func.isWrapper; first | (rw [if_pos (by decide +kernel)]; kernel_rfl) | (rw [if_neg (by decide +kernel)]; exact ⟨rfl, rfl⟩))
    (fun os started H enc _ => lifted os started H enc)
theorem proved : Rows.SeenFormsSaid := over
#print axioms proved
end Go.Proofs.Ytmbboljcgpccfaa.seenForms
namespace Go.Proofs.Ytmbboljcgpccfaa
/-- The row, under a short name, for the claim. -/
theorem seenForms_holds : Rows.SeenFormsSaid := seenForms.proved
end Go.Proofs.Ytmbboljcgpccfaa
