-- A text of this session, written by a program of its own over the kit's print.
import Derived.Test.YtmomaojkmidgmaaPAllx0
import Derived.Test.YtmomaojkmidgmaaPAllx11
import Derived.Test.YtmomaojkmidgmaaPAllx12
namespace Go.Proofs.Ytmomaojkmidgmaa.PAll
open Go.RowKit Go.Proofs.YtmomaojkmidgmaaW.PrintWords Go.Proofs.YtmomaojkmidgmaaW.PrintLast Go.Proofs.YtmomaojkmidgmaaW.PrintMore
attribute [local go_sem] max2_int min2_int max_two min_two max_three min_three max_four min_four   -- for this text's walks alone
set_option linter.unusedVariables false
set_option linter.unusedSimpArgs false

/-! ### cardamomlaw16_CrcForms: function 10 -/
def cardamomlaw16_CrcForms.f : Option (Bool) := some true
set_option maxHeartbeats 2000000 in
theorem cardamomlaw16_CrcForms.calls (r : Bool) (w : World) (h : cardamomlaw16_CrcForms.f = some r) :
    Calls Try.prog 10 #[] w fun e w' => e = .returned (.bool r) ∧ Below w.heap.size w w' := by
  obtain rfl : true = r := by simpa [cardamomlaw16_CrcForms.f] using h
  have kc := fun (w : World) (C : Array Value) (n c : Nat) => Lib.run_convert_bytes_const (P := Try.prog) w 23 5 C n c Try.underlying23 Try.underlying5
  have kd := fun (w : World) (C : Array Value) (n c g : Nat) (hg : g = w.heap.size) => Joins.run_convert_bytes_const_at (P := Try.prog) w 23 5 C n c g hg Try.underlying23 Try.underlying5
  go_enter Try.func10, Try.ntmps10
  go_wp2_with fail
  refine (cardamomlaw16_begun.calls true _ rfl).mono ?_
  rintro e w1 ⟨rfl, h1⟩
  go_wp2_with fail
  refine (crc_Sum.calls 200 _ _ [0] 0xe1f0 _ ?_ ?_ (by decide +kernel)).mono ?_
  · repeat (first | exact lit_reads _ [0] 5 _ _ (by simp) (by decide) | refine Kd.C_drewN ?_ _)
  · decide
  rintro e w' ⟨rfl, ⟨n1, rfl⟩⟩
  go_wp2_with fail
  refine (crc_Sum.calls 200 _ _ [65] 0xb915 _ ?_ ?_ (by decide +kernel)).mono ?_
  · repeat (first | exact lit_reads _ [65] 5 _ _ (by simp) (by decide) | refine Kd.C_drewN ?_ _)
  · decide
  rintro e w' ⟨rfl, ⟨n2, rfl⟩⟩
  go_wp2_with fail
  refine (crc_Sum.calls 200 _ _ [255, 255] 0 _ ?_ ?_ (by decide +kernel)).mono ?_
  · repeat (first | exact lit_reads _ [255, 255] 5 _ _ (by simp) (by decide) | refine Kd.C_drewN ?_ _)
  · decide
  rintro e w' ⟨rfl, ⟨n3, rfl⟩⟩
  go_wp2_with fail
  refine (crc_Sum.calls 200 _ _ [0, 0] 0x1d0f _ ?_ ?_ (by decide +kernel)).mono ?_
  · repeat (first | exact lit_reads _ [0, 0] 5 _ _ (by simp) (by decide) | refine Kd.C_drewN ?_ _)
  · decide
  rintro e w' ⟨rfl, ⟨n4, rfl⟩⟩
  go_wp2
  go_ret
  exact ⟨rfl, by repeat (first | exact h1 | apply below_alloc | apply pw_below_drewN)⟩

def cardamomlaw16_CrcForms.Pure : Prop := cardamomlaw16_CrcForms.f = some true
theorem cardamomlaw16_CrcForms.walk (P : cardamomlaw16_CrcForms.Pure) (w : World) :
    Calls Try.prog 10 #[] w fun e w' => e = .returned (.bool true) ∧ Below w.heap.size w w' := cardamomlaw16_CrcForms.calls true w P

end Go.Proofs.Ytmomaojkmidgmaa.PAll
