-- A text of this session, written by a program of its own over the kit's print.
import Derived.Test.YtmomaojkmidgmaaPAllx0
import Derived.Test.YtmomaojkmidgmaaPAllx11
namespace Go.Proofs.Ytmomaojkmidgmaa.PAll
open Go.RowKit Go.Proofs.YtmomaojkmidgmaaW.PrintWords Go.Proofs.YtmomaojkmidgmaaW.PrintLast Go.Proofs.YtmomaojkmidgmaaW.PrintMore
attribute [local go_sem] max2_int min2_int max_two min_two max_three min_three max_four min_four   -- for this text's walks alone
set_option linter.unusedVariables false
set_option linter.unusedSimpArgs false

/-! ### cardamomlaw16_begun: function 23 -/
/-- A literal's row of bytes in a block of its own, marked or not, reads as the list. -/
theorem lit_reads (W : World) (xs : List Int) (t : Nat) (fr : Nat × Nat) (g : Nat) (hg : g = W.heap.size) (hx : xs.length ≤ 9223372036854775807) :
    Kd.C (Kd.int .u8) (W.alloc (.cells (nums .u8 xs).toArray t fr)) (some ⟨g, 0, none⟩) xs.length xs := by
  subst hg
  refine ⟨rfl, hx, fun _ => ⟨_, rfl, fun j p hj => ⟨[.int .u8 p], rfl, rfl, fun i u hu => ?_⟩⟩⟩
  have hi : i = 0 := by
    have := (List.getElem?_eq_some_iff.1 hu).1
    simp at this
    exact this
  subst hi
  have hu' : Value.int .u8 p = u := by simpa using hu
  subst hu'
  rw [add_plain, World.cell?_alloc_mark]
  have hsz : (Kd.int .u8).sz = 1 := rfl
  simp [nums, hsz, hj]
def cardamomlaw16_begun.f : Option (Bool) := some true
set_option maxHeartbeats 1000000 in
theorem cardamomlaw16_begun.calls (r : Bool) (w : World) (h : cardamomlaw16_begun.f = some r) :
    Calls Try.prog 23 #[] w fun e w' => e = .returned (.bool r) ∧ Below w.heap.size w w' := by
  obtain rfl : true = r := by simpa [cardamomlaw16_begun.f] using h
  have kc := fun (w : World) (C : Array Value) (n c : Nat) => Lib.run_convert_bytes_const (P := Try.prog) w 23 5 C n c Try.underlying23 Try.underlying5
  go_enter Try.func23, Try.ntmps23
  go_wp2_with fail
  refine (crc_Sum.calls 200 (some ⟨w.heap.size, 0, none⟩) 9 [49, 50, 51, 52, 53, 54, 55, 56, 57] 10673 _ (lit_reads w _ 5 _ _ rfl (by decide)) (by decide) (by decide +kernel)).mono ?_
  rintro e w' ⟨rfl, ⟨nd, rfl⟩⟩
  go_wp2_with fail
  refine (crc_Sum.calls 200 none 0 [] 65535 _ (Kd.C_nil _ _) (by decide) (by decide +kernel)).mono ?_
  rintro e w' ⟨rfl, ⟨nd, rfl⟩⟩
  go_wp2
  go_ret
  exact ⟨rfl, pw_below_drewN (below_alloc (Below.refl _ _) _) _⟩

end Go.Proofs.Ytmomaojkmidgmaa.PAll
