-- A text of this session, written by a program of its own over the kit's print.
import Derived.Test.YtnidonakekiloaaPAllx0
import Derived.Test.YtnidonakekiloaaPAllx50
namespace Go.Proofs.Ytnidonakekiloaa.PAll
open Go.RowKit Go.Proofs.YtnidonakekiloaaW.PrintWords Go.Proofs.YtnidonakekiloaaW.PrintLast Go.Proofs.YtnidonakekiloaaW.PrintMore
attribute [local go_sem] max2_int min2_int max_two min_two max_three min_three max_four min_four   -- for this text's walks alone
set_option linter.unusedVariables false
set_option linter.unusedSimpArgs false

/-! ### cardamomref16_TakeText: function 33 -/
def cardamomref16_TakeText.f (k : Nat) (l0 : List Int) : Option (ByteArray × Int × Bool) := (cardamomref16_TakeNum.f k l0).bind fun bt432 => (if bt432.2.2 = true then (if bt432.1 > (wrap64 ((l0.length : Int) - bt432.2.1)) then (some ((⟨#[]⟩ : ByteArray), 0, false)) else (if 0 ≤ bt432.2.1 then (if bt432.2.1 ≤ (wrap64 (bt432.2.1 + bt432.1)) then (if (wrap64 (bt432.2.1 + bt432.1)) ≤ (l0.length : Int) then (some (strOfNums ((l0.take ((wrap64 (bt432.2.1 + bt432.1)) : Int).toNat).drop (bt432.2.1 : Int).toNat), wrap64 (bt432.2.1 + bt432.1), true)) else (none)) else (none)) else (none))) else (some ((⟨#[]⟩ : ByteArray), 0, false)))
theorem cardamomref16_TakeText.mono : ∀ a0 k, LeO (cardamomref16_TakeText.f k a0) (cardamomref16_TakeText.f (k + 1) a0) := by
  intro a0 k
  unfold cardamomref16_TakeText.f
  repeat' first
      | (with_reducible exact cardamomref16_TakeNum.mono _ _)
      | (with_reducible exact LeO.refl _)
      | (with_reducible exact LeO.none _)
      | (with_reducible refine LeO.ite ?_ ?_)
      | (with_reducible refine LeO.bind ?_ (fun _ => ?_))
      | exact cardamomref16_TakeNum.mono _ _
      | exact LeO.none _
      | refine LeO.ite ?_ ?_
      | refine LeO.bind ?_ (fun _ => ?_)
set_option maxHeartbeats 8000000 in
set_option maxRecDepth 100000 in
theorem cardamomref16_TakeText.calls (k : Nat) (A0 : Option Addr) (c0 : Nat) (l0 : List Int) (r1 : ByteArray) (r2 : Int) (r3 : Bool) (w : World) (hr0 : Kd.C (Kd.int .u8) w A0 l0.length l0) (hc0 : l0.length ≤ c0) (h : cardamomref16_TakeText.f k l0 = some (r1, r2, r3)) :
    Calls Try.prog 33 #[.slice A0 l0.length c0] w fun e w' => e = .returned (.tuple #[.string r1, .int .i64 r2, .bool r3]) ∧ Drawn0 w w' := by
  have HR0 := Aside0.mk hr0
  have HC0 := Aside0.mk hc0
  clear hr0 hc0
  have H : ((cardamomref16_TakeNum.f k l0).bind fun bt432 => (if bt432.2.2 = true then (if bt432.1 > (wrap64 ((l0.length : Int) - bt432.2.1)) then (some ((⟨#[]⟩ : ByteArray), 0, false)) else (if 0 ≤ bt432.2.1 then (if bt432.2.1 ≤ (wrap64 (bt432.2.1 + bt432.1)) then (if (wrap64 (bt432.2.1 + bt432.1)) ≤ (l0.length : Int) then (some (strOfNums ((l0.take ((wrap64 (bt432.2.1 + bt432.1)) : Int).toNat).drop (bt432.2.1 : Int).toNat), wrap64 (bt432.2.1 + bt432.1), true)) else (none)) else (none)) else (none))) else (some ((⟨#[]⟩ : ByteArray), 0, false)))) = some (r1, r2, r3) := h
  clear h
  replace H := Option.bind_eq_some_iff.mp H
  obtain ⟨⟨t432, t433, t434⟩, A20, H⟩ := H
  replace H : (if t434 = true then (if t432 > (wrap64 ((l0.length : Int) - t433)) then (some ((⟨#[]⟩ : ByteArray), 0, false)) else (if 0 ≤ t433 then (if t433 ≤ (wrap64 (t433 + t432)) then (if (wrap64 (t433 + t432)) ≤ (l0.length : Int) then (some (strOfNums ((l0.take ((wrap64 (t433 + t432)) : Int).toNat).drop (t433 : Int).toNat), wrap64 (t433 + t432), true)) else (none)) else (none)) else (none))) else (some ((⟨#[]⟩ : ByteArray), 0, false))) = some (r1, r2, r3) := H
  have A2 := Aside0.mk A20
  clear A20
  by_cases c3 : t434 = true
  · subst c3
    have H1 : (if t432 > (wrap64 ((l0.length : Int) - t433)) then (some ((⟨#[]⟩ : ByteArray), 0, false)) else (if 0 ≤ t433 then (if t433 ≤ (wrap64 (t433 + t432)) then (if (wrap64 (t433 + t432)) ≤ (l0.length : Int) then (some (strOfNums ((l0.take ((wrap64 (t433 + t432)) : Int).toNat).drop (t433 : Int).toNat), wrap64 (t433 + t432), true)) else (none)) else (none)) else (none))) = some (r1, r2, r3) := by rw [if_pos rfl] at H; exact H
    clear H
    have H := H1
    clear H1
    by_cases c4 : t432 > (wrap64 ((l0.length : Int) - t433))
    · rw [if_pos c4] at H
      have c4b0 : decide ((wrap64 ((l0.length : Int) - t433)) < t432) = true := decide_eq_true c4
      clear c4
      simp only [Option.some.injEq, Prod.mk.injEq] at H
      obtain ⟨rfl, rfl, rfl⟩ := H
      go_enter Try.func33, Try.ntmps33
      go_wp2_with (first | ((with_reducible refine gate_callee (f := 31) rfl ?_); refine goesL_ (some 10) rfl rfl Try.func31 (by kernel_rfl) rfl #[.slice A0 l0.length c0] rfl (by (try simp only [List.map_toArray, List.map_cons, List.map_nil]); first | done | rfl | (simp only [List.length_drop, List.length_take]; rfl)) ?_; (with_reducible refine (cardamomref16_TakeNum.calls k _ _ l0 t432 t433 true _ ?side1 ?side2 A2.out).mono ?_); (case side1 => repeat (first | exact HR0.out | (with_reducible refine Kd.C_alloc ?_ _) | (with_reducible refine Kd.C_drewN ?_ _) | (with_reducible refine Kd.C_drew ?_))); (case side2 => exact HC0.out); rintro e w' ⟨rfl, ⟨nd, rfl⟩⟩; refine ⟨_, rfl, ?_⟩))
      go_ret3
      exact ⟨by first | rfl | (simp; done) | (simp [*]; done), by repeat (first | exact Drawn0.refl _ | apply Drawn0.step)⟩
    · rw [if_neg c4] at H
      have c4b0 : decide ((wrap64 ((l0.length : Int) - t433)) < t432) = false := decide_eq_false c4
      clear c4
      by_cases c5 : 0 ≤ t433
      · rw [if_pos c5] at H
        have c5b0 := eq_true c5
        have c5b1 : decide (0 ≤ t433) = true := decide_eq_true c5
        clear c5
        by_cases c6 : t433 ≤ (wrap64 (t433 + t432))
        · rw [if_pos c6] at H
          have c6b0 := eq_true c6
          have c6b1 : decide (t433 ≤ (wrap64 (t433 + t432))) = true := decide_eq_true c6
          by_cases c7 : (wrap64 (t433 + t432)) ≤ (l0.length : Int)
          · rw [if_pos c7] at H
            have c7b0 := eq_true c7
            have c7b1 : decide ((wrap64 (t433 + t432)) ≤ (l0.length : Int)) = true := decide_eq_true c7
            simp only [Option.some.injEq, Prod.mk.injEq] at H
            obtain ⟨rfl, rfl, rfl⟩ := H
            go_enter Try.func33, Try.ntmps33
            go_wp2_with (first | ((with_reducible refine gate_callee (f := 31) rfl ?_); refine goesL_ (some 10) rfl rfl Try.func31 (by kernel_rfl) rfl #[.slice A0 l0.length c0] rfl (by (try simp only [List.map_toArray, List.map_cons, List.map_nil]); first | done | rfl | (simp only [List.length_drop, List.length_take]; rfl)) ?_; (with_reducible refine (cardamomref16_TakeNum.calls k _ _ l0 t432 t433 true _ ?side1 ?side2 A2.out).mono ?_); (case side1 => repeat (first | exact HR0.out | (with_reducible refine Kd.C_alloc ?_ _) | (with_reducible refine Kd.C_drewN ?_ _) | (with_reducible refine Kd.C_drew ?_))); (case side2 => exact HC0.out); rintro e w' ⟨rfl, ⟨nd, rfl⟩⟩; refine ⟨_, rfl, ?_⟩; obtain ⟨i08, hi08, _, hsz8, _⟩ := info_parts info5; obtain ⟨A8, hcut8, hA8, hC8⟩ := print_mid_of (P := Try.prog) (Value.int .u8) 0 22 5 .i64 .i64 Try.underlying22 hi08 hsz8 A0 c0 l0 t433 (wrap64 (t433 + t432)) (of_decide_eq_true (by first | (with_reducible assumption) | assumption)) (by first | omega | exact of_decide_eq_true (by first | (with_reducible assumption) | assumption)) (of_decide_eq_true (by first | (with_reducible assumption) | assumption)) HC0.out; have HR435 := Aside0.mk (Kd.C_of_reads (h1 := fun _ => rfl) (hA8 _ (Kd.reads_of_C HR0.out))); have HC435 := Aside0.mk hC8; clear hA8 hC8 hi08 hsz8))
            have hle_ : (wrap64 (t433 + t432)) ≤ (l0.length : Int) := of_decide_eq_true (by assumption)
            have hln_ : ((wrap64 (t433 + t432))).toNat ≤ l0.length := by omega
            have hcv9 := fun n_ : Nat => Kd.C_string (P := Try.prog) (A := A8) (c := (c0 - t433.toNat)) Try.underlying22 Try.underlying5 Try.underlying9 (Kd.C_drewN HR435.out n_)
            simp only [List.length_drop, List.length_take, Nat.min_eq_left hln_] at hcv9
            clear hle_ hln_
            go_wp2
            rw [hcv9]
            go_wp2
            go_ret3
            exact ⟨by first | rfl | (simp; done) | (simp [*]; done), by repeat (first | exact Drawn0.refl _ | apply Drawn0.step)⟩
          · rw [if_neg c7] at H
            exact absurd H (by simp)
        · rw [if_neg c6] at H
          exact absurd H (by simp)
      · rw [if_neg c5] at H
        exact absurd H (by simp)
  · replace c3 := Bool.eq_false_iff.mpr c3
    subst c3
    have H1 : (some ((⟨#[]⟩ : ByteArray), 0, false)) = some (r1, r2, r3) := by rw [if_neg (show ¬ (false = true) by decide)] at H; exact H
    clear H
    have H := H1
    clear H1
    simp only [Option.some.injEq, Prod.mk.injEq] at H
    obtain ⟨rfl, rfl, rfl⟩ := H
    go_enter Try.func33, Try.ntmps33
    go_wp2_with (first | ((with_reducible refine gate_callee (f := 31) rfl ?_); refine goesL_ (some 10) rfl rfl Try.func31 (by kernel_rfl) rfl #[.slice A0 l0.length c0] rfl (by (try simp only [List.map_toArray, List.map_cons, List.map_nil]); first | done | rfl | (simp only [List.length_drop, List.length_take]; rfl)) ?_; (with_reducible refine (cardamomref16_TakeNum.calls k _ _ l0 t432 t433 false _ ?side1 ?side2 A2.out).mono ?_); (case side1 => repeat (first | exact HR0.out | (with_reducible refine Kd.C_alloc ?_ _) | (with_reducible refine Kd.C_drewN ?_ _) | (with_reducible refine Kd.C_drew ?_))); (case side2 => exact HC0.out); rintro e w' ⟨rfl, ⟨nd, rfl⟩⟩; refine ⟨_, rfl, ?_⟩))
    go_ret3
    exact ⟨by first | rfl | (simp; done) | (simp [*]; done), by repeat (first | exact Drawn0.refl _ | apply Drawn0.step)⟩

end Go.Proofs.Ytnidonakekiloaa.PAll
