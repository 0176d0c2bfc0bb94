/-
  What is proved here: the parts joined: the law answers true.
  Conditions: none.
-/
import Derived.Test.YtiloimenibbeoaaNfP0
import Derived.Test.YtiloimenibbeoaaNfP1
import Derived.Test.YtiloimenibbeoaaNfP2
import Derived.Test.YtiloimenibbeoaaNfPE
import Derived.Below
set_option linter.unusedVariables false
set_option linter.unusedSimpArgs false
set_option maxRecDepth 100000
namespace Go.Proofs.Ytiloimenibbeoaa.Nf
open Go Go.Proofs Go.Proofs.Ev
theorem fFn_step {P : Program} {tbl : Nat → Option EFn} {h : HP} (k f : Nat) (vs : List V) (H : h.σ) : fFn P noPrims tbl h (k + 1) f vs H = fFn_in P h (fFn P noPrims tbl h k) k vs H (tbl f) := rfl
theorem fFn_in_some {P : Program} {h : HP} (call : ECall h) (k : Nat) (vs : List V) (H : h.σ) (ef : EFn) (hle : Nat.ble vs.length ef.nt = true) : fFn_in P h call k vs H (some ef) = fFn_out h ef.res (fC ef.body P h call k (TT.start vs 0 .nil) H) := by
  simp only [fFn_in, hle, cond_true]
theorem then_n {h : HP} (K : TT → h.σ → Option (ESt h)) (T : TT) (H : h.σ) : fC_then K (some (.normal, T, H)) = K T H := rfl
theorem glue {P : Program} {tbl : Nat → Option EFn} {h : HP} {f k id : Nat} {ef : EFn} {pre r x : EC} {T0 : TT} {Hs H0 : h.σ} (ht : tbl f = some ef) (hle : Nat.ble 0 ef.nt = true)
    (hb : fC ef.body P h (fFn P noPrims tbl h k) k .nil Hs = fC_then (fun T H => fC_then (fC r P h (fFn P noPrims tbl h k) k) (fC_out id (fC_iter (fC x P h (fFn P noPrims tbl h k) k) k T H))) (fC pre P h (fFn P noPrims tbl h k) k .nil Hs))
    (hpre : fC pre P h (fFn P noPrims tbl h k) k .nil Hs = some (.normal, T0, H0)) :
    fFn P noPrims tbl h (k + 1) f [] Hs = fFn_out h ef.res (fC_then (fC r P h (fFn P noPrims tbl h k) k) (fC_out id (fC_iter (fC x P h (fFn P noPrims tbl h k) k) k T0 H0))) := by
  rw [fFn_step, ht, fFn_in_some (fFn P noPrims tbl h k) k [] Hs ef hle, show TT.start [] 0 .nil = .nil from rfl, hb, hpre, then_n]
theorem body7 : fC e7.body Try.prog tabHP (fFn Try.prog noPrims tbl tabHP 399) 399 .nil (⟨0, .nil⟩ : HT) = fC_then (h := tabHP) (fun T H => fC_then (h := tabHP) (fC r7 Try.prog tabHP (fFn Try.prog noPrims tbl tabHP 399) 399) (fC_out (h := tabHP) 0 (fC_iter (h := tabHP) (fC x7 Try.prog tabHP (fFn Try.prog noPrims tbl tabHP 399) 399) 399 T H))) (fC pre7 Try.prog tabHP (fFn Try.prog noPrims tbl tabHP 399) 399 .nil (⟨0, .nil⟩ : HT)) := by
  unfold e7 pre7
  exact (fun T H => seq_ext (fun T H => seq_ext (fun T H => seq_ext (fun T H => seq_ext (fun T H => seq_end T H) T H) T H) T H) T H) .nil _
theorem res7 : e7.res = [.tmp 0] := rfl
theorem nt7 : Nat.ble 0 e7.nt = true := rfl
theorem step1 : fC_iter (h := tabHP) (fC x7 Try.prog tabHP (fFn Try.prog noPrims tbl tabHP 399) 399) (11 + 388) T0 H0 = fC_iter (h := tabHP) (fC x7 Try.prog tabHP (fFn Try.prog noPrims tbl tabHP 399) 399) 388 T11 H11 := iter_rounds (h := tabHP) (fC x7 Try.prog tabHP (fFn Try.prog noPrims tbl tabHP 399) 399) 388 11 _ _ _ _ part1
theorem step2 : fC_iter (h := tabHP) (fC x7 Try.prog tabHP (fFn Try.prog noPrims tbl tabHP 399) 399) (8 + 380) T11 H11 = fC_iter (h := tabHP) (fC x7 Try.prog tabHP (fFn Try.prog noPrims tbl tabHP 399) 399) 380 T19 H19 := iter_rounds (h := tabHP) (fC x7 Try.prog tabHP (fFn Try.prog noPrims tbl tabHP 399) 399) 380 8 _ _ _ _ part2
theorem answers : saysTrueE (h := tabHP) (fFn Try.prog noPrims tbl tabHP (399 + 1) 7 [] (⟨0, .nil⟩ : HT)) = true := by
  rw [glue (h := tabHP) tbl7 nt7 body7 part0, res7]
  rw [show fC_iter (h := tabHP) (fC x7 Try.prog tabHP (fFn Try.prog noPrims tbl tabHP 399) 399) 399 T0 H0 = fC_iter (h := tabHP) (fC x7 Try.prog tabHP (fFn Try.prog noPrims tbl tabHP 399) 399) 388 T11 H11 from step1]
  rw [show fC_iter (h := tabHP) (fC x7 Try.prog tabHP (fFn Try.prog noPrims tbl tabHP 399) 399) 388 T11 H11 = fC_iter (h := tabHP) (fC x7 Try.prog tabHP (fFn Try.prog noPrims tbl tabHP 399) 399) 380 T19 H19 from step2]
  exact partE
theorem walk (W : World) : Calls Try.prog 7 #[] W fun e w' => e = .returned (.bool true) ∧ Go.RowKit.Below W.heap.size W w' := by
  have he := answers
  rw [fFn_eq Try.prog noPrims tbl tabHP (399 + 1) 7 [] (⟨0, .nil⟩ : HT)] at he
  generalize hk : 399 + 1 = k at he
  have key : ∀ r : Option (V × tabHP.σ), saysTrueE r = true → ∃ H, r = some (.bool true, H) := by
    intro r hr
    unfold saysTrueE at hr
    split at hr
    · exact ⟨_, rfl⟩
    · cases hr
  obtain ⟨H', hev⟩ := key _ he
  have h1 := (eFn_ok (noPrims_ok _) tbl_ok k 7 [] _ _ _ hev).2
  have h3 : tabHP.den (⟨0, .nil⟩ : HT) = [] := rfl
  rw [h3] at h1
  have h4 : saysTrue (evFn Try.prog noPrims k 7 [] []) = true := by rw [h1]; rfl
  exact closed_true Try.checked.mixed (noPrims_ok _) (k := k) h4 W
end Go.Proofs.Ytiloimenibbeoaa.Nf
