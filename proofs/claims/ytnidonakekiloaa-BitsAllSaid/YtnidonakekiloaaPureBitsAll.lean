import Derived.Test.YtnidonakekiloaaPAllx52
import Derived.Test.YtnidonakekiloaaBitsPlain
namespace Go.Proofs.Ytnidonakekiloaa.Pure
open Go.RowKit Go.Proofs.Ytnidonakekiloaa.PAll Go.Proofs.YtnidonakekiloaaW.PrintWords Go.Proofs.YtnidonakekiloaaW.PrintLast Go.Proofs.YtnidonakekiloaaW.PrintMore

theorem bits_begun_all : cardamomlaw17_begun.f 100 = some true := by decide +kernel
theorem u8_in {x : Int} (h : (Lit.int .u8 x).wf = true) : 0 ≤ x ∧ x ≤ 255 := by
  simp [Lit.wf, IntKind.min, IntKind.max, IntKind.bits, IntKind.signed] at h
  omega
theorem u32_in {x : Int} (h : (Lit.int .u32 x).wf = true) : 0 ≤ x ∧ x ≤ 4294967295 := by
  simp [Lit.wf, IntKind.min, IntKind.max, IntKind.bits, IntKind.signed] at h
  omega

theorem BitsAll : cardamomlaw17_BitsAll.Pure := by
  intro a t l e ha _ _ _ hl _ _ he
  refine ⟨200, ?_⟩
  have ha' := u32_in ha
  unfold cardamomlaw17_BitsAll.f
  rw [at_rounds cardamomlaw17_begun.mono (by omega : 100 ≤ 200) bits_begun_all]
  simp only [Option.bind_some, if_true]
  by_cases h1 : (t.size : Int) > 200
  · rw [if_pos h1]; rfl
  · rw [if_neg h1]
    by_cases h2 : (l.length : Int) > 20
    · rw [if_pos h2]; rfl
    · rw [if_neg h2]
      by_cases h3 : (e.length : Int) > 5
      · rw [decide_eq_true h3]; rfl
      · have p := put_f a e 199 (by omega) (by omega) (by omega) (by omega)
        have q := putText_f t e 199 (by omega) (by omega) (by omega)
        have n := num_f l (by omega) (fun x hx => u8_in (hl x hx)) 198 (by omega)
        have m := text_f l (by omega) (fun x hx => u8_in (hl x hx)) 198 (by omega)
        rw [decide_eq_false h3]
        show cardamomlaw17_BitsAll.j0 (199 + 1) a t l e false = some true
        rw [cardamomlaw17_BitsAll.j0, if_neg (by decide), w64v (by omega) (by omega), p.1, p.2]
        simp only [Option.bind_some, if_true]
        rw [q.1, q.2]
        simp only [Option.bind_some, bne_self_eq_false]
        show cardamomlaw17_BitsAll.j1 (198 + 1) l false = some true
        rw [cardamomlaw17_BitsAll.j1, if_neg (by decide), n.1, n.2, m.1, m.2]
        simp only [Option.bind_some, if_true, beq_self_eq_true]

end Go.Proofs.Ytnidonakekiloaa.Pure
