/-
  What is proved here: a run of a program's text on values that stay, are owned or are variables, is followed by the run on blocks.
  Conditions: none.
-/
import Derived.Test.YtpinhopgeaamdaaDv2
set_option linter.unusedVariables false
set_option linter.unusedSimpArgs false
namespace Go.Proofs.Dv
open Go Go.RowKit Go.Proofs.Ev
section
variable {P : Program} {a b : DCall}
theorem dC_dCw (h : CallLe a b) {n : Nat} : ∀ (d : DC), StLe (dC P a n d) (dCw P b d) := by
  intro d
  induction d with
  | skip => intro T st r hr; exact hr
  | reg l =>
    intro T st r hr
    simp only [dC] at hr; simp only [dCw]
    split at hr
    · rename_i T' st' h1
      rw [dIs_mono h l T st _ h1]
      exact hr
    · cases hr
  | drw l =>
    intro T st r hr
    simp only [dC] at hr; simp only [dCw]
    split at hr
    · rename_i T' st' h1
      rw [dOrd_mono h l l 0 [] T st _ h1]
      exact hr
    · cases hr
  | seq x live y ihx ihy =>
    intro T st r hr
    simp only [dC] at hr; simp only [dCw]
    split at hr
    · rename_i T' st' h1
      rw [ihx T st _ h1]
      exact ihy _ _ _ hr
    · rename_i hne
      rw [ihx T st _ hr]
      obtain ⟨x, T', st'⟩ := r
      cases x with
      | normal => exact absurd hr (hne _ _)
      | exit id => rfl
      | ret => rfl
  | cond k x y ihx ihy =>
    intro T st r hr
    simp only [dC] at hr; simp only [dCw]
    split at hr
    · rename_i hd; simp only [hd]; exact ihx _ _ _ hr
    · rename_i hd; simp only [hd]; exact ihy _ _ _ hr
    · cases hr
  | block id x ih =>
    intro T st r hr
    simp only [dC] at hr; simp only [dCw]
    split at hr
    · rename_i j T' st' h1
      rw [ih T st _ h1]
      exact hr
    · rename_i hne
      rw [ih T st _ hr]
      obtain ⟨x, T', st'⟩ := r
      cases x with
      | normal => rfl
      | exit j => exact absurd hr (hne _ _ _)
      | ret => rfl
  | loop live x ih => intro T st r hr; exact iterI_iff.2 ⟨n, dIter_mono ih live n n (Nat.le_refl n) T st r hr⟩
  | exit id => intro T st r hr; exact hr
  | ret => intro T st r hr; exact hr

theorem dBody_W (h : CallLe a b) {n : Nat} {df : DFn} {ds : List D} {st : St} {r : D × St} (hr : dBody P a n df ds st = some r) : dBodyW P b df ds st = some r := by
  unfold dBody at hr
  unfold dBodyW
  split at hr
  · rename_i hl
    rw [if_pos hl]
    split at hr
    · cases hr
    · rename_i x T st' hne h1
      rw [dC_dCw h df.body _ _ _ h1]
      cases x with
      | normal => exact hr
      | exit id => exact absurd rfl (hne id)
      | ret => exact hr
    · cases hr
  · cases hr


theorem dPure_W (h : CallLe a b) {n : Nat} {df : DFn} {xs : List F} {x : F} (hr : dPure P a n df xs = some x) : dPureW P b df xs = some x := by
  unfold dPure at hr
  unfold dPureW
  split at hr
  · rename_i d st' h1
    rw [dBody_W h h1]
    exact hr
  · cases hr

def onSpot (P : Program) (pr : Prims) (dx : DX) (tbl : Nat → Option DFn) (k f : Nat) (xs : List F) : Option F := match tbl f with
  | some df => dPure P (dFn P pr dx tbl k) k df xs
  | none => none
/-- What is carried out with fuel is so. -/
theorem pureI_spot {pr : Prims} {dx : DX} {tbl : Nat → Option DFn} {f : Nat} {xs : List F} {x : F} (k : Nat) (h : onSpot P pr dx tbl k f xs = some x) : pureI P pr dx tbl f xs = some x := by
  unfold onSpot at h
  unfold pureI
  split at h
  · rename_i df hf
    simp only [hf]
    exact dPure_W (fun f ds st r hr => callI_iff.2 ⟨k, hr⟩) h
  · cases h
end
end Go.Proofs.Dv
