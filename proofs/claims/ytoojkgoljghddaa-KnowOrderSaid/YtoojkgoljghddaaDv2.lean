/-
  What is proved here: a run of a program's text on values that stay, are owned or are variables, is followed by the run on blocks.
  Conditions: none.
-/
import Derived.Test.YtoojkgoljghddaaDv1
import Derived.WideShapes
set_option linter.unusedVariables false
set_option linter.unusedSimpArgs false
namespace Go.Proofs.Dv
open Go Go.RowKit Go.Proofs.Ev

/-! ### More rounds, more calls: no less -/

def CallLe (a b : DCall) : Prop := ∀ f ds st r, a f ds st = some r → b f ds st = some r

section
variable {P : Program} {a b : DCall}

theorem dI_mono (h : CallLe a b) {T : Tm} {st : St} {x : EAct} {r : D × St × List Nat} (hr : dI P a T st x = some r) : dI P b T st x = some r := by
  cases x with
  | op e => exact hr
  | call f xs => exact h _ _ _ _ hr
  | callv x xs =>
    simp only [dI] at hr ⊢
    split at hr
    · exact h _ _ _ _ hr
    · exact h _ _ _ _ hr
    · cases hr
  | inv x name xs o =>
    simp only [dI] at hr ⊢
    split at hr
    · split at hr
      · rename_i hf
        try simp only [hf]
        split at hr
        · rename_i he; rw [if_pos he]; exact h _ _ _ _ hr
        · rename_i he; rw [if_neg he]; exact hr
      · cases hr
    · cases hr
  | ext o => exact hr
  | mop m => exact hr

theorem dIT_mono (h : CallLe a b) {T : Tm} {st : St} {x : EAct} {r : D × St × List Nat × Tm} (hr : dIT P a T st x = some r) : dIT P b T st x = some r := by
  unfold dIT at hr ⊢
  split at hr
  · rename_i d T1 st1 hu
    exact hr
  · rename_i hu
    unfold addT at hr ⊢
    split at hr
    · rename_i d st' W hd
      simp only [dI_mono h hd]
      exact hr
    · cases hr

theorem dIs_mono (h : CallLe a b) : ∀ (l : List EI) (T : Tm) (st : St) (r : Tm × St), dIs P a l T st = some r → dIs P b l T st = some r
  | [], T, st, r, hr => hr
  | i :: l, T, st, r, hr => by
    simp only [dIs] at hr ⊢
    split at hr
    · rename_i hw
      try simp only [hw]
      split at hr
      · rename_i d st' W T1 hd
        simp only [dIT_mono h hd]
        exact dIs_mono h l _ _ r hr
      · cases hr
    · rename_i hw
      try simp only [hw]
      exact dIs_mono h l _ _ r hr
    · cases hr

theorem dOrd_mono (h : CallLe a b) (l0 : List QI) : ∀ (l : List QI) (n : Nat) (p : List Nat) (T : Tm) (st : St) (r : Tm × St), dOrd P a l0 l n p T st = some r → dOrd P b l0 l n p T st = some r
  | [], n, p, T, st, r, hr => hr
  | i :: l, n, p, T, st, r, hr => by
    simp only [dOrd] at hr ⊢
    split at hr
    · rename_i hw
      try simp only [hw]
      split at hr
      · rename_i d st' W T1 hd
        simp only [dIT_mono h hd]
        split at hr
        · rename_i hc
          rw [if_pos hc]
          exact dOrd_mono h l0 l _ _ _ _ r hr
        · cases hr
      · cases hr
    · rename_i hw
      try simp only [hw]
      exact dOrd_mono h l0 l _ _ _ _ r hr
    · cases hr

def StLe (f g : Tm → St → Option DSt) : Prop := ∀ T st r, f T st = some r → g T st = some r

theorem dIter_mono {f g : Tm → St → Option DSt} (h : StLe f g) (live : List Nat) : ∀ (n m : Nat), n ≤ m → StLe (dIter f live n) (dIter g live m)
  | 0, m, _, T, st, r, hr => by cases hr
  | n + 1, 0, hm, T, st, r, hr => by omega
  | n + 1, m + 1, hm, T, st, r, hr => by
    simp only [dIter] at hr ⊢
    split at hr
    · rename_i T' st' h1
      rw [h _ _ _ h1]
      exact dIter_mono h live n m (by omega) T' st' r hr
    · rename_i hne
      rw [h _ _ _ hr]
      obtain ⟨x, T', st'⟩ := r
      cases x with
      | normal => exact absurd hr (hne _ _)
      | exit id => rfl
      | ret => rfl

theorem kSrt_mono (h : CallLe a b) {f : Nat} {str : Bool} (hr : kSrt (a f [.ptr 0 0] ⟨[], [], 0⟩) = some str) : kSrt (b f [.ptr 0 0] ⟨[], [], 0⟩) = some str := by
  cases hx : a f [.ptr 0 0] ⟨[], [], 0⟩ with
  | none => rw [hx] at hr; cases hr
  | some x => rw [h _ _ _ _ hx, ← hx]; exact hr
theorem dSrtR_mono (h : CallLe a b) {l1 : List EI} {f i : Nat} {d : Option Nat} {l2 : List EI} {T : Tm} {st : St} {r : Tm × St} (hr : dSrtR P a l1 f i d l2 T st = some r) : dSrtR P b l1 f i d l2 T st = some r := by
  unfold dSrtR at hr ⊢
  split at hr
  · rename_i T1 st1 h1
    rw [dIs_mono h l1 _ _ _ h1]
    simp only
    split at hr
    · rename_i str hk
      rw [kSrt_mono h hk]
      simp only
      split at hr
      · rename_i T2 st2 h2
        exact dIs_mono h l2 _ _ _ hr
      · cases hr
    · cases hr
  · cases hr

theorem dMidR_mono (h : CallLe a b) {l1 : List EI} {i : Nat} {l2 : List EI} {T : Tm} {st : St} {r : Tm × St} (hr : dMidR P a l1 i l2 T st = some r) : dMidR P b l1 i l2 T st = some r := by
  unfold dMidR at hr ⊢
  split at hr
  · rename_i T1 st1 h1
    rw [dIs_mono h l1 _ _ _ h1]
    simp only
    split at hr
    · rename_i x ts is hx
      exact dIs_mono h l2 _ _ _ hr
    · cases hr
  · cases hr

theorem dC_mono (h : CallLe a b) {n m : Nat} (hm : n ≤ m) : ∀ (d : DC), StLe (dC P a n d) (dC P b m d) := by
  intro d
  induction d with
  | skip => intro T st r hr; exact hr
  | reg l =>
    intro T st r hr
    simp only [dC] at hr ⊢
    split at hr
    · rename_i T' st' h1
      rw [dIs_mono h l T st _ h1]
      exact hr
    · cases hr
  | drw l =>
    intro T st r hr
    simp only [dC] at hr ⊢
    split at hr
    · rename_i T' st' h1
      rw [dOrd_mono h l l 0 [] T st _ h1]
      exact hr
    · cases hr
  | seq x live y ihx ihy =>
    intro T st r hr
    simp only [dC] at hr ⊢
    split at hr
    · rename_i T' st' h1
      rw [ihx T st _ h1]
      exact ihy _ _ _ hr
    · rename_i hne
      rw [ihx T st _ hr]
      obtain ⟨x, T', st'⟩ := r
      cases x with
      | normal => exact absurd hr (hne _ _)
      | exit id => rfl
      | ret => rfl
  | cond k x y ihx ihy =>
    intro T st r hr
    simp only [dC] at hr ⊢
    split at hr
    · exact ihx _ _ _ hr
    · exact ihy _ _ _ hr
    · cases hr
  | block id x ih =>
    intro T st r hr
    simp only [dC] at hr ⊢
    split at hr
    · rename_i j T' st' h1
      rw [ih T st _ h1]
      exact hr
    · rename_i hne
      rw [ih T st _ hr]
      obtain ⟨x, T', st'⟩ := r
      cases x with
      | normal => rfl
      | exit j => exact absurd hr (hne _ _ _)
      | ret => rfl
  | loop live x ih => exact dIter_mono ih live n m hm
  | exit id => intro T st r hr; exact hr
  | ret => intro T st r hr; exact hr
  | mid l1 i l2 =>
    intro T st r hr
    simp only [dC] at hr ⊢
    split at hr
    · rename_i T' st' h1
      rw [dMidR_mono h h1]
      exact hr
    · cases hr
  | srt l1 f i d l2 =>
    intro T st r hr
    simp only [dC] at hr ⊢
    split at hr
    · rename_i T' st' h1
      rw [dSrtR_mono h h1]
      exact hr
    · cases hr
  | frz i x ih =>
    intro T st r hr
    simp only [dC] at hr ⊢
    split at hr
    · rename_i y ts is hfr
      try simp only [hfr]
      exact ih _ _ _ hr
    · cases hr

theorem dBody_mono (h : CallLe a b) {n m : Nat} (hm : n ≤ m) {df : DFn} {ds : List D} {st : St} {r : D × St} (hr : dBody P a n df ds st = some r) : dBody P b m df ds st = some r := by
  unfold dBody at hr ⊢
  split at hr
  · rename_i hl
    rw [if_pos hl]
    split at hr
    · cases hr
    · rename_i x T st' hne h1
      rw [dC_mono h hm df.body _ _ _ h1]
      cases x with
      | normal => exact hr
      | exit id => exact absurd rfl (hne id)
      | ret => exact hr
    · cases hr
  · cases hr

theorem dPure_mono (h : CallLe a b) {n m : Nat} (hm : n ≤ m) {df : DFn} {xs : List F} {x : F} (hr : dPure P a n df xs = some x) : dPure P b m df xs = some x := by
  unfold dPure at hr ⊢
  split at hr
  · rename_i d st' h1
    rw [dBody_mono h hm h1]
    exact hr
  · cases hr

theorem dVars_mono (h : CallLe a b) {n m : Nat} (hm : n ≤ m) {df : DFn} {ds : List D} {cs : List (List F)} {r : VRes × List (List F)} (hr : dVars P a n df ds cs = some r) : dVars P b m df ds cs = some r := by
  unfold dVars at hr ⊢
  split at hr
  · rename_i d st' h1
    rw [dBody_mono h hm h1]
    exact hr
  · cases hr

theorem callPure_mono {f g : List F → Option F} (h : ∀ xs x, f xs = some x → g xs = some x) {ds : List D} {st : St} {r : D × St × List Nat} (hr : callPure f ds st = some r) : callPure g ds st = some r := by
  unfold callPure at hr ⊢
  split at hr
  · rename_i xs ts is h1
    split at hr
    · rename_i x hx
      simp only [h _ _ hx]
      exact hr
    · cases hr
  · cases hr

theorem callVars_mono {f g : List D → List (List F) → Option (VRes × List (List F))} (h : ∀ xs cs x, f xs cs = some x → g xs cs = some x) {ds : List D} {st : St} {r : D × St × List Nat} (hr : callVars f ds st = some r) : callVars g ds st = some r := by
  unfold callVars at hr ⊢
  split at hr
  · rename_i av js ts is h1
    split at hr
    · rename_i hc
      rw [if_pos hc]
      split at hr
      · rename_i cs hcs
        split at hr
        · rename_i x cs' hf
          simp only [h _ _ _ hf]
          exact hr
        · rename_i x cs' hf
          simp only [h _ _ _ hf]
          exact hr
        · cases hr
      · cases hr
    · cases hr
  · cases hr

theorem dOwn_mono (h : CallLe a b) {n m : Nat} (hm : n ≤ m) {df : DFn} {os : List O} {r : O} (hr : dOwn P a n df os = some r) : dOwn P b m df os = some r := by
  unfold dOwn at hr ⊢
  split at hr
  · rename_i d st' h1
    rw [dBody_mono h hm h1]
    exact hr
  · cases hr

theorem callOwn_mono {f g : List O → Option O} (h : ∀ xs x, f xs = some x → g xs = some x) {ds : List D} {st : St} {r : D × St × List Nat} (hr : callOwn f ds st = some r) : callOwn g ds st = some r := by
  unfold callOwn at hr ⊢
  split at hr
  · rename_i os mv ts is h1
    split at hr
    · rename_i hc
      rw [if_pos hc]
      split at hr
      · rename_i o ho
        simp only [h _ _ ho]
        exact hr
      · cases hr
    · cases hr
  · cases hr

variable {pr : Prims} {dx : DX} {tbl : Nat → Option DFn}

theorem dFn_le : ∀ (k m : Nat), k ≤ m → CallLe (dFn P pr dx tbl k) (dFn P pr dx tbl m) := by
  intro k
  induction k with
  | zero => intro m _ f ds st r hr; cases hr
  | succ k ihk =>
    intro m hm f ds st r hr
    cases m with
    | zero => omega
    | succ m =>
    have ih := ihk m (by omega)
    simp only [dFn] at hr ⊢
    split at hr
    · rename_i p hp; (try simp only [hp]); exact hr
    · rename_i hp
      try simp only [hp]
      split at hr
      · rename_i g hg; (try simp only [hg]); exact hr
      · rename_i hg
        try simp only [hg]
        split at hr
        · rename_i df hdf
          try simp only [hdf]
          split at hr
          · rename_i hm'; (try simp only [hm']); exact callPure_mono (fun xs x h => dPure_mono ih (by omega) h) hr
          · rename_i hm'; (try simp only [hm']); exact callVars_mono (fun xs cs x h => dVars_mono ih (by omega) h) hr
          · rename_i hm'; (try simp only [hm']); exact callOwn_mono (fun xs x h => dOwn_mono ih (by omega) h) hr
        · cases hr

end

/-! ### With enough of both -/

open Classical in
noncomputable def lim {α : Type} (f : Nat → Option α) : Option α := if h : ∃ k, (f k).isSome = true then f (Classical.choose h) else none

theorem lim_iff {α : Type} {f : Nat → Option α} (hf : ∀ k m r, k ≤ m → f k = some r → f m = some r) (r : α) : lim f = some r ↔ ∃ k, f k = some r := by
  constructor
  · intro h
    unfold lim at h
    split at h
    · exact ⟨_, h⟩
    · cases h
  · rintro ⟨k, hk⟩
    unfold lim
    have he : ∃ k, (f k).isSome = true := ⟨k, by rw [hk]; rfl⟩
    rw [dif_pos he]
    obtain ⟨r', hr'⟩ := Option.isSome_iff_exists.1 (Classical.choose_spec he)
    have h1 := hf _ (max (Classical.choose he) k) r' (Nat.le_max_left _ _) hr'
    have h2 := hf _ (max (Classical.choose he) k) r (Nat.le_max_right _ _) hk
    rw [h1] at h2
    rw [hr', h2]

noncomputable def iterI (f : Tm → St → Option DSt) (live : List Nat) (T : Tm) (st : St) : Option DSt := lim fun n => dIter f live n T st

theorem iterI_iff {f : Tm → St → Option DSt} {live : List Nat} {T : Tm} {st : St} {r : DSt} : iterI f live T st = some r ↔ ∃ n, dIter f live n T st = some r :=
  lim_iff (fun k m r hkm h => dIter_mono (fun _ _ _ h => h) live k m hkm T st r h) r

/-- A round more. -/
theorem iterI_step {f : Tm → St → Option DSt} {live : List Nat} {T : Tm} {st : St} {T' : Tm} {st' : St} {r : DSt} (h1 : f (T.keep live) st = some (.normal, T', st')) (h2 : iterI f live T' st' = some r) : iterI f live T st = some r := by
  obtain ⟨n, hn⟩ := iterI_iff.1 h2
  refine iterI_iff.2 ⟨n + 1, ?_⟩
  simp only [dIter, h1]
  exact hn

/-- The round that ends it. -/
theorem iterI_end {f : Tm → St → Option DSt} {live : List Nat} {T : Tm} {st : St} {x : Ex} {T' : Tm} {st' : St} (h1 : f (T.keep live) st = some (x, T', st')) (hx : x ≠ .normal) : iterI f live T st = some (x, T', st') := by
  refine iterI_iff.2 ⟨1, ?_⟩
  simp only [dIter, h1]
  cases x with
  | normal => exact absurd rfl hx
  | exit id => rfl
  | ret => rfl

noncomputable def dCw (P : Program) (call : DCall) : DC → Tm → St → Option DSt
  | .skip, T, st => some (.normal, T, st)
  | .reg l, T, st => match dIs P call l T st with
    | some (T', st') => some (.normal, T', st')
    | none => none
  | .drw l, T, st => match dOrd P call l l 0 [] T st with
    | some (T', st') => some (.normal, T', st')
    | none => none
  | .seq a live b, T, st => match dCw P call a T st with
    | some (.normal, T', st') => dCw P call b (T'.keep live) st'
    | r => r
  | .cond c x y, T, st => match deo T c with
    | .fz (.bool true) => dCw P call x T st
    | .fz (.bool false) => dCw P call y T st
    | _ => none
  | .block id c, T, st => match dCw P call c T st with
    | some (.exit j, T', st') => if j = id then some (.normal, T', st') else some (.exit j, T', st')
    | r => r
  | .loop live c, T, st => iterI (dCw P call c) live T st
  | .exit id, T, st => some (.exit id, T, st)
  | .ret, T, st => some (.ret, T, st)
  | .frz i c, T, st => match fr st 6 (T.at i) with
    | some (x, ts, is) => dCw P call c (T.put i (.fz x)) (st.still ts is)
    | none => none
  | .srt l1 f i d l2, T, st => match dSrtR P call l1 f i d l2 T st with
    | some (T', st') => some (.normal, T', st')
    | none => none
  | .mid l1 i l2, T, st => match dMidR P call l1 i l2 T st with
    | some (T', st') => some (.normal, T', st')
    | none => none

noncomputable def dBodyW (P : Program) (call : DCall) (df : DFn) (ds : List D) (st : St) : Option (D × St) :=
  if ds.length ≤ df.nt ∧ ds.length ≤ 512 then (match dCw P call df.body (startD ds 0) st with
    | some (.exit _, _, _) => none
    | some (_, T, st') => match dRes st' T df.res with
      | some rs => some (oneOfD rs, st')
      | none => none
    | none => none) else none

noncomputable def dPureW (P : Program) (call : DCall) (df : DFn) (xs : List F) : Option F := match dBodyW P call df (xs.map .fz) ⟨[], [], 0⟩ with
  | some (d, st') => match fr st' 6 d with
    | some (x, _, _) => some x
    | none => none
  | none => none

noncomputable def dVarsW (P : Program) (call : DCall) (df : DFn) (av : List D) (cs : List (List F)) : Option (VRes × List (List F)) := match dBodyW P call df av ⟨varsOf cs, [], 0⟩ with
  | some (d, st') => match finals st'.S cs.length with
    | some cs' => match d with
      | .ptr j 0 => if cs.length ≤ j then (match st'.S[j]? with
        | some (true, ds) => match allF ds with
          | some xs => some (.var xs, cs')
          | none => none
        | _ => none) else none
      | d => match fr st' 6 d with
        | some (x, _, is) => if is.all (fun i => decide (cs.length ≤ i)) = true then some (.val x, cs') else none
        | none => none
    | none => none
  | none => none

noncomputable def dOwnW (P : Program) (call : DCall) (df : DFn) (os : List O) : Option O := match dBodyW P call df (giveL 0 os) ⟨[], newL 0 (O.cntL os), O.cntL os⟩ with
  | some (d, st') => match takeO st' 4 d with
    | some (o, mv, ts, is) => if aliveMv mv ts then some o else none
    | none => none
  | none => none

section
variable {P : Program} {pr : Prims} {dx : DX} {tbl : Nat → Option DFn}

/-- What a call gives with enough of both. -/
noncomputable def callI (P : Program) (pr : Prims) (dx : DX) (tbl : Nat → Option DFn) : DCall := fun f ds st => lim fun k => dFn P pr dx tbl k f ds st

theorem callI_iff {f : Nat} {ds : List D} {st : St} {r : D × St × List Nat} : callI P pr dx tbl f ds st = some r ↔ ∃ k, dFn P pr dx tbl k f ds st = some r :=
  lim_iff (fun k m r hkm h => dFn_le k m hkm f ds st r h) r

theorem dI_lim {T : Tm} {st : St} {x : EAct} {r : D × St × List Nat} (h : dI P (callI P pr dx tbl) T st x = some r) : ∃ k, dI P (dFn P pr dx tbl k) T st x = some r := by
  cases x with
  | op e => exact ⟨0, h⟩
  | call f xs => exact callI_iff.1 h
  | callv x xs =>
    simp only [dI] at h ⊢
    split at h
    · rename_i hd; (try simp only [hd]); exact callI_iff.1 h
    · rename_i hd; (try simp only [hd]); exact callI_iff.1 h
    · cases h
  | inv x name xs o =>
    simp only [dI] at h ⊢
    split at h
    · rename_i hd
      try simp only [hd]
      split at h
      · rename_i hf
        try simp only [hf]
        split at h
        · rename_i he; simp only [if_pos he]; exact callI_iff.1 h
        · rename_i he; simp only [if_neg he]; exact ⟨0, h⟩
      · cases h
    · cases h
  | ext o => exact ⟨0, h⟩
  | mop m => exact ⟨0, h⟩

theorem dIT_lim {T : Tm} {st : St} {x : EAct} {r : D × St × List Nat × Tm} (h : dIT P (callI P pr dx tbl) T st x = some r) : ∃ k, dIT P (dFn P pr dx tbl k) T st x = some r := by
  unfold dIT at h
  split at h
  · rename_i d T1 st1 hu
    exact ⟨0, by unfold dIT; rw [hu]; exact h⟩
  · rename_i hu
    unfold addT at h
    split at h
    · rename_i d st' W hd
      obtain ⟨k, hk⟩ := dI_lim hd
      refine ⟨k, ?_⟩
      unfold dIT
      rw [hu, hk]
      exact h
    · cases h

theorem dIs_lim : ∀ (l : List EI) (T : Tm) (st : St) (r : Tm × St), dIs P (callI P pr dx tbl) l T st = some r → ∃ k, dIs P (dFn P pr dx tbl k) l T st = some r
  | [], T, st, r, hr => ⟨0, hr⟩
  | i :: l, T, st, r, hr => by
    simp only [dIs] at hr
    split at hr
    · rename_i hw
      split at hr
      · rename_i d st' W T1 hd
        obtain ⟨k1, h1⟩ := dIT_lim hd
        obtain ⟨k2, h2⟩ := dIs_lim l _ _ r hr
        refine ⟨max k1 k2, ?_⟩
        simp only [dIs, hw, dIT_mono (dFn_le k1 _ (Nat.le_max_left k1 k2)) h1]
        exact dIs_mono (dFn_le k2 _ (Nat.le_max_right k1 k2)) l _ _ r h2
      · cases hr
    · rename_i hw
      obtain ⟨k2, h2⟩ := dIs_lim l _ _ r hr
      exact ⟨k2, by simp only [dIs, hw]; exact h2⟩
    · cases hr

theorem dSrtR_lim {l1 : List EI} {f i : Nat} {d : Option Nat} {l2 : List EI} {T : Tm} {st : St} {r : Tm × St} (h : dSrtR P (callI P pr dx tbl) l1 f i d l2 T st = some r) : ∃ k, dSrtR P (dFn P pr dx tbl k) l1 f i d l2 T st = some r := by
  unfold dSrtR at h
  split at h
  · rename_i T1 st1 h1
    split at h
    · rename_i str hk
      split at h
      · rename_i T2 st2 h2
        obtain ⟨k1, e1⟩ := dIs_lim l1 _ _ _ h1
        obtain ⟨k3, e3⟩ := dIs_lim l2 _ _ _ h
        have hx : ∃ x, callI P pr dx tbl f [.ptr 0 0] ⟨[], [], 0⟩ = some x := by
          cases hc : callI P pr dx tbl f [.ptr 0 0] ⟨[], [], 0⟩ with
          | none => rw [hc] at hk; cases hk
          | some x => exact ⟨x, rfl⟩
        obtain ⟨x, hx⟩ := hx
        rw [hx] at hk
        obtain ⟨k2, e2⟩ := callI_iff.1 hx
        refine ⟨max k1 (max k2 k3), ?_⟩
        unfold dSrtR
        rw [dIs_mono (dFn_le k1 _ (Nat.le_max_left _ _)) l1 _ _ _ e1, dFn_le k2 (max k1 (max k2 k3)) (by omega) f _ _ _ e2]
        simp only
        rw [hk]
        simp only
        rw [h2]
        exact dIs_mono (dFn_le k3 _ (by omega)) l2 _ _ _ e3
      · cases h
    · cases h
  · cases h

theorem dMidR_lim {l1 : List EI} {i : Nat} {l2 : List EI} {T : Tm} {st : St} {r : Tm × St} (h : dMidR P (callI P pr dx tbl) l1 i l2 T st = some r) : ∃ k, dMidR P (dFn P pr dx tbl k) l1 i l2 T st = some r := by
  unfold dMidR at h
  split at h
  · rename_i T1 st1 h1
    split at h
    · rename_i x ts is hx
      obtain ⟨k1, e1⟩ := dIs_lim l1 _ _ _ h1
      obtain ⟨k3, e3⟩ := dIs_lim l2 _ _ _ h
      refine ⟨max k1 k3, ?_⟩
      unfold dMidR
      rw [dIs_mono (dFn_le k1 _ (Nat.le_max_left _ _)) l1 _ _ _ e1]
      simp only
      rw [hx]
      exact dIs_mono (dFn_le k3 _ (Nat.le_max_right _ _)) l2 _ _ _ e3
    · cases h
  · cases h

theorem dOrd_lim (l0 : List QI) : ∀ (l : List QI) (n : Nat) (p : List Nat) (T : Tm) (st : St) (r : Tm × St), dOrd P (callI P pr dx tbl) l0 l n p T st = some r → ∃ k, dOrd P (dFn P pr dx tbl k) l0 l n p T st = some r
  | [], n, p, T, st, r, hr => ⟨0, hr⟩
  | i :: l, n, p, T, st, r, hr => by
    simp only [dOrd] at hr
    split at hr
    · rename_i hw
      split at hr
      · rename_i d st' W T1 hd
        split at hr
        · rename_i hc
          obtain ⟨k1, h1⟩ := dIT_lim hd
          obtain ⟨k2, h2⟩ := dOrd_lim l0 l _ _ _ _ r hr
          refine ⟨max k1 k2, ?_⟩
          simp only [dOrd, hw, dIT_mono (dFn_le k1 _ (Nat.le_max_left k1 k2)) h1]
          rw [if_pos hc]
          exact dOrd_mono (dFn_le k2 _ (Nat.le_max_right k1 k2)) l0 l _ _ _ _ r h2
        · cases hr
      · cases hr
    · rename_i hw
      obtain ⟨k2, h2⟩ := dOrd_lim l0 l _ _ _ _ r hr
      exact ⟨k2, by simp only [dOrd, hw]; exact h2⟩
    · cases hr

theorem dC_lim : ∀ (d : DC) (T : Tm) (st : St) (r : DSt), dCw P (callI P pr dx tbl) d T st = some r → ∃ k, dC P (dFn P pr dx tbl k) k d T st = some r := by
  intro d
  induction d with
  | skip => intro T st r h; exact ⟨0, h⟩
  | reg l =>
    intro T st r h
    simp only [dCw] at h
    split at h
    · rename_i T' st' h1
      obtain ⟨k, hk⟩ := dIs_lim l T st _ h1
      exact ⟨k, by simp only [dC, hk]; exact h⟩
    · cases h
  | drw l =>
    intro T st r h
    simp only [dCw] at h
    split at h
    · rename_i T' st' h1
      obtain ⟨k, hk⟩ := dOrd_lim l l 0 [] T st _ h1
      exact ⟨k, by simp only [dC, hk]; exact h⟩
    · cases h
  | seq a live b iha ihb =>
    intro T st r h
    simp only [dCw] at h
    split at h
    · rename_i T' st' h1
      obtain ⟨k1, hk1⟩ := iha T st _ h1
      obtain ⟨k2, hk2⟩ := ihb _ _ _ h
      refine ⟨max k1 k2, ?_⟩
      have e1 := dC_mono (P := P) (dFn_le (P := P) (pr := pr) (dx := dx) (tbl := tbl) k1 (max k1 k2) (Nat.le_max_left k1 k2)) (Nat.le_max_left k1 k2) a _ _ _ hk1
      simp only [dC, e1]
      exact dC_mono (dFn_le k2 _ (Nat.le_max_right k1 k2)) (Nat.le_max_right k1 k2) b _ _ _ hk2
    · rename_i hne
      obtain ⟨k1, hk1⟩ := iha T st _ h
      refine ⟨k1, ?_⟩
      simp only [dC, hk1]
      obtain ⟨x, T', st'⟩ := r
      cases x with
      | normal => exact absurd h (hne _ _)
      | exit id => rfl
      | ret => rfl
  | cond k x y ihx ihy =>
    intro T st r h
    simp only [dCw] at h
    simp only [dC]
    split at h
    · rename_i hd; simp only [hd]; exact ihx _ _ _ h
    · rename_i hd; simp only [hd]; exact ihy _ _ _ h
    · cases h
  | block id x ih =>
    intro T st r h
    simp only [dCw] at h
    split at h
    · rename_i j T' st' h1
      obtain ⟨k, hk⟩ := ih T st _ h1
      exact ⟨k, by simp only [dC, hk]; exact h⟩
    · rename_i hne
      obtain ⟨k, hk⟩ := ih T st _ h
      refine ⟨k, ?_⟩
      simp only [dC, hk]
      obtain ⟨x, T', st'⟩ := r
      cases x with
      | normal => rfl
      | exit j => exact absurd h (hne _ _ _)
      | ret => rfl
  | loop live x ih =>
    intro T st r h
    simp only [dCw] at h
    obtain ⟨n, hn⟩ := iterI_iff.1 h
    simp only [dC]
    clear h
    induction n generalizing T st with
    | zero => cases hn
    | succ n ihn =>
      simp only [dIter] at hn
      split at hn
      · rename_i T' st' h1
        obtain ⟨k1, hk1⟩ := ih _ _ _ h1
        obtain ⟨k2, hk2⟩ := ihn T' st' hn
        refine ⟨max k1 k2 + 1, ?_⟩
        have e1 := dC_mono (P := P) (dFn_le (P := P) (pr := pr) (dx := dx) (tbl := tbl) k1 (max k1 k2 + 1) (by omega)) (show k1 ≤ max k1 k2 + 1 by omega) x _ _ _ hk1
        simp only [dIter, e1]
        exact dIter_mono (dC_mono (dFn_le k2 _ (by omega)) (by omega) x) live k2 _ (by omega) _ _ _ hk2
      · rename_i hne
        obtain ⟨k1, hk1⟩ := ih _ _ _ hn
        refine ⟨k1 + 1, ?_⟩
        have e1 := dC_mono (P := P) (dFn_le (P := P) (pr := pr) (dx := dx) (tbl := tbl) k1 (k1 + 1) (by omega)) (show k1 ≤ k1 + 1 by omega) x _ _ _ hk1
        simp only [dIter, e1]
        obtain ⟨x, T', st'⟩ := r
        cases x with
        | normal => exact absurd hn (hne _ _)
        | exit j => rfl
        | ret => rfl
  | exit id => intro T st r h; exact ⟨0, h⟩
  | ret => intro T st r h; exact ⟨0, h⟩
  | mid l1 i l2 =>
    intro T st r h
    simp only [dCw] at h
    split at h
    · rename_i T' st' h1
      obtain ⟨k, hk⟩ := dMidR_lim h1
      exact ⟨k, by simp only [dC, hk]; exact h⟩
    · cases h
  | srt l1 f i d l2 =>
    intro T st r h
    simp only [dCw] at h
    split at h
    · rename_i T' st' h1
      obtain ⟨k, hk⟩ := dSrtR_lim h1
      exact ⟨k, by simp only [dC, hk]; exact h⟩
    · cases h
  | frz i x ih =>
    intro T st r h
    simp only [dCw] at h
    simp only [dC]
    split at h
    · rename_i y ts is hfr
      simp only [hfr]
      exact ih _ _ _ h
    · cases h

theorem dBody_lim {df : DFn} {ds : List D} {st : St} {r : D × St} (h : dBodyW P (callI P pr dx tbl) df ds st = some r) : ∃ k, dBody P (dFn P pr dx tbl k) k df ds st = some r := by
  unfold dBodyW at h
  split at h
  · rename_i hl
    split at h
    · cases h
    · rename_i x T st' hne h1
      obtain ⟨k, hk⟩ := dC_lim df.body _ _ _ h1
      refine ⟨k, ?_⟩
      unfold dBody
      rw [if_pos hl, hk]
      cases x with
      | normal => exact h
      | exit id => exact absurd rfl (hne id)
      | ret => exact h
    · cases h
  · cases h

/-- A function that reads alone. -/
noncomputable def pureI (P : Program) (pr : Prims) (dx : DX) (tbl : Nat → Option DFn) (f : Nat) (xs : List F) : Option F := match tbl f with
  | some df => dPureW P (callI P pr dx tbl) df xs
  | none => none

noncomputable def varsI (P : Program) (pr : Prims) (dx : DX) (tbl : Nat → Option DFn) (f : Nat) (av : List D) (cs : List (List F)) : Option (VRes × List (List F)) := match tbl f with
  | some df => dVarsW P (callI P pr dx tbl) df av cs
  | none => none

theorem callI_pure {f : Nat} {df : DFn} (hp : pr f = none) (hx : dx f = none) (ht : tbl f = some df) (hm : df.mode = .pure) {ds : List D} {st : St} {r : D × St × List Nat} (h : callPure (pureI P pr dx tbl f) ds st = some r) : callI P pr dx tbl f ds st = some r := by
  unfold callPure at h
  split at h
  · rename_i xs ts is h1
    split at h
    · rename_i x hxx
      simp only [pureI, ht] at hxx
      unfold dPureW at hxx
      split at hxx
      · rename_i d st' hb
        obtain ⟨k, hk⟩ := dBody_lim hb
        refine callI_iff.2 ⟨k + 1, ?_⟩
        simp only [dFn, hp, hx, ht, hm]
        unfold callPure
        rw [h1]
        simp only
        have : dPure P (dFn P pr dx tbl k) k df xs = some x := by
          unfold dPure
          rw [hk]
          exact hxx
        rw [this]
        exact h
      · cases hxx
    · cases h
  · cases h

theorem callI_vars {f : Nat} {df : DFn} (hp : pr f = none) (hx : dx f = none) (ht : tbl f = some df) (hm : df.mode = .vars) {ds : List D} {st : St} {r : D × St × List Nat} (h : callVars (varsI P pr dx tbl f) ds st = some r) : callI P pr dx tbl f ds st = some r := by
  have key : ∀ (av : List D) (cs : List (List F)) (y : VRes × List (List F)), varsI P pr dx tbl f av cs = some y → ∃ k, dVars P (dFn P pr dx tbl k) k df av cs = some y := by
    intro av cs y hy
    simp only [varsI, ht] at hy
    unfold dVarsW at hy
    split at hy
    · rename_i d st' hb
      obtain ⟨k, hk⟩ := dBody_lim hb
      refine ⟨k, ?_⟩
      unfold dVars
      rw [hk]
      exact hy
    · cases hy
  unfold callVars at h
  split at h
  · rename_i av js ts is h1
    split at h
    · rename_i hc
      split at h
      · rename_i cs hcs
        have fin : ∀ y, varsI P pr dx tbl f av cs = some y → ∃ k, dFn P pr dx tbl k f ds st = callVars (fun _ _ => some y) ds st := by
          intro y hy
          obtain ⟨k, hk⟩ := key av cs y hy
          refine ⟨k + 1, ?_⟩
          simp only [dFn, hp, hx, ht, hm]
          unfold callVars
          rw [h1]
          simp only [if_pos hc, hcs, hk]
        cases hy : varsI P pr dx tbl f av cs with
        | none => rw [hy] at h; cases h
        | some y =>
          obtain ⟨k, hk⟩ := fin y hy
          refine callI_iff.2 ⟨k, ?_⟩
          rw [hk]
          unfold callVars
          rw [h1]
          simp only [if_pos hc, hcs]
          rw [hy] at h
          exact h
      · cases h
    · cases h
  · cases h

noncomputable def ownI (P : Program) (pr : Prims) (dx : DX) (tbl : Nat → Option DFn) (f : Nat) (os : List O) : Option O := match tbl f with
  | some df => dOwnW P (callI P pr dx tbl) df os
  | none => none

theorem callI_own {f : Nat} {df : DFn} (hp : pr f = none) (hx : dx f = none) (ht : tbl f = some df) (hm : df.mode = .own) {ds : List D} {st : St} {r : D × St × List Nat} (h : callOwn (ownI P pr dx tbl f) ds st = some r) : callI P pr dx tbl f ds st = some r := by
  unfold callOwn at h
  split at h
  · rename_i os mv ts is h1
    split at h
    · rename_i hc
      split at h
      · rename_i o ho
        simp only [ownI, ht] at ho
        unfold dOwnW at ho
        split at ho
        · rename_i d st' hb
          obtain ⟨k, hk⟩ := dBody_lim hb
          refine callI_iff.2 ⟨k + 1, ?_⟩
          simp only [dFn, hp, hx, ht, hm]
          unfold callOwn
          rw [h1]
          simp only [if_pos hc]
          have : dOwn P (dFn P pr dx tbl k) k df os = some o := by
            unfold dOwn
            rw [hk]
            exact ho
          rw [this]
          exact h
        · cases ho
      · cases h
    · cases h
  · cases h

theorem callI_prim {f : Nat} {p : Prim} (hp : pr f = some p) {ds : List D} {st : St} {r : D × St × List Nat} (h : dPrim p ds st = some r) : callI P pr dx tbl f ds st = some r :=
  callI_iff.2 ⟨1, by simp only [dFn, hp]; exact h⟩

theorem callI_ext {f : Nat} {g : List D → St → Option (D × St × List Nat)} (hp : pr f = none) (hg : dx f = some g) {ds : List D} {st : St} {r : D × St × List Nat} (h : g ds st = some r) : callI P pr dx tbl f ds st = some r :=
  callI_iff.2 ⟨1, by simp only [dFn, hp, hg]; exact h⟩

/-- The model's run follows. -/
theorem callI_run {tblE : Nat → Option EFn} (hm : P.follows .mixedOrders = true) (hpr : PrimsOK P pr) (ht : TblOK P pr tblE dx tbl) (hE : ∀ f e, tblE f = some e → cFn P f = some e) {f : Nat} {ds : List D} {st : St} {r : D × St × List Nat} (h : callI P pr dx tbl f ds st = some r)
    {c : Ct} {H : Heap} {vs : List V} (s : SR c st H) (hr : Row (DR c H) ds vs) {β : Inj} {cs : Array Value} {w : World} (hL : LRel β vs cs) (hS : Sim β H w) :
    Calls P f cs w fun e w' => ∃ c' v H' β' u, e = .returned u ∧ Goes r.2.2 c st H c' r.2.1 H' ∧ DR c' H' r.1 v ∧ Ext β H w β' H' w' ∧ VRel β' v u := by
  obtain ⟨k, hk⟩ := callI_iff.1 h
  obtain ⟨c', v, H', h1, h2, h3⟩ := (dFn_ok ht k).1 f ds st r hk c H vs s hr
  have h4 := (eFn_ok (h := listHP) hpr hE k f vs H v H' h1).2
  refine (evFn_ok hm hpr k f vs H v H' h4 β cs w hL hS).mono ?_
  rintro e w' ⟨β', u, rfl, hE', hV⟩
  exact ⟨c', v, H', β', u, rfl, h2, h3, hE', hV⟩

end

end Go.Proofs.Dv

namespace Go.Proofs.Dv
open Go Go.RowKit Go.Proofs.Ev

def opersOf : Code → List Oper
  | .region _ ops _ => ops.toList
  | .seq a b => opersOf a ++ opersOf b
  | .cond _ a b => opersOf a ++ opersOf b
  | .block _ a => opersOf a
  | .loop a => opersOf a
  | _ => []

def operAt (P : Program) (f i : Nat) : Oper := match P.funcs[f]? with
  | some fn => match fn.body with
    | some c => (opersOf c).getD i default
    | none => default
  | none => default

/-! ### One step at a time -/

section
variable {P : Program} {call : DCall}

noncomputable def seqK (P : Program) (call : DCall) (r : Option DSt) (live : List Nat) (b : DC) : Option DSt := match r with
  | some (.normal, T, st) => dCw P call b (T.keep live) st
  | r => r
noncomputable def condK (P : Program) (call : DCall) (d : D) (x y : DC) (T : Tm) (st : Dv.St) : Option DSt := match d with
  | .fz (.bool true) => dCw P call x T st
  | .fz (.bool false) => dCw P call y T st
  | _ => none
def blockK (id : Nat) (r : Option DSt) : Option DSt := match r with
  | some (.exit j, T, st) => if j = id then some (.normal, T, st) else some (.exit j, T, st)
  | r => r
noncomputable def iterK (f : Tm → Dv.St → Option DSt) (live : List Nat) (r : Option DSt) : Option DSt := match r with
  | some (.normal, T, st) => iterI f live T st
  | r => r
def regK (r : Option (Tm × Dv.St)) : Option DSt := match r with
  | some (T, st) => some (.normal, T, st)
  | none => none
def insK (P : Program) (call : DCall) (r : Option (D × Dv.St × List Nat × Tm)) (dst : Option Nat) (l : List EI) : Option (Tm × Dv.St) := match r with
  | some (d, st, _, T) => dIs P call l (T.dst dst d) st
  | none => none
def grdK (P : Program) (call : DCall) (g : Option Bool) (i : EI) (l : List EI) (T : Tm) (st : Dv.St) : Option (Tm × Dv.St) := match g with
  | some true => insK P call (dIT P call T st i.act) i.dst l
  | some false => dIs P call l (T.dst i.dst undefD) st
  | none => none
def ordK (P : Program) (call : DCall) (l0 : List QI) (r : Option (D × Dv.St × List Nat × Tm)) (q : QI) (l : List QI) (n : Nat) (pend : List Nat) (T : Tm) : Option (Tm × Dv.St) := match r with
  | some (d, st', W, T1) => if q.chk.all (chkQ l0 T W st'.L (pend.filter (stillQ l0 T W st'.L))) = true then
      dOrd P call l0 l (n + 1) (if (lOf q).isSome = true then n :: pend.filter (stillQ l0 T W st'.L) else pend.filter (stillQ l0 T W st'.L)) (T1.dst q.ins.dst d) st' else none
  | none => none
def ogrdK (P : Program) (call : DCall) (l0 : List QI) (g : Option Bool) (q : QI) (l : List QI) (n : Nat) (pend : List Nat) (T : Tm) (st : Dv.St) : Option (Tm × Dv.St) := match g with
  | some true => ordK P call l0 (dIT P call T st q.ins.act) q l n pend T
  | some false => dOrd P call l0 l (n + 1) (if (lOf q).isSome = true then n :: pend else pend) (T.dst q.ins.dst undefD) st
  | none => none

theorem x_skip (T : Tm) (st : Dv.St) : dCw P call .skip T st = some (.normal, T, st) := rfl
theorem x_reg (l : List EI) (T : Tm) (st : Dv.St) : dCw P call (.reg l) T st = regK (dIs P call l T st) := by
  simp only [dCw, regK] <;> rfl
theorem x_drw (l : List QI) (T : Tm) (st : Dv.St) : dCw P call (.drw l) T st = regK (dOrd P call l l 0 [] T st) := by
  simp only [dCw, regK] <;> rfl
theorem x_seq (a : DC) (live : List Nat) (b : DC) (T : Tm) (st : Dv.St) : dCw P call (.seq a live b) T st = seqK P call (dCw P call a T st) live b := by
  simp only [dCw, seqK] <;> rfl
theorem x_cond (c : EO) (x y : DC) (T : Tm) (st : Dv.St) : dCw P call (.cond c x y) T st = condK P call (deo T c) x y T st := by
  simp only [dCw, condK] <;> rfl
theorem x_block (id : Nat) (c : DC) (T : Tm) (st : Dv.St) : dCw P call (.block id c) T st = blockK id (dCw P call c T st) := by
  simp only [dCw, blockK] <;> rfl
theorem x_loop (live : List Nat) (c : DC) (T : Tm) (st : Dv.St) : dCw P call (.loop live c) T st = iterI (dCw P call c) live T st := rfl
theorem x_exit (id : Nat) (T : Tm) (st : Dv.St) : dCw P call (.exit id) T st = some (.exit id, T, st) := rfl
theorem x_ret (T : Tm) (st : Dv.St) : dCw P call .ret T st = some (.ret, T, st) := rfl

theorem x_frz (i : Nat) (c : DC) (T : Tm) (st : Dv.St) : dCw P call (.frz i c) T st = match fr st 6 (T.at i) with
  | some (x, ts, is) => dCw P call c (T.put i (.fz x)) (st.still ts is)
  | none => none := rfl
noncomputable def srtK3 (P : Program) (call : DCall) (d : Option Nat) (l2 : List EI) (r : Option (Tm × Dv.St)) : Option (Tm × Dv.St) := match r with
  | some (T2, st2) => dIs P call l2 (T2.dst d undefD) st2
  | none => none
noncomputable def srtK2 (P : Program) (call : DCall) (d : Option Nat) (l2 : List EI) (T1 : Tm) (st1 : Dv.St) (i : Nat) (q : Option Bool) : Option (Tm × Dv.St) := match q with
  | some str => srtK3 P call d l2 (dSrt str T1 st1 (T1.at i))
  | none => none
noncomputable def srtK1 (P : Program) (call : DCall) (f i : Nat) (d : Option Nat) (l2 : List EI) (r : Option (Tm × Dv.St)) : Option (Tm × Dv.St) := match r with
  | some (T1, st1) => srtK2 P call d l2 T1 st1 i (kSrt (call f [.ptr 0 0] ⟨[], [], 0⟩))
  | none => none
theorem x_srt (l1 : List EI) (f i : Nat) (d : Option Nat) (l2 : List EI) (T : Tm) (st : Dv.St) : dCw P call (.srt l1 f i d l2) T st = regK (srtK1 P call f i d l2 (dIs P call l1 T st)) := by
  simp only [dCw, dSrtR]
  cases h1 : dIs P call l1 T st with
  | none => rfl
  | some x =>
    obtain ⟨T1, st1⟩ := x
    simp only [srtK1]
    cases h2 : kSrt (call f [.ptr 0 0] ⟨[], [], 0⟩) with
    | none => rfl
    | some str =>
      simp only [srtK2]
      cases h3 : dSrt str T1 st1 (T1.at i) with
      | none => rfl
      | some y =>
        obtain ⟨T2, st2⟩ := y
        simp only [srtK3, regK] <;> rfl
theorem k_srt1 (f i : Nat) (d : Option Nat) (l2 : List EI) (T1 : Tm) (st1 : Dv.St) : srtK1 P call f i d l2 (some (T1, st1)) = srtK2 P call d l2 T1 st1 i (kSrt (call f [.ptr 0 0] ⟨[], [], 0⟩)) := rfl
theorem k_srt2 (d : Option Nat) (l2 : List EI) (T1 : Tm) (st1 : Dv.St) (i : Nat) (str : Bool) : srtK2 P call d l2 T1 st1 i (some str) = srtK3 P call d l2 (dSrt str T1 st1 (T1.at i)) := rfl
theorem k_srt3 (d : Option Nat) (l2 : List EI) (T2 : Tm) (st2 : Dv.St) : srtK3 P call d l2 (some (T2, st2)) = dIs P call l2 (T2.dst d undefD) st2 := rfl
theorem q_srt (str : Bool) : kSrt (some (aSrt str)) = some str := by cases str <;> rfl
theorem srtF_int (l : List Int) : srtF false (l.map fun z => [.int .i64 z]) = some ((sortB leI l).map fun z => [.int .i64 z]) := by
  have h : ∀ (l : List Int), mapO decFI (l.map fun z => [.int .i64 z]) = some l := fun l => by
    induction l with
    | nil => rfl
    | cons a r ih => simp only [List.map_cons, mapO, decFI, ih]
  simp only [srtF, cond_false, h]
theorem srtF_str (l : List (List UInt8)) : srtF true (l.map fun z => [.str z]) = some ((sortB leS l).map fun z => [.str z]) := by
  have h : ∀ (l : List (List UInt8)), mapO decFS (l.map fun z => [.str z]) = some l := fun l => by
    induction l with
    | nil => rfl
    | cons a r ih => simp only [List.map_cons, mapO, decFS, ih]
  simp only [srtF, cond_true, h]
noncomputable def midK2 (P : Program) (call : DCall) (i : Nat) (l2 : List EI) (T1 : Tm) (st1 : Dv.St) (r : Option (F × List Nat × List Nat)) : Option (Tm × Dv.St) := match r with
  | some (x, ts, is) => dIs P call l2 (T1.put i (.fz x)) (st1.still ts is)
  | none => none
noncomputable def midK1 (P : Program) (call : DCall) (i : Nat) (l2 : List EI) (r : Option (Tm × Dv.St)) : Option (Tm × Dv.St) := match r with
  | some (T1, st1) => midK2 P call i l2 T1 st1 (fr st1 6 (T1.at i))
  | none => none
theorem x_mid (l1 : List EI) (i : Nat) (l2 : List EI) (T : Tm) (st : Dv.St) : dCw P call (.mid l1 i l2) T st = regK (midK1 P call i l2 (dIs P call l1 T st)) := by
  simp only [dCw, dMidR]
  cases h1 : dIs P call l1 T st with
  | none => rfl
  | some x =>
    obtain ⟨T1, st1⟩ := x
    simp only [midK1]
    cases h2 : fr st1 6 (T1.at i) with
    | none => rfl
    | some y =>
      obtain ⟨z, ts, is⟩ := y
      simp only [midK2, regK] <;> rfl
theorem k_mid1 (i : Nat) (l2 : List EI) (T1 : Tm) (st1 : Dv.St) : midK1 P call i l2 (some (T1, st1)) = midK2 P call i l2 T1 st1 (fr st1 6 (T1.at i)) := rfl
theorem k_mid2 (i : Nat) (l2 : List EI) (T1 : Tm) (st1 : Dv.St) (x : F) (ts is : List Nat) : midK2 P call i l2 T1 st1 (some (x, ts, is)) = dIs P call l2 (T1.put i (.fz x)) (st1.still ts is) := rfl
theorem k_seq (T : Tm) (st : Dv.St) (live : List Nat) (b : DC) : seqK P call (some (.normal, T, st)) live b = dCw P call b (T.keep live) st := rfl
theorem k_seq_ret (T : Tm) (st : Dv.St) (live : List Nat) (b : DC) : seqK P call (some (.ret, T, st)) live b = some (.ret, T, st) := rfl
theorem k_seq_exit (id : Nat) (T : Tm) (st : Dv.St) (live : List Nat) (b : DC) : seqK P call (some (.exit id, T, st)) live b = some (.exit id, T, st) := rfl
theorem k_seq_none (live : List Nat) (b : DC) : seqK P call none live b = none := rfl
theorem k_seq_ite (p : Prop) [Decidable p] (r s : Option DSt) (live : List Nat) (b : DC) : seqK P call (if p then r else s) live b = if p then seqK P call r live b else seqK P call s live b := by split <;> rfl
theorem k_cond (b : Bool) (x y : DC) (T : Tm) (st : Dv.St) : condK P call (.fz (.bool b)) x y T st = if b = true then dCw P call x T st else dCw P call y T st := by cases b <;> rfl
theorem k_block (T : Tm) (st : Dv.St) (id : Nat) : blockK id (some (.normal, T, st)) = some (.normal, T, st) := rfl
theorem k_block_ret (T : Tm) (st : Dv.St) (id : Nat) : blockK id (some (.ret, T, st)) = some (.ret, T, st) := rfl
theorem k_block_exit (T : Tm) (st : Dv.St) (id j : Nat) : blockK id (some (.exit j, T, st)) = if j = id then some (.normal, T, st) else some (.exit j, T, st) := rfl
theorem k_block_none (id : Nat) : blockK id none = none := rfl
theorem k_block_ite (p : Prop) [Decidable p] (r s : Option DSt) (id : Nat) : blockK id (if p then r else s) = if p then blockK id r else blockK id s := by split <;> rfl
theorem x_iter (f : Tm → Dv.St → Option DSt) (live : List Nat) (T : Tm) (st : Dv.St) : iterI f live T st = iterK f live (f (T.keep live) st) := by
  cases h : f (T.keep live) st with
  | none =>
    show iterI f live T st = none
    cases h2 : iterI f live T st with
    | none => rfl
    | some r =>
      obtain ⟨n, hn⟩ := iterI_iff.1 h2
      cases n with
      | zero => cases hn
      | succ n => simp [dIter, h] at hn
  | some p =>
    obtain ⟨x, T', st'⟩ := p
    cases x with
    | normal =>
      show iterI f live T st = iterI f live T' st'
      cases h2 : iterI f live T' st' with
      | some r => exact iterI_step h h2
      | none =>
        cases h3 : iterI f live T st with
        | none => rfl
        | some r =>
          obtain ⟨n, hn⟩ := iterI_iff.1 h3
          cases n with
          | zero => cases hn
          | succ n =>
            simp only [dIter, h] at hn
            have := iterI_iff.2 ⟨n, hn⟩
            rw [h2] at this
            cases this
    | exit id => exact iterI_end h (by simp)
    | ret => exact iterI_end h (by simp)
theorem Tm.keep_keep (live : List Nat) : ∀ (T : Tm), (T.keep live).keep live = T.keep live
  | [] => rfl
  | (k, x) :: r => by
    simp only [Tm.keep]
    by_cases h : k ∈ live
    · rw [if_pos h]
      simp only [Tm.keep]
      rw [if_pos h, Tm.keep_keep live r]
    · rw [if_neg h, Tm.keep_keep live r]
theorem Tm.keep_nil : ∀ (T : Tm), T.keep [] = []
  | [] => rfl
  | (k, x) :: r => by simp [Tm.keep, Tm.keep_nil r]
theorem iterI_keep (f : Tm → Dv.St → Option DSt) (live : List Nat) (T : Tm) (st : Dv.St) : iterI f live T st = iterI f live (T.keep live) st := by
  rw [x_iter, x_iter (T := T.keep live), Tm.keep_keep]
theorem k_iter (f : Tm → Dv.St → Option DSt) (live : List Nat) (T : Tm) (st : Dv.St) : iterK f live (some (.normal, T, st)) = iterI f live (T.keep live) st := iterI_keep f live T st
theorem x_loop' (P : Program) (call : DCall) (live : List Nat) (c : DC) (T : Tm) (st : Dv.St) : dCw P call (.loop live c) T st = iterI (dCw P call c) live (T.keep live) st := iterI_keep _ live T st
theorem k_iter_ret (f : Tm → Dv.St → Option DSt) (live : List Nat) (T : Tm) (st : Dv.St) : iterK f live (some (.ret, T, st)) = some (.ret, T, st) := rfl
theorem k_iter_exit (f : Tm → Dv.St → Option DSt) (live : List Nat) (id : Nat) (T : Tm) (st : Dv.St) : iterK f live (some (.exit id, T, st)) = some (.exit id, T, st) := rfl
theorem k_iter_none (f : Tm → Dv.St → Option DSt) (live : List Nat) : iterK f live none = none := rfl
theorem k_iter_ite (p : Prop) [Decidable p] (f : Tm → Dv.St → Option DSt) (live : List Nat) (r s : Option DSt) : iterK f live (if p then r else s) = if p then iterK f live r else iterK f live s := by split <;> rfl
theorem k_reg (T : Tm) (st : Dv.St) : regK (some (T, st)) = some (.normal, T, st) := rfl
theorem k_reg_none : regK none = none := rfl
theorem k_reg_ite (p : Prop) [Decidable p] (r s : Option (Tm × Dv.St)) : regK (if p then r else s) = if p then regK r else regK s := by split <;> rfl

theorem x_is_nil (T : Tm) (st : Dv.St) : dIs P call [] T st = some (T, st) := rfl
theorem x_is (a : EAct) (dst : Option Nat) (l : List EI) (T : Tm) (st : Dv.St) : dIs P call (⟨a, dst, none⟩ :: l) T st = insK P call (dIT P call T st a) dst l := by
  simp only [dIs, dW, insK] <;> rfl
theorem x_is_g (a : EAct) (dst : Option Nat) (g : Nat × Bool) (l : List EI) (T : Tm) (st : Dv.St) : dIs P call (⟨a, dst, some g⟩ :: l) T st = grdK P call (dW T (some g)) ⟨a, dst, some g⟩ l T st := by
  simp only [dIs, grdK, insK] <;> rfl
theorem k_ins (d : D) (st : Dv.St) (W : List Nat) (dst : Option Nat) (l : List EI) (T : Tm) : insK P call (some (d, st, W, T)) dst l = dIs P call l (T.dst dst d) st := rfl
theorem k_ins_none (dst : Option Nat) (l : List EI) : insK P call none dst l = none := rfl
theorem k_ins_ite (p : Prop) [Decidable p] (r s : Option (D × Dv.St × List Nat × Tm)) (dst : Option Nat) (l : List EI) : insK P call (if p then r else s) dst l = if p then insK P call r dst l else insK P call s dst l := by split <;> rfl
theorem k_addT (T : Tm) (d : D) (st : Dv.St) (W : List Nat) : addT T (some (d, st, W)) = some (d, st, W, T) := rfl
theorem k_addT_none (T : Tm) : addT T none = none := rfl
theorem k_addT_ite (p : Prop) [Decidable p] (T : Tm) (r s : Option (D × Dv.St × List Nat)) : addT T (if p then r else s) = if p then addT T r else addT T s := by split <;> rfl
theorem x_it {T : Tm} {st : Dv.St} {a : EAct} (h : isU a = false) : dIT P call T st a = addT T (dI P call T st a) := by
  unfold dIT
  rw [dU_none h]
def orU (r : Option (D × Tm × Dv.St)) (q : Option (D × Dv.St × List Nat × Tm)) : Option (D × Dv.St × List Nat × Tm) := match r with
  | some (d, T, st) => some (d, st, [], T)
  | none => q
theorem k_orU (d : D) (T : Tm) (st : Dv.St) (q : Option (D × Dv.St × List Nat × Tm)) : orU (some (d, T, st)) q = some (d, st, [], T) := rfl
theorem k_orU_none (q : Option (D × Dv.St × List Nat × Tm)) : orU none q = q := rfl
theorem x_it_st {T : Tm} {st : Dv.St} (n : Nat) (x y : EO) : dIT P call T st (.op (.st n x y)) = orU (dU T st (.op (.st n x y))) (addT T (dI P call T st (.op (.st n x y)))) := by
  unfold dIT orU; split <;> simp_all
theorem x_it_clr {T : Tm} {st : Dv.St} (z : Nat) (zero : List V) (x : EO) : dIT P call T st (.op (.clr z zero x)) = orU (dU T st (.op (.clr z zero x))) (addT T (dI P call T st (.op (.clr z zero x)))) := by
  unfold dIT orU; split <;> simp_all
theorem x_it_cpy {T : Tm} {st : Dv.St} (z : Nat) (x y : EO) : dIT P call T st (.op (.cpy z x y)) = orU (dU T st (.op (.cpy z x y))) (addT T (dI P call T st (.op (.cpy z x y)))) := by
  unfold dIT orU; split <;> simp_all
theorem k_grd (b : Bool) (i : EI) (l : List EI) (T : Tm) (st : Dv.St) : grdK P call (some b) i l T st = if b = true then insK P call (dIT P call T st i.act) i.dst l else dIs P call l (T.dst i.dst undefD) st := by cases b <;> rfl

theorem x_ord_nil (l0 : List QI) (n : Nat) (p : List Nat) (T : Tm) (st : Dv.St) : dOrd P call l0 [] n p T st = some (T, st) := rfl
theorem x_ord (l0 : List QI) (a : EAct) (dst : Option Nat) (k : EK) (chk : List (Bool × Nat)) (l : List QI) (n : Nat) (p : List Nat) (T : Tm) (st : Dv.St) : dOrd P call l0 (⟨⟨a, dst, none⟩, k, chk⟩ :: l) n p T st = ordK P call l0 (dIT P call T st a) ⟨⟨a, dst, none⟩, k, chk⟩ l n p T := by
  simp only [dOrd, dW, ordK] <;> rfl
theorem x_ord_g (l0 : List QI) (a : EAct) (dst : Option Nat) (g : Nat × Bool) (k : EK) (chk : List (Bool × Nat)) (l : List QI) (n : Nat) (p : List Nat) (T : Tm) (st : Dv.St) : dOrd P call l0 (⟨⟨a, dst, some g⟩, k, chk⟩ :: l) n p T st = ogrdK P call l0 (dW T (some g)) ⟨⟨a, dst, some g⟩, k, chk⟩ l n p T st := by
  simp only [dOrd, ogrdK, ordK] <;> rfl
theorem k_ord (l0 : List QI) (d : D) (st' : Dv.St) (W : List Nat) (q : QI) (l : List QI) (n : Nat) (pend : List Nat) (T T1 : Tm) : ordK P call l0 (some (d, st', W, T1)) q l n pend T = if q.chk.all (chkQ l0 T W st'.L (pend.filter (stillQ l0 T W st'.L))) = true then
      dOrd P call l0 l (n + 1) (if (lOf q).isSome = true then n :: pend.filter (stillQ l0 T W st'.L) else pend.filter (stillQ l0 T W st'.L)) (T1.dst q.ins.dst d) st' else none := rfl
theorem k_ord_none (l0 : List QI) (q : QI) (l : List QI) (n : Nat) (pend : List Nat) (T : Tm) : ordK P call l0 none q l n pend T = none := rfl
theorem k_ord_ite (c : Prop) [Decidable c] (l0 : List QI) (r s : Option (D × Dv.St × List Nat × Tm)) (q : QI) (l : List QI) (n : Nat) (pend : List Nat) (T : Tm) : ordK P call l0 (if c then r else s) q l n pend T = if c then ordK P call l0 r q l n pend T else ordK P call l0 s q l n pend T := by split <;> rfl
theorem k_ogrd (l0 : List QI) (b : Bool) (q : QI) (l : List QI) (n : Nat) (pend : List Nat) (T : Tm) (st : Dv.St) : ogrdK P call l0 (some b) q l n pend T st = if b = true then ordK P call l0 (dIT P call T st q.ins.act) q l n pend T else dOrd P call l0 l (n + 1) (if (lOf q).isSome = true then n :: pend else pend) (T.dst q.ins.dst undefD) st := by cases b <;> rfl

def outK (res : List ERes) (r : Option DSt) : Option (D × Dv.St) := match r with
  | some (.exit _, _, _) => none
  | some (_, T, st') => match dRes st' T res with
    | some rs => some (oneOfD rs, st')
    | none => none
  | none => none
def pureK (r : Option (D × Dv.St)) : Option F := match r with
  | some (d, st') => match fr st' 6 d with
    | some (x, _, _) => some x
    | none => none
  | none => none

theorem x_pure (nt : Nat) (m : Mode) (c : DC) (res : List ERes) (xs : List F) (h : xs.length ≤ nt ∧ xs.length ≤ 512) : dPureW P call ⟨nt, m, c, res⟩ xs = pureK (outK res (dCw P call c (startD (xs.map .fz) 0) ⟨[], [], 0⟩)) := by
  unfold dPureW dBodyW
  rw [if_pos (by simpa using h)]
  rfl
theorem k_out_ret (res : List ERes) (T : Tm) (st : Dv.St) : outK res (some (.ret, T, st)) = (match dRes st T res with | some rs => some (oneOfD rs, st) | none => none) := rfl
theorem k_out (res : List ERes) (T : Tm) (st : Dv.St) : outK res (some (.normal, T, st)) = (match dRes st T res with | some rs => some (oneOfD rs, st) | none => none) := rfl
theorem k_out_none (res : List ERes) : outK res none = none := rfl
theorem k_out_ite (p : Prop) [Decidable p] (res : List ERes) (r s : Option DSt) : outK res (if p then r else s) = if p then outK res r else outK res s := by split <;> rfl
theorem k_pure (d : D) (st : Dv.St) : pureK (some (d, st)) = (match fr st 6 d with | some (x, _, _) => some x | none => none) := rfl
theorem k_pure_none : pureK none = none := rfl
theorem k_pure_ite (p : Prop) [Decidable p] (r s : Option (D × Dv.St)) : pureK (if p then r else s) = if p then pureK r else pureK s := by split <;> rfl

theorem pureI_of {pr : Prims} {dx : DX} {tbl : Nat → Option DFn} {f : Nat} {df : DFn} (h : tbl f = some df) (xs : List F) : pureI P pr dx tbl f xs = dPureW P (callI P pr dx tbl) df xs := by simp [pureI, h]
theorem callP {pr : Prims} {dx : DX} {tbl : Nat → Option DFn} {f : Nat} {df : DFn} (hp : pr f = none) (hx : dx f = none) (ht : tbl f = some df) (hm : df.mode = .pure) {ds : List D} {st : Dv.St} {xs : List F} {ts is : List Nat} {x : F} (h1 : frL (fr st 6) ds = some (xs, ts, is)) (h2 : pureI P pr dx tbl f xs = some x) :
    callI P pr dx tbl f ds st = some (if x.full.isSome = true then (.fz x, st, []) else (.fz x, st.still ts is, [])) := by
  refine callI_pure hp hx ht hm ?_
  unfold callPure
  rw [h1]
  simp only [h2]
  split <;> rfl

end

end Go.Proofs.Dv

namespace Go.Proofs.Dv
open Go Go.RowKit Go.Proofs.Ev

/-- A slice of numbers that came in: where it lies, how long its block is, what it holds. -/
structure Came where
  B : Nat
  O : Nat
  Z : Nat
  k : IntKind
  zs : List Int

def Came.blk (a : Came) : Blk := ⟨a.zs.map (V.int a.k), 1⟩
def Came.ok (a : Came) (w : World) : Prop := (∃ cs e fz, w.heap[a.B]? = some (.cells cs e fz) ∧ cs.size = a.Z) ∧ a.O + a.zs.length ≤ a.Z ∧ ∀ j z, a.zs[j]? = some z → w.cell? ⟨a.B, a.O + j, none⟩ = some (.int a.k z)

/-- An argument: what it is to the model, to the run, and told whole. -/
inductive Arg (l : List Came) : Value → V → F → Prop
  | int (k : IntKind) (n : Int) : Arg l (.int k n) (.int k n) (.int k n)
  | bool (b : Bool) : Arg l (.bool b) (.bool b) (.bool b)
  | str (s : List UInt8) : Arg l (.string ⟨s.toArray⟩) (.str s) (.str s)
  | nil : Arg l (.slice none 0 0) (.sl none 0) (.list [])
  | sl {i : Nat} {a : Came} {n cap : Nat} (h : l[i]? = some a) (hn : n = a.zs.length) (hc : n ≤ cap) (hz : a.O + cap ≤ a.Z) : Arg l (.slice (some ⟨a.B, a.O, none⟩) n cap) (.sl (some (i, 0, 1)) n) (.list (a.zs.map fun z => [.int a.k z]))
  | agg {cs : List Value} {vs : List V} {xs : List F} (h1 : cs.length = xs.length) (h2 : vs.length = xs.length) (h : ∀ (j : Nat) (c : Value) (v : V) (x : F), cs[j]? = some c → vs[j]? = some v → xs[j]? = some x → Arg l c v x) : Arg l (.agg cs.toArray) (.agg vs) (.agg xs)

section
variable {l : List Came} {w : World}

def injOf (l : List Came) : Inj := fun b => (l[b]?).map fun a => (a.B, a.O, a.Z)
def heapOf (l : List Came) : Heap := l.map Came.blk
def ctOf (l : List Came) : Ct := ⟨fun b => b < l.length, fun _ => none, fun _ => none, 0⟩

theorem injOf_get {b B O Z : Nat} (h : injOf l b = some (B, O, Z)) : ∃ a, l[b]? = some a ∧ a.B = B ∧ a.O = O ∧ a.Z = Z := by
  unfold injOf at h
  cases ha : l[b]? with
  | none => rw [ha] at h; cases h
  | some a => rw [ha] at h; cases h; exact ⟨a, rfl, rfl, rfl, rfl⟩

theorem heapOf_get {b : Nat} {k : Blk} (h : (heapOf l)[b]? = some k) : ∃ a, l[b]? = some a ∧ k = a.blk := by
  unfold heapOf at h
  rw [List.getElem?_map] at h
  cases ha : l[b]? with
  | none => rw [ha] at h; cases h
  | some a => rw [ha] at h; cases h; exact ⟨a, rfl, rfl⟩

theorem simOf (hl : ∀ a ∈ l, a.ok w) : Sim (injOf l) (heapOf l) w := by
  refine ⟨fun b x h => ?_, fun b B O Z h => ?_, fun b B h => ?_, fun b k B O Z hk hst h => ?_, fun b k B O Z hk hst h => ?_, fun b k B O Z b' k' B' O' Z' hk hst _ _ _ h => ?_⟩
  · obtain ⟨B, O, Z⟩ := x
    obtain ⟨a, ha, _⟩ := injOf_get h
    simpa [heapOf] using lt_of ha
  · obtain ⟨a, ha, rfl, rfl, rfl⟩ := injOf_get h
    exact .inl (hl a (List.mem_of_getElem? ha)).1
  · obtain ⟨a, ha, h1, h2, h3⟩ := injOf_get h
    obtain ⟨_, h4, _⟩ := hl a (List.mem_of_getElem? ha)
    omega
  · obtain ⟨a, ha, rfl, rfl, rfl⟩ := injOf_get h
    obtain ⟨a', ha', rfl⟩ := heapOf_get hk
    rw [ha] at ha'
    cases ha'
    obtain ⟨_, h2, h3⟩ := hl a (List.mem_of_getElem? ha)
    refine ⟨by simpa [Came.blk] using h2, fun i v hv => ?_⟩
    simp only [Came.blk, List.getElem?_map] at hv
    cases hz : a.zs[i]? with
    | none => rw [hz] at hv; cases hv
    | some z => rw [hz] at hv; cases hv; exact ⟨_, h3 i z hz, .int _ _⟩
  · obtain ⟨a', ha', rfl⟩ := heapOf_get hk
    simp [Came.blk] at hst
  · obtain ⟨a', ha', rfl⟩ := heapOf_get hk
    simp [Came.blk] at hst

theorem srOf (l : List Came) : SR (ctOf l) ⟨[], [], 0⟩ (heapOf l) := by
  refine ⟨rfl, (fun t => by simp [ctOf]), (fun t h => absurd rfl h), (fun t b o z h => by cases h), (fun t t' b o z o' z' h => by cases h), (fun i w ds h => by simp at h), (fun i b h => by cases h), (fun i j b h => by cases h), (fun i t b o z h => by cases h), fun b h => ?_⟩
  simpa [heapOf, ctOf] using h

theorem Arg.vrel {c : Value} {v : V} {x : F} (h : Arg l c v x) : VRel (injOf l) v c := by
  induction h with
  | int k n => exact .int k n
  | bool b => exact .bool b
  | str s => exact .str s
  | nil => exact .nils
  | sl h hn hc hz =>
    rename_i i a n cap
    have hb : injOf l i = some (a.B, a.O, a.Z) := by simp [injOf, h]
    exact .sl hb hc (fun _ => rfl) (by simpa using hz)
  | agg h1 h2 h ih =>
    refine .agg (by simp [h1, h2]) fun j v c hv hc => ?_
    have hj := lt_of hv
    obtain ⟨x, hx⟩ := at_of (i := j) (by rw [← h2]; exact hj)
    exact ih j c v x (by simpa using hc) hv hx

theorem Arg.fr {c : Value} {v : V} {x : F} (h : Arg l c v x) : FR (ctOf l).fz (heapOf l) x v := by
  induction h with
  | int k n => exact .int k n
  | bool b => exact .bool b
  | str s => exact .str s
  | nil => exact .nil0
  | sl h hn hc hz =>
    rename_i i a n cap
    have hg : (heapOf l)[i]? = some a.blk := by simp [heapOf, h]
    have := FR.list (fz := (ctOf l).fz) (H := heapOf l) (es := a.zs.map fun z => [F.int a.k z]) (b := i) (o := 0) (z := 1) (lt_of h) hg (by simp [Came.blk]) (by simp [Came.blk]) (fun q e he => by
      rw [List.getElem?_map] at he
      cases hq : a.zs[q]? with
      | none => rw [hq] at he; cases he
      | some z => rw [hq] at he; cases he; rfl) (fun q j e x u he hx hu => by
      rw [List.getElem?_map] at he
      cases hq : a.zs[q]? with
      | none => rw [hq] at he; cases he
      | some z =>
        rw [hq] at he
        cases he
        have hj : j = 0 := by
          have := lt_of hx
          simp at this
          exact this
        subst hj
        simp at hx
        subst hx
        simp only [Came.blk, Nat.zero_add, Nat.mul_one, Nat.add_zero, List.getElem?_map, hq, Option.map_some, Option.some.injEq] at hu
        subst hu
        exact .int _ _)
    rw [List.length_map, ← hn] at this
    exact this
  | agg h1 h2 h ih =>
    rename_i cs vs xs
    refine .agg h2.symm fun j x u hx hu => ?_
    obtain ⟨c, hc⟩ := at_of (xs := cs) (i := j) (by rw [h1]; exact lt_of hx)
    exact ih j c u x hc hu hx

inductive Args (l : List Came) : List Value → List V → List F → Prop
  | nil : Args l [] [] []
  | cons {c : Value} {v : V} {x : F} {cs : List Value} {vs : List V} {xs : List F} (h : Arg l c v x) (k : Args l cs vs xs) : Args l (c :: cs) (v :: vs) (x :: xs)

theorem Args.vrel {cs : List Value} {vs : List V} {xs : List F} (h : Args l cs vs xs) : LRel (injOf l) vs cs.toArray := by
  induction h with
  | nil => exact LRel.nil _
  | cons h k ih => exact LRel.cons h.vrel ih

theorem Args.fr {cs : List Value} {vs : List V} {xs : List F} (h : Args l cs vs xs) : Row (DR (ctOf l) (heapOf l)) (xs.map .fz) vs := by
  induction h with
  | nil => exact Row.nil
  | cons h k ih => exact Row.cons (.fz h.fr) ih

/-- A law that gives true. -/
theorem law_true {P : Program} {pr : Prims} {tblE : Nat → Option EFn} {dx : DX} {tbl : Nat → Option DFn} (hm : P.follows .mixedOrders = true) (hpr : PrimsOK P pr) (ht : TblOK P pr tblE dx tbl) (hE : ∀ f e, tblE f = some e → cFn P f = some e) {f : Nat} {df : DFn}
    (hp : pr f = none) (hx : dx f = none) (hf : tbl f = some df) (hmo : df.mode = .pure) (hl : ∀ a ∈ l, a.ok w) {cs : List Value} {vs : List V} {xs : List F} (ha : Args l cs vs xs) (h : pureI P pr dx tbl f xs = some (.bool true)) :
    Calls P f cs.toArray w fun e w' => e = .returned (.bool true) ∧ Below w.heap.size w w' := by
  have hfr : frL (fr ⟨[], [], 0⟩ 6) (xs.map .fz) = some (xs, [], []) := by
    clear ha h
    induction xs with
    | nil => rfl
    | cons x r ih => simp only [List.map_cons, frL, fr, ih, List.nil_append]
  have hc := callP (st := ⟨[], [], 0⟩) hp hx hf hmo hfr h
  simp only [F.full, Option.isSome_some, if_true] at hc
  refine (callI_run hm hpr ht hE hc (srOf l) ha.fr ha.vrel (simOf hl)).mono ?_
  rintro e w' ⟨c', v, H', β', u, rfl, h1, h2, h3, h4⟩
  have hv := h2.fz_inv
  cases hv
  have hu := h4.bool_inv
  subst hu
  refine ⟨rfl, h3.os, h3.tape, h3.output, h3.size, fun B hB => h3.frame B hB ?_⟩
  rintro ⟨b, k, O, Z, hk, hst, hb⟩
  obtain ⟨a, ha, rfl⟩ := heapOf_get hk
  rcases hst with hst | ⟨rfl, rfl⟩
  · simp [Came.blk] at hst
  · obtain ⟨a', ha', h5, h6, h7⟩ := injOf_get hb
    obtain ⟨_, h8, _⟩ := hl a' (List.mem_of_getElem? ha')
    omega

end

end Go.Proofs.Dv

namespace Go.Proofs.Dv
open Go Go.RowKit Go.Proofs.Ev

/-- Least or greatest (true) of two registers. -/
def minmax (o : Oper) : Option (Bool × Nat × Nat) := match o.op with
  | .call c => match c.callee, c.args.toList with
    | .builtin .min, [.tmp i, .tmp j] => some (false, i, j)
    | .builtin .max, [.tmp i, .tmp j] => some (true, i, j)
    | _, _ => none
  | _ => none

/-- The rest, told by the operation itself. -/
def mmRest (P : Program) (T : Tm) (o : Oper) : Option D := dSlowX P T o
def mmD (m : Bool) (d e : D) (r : Option D) : Option D := match d, e with
  | .fz (.int k a), .fz (.int k' b) => some (.fz (.int k (if m = true then (if a < b then b else a) else (if b < a then b else a))))
  | _, _ => r

theorem slow_mm {P : Program} {o : Oper} {m : Bool} {i j : Nat} (h : minmax o = some (m, i, j)) (T : Tm) : dSlowX P T o = mmD m (T.at i) (T.at j) (mmRest P T o) := by
  unfold mmD
  split
  · rename_i k a k' b hi hj
    unfold minmax at h
    split at h
    · rename_i c hc
      obtain ⟨cal, args, ats⟩ := c
      have two : ∀ {x y : Operand}, args.toList = [x, y] → args = #[x, y] := fun h => by
        cases args; simp at h; subst h; rfl
      split at h
      · rename_i i' j' h1 h2
        cases h
        simp only at h1 h2
        subst h1
        have ha := two h2
        subst ha
        have : dSlow P T o = some (.fz (.int k (if b < a then b else a))) := by
          have hop : o.op.operands = #[.tmp i, .tmp j] := by rw [hc]; rfl
          have hrun : pureRun P (execOp (fun x => (concO (dEnv T) x).getD undef) o) = some (.value (.int k (if b < a then b else a))) := by
            simp [execOp, hc, resolve, invoke, builtin, Builtin.min_, Builtin.min2, concO, dEnv, hi, hj, D.full, F.full, conc, pureRun]
            rfl
          have hp : pureOp P (dEnv T) o = some (.int k (if b < a then b else a)) := by
            simp only [pureOp, hop, hrun]
            simp [hc, isSelect, concO, dEnv, hi, hj, D.full, F.full, conc, absN]
          have he : evA P (dEnv T) o [] = some (.int k (if b < a then b else a), []) := by
            simp [evA, hc, evBuiltin, hp, keep]
          simp only [dSlow, hop, he]
          simp [dEnv, hi, hj, D.full, F.full, toD, vF]
        simp only [dSlowX, this]
        simp
      · rename_i i' j' h1 h2
        cases h
        simp only at h1 h2
        subst h1
        have ha := two h2
        subst ha
        have : dSlow P T o = some (.fz (.int k (if a < b then b else a))) := by
          have hop : o.op.operands = #[.tmp i, .tmp j] := by rw [hc]; rfl
          have hrun : pureRun P (execOp (fun x => (concO (dEnv T) x).getD undef) o) = some (.value (.int k (if a < b then b else a))) := by
            simp [execOp, hc, resolve, invoke, builtin, Builtin.max_, Builtin.max2, concO, dEnv, hi, hj, D.full, F.full, conc, pureRun]
            rfl
          have hp : pureOp P (dEnv T) o = some (.int k (if a < b then b else a)) := by
            simp only [pureOp, hop, hrun]
            simp [hc, isSelect, concO, dEnv, hi, hj, D.full, F.full, conc, absN]
          have he : evA P (dEnv T) o [] = some (.int k (if a < b then b else a), []) := by
            simp [evA, hc, evBuiltin, hp, keep]
          simp only [dSlow, hop, he]
          simp [dEnv, hi, hj, D.full, F.full, toD, vF]
        simp only [dSlowX, this]
        simp
      · cases h
    · cases h
  · rfl

/-! ### A call of a function that is told by what it gives on values that stay -/

noncomputable def callI0 (P : Program) (pr : Prims) (dx : DX) (tbl : Nat → Option DFn) : DCall := callI P pr dx tbl
noncomputable def callR (P : Program) (pr : Prims) (dx : DX) (tbl : Nat → Option DFn) (f : Nat) (ds : List D) (st : Dv.St) : Option (List F × List Nat × List Nat) → Option (D × Dv.St × List Nat)
  | some (xs, ts, is) => match pureI P pr dx tbl f xs with
    | some x => some (if x.full.isSome = true then (.fz x, st, []) else (.fz x, st.still ts is, []))
    | none => callI0 P pr dx tbl f ds st
  | none => callI0 P pr dx tbl f ds st
theorem callRw {P : Program} {pr : Prims} {dx : DX} {tbl : Nat → Option DFn} {f : Nat} {df : DFn} (hp : pr f = none) (hx : dx f = none) (ht : tbl f = some df) (hm : df.mode = .pure) (ds : List D) (st : Dv.St) : callI P pr dx tbl f ds st = callR P pr dx tbl f ds st (frL (fr st 6) ds) := by
  unfold callR
  split
  · rename_i xs ts is h1
    split
    · rename_i x h2
      exact callP hp hx ht hm h1 h2
    · rfl
  · rfl
/-- A number of few, taken over. -/
theorem wrap_rem (x k : Int) (h0 : 0 ≤ x) (hk : 0 < k) (hk2 : k ≤ 1000000) : wrapF .i64 (x.tmod k) = x % k := by
  have e : x.tmod k = x % k := Int.tmod_eq_emod_of_nonneg h0
  have h1 := Int.emod_nonneg x (show k ≠ 0 by omega)
  have h2 := Int.emod_lt_of_pos x hk
  rw [e]
  simp [wrapF, show -9223372036854775808 ≤ x % k by omega, show x % k < 9223372036854775808 by omega]
theorem wrap_id (x : Int) (h0 : -9223372036854775808 ≤ x) (h1 : x < 9223372036854775808) : wrapF .i64 x = x := by simp [wrapF, h0, h1]

end Go.Proofs.Dv

namespace Go.Proofs.Dv
open Go Go.RowKit Go.Proofs.Ev

theorem rowAt_le {p : Program} {fits : TypeId → Bool} {d : Nat} {e : TypeId} {count off n : Nat} (h : rowAt p fits d e count off n = true) : off ≤ count * p.cellsOf e := by
  cases d with
  | zero => simp [rowAt] at h
  | succ d =>
    unfold rowAt at h
    simp only at h
    split at h
    · cases h
    · rename_i hs
      have hpos : 0 < p.cellsOf e := Nat.pos_of_ne_zero hs
      have hdm := Nat.div_add_mod off (p.cellsOf e)
      have hlt := Nat.mod_lt off hpos
      rcases Bool.or_eq_true _ _ |>.mp h with h | h
      · simp only [Bool.and_eq_true, beq_iff_eq, decide_eq_true_eq] at h
        obtain ⟨⟨h1, h2⟩, _⟩ := h
        have : off / p.cellsOf e ≤ count := by omega
        have := Nat.mul_le_mul_left (p.cellsOf e) this
        rw [Nat.mul_comm count]
        omega
      · simp only [Bool.and_eq_true, decide_eq_true_eq] at h
        have h1 : off / p.cellsOf e + 1 ≤ count := h.1
        have := Nat.mul_le_mul_left (p.cellsOf e) h1
        rw [Nat.mul_comm count]
        rw [Nat.mul_add] at this
        omega
theorem lies_le {p : Program} : ∀ {d : Nat} {e : TypeId} {count off : Nat} {u : TypeId} {n : Nat}, liesAt p d e count off u n = true → off ≤ count * p.cellsOf e
  | 0, _, _, _, _, _, h => by simp [liesAt] at h
  | d + 1, e, count, off, u, n, h => by
    unfold liesAt at h
    rcases Bool.or_eq_true _ _ |>.mp h with h | h
    · exact rowAt_le h
    · split at h
      · exact lies_le h
      · cases h

theorem cell_lt {w : World} {B i : Nat} {v : Value} (h : w.cell? ⟨B, i, none⟩ = some v) {cs : Array Value} {e : TypeId} {fz : Nat × Nat} (hb : w.heap[B]? = some (.cells cs e fz)) : i < cs.size := by
  simp only [World.cell?, hb] at h
  by_cases hi : i < cs.size
  · exact hi
  · simp [hi] at h

theorem add_flat (B O j : Nat) : (Addr.mk B O none).add j = ⟨B, O + j, none⟩ := by
  unfold Addr.add
  split
  · rename_i h; subst h; rfl
  · rfl

theorem came_of {P : Program} {w : World} {base : Nat} {t e : TypeId} {k : IntKind} {x : Addr} {len cap : Nat} {zs : List Int} (ht : P.underlying t = some (.slice e)) (hok : Value.okWide P w .any base t (.slice (some x) len cap)) (hl : len ≤ cap) (hz : zs.length = cap)
    (hc : ∀ i, i < zs.length → w.cell? (x.add i) = some (.int k (zs.getD i 0))) : ∃ Z, (Came.mk x.block x.off Z k (zs.take len)).ok w ∧ x.off + cap ≤ Z ∧ x = ⟨x.block, x.off, none⟩ := by
  simp only [Value.okWide, ht, Cell.okWide, Cell.ok] at hok
  obtain ⟨_, _, _, hsp, row, cells, hsh, hli⟩ := hok
  obtain ⟨B, O, sp⟩ := x
  simp only at hsp hsh hli ⊢
  subst hsp
  unfold World.shape? at hsh
  split at hsh
  · rename_i cs e' fz hb
    cases hsh
    have hO : O ≤ cs.size := Nat.le_trans (lies_le hli) (Nat.div_mul_le_self _ _)
    have hcap : O + cap ≤ cs.size := by
      by_cases h0 : cap = 0
      · omega
      · have := hc (cap - 1) (by omega)
        rw [add_flat] at this
        have := cell_lt this hb
        omega
    refine ⟨cs.size, ⟨⟨cs, _, fz, hb, rfl⟩, ?_, ?_⟩, hcap, rfl⟩
    · simp only [List.length_take]; omega
    · intro j z hj
      have hjl := lt_of hj
      simp only [List.length_take] at hjl
      have h1 := hc j (by omega)
      rw [List.getElem?_take_of_lt (by omega)] at hj
      have : zs.getD j 0 = z := by rw [List.getD_eq_getElem?_getD, hj]; rfl
      rw [this] at h1
      rw [add_flat] at h1
      exact h1
  · cases hsh

/-- An argument as it comes in. -/
inductive In1 (w : World) : Value → F → Prop
  | int (k : IntKind) (n : Int) : In1 w (.int k n) (.int k n)
  | bool (b : Bool) : In1 w (.bool b) (.bool b)
  | str (s : List UInt8) : In1 w (.string ⟨s.toArray⟩) (.str s)
  | nil : In1 w (.slice none 0 0) (.list [])
  | sl (a : Came) (ok : a.ok w) {n cap : Nat} (hn : n = a.zs.length) (hc : n ≤ cap) (hz : a.O + cap ≤ a.Z) : In1 w (.slice (some ⟨a.B, a.O, none⟩) n cap) (.list (a.zs.map fun z => [.int a.k z]))
  | ints {ks : List (IntKind × Int)} {cs : Array Value} (h : cs.toList = ks.map fun p => .int p.1 p.2) : In1 w (.agg cs) (.agg (ks.map fun p => .int p.1 p.2))
inductive Ins (w : World) : List Value → List F → Prop
  | nil : Ins w [] []
  | cons {c : Value} {x : F} {cs : List Value} {xs : List F} (h : In1 w c x) (k : Ins w cs xs) : Ins w (c :: cs) (x :: xs)

theorem Arg.app {l : List Came} (m : List Came) {c : Value} {v : V} {x : F} (h : Arg l c v x) : Arg (l ++ m) c v x := by
  induction h with
  | int k n => exact .int k n
  | bool b => exact .bool b
  | str s => exact .str s
  | nil => exact .nil
  | sl h hn hc hz => exact .sl (by rw [List.getElem?_append_left (lt_of h)]; exact h) hn hc hz
  | agg h1 h2 h ih => exact .agg h1 h2 ih

theorem In1.arg {w : World} {c : Value} {x : F} (h : In1 w c x) (l0 : List Came) : ∃ l1 v, Arg (l0 ++ l1) c v x ∧ ∀ a ∈ l1, a.ok w := by
  cases h with
  | int k n => exact ⟨[], _, .int k n, fun a h => by cases h⟩
  | bool b => exact ⟨[], _, .bool b, fun a h => by cases h⟩
  | str s => exact ⟨[], _, .str s, fun a h => by cases h⟩
  | nil => exact ⟨[], _, .nil, fun a h => by cases h⟩
  | sl a ok hn hc hz => exact ⟨[a], _, .sl (i := l0.length) (by simp) hn hc hz, fun b h => by simp at h; subst h; exact ok⟩
  | ints h =>
    rename_i ks cs
    obtain rfl : cs = (ks.map fun p => Value.int p.1 p.2).toArray := by cases cs; simpa using h
    refine ⟨[], .agg (ks.map fun p => .int p.1 p.2), .agg (by simp) (by simp) ?_, fun a h => by cases h⟩
    intro j c v x hc hv hx
    rw [List.getElem?_map] at hc hv hx
    cases hk : ks[j]? with
    | none => rw [hk] at hc; cases hc
    | some p => rw [hk] at hc hv hx; cases hc; cases hv; cases hx; exact .int _ _

theorem Ins.args {w : World} {cs : List Value} {xs : List F} (h : Ins w cs xs) : ∀ l0 : List Came, ∃ l1 vs, (∀ l2, Args (l0 ++ l1 ++ l2) cs vs xs) ∧ ∀ a ∈ l1, a.ok w := by
  induction h with
  | nil => intro l0; exact ⟨[], [], fun _ => .nil, fun a h => by cases h⟩
  | cons h k ih =>
    intro l0
    obtain ⟨l1, v, h1, h2⟩ := h.arg l0
    obtain ⟨l2, vs, h3, h4⟩ := ih (l0 ++ l1)
    refine ⟨l1 ++ l2, v :: vs, fun l3 => .cons ?_ ?_, fun a ha => ?_⟩
    · have := h1.app (l2 ++ l3)
      simpa [List.append_assoc] using this
    · have := h3 l3
      simpa [List.append_assoc] using this
    · rcases List.mem_append.1 ha with h | h
      · exact h2 a h
      · exact h4 a h

theorem in_row {P : Program} {w : World} {base : Nat} {t e : TypeId} {k : IntKind} {a : Option Addr} {len cap : Nat} {zs : List Int} (ht : P.underlying t = some (.slice e)) (hok : Value.okWide P w .any base t (.slice a len cap))
    (h : (a = none ∧ len = 0 ∧ cap = 0 ∧ zs = []) ∨ ∃ x, a = some x ∧ len ≤ cap ∧ cap ≤ maxLen ∧ zs.length = cap ∧ (∀ i, i < zs.length → w.cell? (x.add i) = some (.int k (zs.getD i 0))) ∧ ∀ n ∈ zs, (Lit.int k n).wf = true) :
    ∃ l : List Int, In1 w (.slice a len cap) (.list (l.map fun z => [.int k z])) ∧ l.length = len ∧ l.length ≤ maxLen ∧ ∀ n ∈ l, (Lit.int k n).wf = true := by
  rcases h with ⟨rfl, rfl, rfl, rfl⟩ | ⟨x, rfl, hl, hm, hz, hc, hwf⟩
  · exact ⟨[], .nil, rfl, Nat.zero_le _, fun n h => by cases h⟩
  · obtain ⟨Z, h1, h2, h3⟩ := came_of ht hok hl hz hc
    refine ⟨zs.take len, ?_, by simp; omega, by simp; omega, fun n hn => hwf n (List.mem_of_mem_take hn)⟩
    have hlen : len = (zs.take len).length := by simp; omega
    have := In1.sl (w := w) (Came.mk x.block x.off Z k (zs.take len)) h1 (n := len) (cap := cap) hlen hl h2
    simpa [← h3] using this

theorem wf_u8 {n : Int} (h : (Lit.int .u8 n).wf = true) : 0 ≤ n ∧ n < 256 := by
  simp [Lit.wf, IntKind.min, IntKind.max, IntKind.bits, IntKind.signed] at h
  omega

/-- A law that gives true, of what comes in. -/
theorem law_in {P : Program} {w : World} {pr : Prims} {tblE : Nat → Option EFn} {dx : DX} {tbl : Nat → Option DFn} (hm : P.follows .mixedOrders = true) (hpr : PrimsOK P pr) (ht : TblOK P pr tblE dx tbl) (hE : ∀ f e, tblE f = some e → cFn P f = some e) {f : Nat} {df : DFn}
    (hp : pr f = none) (hx : dx f = none) (hf : tbl f = some df) (hmo : df.mode = .pure) {cs : List Value} {xs : List F} (ha : Ins w cs xs) (h : pureI P pr dx tbl f xs = some (.bool true)) :
    Calls P f cs.toArray w fun e w' => e = .returned (.bool true) ∧ Below w.heap.size w w' := by
  obtain ⟨l1, vs, h1, h2⟩ := ha.args []
  have h1 := h1 []
  simp only [List.nil_append, List.append_nil] at h1
  exact law_true hm hpr ht hE hp hx hf hmo h2 h1 h

end Go.Proofs.Dv
