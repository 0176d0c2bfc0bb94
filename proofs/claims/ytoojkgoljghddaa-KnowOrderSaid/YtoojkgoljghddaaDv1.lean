/-
  What is proved here: a run of a program's text on values that stay, are owned or are variables, is followed by the run on blocks.
  Conditions: none.
-/
import Derived.Test.YtoojkgoljghddaaDv
set_option linter.unusedVariables false
set_option linter.unusedSimpArgs false
namespace Go.Proofs.Dv
open Go Go.RowKit Go.Proofs.Ev

inductive DC where
  | skip
  | reg (l : List EI)
  | drw (l : List QI)
  | seq (a : DC) (live : List Nat) (b : DC)
  | cond (c : EO) (x y : DC)
  | block (id : Nat) (c : DC)
  | loop (live : List Nat) (c : DC)
  | exit (id : Nat)
  | ret
  | frz (i : Nat) (c : DC)
  | srt (l1 : List EI) (f i : Nat) (d : Option Nat) (l2 : List EI)
  | mid (l1 : List EI) (i : Nat) (l2 : List EI)

def DC.toE : DC → EC
  | .skip => .skip
  | .reg l => .reg l
  | .drw l => .drw (l.map (qDI l))
  | .seq a _ b => .seq a.toE b.toE
  | .cond c x y => .cond c x.toE y.toE
  | .block id c => .block id c.toE
  | .loop _ c => .loop c.toE
  | .exit id => .exit id
  | .ret => .ret
  | .frz _ c => c.toE
  | .srt l1 f i d l2 => .reg (l1 ++ ⟨.call f [.t i], d, none⟩ :: l2)
  | .mid l1 _ l2 => .reg (l1 ++ l2)

def DC.wf : DC → Bool
  | .drw l => wfQ l && idxQ 0 l
  | .seq a _ b => a.wf && b.wf
  | .cond _ x y => x.wf && y.wf
  | .block _ c => c.wf
  | .loop _ c => c.wf
  | .frz i c => decide (i < 512) && c.wf
  | .mid _ i _ => decide (i < 512)
  | _ => true

abbrev DSt := Ex × Tm × St

def dIter (f : Tm → St → Option DSt) (live : List Nat) : Nat → Tm → St → Option DSt
  | 0, _, _ => none
  | n + 1, T, st => match f (T.keep live) st with
    | some (.normal, T', st') => dIter f live n T' st'
    | r => r

/-- A row in which one temporary is told as a value that stays. -/
def dMidR (P : Program) (call : DCall) (l1 : List EI) (i : Nat) (l2 : List EI) (T : Tm) (st : St) : Option (Tm × St) := match dIs P call l1 T st with
  | some (T1, st1) => match fr st1 6 (T1.at i) with
    | some (x, ts, is) => dIs P call l2 (T1.put i (.fz x)) (st1.still ts is)
    | none => none
  | none => none

def dC (P : Program) (call : DCall) (n : Nat) : DC → Tm → St → Option DSt
  | .skip, T, st => some (.normal, T, st)
  | .reg l, T, st => match dIs P call l T st with
    | some (T', st') => some (.normal, T', st')
    | none => none
  | .drw l, T, st => match dOrd P call l l 0 [] T st with
    | some (T', st') => some (.normal, T', st')
    | none => none
  | .seq a live b, T, st => match dC P call n a T st with
    | some (.normal, T', st') => dC P call n b (T'.keep live) st'
    | r => r
  | .cond c x y, T, st => match deo T c with
    | .fz (.bool true) => dC P call n x T st
    | .fz (.bool false) => dC P call n y T st
    | _ => none
  | .block id c, T, st => match dC P call n c T st with
    | some (.exit j, T', st') => if j = id then some (.normal, T', st') else some (.exit j, T', st')
    | r => r
  | .loop live c, T, st => dIter (dC P call n c) live n T st
  | .exit id, T, st => some (.exit id, T, st)
  | .ret, T, st => some (.ret, T, st)
  | .frz i c, T, st => match fr st 6 (T.at i) with
    | some (x, ts, is) => dC P call n c (T.put i (.fz x)) (st.still ts is)
    | none => none
  | .srt l1 f i d l2, T, st => match dSrtR P call l1 f i d l2 T st with
    | some (T', st') => some (.normal, T', st')
    | none => none
  | .mid l1 i l2, T, st => match dMidR P call l1 i l2 T st with
    | some (T', st') => some (.normal, T', st')
    | none => none

/-- The run's text follows. -/
def CodeFol (f : TT → listHP.σ → Option (ESt listHP)) (g : Tm → St → Option DSt) : Prop := ∀ (T : Tm) (st : St) (x : Ex) (T' : Tm) (st' : St) (c : Ct) (H : Heap) (TE : TT), g T st = some (x, T', st') → SR c st H → TR c H T TE → Small T →
    ∃ c' TE' H', f TE H = some (x, TE', H') ∧ GoesE c st H c' st' H' ∧ TR c' H' T' TE' ∧ Small T'

section
variable {P : Program} {ec : ECall listHP} {call : DCall}

theorem GoesE.trans {c c' c'' : Ct} {st st' st'' : St} {H H' H'' : Heap} (s : SR c st H) (h : GoesE c st H c' st' H') (k : GoesE c' st' H' c'' st'' H'') : GoesE c st H c'' st'' H'' := by
  obtain ⟨W, h⟩ := h
  obtain ⟨W', k⟩ := k
  exact ⟨_, h.trans s k⟩
theorem GoesE.sr {c c' : Ct} {st st' : St} {H H' : Heap} (h : GoesE c st H c' st' H') : SR c' st' H' := by
  obtain ⟨W, h⟩ := h
  exact h.sr

theorem dIter_ok {f : TT → listHP.σ → Option (ESt listHP)} {g : Tm → St → Option DSt} (live : List Nat) (hf : CodeFol f g) : ∀ (n : Nat), CodeFol (eIter f n) (dIter g live n) := by
  intro n
  induction n with
  | zero => intro T st x T' st' c H TE h; cases h
  | succ n ih =>
    intro T st x T' st' c H TE h s hT hs
    simp only [dIter] at h
    simp only [eIter]
    split at h
    · rename_i T1 st1 h1
      obtain ⟨c1, TE1, H1, e1, e2, e3, e4⟩ := hf _ st .normal T1 st1 c H TE h1 s (hT.keep live) (hs.keep live)
      rw [e1]
      obtain ⟨c2, TE2, H2, k1, k2, k3⟩ := ih T1 st1 x T' st' c1 H1 TE1 h e2.sr e3 e4
      exact ⟨c2, TE2, H2, k1, GoesE.trans s e2 k2, k3⟩
    · rename_i hne
      obtain ⟨c1, TE1, H1, e1, e2⟩ := hf _ st x T' st' c H TE h s (hT.keep live) (hs.keep live)
      rw [e1]
      cases x with
      | normal => exact absurd h (hne _ _)
      | exit id => exact ⟨c1, TE1, H1, rfl, e2⟩
      | ret => exact ⟨c1, TE1, H1, rfl, e2⟩

theorem dMidR_ok (hcall : CallFol ec call) {l1 : List EI} {i : Nat} {l2 : List EI} (hi : i < 512) {T : Tm} {st : St} {T' : Tm} {st' : St} {c : Ct} {H : Heap} {TE : TT} (h : dMidR P call l1 i l2 T st = some (T', st')) (s : SR c st H) (hT : TR c H T TE) (hs : Small T) :
    ∃ c' TE' H', eIs P listHP ec (l1 ++ l2) TE H = some (TE', H') ∧ GoesE c st H c' st' H' ∧ TR c' H' T' TE' ∧ Small T' := by
  unfold dMidR at h
  split at h
  · rename_i T1 st1 h1
    obtain ⟨c1, TE1, H1, a1, a2, a3, a4⟩ := dIs_ok hcall l1 T st T1 st1 c H TE h1 s hT hs
    split at h
    · rename_i y ts is hfr
      have g := Goes.still a2.sr ts is
      have hv := fr_rel a2.sr 6 _ _ _ _ _ hfr (a3 i)
      have hT1 : TR (c1.still ts is) H1 (T1.put i (.fz y)) TE1 := fun j => by
        rw [Tm.at_put]
        split
        · rename_i hj
          subst hj
          exact .fz hv
        · exact (a3 j).mono g.step
      obtain ⟨c2, TE2, H2, k1, k2, k3⟩ := dIs_ok hcall l2 _ _ T' st' _ H1 TE1 h g.sr hT1 (a4.put hi _)
      refine ⟨c2, TE2, H2, ?_, GoesE.trans s a2 (GoesE.trans a2.sr ⟨_, g⟩ k2), k3⟩
      rw [eIs_append, a1]
      exact k1
    · cases h
  · cases h

theorem dC_ok (hcall : CallFol ec call) (n : Nat) : ∀ (d : DC), d.wf = true → CodeFol (eC P listHP ec n d.toE) (dC P call n d) := by
  intro d
  induction d with
  | skip => intro _ T st x T' st' c H TE h s hT hs; cases h; exact ⟨c, TE, H, rfl, ⟨[], Goes.refl s⟩, hT, hs⟩
  | reg l =>
    intro _ T st x T' st' c H TE h s hT hs
    simp only [dC] at h
    split at h
    · rename_i T1 st1 h1
      cases h
      obtain ⟨c1, TE1, H1, e1, e2⟩ := dIs_ok hcall l T st _ _ c H TE h1 s hT hs
      exact ⟨c1, TE1, H1, by simp only [DC.toE, eC]; rw [e1], e2⟩
    · cases h
  | drw l =>
    intro hw T st x T' st' c H TE h s hT hs
    simp only [DC.wf, Bool.and_eq_true] at hw
    simp only [dC] at h
    split at h
    · rename_i T1 st1 h1
      cases h
      obtain ⟨c1, TE1, H1, e1, e2⟩ := dOrd_ok hcall (l := l) hw.1 hw.2 l [] [] T st _ _ c H TE rfl h1 s hT hs (fun j hj => by cases hj) (fun j q d hj => absurd hj (Nat.not_lt_zero _))
      exact ⟨c1, TE1, H1, by simp only [DC.toE, eC]; rw [e1], e2⟩
    · cases h
  | seq a live b iha ihb =>
    intro hw T st x T' st' c H TE h s hT hs
    simp only [DC.wf, Bool.and_eq_true] at hw
    simp only [dC] at h
    simp only [DC.toE, eC]
    split at h
    · rename_i T1 st1 h1
      obtain ⟨c1, TE1, H1, e1, e2, e3, e4⟩ := iha hw.1 T st .normal T1 st1 c H TE h1 s hT hs
      rw [e1]
      obtain ⟨c2, TE2, H2, k1, k2, k3⟩ := ihb hw.2 _ st1 x T' st' c1 H1 TE1 h e2.sr (e3.keep live) (e4.keep live)
      exact ⟨c2, TE2, H2, k1, GoesE.trans s e2 k2, k3⟩
    · rename_i hne
      obtain ⟨c1, TE1, H1, e1, e2⟩ := iha hw.1 T st x T' st' c H TE h s hT hs
      rw [e1]
      cases x with
      | normal => exact absurd h (hne _ _)
      | exit id => exact ⟨c1, TE1, H1, rfl, e2⟩
      | ret => exact ⟨c1, TE1, H1, rfl, e2⟩
  | cond k a b iha ihb =>
    intro hw T st x T' st' c H TE h s hT hs
    simp only [DC.wf, Bool.and_eq_true] at hw
    simp only [dC] at h
    simp only [DC.toE, eC]
    have hk := deo_rel hT k
    split at h
    · rename_i hd
      rw [hd] at hk
      have := hk.fz_inv
      generalize eo TE k = vk at this ⊢
      cases this
      exact iha hw.1 T st x T' st' c H TE h s hT hs
    · rename_i hd
      rw [hd] at hk
      have := hk.fz_inv
      generalize eo TE k = vk at this ⊢
      cases this
      exact ihb hw.2 T st x T' st' c H TE h s hT hs
    · cases h
  | block id a ih =>
    intro hw T st x T' st' c H TE h s hT hs
    simp only [dC] at h
    simp only [DC.toE, eC]
    split at h
    · rename_i j T1 st1 h1
      obtain ⟨c1, TE1, H1, e1, e2⟩ := ih hw T st (.exit j) T1 st1 c H TE h1 s hT hs
      rw [e1]
      simp only
      split at h
      · rename_i hj
        cases h
        exact ⟨c1, TE1, H1, by rw [if_pos hj], e2⟩
      · rename_i hj
        cases h
        exact ⟨c1, TE1, H1, by rw [if_neg hj], e2⟩
    · rename_i hne
      obtain ⟨c1, TE1, H1, e1, e2⟩ := ih hw T st x T' st' c H TE h s hT hs
      rw [e1]
      cases x with
      | normal => exact ⟨c1, TE1, H1, rfl, e2⟩
      | exit j => exact absurd h (hne _ _ _)
      | ret => exact ⟨c1, TE1, H1, rfl, e2⟩
  | loop live a ih =>
    intro hw
    exact dIter_ok live (ih hw) n
  | exit id => intro _ T st x T' st' c H TE h s hT hs; cases h; exact ⟨c, TE, H, rfl, ⟨[], Goes.refl s⟩, hT, hs⟩
  | ret => intro _ T st x T' st' c H TE h s hT hs; cases h; exact ⟨c, TE, H, rfl, ⟨[], Goes.refl s⟩, hT, hs⟩
  | srt l1 f i d l2 =>
    intro _ T st x T' st' c H TE h s hT hs
    simp only [dC] at h
    split at h
    · rename_i T1 st1 h1
      cases h
      obtain ⟨c1, TE1, H1, e1, e2⟩ := dSrtR_ok hcall h1 s hT hs
      exact ⟨c1, TE1, H1, by simp only [DC.toE, eC]; rw [e1], e2⟩
    · cases h
  | mid l1 i l2 =>
    intro hw T st x T' st' c H TE h s hT hs
    simp only [DC.wf, decide_eq_true_eq] at hw
    simp only [dC] at h
    split at h
    · rename_i T1 st1 h1
      cases h
      obtain ⟨c1, TE1, H1, e1, e2⟩ := dMidR_ok hcall hw h1 s hT hs
      exact ⟨c1, TE1, H1, by simp only [DC.toE, eC]; rw [e1], e2⟩
    · cases h
  | frz i b ih =>
    intro hw T st x T' st' c H TE h s hT hs
    simp only [DC.wf, Bool.and_eq_true, decide_eq_true_eq] at hw
    simp only [dC] at h
    simp only [DC.toE]
    split at h
    · rename_i y ts is hfr
      have g := Goes.still s ts is
      have hv := fr_rel s 6 _ _ _ _ _ hfr (hT i)
      have hT1 : TR (c.still ts is) H (T.put i (.fz y)) TE := fun j => by
        rw [Tm.at_put]
        split
        · rename_i hj
          subst hj
          exact .fz hv
        · exact (hT j).mono g.step
      obtain ⟨c2, TE2, H2, k1, k2, k3⟩ := ih hw.2 _ _ x T' st' _ H TE h g.sr hT1 (hs.put hw.1 _)
      exact ⟨c2, TE2, H2, k1, GoesE.trans s ⟨_, g⟩ k2, k3⟩
    · cases h

/-! ### Results -/

def dRes (st : St) (T : Tm) : List ERes → Option (List D)
  | [] => some []
  | .tmp i :: r => match dRes st T r with
    | some ds => some (T.at i :: ds)
    | none => none
  | .cell1 i :: r => match T.at i with
    | .ptr j o => match st.S[j]? with
      | some (_, es) => match es[o]? with
        | some d => match dRes st T r with
          | some ds => some (d :: ds)
          | none => none
        | none => none
      | none => none
    | _ => none
  | .celln n i :: r => match T.at i with
    | .ptr j o => match st.S[j]? with
      | some (_, es) => if o + n ≤ es.length then (match dRes st T r with
        | some ds => some (mkAgg ((es.drop o).take n) :: ds)
        | none => none) else none
      | none => none
    | _ => none

def oneOfD : List D → D
  | [d] => d
  | ds => mkTup ds

theorem oneOfD_rel {c : Ct} {H : Heap} {ds : List D} {vs : List V} (h : Row (DR c H) ds vs) : DR c H (oneOfD ds) (oneOf vs) := by
  match ds, vs, h with
  | [], vs, h => rw [h.nil_inv]; exact mkTup_rel Row.nil
  | [d], vs, h =>
    obtain ⟨y, zs, rfl, h1, h2⟩ := h.cons_inv
    rw [h2.nil_inv]
    exact h1
  | d :: e :: r, vs, h =>
    obtain ⟨y, zs, rfl, h1, h2⟩ := h.cons_inv
    obtain ⟨y2, zs2, rfl, h3, h4⟩ := h2.cons_inv
    exact mkTup_rel h

theorem dRes_ok {c : Ct} {st : St} {H : Heap} {T : Tm} {TE : TT} (s : SR c st H) (hT : TR c H T TE) : ∀ (rs : List ERes) (ds : List D), dRes st T rs = some ds → ∃ vs, eRes listHP TE H rs = some vs ∧ Row (DR c H) ds vs
  | [], ds, h => by cases h; exact ⟨[], rfl, Row.nil⟩
  | .tmp i :: r, ds, h => by
    simp only [dRes] at h
    split at h
    · rename_i ds' hds
      cases h
      obtain ⟨vs, h1, h2⟩ := dRes_ok s hT r ds' hds
      exact ⟨_, by simp only [eRes, h1], Row.cons (hT i) h2⟩
    · cases h
  | .cell1 i :: r, ds, h => by
    simp only [dRes] at h
    have hi := hT i
    split at h
    · rename_i j o hd
      rw [hd] at hi
      split at h
      · rename_i w es hS
        split at h
        · rename_i d hdo
          split at h
          · rename_i ds' hds
            cases h
            obtain ⟨vs, h1, h2⟩ := dRes_ok s hT r ds' hds
            obtain ⟨b, k, g1, g2, g3, g4⟩ := s.var_st hS
            simp only [eRes]
            generalize TE.at i = vi at hi ⊢
            cases hi with
            | ptr hv =>
              rw [hv] at g1
              cases g1
              obtain ⟨u, hu, hr⟩ := g3.get hdo
              have := lt_of hu
              have hg : listHP.get H b = some k := g2
              simp only [hg, eLd_some g4 (by omega : o + 1 ≤ k.cells.length), take_one hu, h1]
              exact ⟨_, rfl, Row.cons hr h2⟩
          · cases h
        · cases h
      · cases h
    · cases h
  | .celln n i :: r, ds, h => by
    simp only [dRes] at h
    have hi := hT i
    split at h
    · rename_i j o hd
      rw [hd] at hi
      split at h
      · rename_i w es hS
        split at h
        · rename_i hn
          split at h
          · rename_i ds' hds
            cases h
            obtain ⟨vs, h1, h2⟩ := dRes_ok s hT r ds' hds
            obtain ⟨b, k, g1, g2, g3, g4⟩ := s.var_st hS
            simp only [eRes]
            generalize TE.at i = vi at hi ⊢
            cases hi with
            | ptr hv =>
              rw [hv] at g1
              cases g1
              have hl := g3.1
              have hg : listHP.get H b = some k := g2
              simp only [hg, eLd_some g4 (by omega : o + n ≤ k.cells.length), h1]
              exact ⟨_, rfl, Row.cons (mkAgg_rel ((g3.drop o).take n)) h2⟩
          · cases h
        · cases h
      · cases h
    · cases h

/-! ### Functions -/

inductive Mode where
  | pure
  | vars
  | own

structure DFn where
  nt : Nat
  mode : Mode
  body : DC
  res : List ERes

def startD : List D → Nat → Tm
  | [], _ => []
  | d :: r, i => (i, d) :: startD r (i + 1)

theorem startD_at : ∀ (ds : List D) (i j : Nat), (startD ds i).at j = if i ≤ j ∧ j < i + ds.length then ds.getD (j - i) .dead else .dead
  | [], i, j => by
    rw [if_neg (fun h => by have := h.2; simp only [List.length_nil] at this; omega)]
    rfl
  | d :: r, i, j => by
    simp only [startD, Tm.at]
    by_cases h : i = j
    · subst h
      simp
    · rw [if_neg h, startD_at r (i + 1) j]
      by_cases h2 : i + 1 ≤ j ∧ j < i + 1 + r.length
      · rw [if_pos h2, if_pos (by simp; omega), show j - i = (j - (i + 1)) + 1 by omega]
        simp
      · rw [if_neg h2, if_neg (by simp; omega)]

theorem start_rel {c : Ct} {H : Heap} {ds : List D} {vs : List V} (h : Row (DR c H) ds vs) (hl : ds.length ≤ 512) : TR c H (startD ds 0) (TT.start vs 0 .nil) ∧ Small (startD ds 0) := by
  have hlen := h.1
  constructor
  · intro i
    rw [startD_at]
    split
    · rename_i hi
      have hi' : i < ds.length := by omega
      rw [TT.start_at vs 0 .nil i (by omega) (by omega), if_pos (show 0 ≤ i ∧ i < 0 + vs.length by omega)]
      simp only [Nat.sub_zero]
      obtain ⟨d, hd⟩ := at_of hi'
      obtain ⟨v, hv, hr⟩ := h.get hd
      simp only [List.getD_eq_getElem?_getD, hd, hv, Option.getD_some]
      exact hr
    · exact .dead
  · intro i hi
    rw [startD_at, if_neg (by omega)]

def dBody (P : Program) (call : DCall) (n : Nat) (df : DFn) (ds : List D) (st : St) : Option (D × St) :=
  if ds.length ≤ df.nt ∧ ds.length ≤ 512 then (match dC P call n df.body (startD ds 0) st with
    | some (.exit _, _, _) => none
    | some (_, T, st') => match dRes st' T df.res with
      | some rs => some (oneOfD rs, st')
      | none => none
    | none => none) else none

noncomputable def eBody (P : Program) (ec : ECall listHP) (n : Nat) (df : DFn) (vs : List V) (H : Heap) : Option (V × Heap) :=
  if vs.length ≤ df.nt then (match eC P listHP ec n df.body.toE (TT.start vs 0 .nil) H with
    | some (.exit _, _, _) => none
    | some (_, T, H') => match eRes listHP T H' df.res with
      | some rs => some (oneOf rs, H')
      | none => none
    | none => none) else none

theorem dBody_ok (hcall : CallFol ec call) {n : Nat} {df : DFn} (hw : df.body.wf = true) {ds : List D} {st st' : St} {d : D} (h : dBody P call n df ds st = some (d, st')) {c : Ct} {H : Heap} {vs : List V} (s : SR c st H) (hr : Row (DR c H) ds vs) :
    ∃ c' v H', eBody P ec n df vs H = some (v, H') ∧ GoesE c st H c' st' H' ∧ DR c' H' d v := by
  unfold dBody at h
  split at h
  · rename_i hl
    obtain ⟨hT, hs⟩ := start_rel hr hl.2
    unfold eBody
    rw [if_pos (by rw [← hr.1]; exact hl.1)]
    have go : ∀ (x : Ex) (T : Tm) (st1 : St), (x = .normal ∨ x = .ret) → dC P call n df.body (startD ds 0) st = some (x, T, st1) → (match dRes st1 T df.res with | some rs => some (oneOfD rs, st1) | none => none) = some (d, st') →
        ∃ c' v H', (match eC P listHP ec n df.body.toE (TT.start vs 0 .nil) H with
          | some (.exit _, _, _) => none
          | some (_, T, H') => match eRes listHP T H' df.res with
            | some rs => some (oneOf rs, H')
            | none => none
          | none => none) = some (v, H') ∧ GoesE c st H c' st' H' ∧ DR c' H' d v := by
      intro x T st1 hx h1 h2
      obtain ⟨c1, TE1, H1, e1, e2, e3, e4⟩ := dC_ok hcall n df.body hw _ st x T st1 c H _ h1 s hT hs
      split at h2
      · rename_i rs hrs
        cases h2
        obtain ⟨us, h3, h4⟩ := dRes_ok e2.sr e3 _ _ hrs
        refine ⟨c1, _, H1, ?_, e2, oneOfD_rel h4⟩
        rw [e1]
        rcases hx with rfl | rfl <;> simp only [h3]
      · cases h2
    split at h
    · cases h
    · rename_i x T st1 hne h1
      exact go x T st1 (by
        cases x with
        | normal => exact .inl rfl
        | exit id => exact absurd rfl (hne id)
        | ret => exact .inr rfl) h1 h
    · cases h
  · cases h

/-- A function that reads alone: its arguments stay, it begins with nothing, what it gives stays. -/
def dPure (P : Program) (call : DCall) (n : Nat) (df : DFn) (xs : List F) : Option F := match dBody P call n df (xs.map .fz) ⟨[], [], 0⟩ with
  | some (d, st') => match fr st' 6 d with
    | some (x, _, _) => some x
    | none => none
  | none => none

def callPure (f : List F → Option F) (ds : List D) (st : St) : Option (D × St × List Nat) := match frL (fr st 6) ds with
  | some (xs, ts, is) => match f xs with
    | some x => if x.full.isSome = true then some (.fz x, st, []) else some (.fz x, st.still ts is, [])
    | none => none
  | none => none

def Ct.bare (c : Ct) (ts is : List Nat) : Ct := ⟨c.frz ts is, fun _ => none, fun _ => none, 0⟩

theorem SR.bare {c : Ct} {st : St} {H : Heap} (s : SR c st H) (ts is : List Nat) : SR (c.bare ts is) ⟨[], [], 0⟩ H := by
  refine ⟨rfl, (fun t => by simp [Ct.bare]), (fun t h => absurd rfl h), (fun t b o z h => by cases h), (fun t t' b o z o' z' h => by cases h), (fun i w ds h => by simp at h), (fun i b h => by cases h), (fun i j b h => by cases h), (fun i t b o z h => by cases h), fun b h => ?_⟩
  rcases h with h | ⟨t, _, o, z, h⟩ | ⟨i, _, h⟩
  · exact s.flt b h
  · exact s.own_lt (.inl ⟨t, o, z, h⟩)
  · exact s.own_lt (.inr ⟨i, h⟩)

/-- Behind a call that turned nothing. -/
theorem Goes.behind {c : Ct} {st : St} {H H' : Heap} (s : SR c st H) (fz' : Nat → Prop) (hfz : ∀ b, c.fz b → fz' b) (hnew : ∀ b, fz' b → c.fz b ∨ H.length ≤ b) (hlt : ∀ b, fz' b → b < H'.length) (hH : ∀ b, b < H.length → H'[b]? = H[b]?) (hle : H.length ≤ H'.length) :
    Goes [] c st H { c with fz := fz' } st H' := by
  have hstep : Step c H { c with fz := fz' } H' := ⟨hfz, fun b _ hb => hH b hb, Nat.le_refl _, fun t _ => .inr ⟨rfl, fun b o z h => hH b (s.own_lt (.inl ⟨t, o, z, h⟩))⟩, fun _ _ h => h⟩
  refine ⟨⟨s.nx, s.tl, s.tlt, fun t b o z h => ?_, s.tinj, fun i w ds h => ?_, s.vlt, s.vinj, s.vt, hlt⟩, hstep, hle, fun b hb _ => hH b hb, fun b h => .inl h, fun b h => ?_, fun i b h _ => hH b (s.own_lt (.inr ⟨i, h⟩))⟩
  · obtain ⟨h1, k, hk, h2⟩ := s.tok t b o z h
    have hlt := lt_of hk
    refine ⟨fun h3 => ?_, k, by rw [hH b hlt]; exact hk, h2⟩
    rcases hnew b h3 with h4 | h4
    · exact h1 h4
    · omega
  · obtain ⟨b, k, h1, h2, h3, h4, h5⟩ := s.var i w ds h
    have hlt := lt_of h2
    refine ⟨b, k, h1, by rw [hH b hlt]; exact h2, h3.mono fun _ _ h => h.mono hstep, fun hw => ⟨(h4 hw).1, fun h6 => ?_⟩, fun hw => ⟨(h5 hw).1, hfz b (h5 hw).2⟩⟩
    rcases hnew b h6 with h7 | h7
    · exact (h4 hw).2 h7
    · omega
  · rcases hnew b h with h | h
    · exact .inl h
    · exact .inr (.inr h)

theorem callPure_ok (hcall : CallFol ec call) {n : Nat} {df : DFn} (hw : df.body.wf = true) {ds : List D} {st : St} {r : D × St × List Nat} (h : callPure (dPure P call n df) ds st = some r) {c : Ct} {H : Heap} {vs : List V} (s : SR c st H) (hr : Row (DR c H) ds vs) :
    Fol c st H r (eBody P ec n df vs H) := by
  unfold callPure at h
  split at h
  · rename_i xs ts is hxs
    have hrow := frL_rel (fr_rel s 6) ds vs xs ts is hxs hr
    split at h
    · rename_i x hx
      unfold dPure at hx
      split at hx
      · rename_i d st1 hb
        split at hx
        · rename_i x' ts' is' hfr
          cases hx
          obtain ⟨c1, v, H1, e1, ⟨W, e2⟩, e3⟩ := dBody_ok hcall hw hb (s.bare ts is) (Row.fz (c := c.bare ts is) hrow)
          have hown : ∀ b, ¬ (c.bare ts is).own b := fun b hb => by
            rcases hb with ⟨t, o, z, hb⟩ | ⟨i, hb⟩ <;> cases hb
          have hH : ∀ b, b < H.length → H1[b]? = H[b]? := fun b hb => e2.frame b hb (hown b)
          have hv := fr_rel e2.sr 6 d v x ts' is' hfr e3
          split at h
          · rename_i hfull
            cases h
            obtain ⟨u, hu⟩ := Option.isSome_iff_exists.1 hfull
            have hvu := F.full_rel x v u hv hu
            subst hvu
            exact ⟨_, v, H1, e1, Goes.behind s c.fz (fun _ h => h) (fun b h => .inl h) (fun b h => Nat.lt_of_lt_of_le (s.flt b h) e2.len) hH e2.len, .fz (F.full_any _ _ x v hu)⟩
          · cases h
            have g := Goes.still s ts is
            have hnew : ∀ b, c1.frz ts' is' b → (c.still ts is).fz b ∨ H.length ≤ b := fun b hb => by
              have hc1own : ∀ b, c1.own b → H.length ≤ b := fun b hb => by
                rcases e2.own b hb with h | h
                · exact absurd h (hown b)
                · exact h
              rcases hb with hb | ⟨t, _, o, z, hb⟩ | ⟨i, _, hb⟩
              · rcases e2.fzn b hb with h | h | h
                · exact .inl h
                · exact absurd h (hown b)
                · exact .inr h
              · exact .inr (hc1own b (.inl ⟨t, o, z, hb⟩))
              · exact .inr (hc1own b (.inr ⟨i, hb⟩))
            have hlt : ∀ b, c1.frz ts' is' b → b < H1.length := fun b hb => by
              rcases hb with hb | ⟨t, _, o, z, hb⟩ | ⟨i, _, hb⟩
              · exact e2.sr.flt b hb
              · exact e2.sr.own_lt (.inl ⟨t, o, z, hb⟩)
              · exact e2.sr.own_lt (.inr ⟨i, hb⟩)
            have g2 := Goes.behind g.sr (H' := H1) (c1.frz ts' is') (fun b hb => .inl (e2.step.fz b hb)) hnew hlt hH e2.len
            have g3 := g.trans s g2
            exact ⟨_, v, H1, e1, g3, .fz hv⟩
        · cases hx
      · cases hx
    · cases h
  · cases h

end

end Go.Proofs.Dv

namespace Go.Proofs.Dv
open Go Go.RowKit Go.Proofs.Ev

/-! ### Variables handed on -/

def splitV (st : St) : List D → Nat → Option (List D × List Nat × List Nat × List Nat)
  | [], _ => some ([], [], [], [])
  | d :: r, k => match d with
    | .ptr i 0 => match st.S[i]? with
      | some (true, ds) => match allF ds, splitV st r (k + 1) with
        | some _, some (av, js, ts, is) => some (.ptr k 0 :: av, i :: js, ts, is)
        | _, _ => none
      | _ => none
    | d => match fr st 6 d, splitV st r k with
      | some (x, ts, is), some (av, js, us, ks) => some (.fz x :: av, js, ts ++ us, is ++ ks)
      | _, _ => none

def contents (st : St) : List Nat → Option (List (List F))
  | [] => some []
  | i :: js => match st.S[i]? with
    | some (true, ds) => match allF ds, contents st js with
      | some xs, some r => some (xs :: r)
      | _, _ => none
    | _ => none

def varsOf (cs : List (List F)) : List (Bool × List D) := cs.map fun c => (true, c.map .fz)

def finals : List (Bool × List D) → Nat → Option (List (List F))
  | _, 0 => some []
  | (true, ds) :: r, m + 1 => match allF ds, finals r m with
    | some xs, some rs => some (xs :: rs)
    | _, _ => none
  | _, _ + 1 => none

def updV : List (Bool × List D) → List Nat → List (List F) → List (Bool × List D)
  | S, i :: js, c :: cs => updV (S.set i (true, c.map .fz)) js cs
  | S, _, _ => S

/-- What it gives: a value, or a new variable; what the variables hold then. -/
inductive VRes where
  | val (x : F)
  | var (xs : List F)

def dVars (P : Program) (call : DCall) (n : Nat) (df : DFn) (av : List D) (cs : List (List F)) : Option (VRes × List (List F)) := match dBody P call n df av ⟨varsOf cs, [], 0⟩ with
  | some (d, st') => match finals st'.S cs.length with
    | some cs' => match d with
      | .ptr j 0 => if cs.length ≤ j then (match st'.S[j]? with
        | some (true, ds) => match allF ds with
          | some xs => some (.var xs, cs')
          | none => none
        | _ => none) else none
      | d => match fr st' 6 d with
        | some (x, _, is) => if is.all (fun i => decide (cs.length ≤ i)) = true then some (.val x, cs') else none
        | none => none
    | none => none
  | none => none

def callVars (f : List D → List (List F) → Option (VRes × List (List F))) (ds : List D) (st : St) : Option (D × St × List Nat) := match splitV st ds 0 with
  | some (av, js, ts, is) => if js.Nodup ∧ js.all (fun j => decide (j ∉ is)) = true then (match contents st js with
    | some cs => match f av cs with
      | some (.val x, cs') => some (.fz x, { st.still ts is with S := updV (st.still ts is).S js cs' }, js)
      | some (.var xs, cs') => some (.ptr st.S.length 0, { st.still ts is with S := updV (st.still ts is).S js cs' ++ [(true, xs.map .fz)] }, js)
      | none => none
    | none => none) else none
  | none => none

section
variable {P : Program} {ec : ECall listHP} {call : DCall} {c : Ct} {st : St} {H : Heap}

theorem allF_map : ∀ (ds : List D) (xs : List F), allF ds = some xs → ds = xs.map .fz
  | [], xs, h => by cases h; rfl
  | d :: ds, xs, h => by
    cases d <;> simp only [allF] at h <;> try (cases h; done)
    split at h
    · rename_i ys hys
      cases h
      rw [allF_map ds ys hys]
      rfl
    · cases h

theorem contents_get : ∀ (js : List Nat) (cs : List (List F)), contents st js = some cs → js.length = cs.length ∧ ∀ (k i : Nat) (xs : List F), js[k]? = some i → cs[k]? = some xs → st.S[i]? = some (true, xs.map .fz)
  | [], cs, h => by cases h; exact ⟨rfl, fun k i xs h => by simp at h⟩
  | j :: js, cs, h => by
    simp only [contents] at h
    split at h
    · rename_i ds hS
      split at h
      · rename_i xs r hxs hr
        cases h
        obtain ⟨h1, h2⟩ := contents_get js r hr
        refine ⟨by simp [h1], fun k i ys hk hy => ?_⟩
        cases k with
        | zero => simp at hk hy; subst hk; subst hy; rw [hS, allF_map ds xs hxs]
        | succ k => exact h2 k i ys (by simpa using hk) (by simpa using hy)
      · cases h
    · cases h

theorem finals_get : ∀ (S : List (Bool × List D)) (m : Nat) (cs : List (List F)), finals S m = some cs → cs.length = m ∧ ∀ (k : Nat) (xs : List F), cs[k]? = some xs → S[k]? = some (true, xs.map .fz)
  | S, 0, cs, h => by
    have : cs = [] := by cases S <;> (simp [finals] at h; exact h.symm ▸ rfl)
    subst this
    exact ⟨rfl, fun k xs h => by simp at h⟩
  | [], m + 1, cs, h => by simp [finals] at h
  | (w, ds) :: r, m + 1, cs, h => by
    cases w with
    | false => simp [finals] at h
    | true =>
      simp only [finals] at h
      split at h
      · rename_i xs rs hxs hrs
        cases h
        obtain ⟨h1, h2⟩ := finals_get r m rs hrs
        refine ⟨by simp [h1], fun k ys hk => ?_⟩
        cases k with
        | zero => simp at hk; subst hk; simp [allF_map ds xs hxs]
        | succ k => simpa using h2 k ys (by simpa using hk)
      · cases h

theorem updV_len : ∀ (S : List (Bool × List D)) (js : List Nat) (cs : List (List F)), (updV S js cs).length = S.length
  | S, [], cs => rfl
  | S, i :: js, [] => rfl
  | S, i :: js, c :: cs => by rw [updV, updV_len]; simp

theorem updV_other : ∀ (S : List (Bool × List D)) (js : List Nat) (cs : List (List F)) (i : Nat), i ∉ js → (updV S js cs)[i]? = S[i]?
  | S, [], cs, i, h => rfl
  | S, j :: js, [], i, h => rfl
  | S, j :: js, c :: cs, i, h => by
    simp only [List.mem_cons, not_or] at h
    rw [updV, updV_other _ js cs i h.2, List.getElem?_set_ne (fun e => h.1 e.symm)]

theorem updV_at : ∀ (S : List (Bool × List D)) (js : List Nat) (cs : List (List F)), js.Nodup → ∀ (k i : Nat) (xs : List F), js[k]? = some i → cs[k]? = some xs → i < S.length → (updV S js cs)[i]? = some (true, xs.map .fz)
  | S, [], cs, _, k, i, xs, h, _, _ => by simp at h
  | S, j :: js, [], _, k, i, xs, _, h, _ => by simp at h
  | S, j :: js, c :: cs, hn, k, i, xs, hk, hx, hi => by
    rw [List.nodup_cons] at hn
    rw [updV]
    cases k with
    | zero =>
      simp at hk hx
      subst hk
      subst hx
      rw [updV_other _ js cs _ hn.1, List.getElem?_set_self hi]
    | succ k => exact updV_at _ js cs hn.2 k i xs (by simpa using hk) (by simpa using hx) (by simpa using hi)

theorem nodup_at {α : Type} : ∀ (l : List α), l.Nodup → ∀ (k k' : Nat) (i : α), l[k]? = some i → l[k']? = some i → k = k'
  | [], _, k, k', i, h, _ => by simp at h
  | a :: l, hn, k, k', i, h, h' => by
    rw [List.nodup_cons] at hn
    cases k with
    | zero =>
      cases k' with
      | zero => rfl
      | succ k' =>
        simp at h h'
        subst h
        exact absurd (List.mem_of_getElem? h') hn.1
    | succ k =>
      cases k' with
      | zero =>
        simp at h h'
        subst h'
        exact absurd (List.mem_of_getElem? h) hn.1
      | succ k' => rw [nodup_at l hn.2 k k' i (by simpa using h) (by simpa using h')]

theorem splitV_rel (s : SR c st H) : ∀ (ds : List D) (vs : List V) (k : Nat) (av : List D) (js ts is : List Nat), splitV st ds k = some (av, js, ts, is) → Row (DR c H) ds vs →
    ∀ (c' : Ct), (∀ b, c.frz ts is b → c'.fz b) → (∀ (q i b : Nat), js[q]? = some i → c.vr i = some b → c'.vr (k + q) = some b) → Row (DR c' H) av vs
  | [], vs, k, av, js, ts, is, h, r, c', _, _ => by cases h; rw [r.nil_inv]; exact Row.nil
  | d :: ds, vs, k, av, js, ts, is, h, r, c', hf, hv => by
    obtain ⟨y, zs, rfl, h1, h2⟩ := r.cons_inv
    have other : ∀ (x : F) (ts' is' us ks : List Nat) (bs : List D), fr st 6 d = some (x, ts', is') → splitV st ds k = some (bs, js, us, ks) → av = .fz x :: bs → ts = ts' ++ us → is = is' ++ ks → Row (DR c' H) av (y :: zs) := by
      intro x ts' is' us ks bs e1 e2 e3 e4 e5
      subst e3 e4 e5
      refine Row.cons (.fz ((fr_rel s 6 d y x ts' is' e1 h1).up fun b hb => hf b (Ct.frz_mono (fun _ h => List.mem_append_left _ h) (fun _ h => List.mem_append_left _ h) hb))) ?_
      exact splitV_rel s ds zs k bs js us ks e2 h2 c' (fun b hb => hf b (Ct.frz_mono (fun _ h => List.mem_append_right _ h) (fun _ h => List.mem_append_right _ h) hb)) hv
    simp only [splitV] at h
    split at h
    · rename_i i
      split at h
      · rename_i ds' hS
        split at h
        · rename_i xs av' js' ts' is' hxs hrec
          cases h
          cases h1 with
          | @ptr _ _ b hvr =>
            refine Row.cons (.ptr (by simpa using hv 0 i b rfl hvr)) ?_
            exact splitV_rel s ds zs (k + 1) av' js' ts is hrec h2 c' hf fun q j b' hq hb => by
              have := hv (q + 1) j b' (by simpa using hq) hb
              rwa [show k + (q + 1) = k + 1 + q by omega] at this
        · cases h
      · cases h
    · split at h
      · rename_i x ts' is' av' js' us ks hfr hrec
        cases h
        exact other x ts' is' us ks av' hfr hrec rfl rfl rfl
      · cases h

/-- Behind a call that turned some variables. -/
theorem Goes.vars (s : SR c st H) (ts is js : List Nat) (hn : js.Nodup) (hd : ∀ j ∈ js, j ∉ is) (cs : List (List F)) (hjl : js.length = cs.length) (hin : ∀ j ∈ js, ∃ ds, st.S[j]? = some (true, ds))
    (fz' : Nat → Prop) {H' : Heap} (h1 : ∀ b, c.frz ts is b → fz' b) (h2 : ∀ b, fz' b → c.frz ts is b ∨ H.length ≤ b) (h3 : ∀ b, b < H.length → (∀ i ∈ js, c.vr i ≠ some b) → H'[b]? = H[b]?)
    (h4 : ∀ (k i b : Nat) (xs : List F), js[k]? = some i → c.vr i = some b → cs[k]? = some xs → ∃ blk, H'[b]? = some blk ∧ 2 ≤ blk.st ∧ Row (FR fz' H') xs blk.cells) (h5 : ∀ b, fz' b → b < H'.length) (h6 : H.length ≤ H'.length) :
    Goes js c st H { c.still ts is with fz := fz' } { st.still ts is with S := updV (st.still ts is).S js cs } H' := by
  have d := (Goes.still s ts is).sr
  have hjs : ∀ i ∈ js, ∃ k, js[k]? = some i := fun i hi => List.mem_iff_getElem?.1 hi
  have nofr : ∀ i b, i ∈ js → c.vr i = some b → ¬ c.frz ts is b := by
    rintro i b hi hb (h | ⟨t, _, o, z, h⟩ | ⟨j, hj, h⟩)
    · obtain ⟨ds, hS⟩ := hin i hi
      obtain ⟨b', k, g1, g2, g3, g4, g5⟩ := s.var i true ds hS
      rw [hb] at g1
      cases g1
      exact (g4 rfl).2 h
    · exact s.vt i t b o z hb h
    · exact hd i hi (by rw [s.vinj i j b hb h]; exact hj)
  have keepF : ∀ b, c.frz ts is b → b < H.length → H'[b]? = H[b]? := fun b hb hlt => h3 b hlt fun i hi hv => nofr i b hi hv hb
  have tokKeep : ∀ t b o z, c.tk t = some (some (b, o, z)) → H'[b]? = H[b]? := fun t b o z h => h3 b (s.own_lt (.inl ⟨t, o, z, h⟩)) fun i hi hv => s.vt i t b o z hv h
  have hstep : Step c H { c.still ts is with fz := fz' } H' := by
    refine ⟨fun b h => h1 b (.inl h), fun b h hlt => keepF b (.inl h) hlt, Nat.le_refl _, fun t ht => ?_, fun _ _ h => h⟩
    rcases (Step.drop c H ts).tk t ht with h | ⟨h, _⟩
    · exact .inl h
    · exact .inr ⟨h, fun b o z hb => tokKeep t b o z hb⟩
  have hstep2 : Step (c.still ts is) H { c.still ts is with fz := fz' } H' := by
    refine ⟨h1, keepF, Nat.le_refl _, fun t ht => .inr ⟨rfl, fun b o z hb => tokKeep t b o z (drop_tk hb).2⟩, fun _ _ h => h⟩
  refine ⟨⟨d.nx, d.tl, d.tlt, fun t b o z h => ?_, d.tinj, fun i w ds h => ?_, fun i b h => by simp only [updV_len]; exact d.vlt i b h, s.vinj, d.vt, h5⟩, hstep, h6, fun b hb hno => h3 b hb fun i hi hv => hno (.inr ⟨i, hv⟩), fun b h => ?_, fun b h => ?_, fun i b h hi => h3 b (s.own_lt (.inr ⟨i, h⟩)) fun j hj hv => hi (by rw [s.vinj i j b h hv]; exact hj)⟩
  · obtain ⟨k1, k, hk, k2⟩ := d.tok t b o z h
    refine ⟨fun hf => ?_, k, by rw [tokKeep t b o z (drop_tk h).2]; exact hk, k2⟩
    rcases h2 b hf with hf | hf
    · exact k1 hf
    · have := lt_of hk; omega
  · by_cases hi : i ∈ js
    · obtain ⟨k, hk⟩ := hjs i hi
      have hkl := lt_of hk
      obtain ⟨xs, hxs⟩ := at_of (xs := cs) (i := k) (by omega)
      obtain ⟨ds0, hS⟩ := hin i hi
      have hil : i < (st.still ts is).S.length := by simp only [St.still, List.length_mapIdx]; exact lt_of hS
      have h' : (updV (st.still ts is).S js cs)[i]? = some (w, ds) := h
      rw [updV_at _ js cs hn k i xs hk hxs hil] at h'
      cases h'
      obtain ⟨b, kb, g1, g2, _⟩ := s.var i true ds0 hS
      obtain ⟨blk, q1, q2, q3⟩ := h4 k i b xs hk g1 hxs
      refine ⟨b, blk, g1, q1, Row.fz q3, fun _ => ⟨q2, fun hf => ?_⟩, fun h => by cases h⟩
      rcases h2 b hf with hf | hf
      · exact nofr i b hi g1 hf
      · have := lt_of g2; omega
    · have h' : (updV (st.still ts is).S js cs)[i]? = some (w, ds) := h
      rw [updV_other _ js cs i hi] at h'
      obtain ⟨b, k, g1, g2, g3, g4, g5⟩ := d.var i w ds h'
      have hbk : H'[b]? = H[b]? := h3 b (lt_of g2) fun j hj hv => hi (by rw [s.vinj i j b g1 hv]; exact hj)
      refine ⟨b, k, g1, by rw [hbk]; exact g2, g3.mono fun _ _ h => h.mono hstep2, fun hw => ⟨(g4 hw).1, fun hf => ?_⟩, fun hw => ⟨(g5 hw).1, h1 b (g5 hw).2⟩⟩
      rcases h2 b hf with hf | hf
      · exact (g4 hw).2 hf
      · have := lt_of g2; omega
  · rcases h with ⟨t, o, z, h⟩ | h
    · exact .inl (.inl ⟨t, o, z, (drop_tk h).2⟩)
    · exact .inl (.inr h)
  · rcases h2 b h with h | h
    · rcases h with h | ⟨t, _, o, z, h⟩ | ⟨i, _, h⟩
      · exact .inl h
      · exact .inr (.inl (.inl ⟨t, o, z, h⟩))
      · exact .inr (.inl (.inr ⟨i, h⟩))
    · exact .inr (.inr h)

/-- One more variable, in a new block. -/
theorem Goes.more {W : List Nat} {c' : Ct} {st' : St} {H' : Heap} (s : SR c st H) (g : Goes W c st H c' st' H') {b : Nat} {blk : Blk} (hb : H.length ≤ b) (hk : H'[b]? = some blk) (hst : 2 ≤ blk.st) (hf : ¬ c'.fz b) (hno : ¬ c'.own b) {ds : List D} (hr : Row (DR c' H') ds blk.cells) :
    Goes W c st H { c' with vr := fun i => if i = st'.S.length then some b else c'.vr i } { st' with S := st'.S ++ [(true, ds)] } H' := by
  have hstep0 : Step c' H' { c' with vr := fun i => if i = st'.S.length then some b else c'.vr i } H' := by
    refine ⟨fun _ h => h, fun _ _ _ => rfl, Nat.le_refl _, fun t _ => .inr ⟨rfl, fun _ _ _ _ => rfl⟩, fun i x h => ?_⟩
    have := g.sr.vlt i x h
    show (if i = st'.S.length then _ else _) = _
    rw [if_neg (by omega)]
    exact h
  have hvr : ∀ i x, (if i = st'.S.length then some b else c'.vr i) = some x → (i = st'.S.length ∧ x = b) ∨ (i < st'.S.length ∧ c'.vr i = some x) := fun i x h => by
    split at h
    · rename_i hi; cases h; exact .inl ⟨hi, rfl⟩
    · exact .inr ⟨g.sr.vlt i x h, h⟩
  refine ⟨⟨g.sr.nx, g.sr.tl, g.sr.tlt, g.sr.tok, g.sr.tinj, fun i w es h => ?_, fun i x h => ?_, fun i j x hi hj => ?_, fun i t x o z hi ht => ?_, g.sr.flt⟩, ⟨g.step.fz, g.step.keep, g.step.nx, g.step.tk, fun i x h => hstep0.vr i x (g.step.vr i x h)⟩, g.len, g.frame, fun x h => ?_, g.fzn, g.vkeep⟩
  · rw [List.getElem?_append] at h
    split at h
    · obtain ⟨x, k, h1, h2, h3, h4⟩ := g.sr.var i w es h
      exact ⟨x, k, hstep0.vr i x h1, h2, h3.mono fun _ _ h => h.mono hstep0, h4⟩
    · rename_i hge
      have hi : i = st'.S.length := by
        have := lt_of h
        simp at this
        omega
      subst hi
      simp at h
      obtain ⟨rfl, rfl⟩ := h
      exact ⟨b, blk, by simp, hk, hr.mono fun _ _ h => h.mono hstep0, fun _ => ⟨hst, hf⟩, fun h => by cases h⟩
  · rcases hvr i x h with ⟨rfl, _⟩ | ⟨h, _⟩ <;> simp <;> omega
  · rcases hvr i x hi with ⟨rfl, rfl⟩ | ⟨h1, h2⟩ <;> rcases hvr j _ hj with ⟨rfl, h3⟩ | ⟨h3, h4⟩
    · rfl
    · exact absurd (.inr ⟨j, h4⟩) hno
    · subst h3
      exact absurd (.inr ⟨i, h2⟩) hno
    · exact g.sr.vinj i j x h2 h4
  · rcases hvr i x hi with ⟨rfl, rfl⟩ | ⟨h1, h2⟩
    · exact hno (.inl ⟨t, o, z, ht⟩)
    · exact g.sr.vt i t x o z h2 ht
  · rcases h with ⟨t, o, z, h⟩ | ⟨i, h⟩
    · exact g.own x (.inl ⟨t, o, z, h⟩)
    · rcases hvr i x h with ⟨rfl, rfl⟩ | ⟨_, h2⟩
      · exact .inr hb
      · exact g.own x (.inr ⟨i, h2⟩)

theorem splitV_js : ∀ (ds : List D) (k : Nat) (av : List D) (js ts is : List Nat), splitV st ds k = some (av, js, ts, is) → ∀ j ∈ js, ∃ es, st.S[j]? = some (true, es)
  | [], k, av, js, ts, is, h, j, hj => by cases h; cases hj
  | d :: ds, k, av, js, ts, is, h, j, hj => by
    simp only [splitV] at h
    split at h
    · rename_i i
      split at h
      · rename_i ds' hS
        split at h
        · rename_i xs av' js' ts' is' hxs hrec
          cases h
          rcases List.mem_cons.1 hj with rfl | hj
          · exact ⟨_, hS⟩
          · exact splitV_js ds (k + 1) av' js' ts is hrec j hj
        · cases h
      · cases h
    · split at h
      · rename_i x ts' is' av' js' us ks hfr hrec
        cases h
        exact splitV_js ds k av' js us ks hrec j hj
      · cases h

theorem callVars_ok (hcall : CallFol ec call) {n : Nat} {df : DFn} (hw : df.body.wf = true) {ds : List D} {r : D × St × List Nat} (h : callVars (dVars P call n df) ds st = some r) {vs : List V} (s : SR c st H) (hr : Row (DR c H) ds vs) :
    Fol c st H r (eBody P ec n df vs H) := by
  unfold callVars at h
  split at h
  case h_2 => cases h
  rename_i av js ts is hsp
  split at h
  case isFalse => cases h
  rename_i hc
  obtain ⟨hnd, hdis⟩ := hc
  rw [List.all_eq_true] at hdis
  have hdis' : ∀ j ∈ js, j ∉ is := fun j hj => by simpa using hdis j hj
  split at h
  case h_2 => cases h
  rename_i cs hcs
  obtain ⟨hjl, hct⟩ := contents_get js cs hcs
  have hin := splitV_js ds 0 av js ts is hsp
  -- the callee's view
  let cc : Ct := ⟨c.frz ts is, fun _ => none, fun k => match js[k]? with | some i => c.vr i | none => none, 0⟩
  have hvr : ∀ (k i : Nat) (b : Nat), js[k]? = some i → (cc.vr k = some b ↔ c.vr i = some b) := fun k i b hk => by
    show (match js[k]? with | some i => c.vr i | none => none) = some b ↔ _
    rw [hk]
  have hvr2 : ∀ k b, cc.vr k = some b → ∃ i, js[k]? = some i ∧ c.vr i = some b := fun k b hb => by
    have hb' : (match js[k]? with | some i => c.vr i | none => none) = some b := hb
    cases hk : js[k]? with
    | none => rw [hk] at hb'; cases hb'
    | some i => rw [hk] at hb'; exact ⟨i, rfl, hb'⟩
  have nofr : ∀ i b, i ∈ js → c.vr i = some b → ¬ c.frz ts is b := by
    rintro i b hi hb (h | ⟨t, _, o, z, h⟩ | ⟨j, hj, h⟩)
    · obtain ⟨ds, hS⟩ := hin i hi
      obtain ⟨b', k, g1, g2, g3, g4, g5⟩ := s.var i true ds hS
      rw [hb] at g1
      cases g1
      exact (g4 rfl).2 h
    · exact s.vt i t b o z hb h
    · exact hdis' i hi (by rw [s.vinj i j b hb h]; exact hj)
  have scc : SR cc ⟨varsOf cs, [], 0⟩ H := by
    refine ⟨rfl, (fun t => by simp [cc]), (fun t h => absurd rfl h), (fun t b o z h => by cases h), (fun t t' b o z o' z' h => by cases h), fun k w es hk => ?_, fun k b hb => ?_, fun k k' b hb hb' => ?_, (fun k t b o z _ h => by cases h), fun b hb => ?_⟩
    · have hk' : (cs.map fun c => ((true : Bool), c.map D.fz))[k]? = some (w, es) := hk
      rw [List.getElem?_map] at hk'
      cases hck : cs[k]? with
      | none => rw [hck] at hk'; cases hk'
      | some xs =>
        rw [hck] at hk'
        cases hk'
        obtain ⟨i, hi⟩ := at_of (xs := js) (i := k) (by rw [hjl]; exact lt_of hck)
        have hS := hct k i xs hi hck
        obtain ⟨b, blk, g1, g2, g3, g4, g5⟩ := s.var i true _ hS
        refine ⟨b, blk, (hvr k i b hi).2 g1, g2, ?_, fun _ => ⟨(g4 rfl).1, nofr i b (List.mem_of_getElem? hi) g1⟩, fun h => by cases h⟩
        refine ⟨g3.1, fun q x y hx hy => ?_⟩
        have := g3.2 q x y hx hy
        rw [List.getElem?_map] at hx
        cases hq : xs[q]? with
        | none => rw [hq] at hx; cases hx
        | some x' => rw [hq] at hx; cases hx; exact .fz (this.fz_inv.up fun b hb => .inl hb)
    · obtain ⟨i, hi, _⟩ := hvr2 k b hb
      show k < (varsOf cs).length
      simp only [varsOf, List.length_map, ← hjl]
      exact lt_of hi
    · obtain ⟨i, hi, h1⟩ := hvr2 k b hb
      obtain ⟨i', hi', h2⟩ := hvr2 k' b hb'
      have := s.vinj i i' b h1 h2
      subst this
      exact nodup_at js hnd k k' i hi hi'
    · rcases hb with h | ⟨t, _, o, z, h⟩ | ⟨i, _, h⟩
      · exact s.flt b h
      · exact s.own_lt (.inl ⟨t, o, z, h⟩)
      · exact s.own_lt (.inr ⟨i, h⟩)
  have hrow : Row (DR cc H) av vs := splitV_rel s ds vs 0 av js ts is hsp hr cc (fun b hb => hb) fun q i b hq hb => by
    rw [Nat.zero_add]
    exact (hvr q i b hq).2 hb
  -- the call
  have main : ∀ (d : D) (st1 : St) (cs' : List (List F)), dBody P call n df av ⟨varsOf cs, [], 0⟩ = some (d, st1) → finals st1.S cs.length = some cs' → ∃ c1 v H1, eBody P ec n df vs H = some (v, H1) ∧ SR c1 st1 H1 ∧ DR c1 H1 d v ∧ (∀ b, c1.own b → (∃ k, k < cs.length ∧ c1.vr k = some b) ∨ H.length ≤ b) ∧
      (∀ (fz' : Nat → Prop), (∀ b, c1.fz b → fz' b) → (∀ b, fz' b → c1.fz b ∨ (c1.own b ∧ ∀ k, k < cs.length → c1.vr k ≠ some b)) → Goes js c st H { c.still ts is with fz := fz' } { st.still ts is with S := updV (st.still ts is).S js cs' } H1) := by
    intro d st1 cs' hb hfin
    obtain ⟨c1, v, H1, e1, ⟨W, e2⟩, e3⟩ := dBody_ok hcall hw hb scc hrow
    obtain ⟨hcl, hcf⟩ := finals_get st1.S cs.length cs' hfin
    have hown : ∀ b, cc.own b → ∃ i ∈ js, c.vr i = some b := fun b hb => by
      rcases hb with ⟨t, o, z, hb⟩ | ⟨k, hb⟩
      · cases hb
      · obtain ⟨i, hi, h1⟩ := hvr2 k b hb
        exact ⟨i, List.mem_of_getElem? hi, h1⟩
    refine ⟨c1, v, H1, e1, e2.sr, e3, fun b hb => ?_, fun fz' k1 k2 => ?_⟩
    · rcases e2.own b hb with h | h
      · rcases h with ⟨t, o, z, h⟩ | ⟨k, h⟩
        · cases h
        · obtain ⟨i, hi, _⟩ := hvr2 k b h
          exact .inl ⟨k, by rw [← hjl]; exact lt_of hi, e2.step.vr k b h⟩
      · exact .inr h
    have varAt : ∀ (k i b : Nat) (xs : List F), js[k]? = some i → c.vr i = some b → cs'[k]? = some xs → ∃ blk, c1.vr k = some b ∧ H1[b]? = some blk ∧ Row (DR c1 H1) (xs.map .fz) blk.cells ∧ 2 ≤ blk.st ∧ ¬ c1.fz b := fun k i b xs hk hv hx => by
      obtain ⟨b', blk, g1, g2, g3, g4, g5⟩ := e2.sr.var k true _ (hcf k xs hx)
      have := e2.step.vr k b ((hvr k i b hk).2 hv)
      rw [this] at g1
      cases g1
      exact ⟨blk, this, g2, g3, (g4 rfl).1, (g4 rfl).2⟩
    refine Goes.vars s ts is js hnd hdis' cs' (by rw [hjl, hcl]) hin fz' (fun b hb => k1 b (e2.step.fz b hb)) (fun b hb => ?_) (fun b hlt hno => e2.frame b hlt fun hb => ?_) (fun k i b xs hk hv hx => ?_) (fun b hb => ?_) e2.len
    · rcases k2 b hb with hb | ⟨hb, hno⟩
      · rcases e2.fzn b hb with h | h | h
        · exact .inl h
        · obtain ⟨i, hi, hv⟩ := hown b h
          obtain ⟨k, hk⟩ := List.mem_iff_getElem?.1 hi
          obtain ⟨xs, hxs⟩ := at_of (xs := cs') (i := k) (by rw [hcl, ← hjl]; exact lt_of hk)
          obtain ⟨blk, _, _, _, _, h9⟩ := varAt k i b xs hk hv hxs
          exact absurd hb h9
        · exact .inr h
      · rcases e2.own b hb with h | h
        · obtain ⟨i, hi, hv⟩ := hown b h
          obtain ⟨k, hk⟩ := List.mem_iff_getElem?.1 hi
          exact absurd (e2.step.vr k b ((hvr k i b hk).2 hv)) (hno k (by rw [← hjl]; exact lt_of hk))
        · exact .inr h
    · obtain ⟨i, hi, hv⟩ := hown b hb
      exact hno i hi hv
    · obtain ⟨blk, h7, h8, h9, h10, _⟩ := varAt k i b xs hk hv hx
      refine ⟨blk, h8, h10, ⟨by have := h9.1; simpa using this, fun q x y hx2 hy => ?_⟩⟩
      have := h9.2 q (.fz x) y (by rw [List.getElem?_map, hx2]; rfl) hy
      exact this.fz_inv.up k1
    · rcases k2 b hb with hb | ⟨hb, _⟩
      · exact e2.sr.flt b hb
      · exact e2.sr.own_lt hb
  split at h
  · rename_i x cs' hf
    cases h
    unfold dVars at hf
    split at hf
    case h_2 => cases hf
    rename_i d st1 hb
    split at hf
    case h_2 => cases hf
    rename_i cs2 hfin
    obtain ⟨c1, v, H1, e1, e2, e3, e5, e4⟩ := main d st1 cs2 hb hfin
    split at hf
    · split at hf
      · split at hf
        · split at hf
          · cases hf
          · cases hf
        · cases hf
      · cases hf
    · split at hf
      · rename_i x' ts' is' hfr
        split at hf
        · rename_i hal
          cases hf
          rw [List.all_eq_true] at hal
          have hv := fr_rel e2 6 d v x ts' is' hfr e3
          refine ⟨_, v, H1, e1, e4 (c1.frz ts' is') (fun b hb => .inl hb) (fun b hb => ?_), .fz hv⟩
          rcases hb with hb | ⟨t, _, o, z, hb⟩ | ⟨i, hi, hb⟩
          · exact .inl hb
          · exact .inr ⟨.inl ⟨t, o, z, hb⟩, fun k hk hv => e2.vt k t b o z hv hb⟩
          · refine .inr ⟨.inr ⟨i, hb⟩, fun k hk hv => ?_⟩
            have := e2.vinj i k b hb hv
            have := hal i hi
            simp only [decide_eq_true_eq] at this
            omega
        · cases hf
      · cases hf
  · rename_i xs cs' hf
    cases h
    unfold dVars at hf
    split at hf
    case h_2 => cases hf
    rename_i d st1 hb
    split at hf
    case h_2 => cases hf
    rename_i cs2 hfin
    obtain ⟨c1, v, H1, e1, e2, e3, e5, e4⟩ := main d st1 cs2 hb hfin
    split at hf
    · rename_i j
      split at hf
      · rename_i hj
        split at hf
        · rename_i es hS
          split at hf
          · rename_i xs' hxs
            cases hf
            have g := e4 c1.fz (fun b hb => hb) (fun b hb => .inl hb)
            obtain ⟨b, blk, g1, g2, g3, g4, g5⟩ := e2.var j true es hS
            have hge : H.length ≤ b := by
              rcases e5 b (.inr ⟨j, g1⟩) with ⟨k, hk, hv⟩ | h
              · have := e2.vinj j k b g1 hv
                omega
              · exact h
            have hno : ¬ ({ c.still ts is with fz := c1.fz } : Ct).own b := fun ho => by
              have : c.own b := by
                rcases ho with ⟨t, o, z, ho⟩ | ho
                · exact .inl ⟨t, o, z, (drop_tk ho).2⟩
                · exact .inr ho
              have := s.own_lt this
              omega
            have hxs' := allF_map es xs hxs
            subst hxs'
            have hrow2 : Row (DR { c.still ts is with fz := c1.fz } H1) (xs.map .fz) blk.cells := by
              refine Row.fz (c := { c.still ts is with fz := c1.fz }) ⟨by have := g3.1; simpa using this, fun q x y hx hy => ?_⟩
              exact (g3.2 q (.fz x) y (by rw [List.getElem?_map, hx]; rfl) hy).fz_inv
            have g' := Goes.more s g hge g2 (g4 rfl).1 (g4 rfl).2 hno hrow2
            have hlen : (updV (st.still ts is).S js cs').length = st.S.length := by rw [updV_len]; simp [St.still]
            cases e3 with
            | @ptr _ _ b' hv =>
              rw [g1] at hv
              cases hv
              refine ⟨_, _, H1, e1, g', .ptr ?_⟩
              show (if st.S.length = (updV (st.still ts is).S js cs').length then _ else _) = _
              rw [if_pos hlen.symm]
          · cases hf
        · cases hf
      · cases hf
    · split at hf
      · split at hf
        · cases hf
        · cases hf
      · cases hf
  · cases h

end

end Go.Proofs.Dv

namespace Go.Proofs.Dv
open Go Go.RowKit Go.Proofs.Ev

/-- A value of which some slices may be one's own. -/
inductive O where
  | fz (x : F)
  | nils
  | ow (z : Nat) (es : List (List F))
  | agg (os : List O)
  | tup (os : List O)
  deriving Inhabited

mutual
def O.cnt : O → Nat
  | .fz _ => 0
  | .nils => 0
  | .ow _ _ => 1
  | .agg os => O.cntL os
  | .tup os => O.cntL os
def O.cntL : List O → Nat
  | [] => 0
  | o :: r => O.cnt o + O.cntL r
end

mutual
def giveO : Nat → O → D
  | _, .fz x => .fz x
  | _, .nils => .nils
  | k, .ow z es => .ow k 0 z es
  | k, .agg os => mkAgg (giveL k os)
  | k, .tup os => mkTup (giveL k os)
def giveL : Nat → List O → List D
  | _, [] => []
  | k, o :: r => giveO k o :: giveL (k + O.cnt o) r
end

def takeL (f : D → Option (O × List (Nat × Nat) × List Nat × List Nat)) : List D → Option (List O × List (Nat × Nat) × List Nat × List Nat)
  | [] => some ([], [], [], [])
  | d :: r => match f d with
    | some (o, mv, ts, is) => match takeL f r with
      | some (os, nv, us, js) => some (o :: os, mv ++ nv, ts ++ us, is ++ js)
      | none => none
    | none => none

def takeO (st : St) : Nat → D → Option (O × List (Nat × Nat) × List Nat × List Nat)
  | _, .nils => some (.nils, [], [], [])
  | _, .fz x => some (.fz x, [], [], [])
  | _, .ow t q z es => if t ∈ st.L then some (.ow z es, [(t, q)], [], []) else none
  | n + 1, .agg ds => match takeL (takeO st n) ds with
    | some (os, mv, ts, is) => some (.agg os, mv, ts, is)
    | none => none
  | n + 1, .tup ds => match takeL (takeO st n) ds with
    | some (os, mv, ts, is) => some (.tup os, mv, ts, is)
    | none => none
  | _, d => match fr st 6 d with
    | some (x, ts, is) => some (.fz x, [], ts, is)
    | none => none

def newL : Nat → Nat → List Nat
  | _, 0 => []
  | k, n + 1 => k :: newL (k + 1) n

def aliveMv (mv : List (Nat × Nat)) (ts : List Nat) : Prop := (mv.map (·.1)).Nodup ∧ (mv.all fun p => decide (p.1 ∉ ts)) = true
instance (mv : List (Nat × Nat)) (ts : List Nat) : Decidable (aliveMv mv ts) := inferInstanceAs (Decidable (_ ∧ _))

def dOwn (P : Program) (call : DCall) (n : Nat) (df : DFn) (os : List O) : Option O := match dBody P call n df (giveL 0 os) ⟨[], newL 0 (O.cntL os), O.cntL os⟩ with
  | some (d, st') => match takeO st' 4 d with
    | some (o, mv, ts, is) => if aliveMv mv ts then some o else none
    | none => none
  | none => none

def St.back (st : St) (mv : List (Nat × Nat)) (ts is : List Nat) (m : Nat) : St :=
  { S := ((st.still ts is).drop (mv.map (·.1))).S, L := newL st.c m ++ ((st.still ts is).drop (mv.map (·.1))).L, c := st.c + m }

def callOwn (f : List O → Option O) (ds : List D) (st : St) : Option (D × St × List Nat) := match takeL (takeO st 4) ds with
  | some (os, mv, ts, is) => if aliveMv mv ts then (match f os with
    | some o => some (giveO st.c o, st.back mv ts is (O.cnt o), [])
    | none => none) else none
  | none => none

def rebase (c : Ct) (p : Nat × Nat) : Option (Option (Nat × Nat × Nat)) := match c.tk p.1 with
  | some (some (b, o, z)) => some (some (b, o + p.2 * z, z))
  | x => x

theorem rebase_some {c : Ct} {p : Nat × Nat} {b o z : Nat} (h : rebase c p = some (some (b, o, z))) : ∃ o', c.tk p.1 = some (some (b, o', z)) ∧ o = o' + p.2 * z := by
  unfold rebase at h
  split at h
  · rename_i b' o' z' hc
    simp only [Option.some.injEq, Prod.mk.injEq] at h
    obtain ⟨rfl, rfl, rfl⟩ := h
    exact ⟨_, hc, rfl⟩
  · rename_i x hx
    exact absurd h (hx _ _ _)

theorem rebase_ne {c : Ct} {p : Nat × Nat} (h : c.tk p.1 ≠ none) : rebase c p ≠ none := by
  unfold rebase
  split
  · simp
  · exact h

theorem newL_mem : ∀ (n k t : Nat), t ∈ newL k n ↔ k ≤ t ∧ t < k + n
  | 0, k, t => by simp [newL]
  | n + 1, k, t => by
    simp only [newL, List.mem_cons, newL_mem n (k + 1) t]
    omega

section
variable {P : Program} {ec : ECall listHP} {call : DCall} {c : Ct} {st : St} {H : Heap}

/-- What was handed on, there. -/
theorem takeO_rel (s : SR c st H) {c' : Ct} : ∀ (n : Nat) (d : D) (v : V) (o : O) (mv : List (Nat × Nat)) (ts is : List Nat), takeO st n d = some (o, mv, ts, is) → DR c H d v → (∀ b, c.frz ts is b → c'.fz b) →
    ∀ k, (∀ j p, mv[j]? = some p → c'.tk (k + j) = rebase c p) → k + mv.length ≤ c'.nx → DR c' H (giveO k o) v ∧ O.cnt o = mv.length ∧ ∀ p ∈ mv, p.1 ∈ st.L := by
  have lrel : ∀ (f : D → Option (O × List (Nat × Nat) × List Nat × List Nat)), (∀ (d : D) (v : V) (o : O) (mv : List (Nat × Nat)) (ts is : List Nat), f d = some (o, mv, ts, is) → DR c H d v → (∀ b, c.frz ts is b → c'.fz b) →
      ∀ k, (∀ j p, mv[j]? = some p → c'.tk (k + j) = rebase c p) → k + mv.length ≤ c'.nx → DR c' H (giveO k o) v ∧ O.cnt o = mv.length ∧ ∀ p ∈ mv, p.1 ∈ st.L) →
      ∀ (ds : List D) (vs : List V) (os : List O) (mv : List (Nat × Nat)) (ts is : List Nat), takeL f ds = some (os, mv, ts, is) → Row (DR c H) ds vs → (∀ b, c.frz ts is b → c'.fz b) →
      ∀ k, (∀ j p, mv[j]? = some p → c'.tk (k + j) = rebase c p) → k + mv.length ≤ c'.nx → Row (DR c' H) (giveL k os) vs ∧ O.cntL os = mv.length ∧ ∀ p ∈ mv, p.1 ∈ st.L := by
    intro f hf ds
    induction ds with
    | nil =>
      intro vs os mv ts is h r _ k _ _
      cases h
      rw [r.nil_inv]
      exact ⟨Row.nil, rfl, fun p hp => by cases hp⟩
    | cons d ds ih =>
      intro vs os mv ts is h r hfz k hk hn
      obtain ⟨y, zs, rfl, h1, h2⟩ := r.cons_inv
      simp only [takeL] at h
      split at h
      · rename_i o1 mv1 ts1 is1 e1
        split at h
        · rename_i os2 mv2 ts2 is2 e2
          cases h
          rw [List.length_append] at hn
          obtain ⟨a1, a2, a3⟩ := hf d y o1 mv1 ts1 is1 e1 h1 (fun b hb => hfz b (Ct.frz_mono (fun _ h => List.mem_append_left _ h) (fun _ h => List.mem_append_left _ h) hb)) k
            (fun j p hj => hk j p (by rw [List.getElem?_append_left (lt_of hj)]; exact hj)) (by omega)
          obtain ⟨b1, b2, b3⟩ := ih zs os2 mv2 ts2 is2 e2 h2 (fun b hb => hfz b (Ct.frz_mono (fun _ h => List.mem_append_right _ h) (fun _ h => List.mem_append_right _ h) hb)) (k + O.cnt o1)
            (fun j p hj => by
              have := hk (mv1.length + j) p (by rw [List.getElem?_append_right (by omega)]; simpa using hj)
              rw [a2, Nat.add_assoc]
              exact this) (by omega)
          refine ⟨Row.cons a1 b1, by simp only [O.cntL, List.length_append]; omega, fun p hp => ?_⟩
          rcases List.mem_append.1 hp with hp | hp
          · exact a3 p hp
          · exact b3 p hp
        · cases h
      · cases h
  have flat : ∀ (n : Nat) (d : D) (v : V) (o : O) (mv : List (Nat × Nat)) (ts is : List Nat), (match fr st 6 d with | some (x, ts, is) => some (O.fz x, ([] : List (Nat × Nat)), ts, is) | none => none) = some (o, mv, ts, is) → DR c H d v → (∀ b, c.frz ts is b → c'.fz b) →
      ∀ k, DR c' H (giveO k o) v ∧ O.cnt o = mv.length ∧ ∀ p ∈ mv, p.1 ∈ st.L := by
    intro n d v o mv ts is h hr hfz k
    split at h
    · rename_i x ts' is' hx
      cases h
      exact ⟨.fz ((fr_rel s 6 d v x ts is hx hr).up hfz), rfl, fun p hp => by cases hp⟩
    · cases h
  have owc : ∀ (t q z : Nat) (es : List (List F)) (v : V) (o : O) (mv : List (Nat × Nat)) (ts is : List Nat), (if t ∈ st.L then some (O.ow z es, [(t, q)], ([] : List Nat), ([] : List Nat)) else none) = some (o, mv, ts, is) → DR c H (.ow t q z es) v → (∀ b, c.frz ts is b → c'.fz b) →
      ∀ k, (∀ j p, mv[j]? = some p → c'.tk (k + j) = rebase c p) → k + mv.length ≤ c'.nx → DR c' H (giveO k o) v ∧ O.cnt o = mv.length ∧ ∀ p ∈ mv, p.1 ∈ st.L := by
    intro t q z es v o mv ts is h hr hfz k hk hn
    split at h
    · rename_i ht
      cases h
      refine ⟨?_, rfl, fun p hp => by simp only [List.mem_singleton] at hp; subst hp; exact ht⟩
      have hb := hk 0 (t, q) rfl
      simp only [Nat.add_zero] at hb
      simp only [List.length_singleton] at hn
      rcases hr.ow_inv s ht with ⟨h1, rfl, rfl⟩ | ⟨b, o, kb, h1, rfl, hkb, hst, hl, hz, hc⟩
      · simp only [rebase, h1] at hb
        exact .own hb (by omega)
      · simp only [rebase, h1] at hb
        have e : o + (q + es.length) * z = o + q * z + (0 + es.length) * z := by rw [Nat.add_mul, Nat.zero_add, Nat.add_assoc]
        have := DR.ow (c := c') (H := H) (q := 0) (es := es) hb (by omega) hkb (by rw [← e]; exact hl) hz (fun i j e' x u h1 h2 h3 => (hc i j e' x u h1 h2 (by
          rw [Nat.add_mul, ← Nat.add_assoc]
          simpa using h3)).up fun b' hb' => hfz b' (.inl hb'))
        simpa [giveO] using this
    · cases h
  intro n
  induction n with
  | zero =>
    intro d v o mv ts is h hr hfz k hk hn
    cases d with
    | nils => simp only [takeO] at h; cases h; cases hr; exact ⟨.nils, rfl, fun p hp => by cases hp⟩
    | fz x => simp only [takeO] at h; cases h; exact ⟨.fz (hr.fz_inv.up fun b hb => hfz b (.inl hb)), rfl, fun p hp => by cases hp⟩
    | ow t q z es => exact owc t q z es v o mv ts is h hr hfz k hk hn
    | ptr i p => exact flat 0 _ v o mv ts is h hr hfz k
    | ep t p cs q => exact flat 0 _ v o mv ts is h hr hfz k
    | agg l => exact flat 0 _ v o mv ts is h hr hfz k
    | tup l => exact flat 0 _ v o mv ts is h hr hfz k
    | fn f l => exact flat 0 _ v o mv ts is h hr hfz k
    | dead => exact flat 0 .dead v o mv ts is (by simpa only [takeO] using h) hr hfz k
    | mp i => exact flat 0 (.mp i) v o mv ts is (by simpa only [takeO] using h) hr hfz k
  | succ n ih =>
    intro d v o mv ts is h hr hfz k hk hn
    cases d with
    | nils => simp only [takeO] at h; cases h; cases hr; exact ⟨.nils, rfl, fun p hp => by cases hp⟩
    | fz x => simp only [takeO] at h; cases h; exact ⟨.fz (hr.fz_inv.up fun b hb => hfz b (.inl hb)), rfl, fun p hp => by cases hp⟩
    | ow t q z es => exact owc t q z es v o mv ts is h hr hfz k hk hn
    | ptr i p => exact flat 0 _ v o mv ts is h hr hfz k
    | ep t p cs q => exact flat 0 _ v o mv ts is h hr hfz k
    | fn f l => exact flat 0 _ v o mv ts is h hr hfz k
    | dead => exact flat 0 .dead v o mv ts is (by simpa only [takeO] using h) hr hfz k
    | mp i => exact flat 0 (.mp i) v o mv ts is (by simpa only [takeO] using h) hr hfz k
    | agg l =>
      simp only [takeO] at h
      split at h
      · rename_i os mv' ts' is' e1
        cases h
        cases hr with
        | agg hl h0 =>
          obtain ⟨a1, a2, a3⟩ := lrel _ ih l _ os mv ts is e1 ⟨hl, h0⟩ hfz k hk hn
          exact ⟨mkAgg_rel a1, a2, a3⟩
      · cases h
    | tup l =>
      simp only [takeO] at h
      split at h
      · rename_i os mv' ts' is' e1
        cases h
        cases hr with
        | tup hl h0 =>
          obtain ⟨a1, a2, a3⟩ := lrel _ ih l _ os mv ts is e1 ⟨hl, h0⟩ hfz k hk hn
          exact ⟨mkTup_rel a1, a2, a3⟩
      · cases h

theorem takeL_rel (s : SR c st H) {c' : Ct} (n : Nat) : ∀ (ds : List D) (vs : List V) (os : List O) (mv : List (Nat × Nat)) (ts is : List Nat), takeL (takeO st n) ds = some (os, mv, ts, is) → Row (DR c H) ds vs → (∀ b, c.frz ts is b → c'.fz b) →
      ∀ k, (∀ j p, mv[j]? = some p → c'.tk (k + j) = rebase c p) → k + mv.length ≤ c'.nx → Row (DR c' H) (giveL k os) vs ∧ O.cntL os = mv.length ∧ ∀ p ∈ mv, p.1 ∈ st.L := by
  intro ds
  induction ds with
  | nil =>
    intro vs os mv ts is h r _ k _ _
    cases h
    rw [r.nil_inv]
    exact ⟨Row.nil, rfl, fun p hp => by cases hp⟩
  | cons d ds ih =>
    intro vs os mv ts is h r hfz k hk hn
    obtain ⟨y, zs, rfl, h1, h2⟩ := r.cons_inv
    simp only [takeL] at h
    split at h
    · rename_i o1 mv1 ts1 is1 e1
      split at h
      · rename_i os2 mv2 ts2 is2 e2
        cases h
        rw [List.length_append] at hn
        obtain ⟨a1, a2, a3⟩ := takeO_rel s n d y o1 mv1 ts1 is1 e1 h1 (fun b hb => hfz b (Ct.frz_mono (fun _ h => List.mem_append_left _ h) (fun _ h => List.mem_append_left _ h) hb)) k
          (fun j p hj => hk j p (by rw [List.getElem?_append_left (lt_of hj)]; exact hj)) (by omega)
        obtain ⟨b1, b2, b3⟩ := ih zs os2 mv2 ts2 is2 e2 h2 (fun b hb => hfz b (Ct.frz_mono (fun _ h => List.mem_append_right _ h) (fun _ h => List.mem_append_right _ h) hb)) (k + O.cnt o1)
          (fun j p hj => by
            have := hk (mv1.length + j) p (by rw [List.getElem?_append_right (by omega)]; simpa using hj)
            rw [a2, Nat.add_assoc]
            exact this) (by omega)
        refine ⟨Row.cons a1 b1, by simp only [O.cntL, List.length_append]; omega, fun p hp => ?_⟩
        rcases List.mem_append.1 hp with hp | hp
        · exact a3 p hp
        · exact b3 p hp
      · cases h
    · cases h

/-- The counts, without the run. -/
theorem takeL_alive (s : SR c st H) (n : Nat) {ds : List D} {vs : List V} {os : List O} {mv : List (Nat × Nat)} {ts is : List Nat} (h : takeL (takeO st n) ds = some (os, mv, ts, is)) (r : Row (DR c H) ds vs) : O.cntL os = mv.length ∧ ∀ p ∈ mv, p.1 ∈ st.L := by
  have := takeL_rel s (c' := ⟨c.frz ts is, fun k => (mv[k]?).bind (rebase c), fun _ => none, mv.length⟩) n ds vs os mv ts is h r (fun _ h => h) 0 (fun j p hj => by simp [hj]) (by simp)
  exact this.2

def Ct.moved (c : Ct) (mv : List (Nat × Nat)) (b : Nat) : Prop := ∃ p ∈ mv, ∃ o z, c.tk p.1 = some (some (b, o, z))

def Ct.back (c : Ct) (mv : List (Nat × Nat)) (ts is : List Nat) (fz' : Nat → Prop) (nt : Nat → Option (Option (Nat × Nat × Nat))) (m : Nat) : Ct :=
  { (c.still ts is).drop (mv.map (·.1)) with fz := fz', tk := fun t => if c.nx ≤ t then nt (t - c.nx) else ((c.still ts is).drop (mv.map (·.1))).tk t, nx := c.nx + m }

/-- Behind a call to which slices were handed on, and that gave some back. -/
theorem Goes.own_back (s : SR c st H) (mv : List (Nat × Nat)) (ts is : List Nat) (hdis : ∀ p ∈ mv, p.1 ∉ ts) (hal : ∀ p ∈ mv, p.1 ∈ st.L) {H' : Heap}
    (fz' : Nat → Prop) (nt : Nat → Option (Option (Nat × Nat × Nat))) (m : Nat) (h1 : ∀ b, c.frz ts is b → fz' b) (h2 : ∀ b, fz' b → c.frz ts is b ∨ c.moved mv b ∨ H.length ≤ b)
    (h3 : ∀ b, b < H.length → ¬ c.moved mv b → H'[b]? = H[b]?) (h4 : ∀ b, fz' b → b < H'.length) (h5 : H.length ≤ H'.length) (n1 : ∀ j, nt j ≠ none ↔ j < m)
    (n2 : ∀ j b o z, nt j = some (some (b, o, z)) → ¬ fz' b ∧ (c.moved mv b ∨ H.length ≤ b) ∧ ∃ k, H'[b]? = some k ∧ k.st = 2)
    (n3 : ∀ j j' b o z o' z', nt j = some (some (b, o, z)) → nt j' = some (some (b, o', z')) → j = j') :
    Goes [] c st H (c.back mv ts is fz' nt m) (st.back mv ts is m) H' := by
  have g0 := Goes.still s ts is
  have d := g0.sr.drop (mv.map (·.1))
  have oldTk : ∀ t x, ((c.still ts is).drop (mv.map (·.1))).tk t = some x → t ∉ mv.map (·.1) ∧ t ∉ ts ∧ c.tk t = some x := fun t x h => by
    obtain ⟨a1, a2⟩ := drop_tk h
    obtain ⟨a3, a4⟩ := drop_tk (c := c) a2
    exact ⟨a1, a3, a4⟩
  have notMoved : ∀ t b o z, t ∉ mv.map (·.1) → c.tk t = some (some (b, o, z)) → ¬ c.moved mv b := by
    rintro t b o z ht hb ⟨p, hp, o', z', hp'⟩
    have := s.tinj t p.1 _ _ _ _ _ hb hp'
    exact ht (by rw [this]; exact List.mem_map_of_mem hp)
  have varNotMoved : ∀ i b, c.vr i = some b → ¬ c.moved mv b := by
    rintro i b hb ⟨p, hp, o', z', hp'⟩
    exact s.vt i p.1 b o' z' hb hp'
  have frzNotMoved : ∀ b, c.frz ts is b → ¬ c.moved mv b := by
    rintro b (hb | ⟨t, ht, o, z, hb⟩ | ⟨i, hi, hb⟩) hm
    · obtain ⟨p, hp, o', z', hp'⟩ := hm
      exact (s.tok _ _ _ _ hp').1 hb
    · obtain ⟨p, hp, o', z', hp'⟩ := hm
      have := s.tinj t p.1 _ _ _ _ _ hb hp'
      exact hdis p hp (by rw [← this]; exact ht)
    · exact varNotMoved i b hb hm
  have frzLt : ∀ b, c.frz ts is b → b < H.length := fun b hb => by
    rcases hb with h | ⟨t, _, o, z, h⟩ | ⟨i, _, h⟩
    · exact s.flt b h
    · exact s.own_lt (.inl ⟨t, o, z, h⟩)
    · exact s.own_lt (.inr ⟨i, h⟩)
  have hstep : Step c H (c.back mv ts is fz' nt m) H' := by
    refine ⟨fun b h => h1 b (.inl h), fun b h hlt => h3 b hlt (frzNotMoved b (.inl h)), Nat.le_add_right _ _, fun t ht => ?_, fun _ _ h => h⟩
    show (if c.nx ≤ t then _ else _) = none ∨ (if c.nx ≤ t then _ else _) = _ ∧ _
    rw [if_neg (by omega)]
    cases hx : ((c.still ts is).drop (mv.map (·.1))).tk t with
    | none => exact .inl rfl
    | some x =>
      obtain ⟨a1, a2, a3⟩ := oldTk t x hx
      exact .inr ⟨a3.symm, fun b o z hb => h3 b (s.own_lt (.inl ⟨t, o, z, hb⟩)) (notMoved t b o z a1 hb)⟩
  have hstep2 : ∀ {d : D} {v : V}, DR (c.still ts is) H d v → DR (c.back mv ts is fz' nt m) H' d v := by
    intro d v h
    refine DR.mono (c := c.still ts is) (c' := c.back mv ts is fz' nt m) ⟨h1, fun b hb hlt => h3 b hlt (frzNotMoved b hb), (Nat.le_add_right c.nx m : c.nx ≤ c.nx + m), fun t ht => ?_, fun _ _ h => h⟩ h
    show (if c.nx ≤ t then _ else _) = none ∨ (if c.nx ≤ t then _ else _) = _ ∧ _
    have ht' : t < c.nx := ht
    rw [if_neg (by omega)]
    cases hx : ((c.still ts is).drop (mv.map (·.1))).tk t with
    | none => exact .inl rfl
    | some x =>
      obtain ⟨a1, a2, a3⟩ := oldTk t x hx
      refine .inr ⟨(drop_tk hx).2.symm, fun b o z hb => ?_⟩
      have hb' := (drop_tk (c := c) hb).2
      exact h3 b (s.own_lt (.inl ⟨t, o, z, hb'⟩)) (notMoved t b o z a1 hb')
  refine ⟨⟨?_, fun t => ?_, fun t h => ?_, fun t b o z h => ?_, fun t t' b o z o' z' h h' => ?_, fun i w ds h => ?_, d.vlt, s.vinj, fun i t b o z hi ht => ?_, h4⟩, hstep, h5, fun b hb hno => h3 b hb fun hm => hno ?_, fun b h => ?_, fun b h => ?_, fun i b h _ => h3 b (s.own_lt (.inr ⟨i, h⟩)) (varNotMoved i b h)⟩
  · show c.nx + m = st.c + m
    rw [s.nx]
  · show t ∈ newL st.c m ++ ((st.still ts is).drop (mv.map (·.1))).L ↔ (if c.nx ≤ t then nt (t - c.nx) else ((c.still ts is).drop (mv.map (·.1))).tk t) ≠ none
    rw [List.mem_append, newL_mem, ← s.nx]
    by_cases ht : c.nx ≤ t
    · rw [if_pos ht, n1]
      constructor
      · rintro (h | h)
        · omega
        · have := d.tlt t ((d.tl t).1 h)
          have : t < c.nx := this
          omega
      · intro h
        exact .inl (by omega)
    · rw [if_neg ht, ← d.tl]
      constructor
      · rintro (h | h)
        · omega
        · exact h
      · exact .inr
  · have h' : (if c.nx ≤ t then nt (t - c.nx) else ((c.still ts is).drop (mv.map (·.1))).tk t) ≠ none := h
    show t < c.nx + m
    split at h'
    · have := (n1 _).1 h'; omega
    · omega
  · have h' : (if c.nx ≤ t then nt (t - c.nx) else ((c.still ts is).drop (mv.map (·.1))).tk t) = some (some (b, o, z)) := h
    split at h'
    · obtain ⟨a1, _, a2⟩ := n2 _ b o z h'
      exact ⟨a1, a2⟩
    · obtain ⟨a1, a2, a3⟩ := oldTk t _ h'
      obtain ⟨a4, k, hk, a5⟩ := s.tok t b o z a3
      have hlt := lt_of hk
      have hnm := notMoved t b o z a1 a3
      refine ⟨fun hf => ?_, k, by rw [h3 b hlt hnm]; exact hk, a5⟩
      rcases h2 b hf with (hf | ⟨u, hu, o', z', hf⟩ | ⟨i, hi, hf⟩) | hf | hf
      · exact a4 hf
      · exact a2 (by rw [s.tinj t u _ _ _ _ _ a3 hf]; exact hu)
      · exact s.vt i t b o z hf a3
      · exact hnm hf
      · omega
  · have h1' : (if c.nx ≤ t then nt (t - c.nx) else ((c.still ts is).drop (mv.map (·.1))).tk t) = some (some (b, o, z)) := h
    have h2' : (if c.nx ≤ t' then nt (t' - c.nx) else ((c.still ts is).drop (mv.map (·.1))).tk t') = some (some (b, o', z')) := h'
    have mix : ∀ (u v : Nat) (o o' z z' : Nat), ¬ c.nx ≤ u → ((c.still ts is).drop (mv.map (·.1))).tk u = some (some (b, o, z)) → nt v = some (some (b, o', z')) → False := by
      intro u v o o' z z' hu k1 k2
      obtain ⟨a1, a2, a3⟩ := oldTk u _ k1
      obtain ⟨_, b1, _⟩ := n2 v _ _ _ k2
      rcases b1 with b1 | b1
      · exact notMoved u _ _ _ a1 a3 b1
      · have := s.own_lt (.inl ⟨u, _, _, a3⟩); omega
    split at h1'
    · split at h2'
      · have := n3 _ _ _ _ _ _ _ h1' h2'
        omega
      · rename_i hu; exact (mix t' _ _ _ _ _ hu h2' h1').elim
    · rename_i hu
      split at h2'
      · exact (mix t _ _ _ _ _ hu h1' h2').elim
      · exact s.tinj t t' b o z o' z' (oldTk t _ h1').2.2 (oldTk t' _ h2').2.2
  · have h' : ((st.still ts is).drop (mv.map (·.1))).S[i]? = some (w, ds) := h
    obtain ⟨b, k, a1, a2, a3, a4, a5⟩ := g0.sr.var i w ds h'
    have hbk := h3 b (lt_of a2) (varNotMoved i b a1)
    refine ⟨b, k, a1, by rw [hbk]; exact a2, a3.mono fun _ _ h => hstep2 h, fun hw => ⟨(a4 hw).1, fun hf => ?_⟩, fun hw => ⟨(a5 hw).1, h1 b (a5 hw).2⟩⟩
    rcases h2 b hf with hf | hf | hf
    · exact (a4 hw).2 hf
    · exact varNotMoved i b a1 hf
    · have := lt_of a2; omega
  · have h' : (if c.nx ≤ t then nt (t - c.nx) else ((c.still ts is).drop (mv.map (·.1))).tk t) = some (some (b, o, z)) := ht
    split at h'
    · obtain ⟨_, b1, _⟩ := n2 _ b o z h'
      rcases b1 with b1 | b1
      · exact varNotMoved i b hi b1
      · have := s.own_lt (.inr ⟨i, hi⟩); omega
    · exact s.vt i t b o z hi (oldTk t _ h').2.2
  · obtain ⟨p, hp, o, z, hm⟩ := hm
    exact .inl ⟨p.1, o, z, hm⟩
  · rcases h with ⟨t, o, z, h⟩ | h
    · have h' : (if c.nx ≤ t then nt (t - c.nx) else ((c.still ts is).drop (mv.map (·.1))).tk t) = some (some (b, o, z)) := h
      split at h'
      · obtain ⟨_, b1, _⟩ := n2 _ b o z h'
        rcases b1 with ⟨p, hp, o', z', b1⟩ | b1
        · exact .inl (.inl ⟨p.1, o', z', b1⟩)
        · exact .inr b1
      · exact .inl (.inl ⟨t, o, z, (oldTk t _ h').2.2⟩)
    · exact .inl (.inr h)
  · rcases h2 b h with (h | ⟨t, _, o, z, h⟩ | ⟨i, _, h⟩) | ⟨p, hp, o, z, h⟩ | h
    · exact .inl h
    · exact .inr (.inl (.inl ⟨t, o, z, h⟩))
    · exact .inr (.inl (.inr ⟨i, h⟩))
    · exact .inr (.inl (.inl ⟨p.1, o, z, h⟩))
    · exact .inr (.inr h)

theorem callOwn_ok (hcall : CallFol ec call) {n : Nat} {df : DFn} (hw : df.body.wf = true) {ds : List D} {r : D × St × List Nat} (h : callOwn (dOwn P call n df) ds st = some r) {vs : List V} (s : SR c st H) (hr : Row (DR c H) ds vs) :
    Fol c st H r (eBody P ec n df vs H) := by
  unfold callOwn at h
  split at h
  case h_2 => cases h
  rename_i os mv ts is htk
  split at h
  case isFalse => cases h
  rename_i hav
  obtain ⟨hnd, hdis0⟩ := hav
  rw [List.all_eq_true] at hdis0
  have hdis : ∀ p ∈ mv, p.1 ∉ ts := fun p hp => by simpa using hdis0 p hp
  split at h
  case h_2 => cases h
  rename_i o ho
  cases h
  unfold dOwn at ho
  split at ho
  case h_2 => cases ho
  rename_i d st1 hb
  split at ho
  case h_2 => cases ho
  rename_i o' mv' ts' is' htk'
  split at ho
  case isFalse => cases ho
  rename_i hav'
  cases ho
  obtain ⟨hnd', hdis0'⟩ := hav'
  rw [List.all_eq_true] at hdis0'
  have hdis' : ∀ p ∈ mv', p.1 ∉ ts' := fun p hp => by simpa using hdis0' p hp
  obtain ⟨hcnt, hal⟩ := takeL_alive s 4 htk hr
  let cc : Ct := ⟨c.frz ts is, fun k => (mv[k]?).bind (rebase c), fun _ => none, mv.length⟩
  have cctk : ∀ t b o z, cc.tk t = some (some (b, o, z)) → ∃ p o', mv[t]? = some p ∧ c.tk p.1 = some (some (b, o', z)) := fun t b o z h => by
    have h' : (mv[t]?).bind (rebase c) = some (some (b, o, z)) := h
    cases hp : mv[t]? with
    | none => rw [hp] at h'; cases h'
    | some p =>
      rw [hp] at h'
      obtain ⟨o', h1, _⟩ := rebase_some (show rebase c p = some (some (b, o, z)) from h')
      exact ⟨p, o', rfl, h1⟩
  have scc : SR cc ⟨[], newL 0 (O.cntL os), O.cntL os⟩ H := by
    refine ⟨hcnt.symm, fun t => ?_, fun t h => ?_, fun t b o z h => ?_, fun t t' b o z o' z' h h' => ?_, (fun i w ds h => by simp at h), (fun i b h => by cases h), (fun i j b h => by cases h), (fun i t b o z h => by cases h), fun b hb => ?_⟩
    · show t ∈ newL 0 (O.cntL os) ↔ (mv[t]?).bind (rebase c) ≠ none
      rw [newL_mem, hcnt]
      constructor
      · intro h
        obtain ⟨p, hp⟩ := at_of (xs := mv) (i := t) (by omega)
        rw [hp]
        exact rebase_ne (s.live (hal p (List.mem_of_getElem? hp)))
      · intro h
        cases hp : mv[t]? with
        | none => rw [hp] at h; exact absurd rfl h
        | some p => have := lt_of hp; omega
    · have h' : (mv[t]?).bind (rebase c) ≠ none := h
      cases hp : mv[t]? with
      | none => rw [hp] at h'; exact absurd rfl h'
      | some p => exact lt_of hp
    · obtain ⟨p, o', hp, h1⟩ := cctk t b o z h
      obtain ⟨h2, h3⟩ := s.tok p.1 b o' z h1
      refine ⟨?_, h3⟩
      rintro (hf | ⟨u, hu, o2, z2, hf⟩ | ⟨i, hi, hf⟩)
      · exact h2 hf
      · exact hdis p (List.mem_of_getElem? hp) (by rw [s.tinj p.1 u _ _ _ _ _ h1 hf]; exact hu)
      · exact s.vt i p.1 b o' z hf h1
    · obtain ⟨p, o1, hp, h1⟩ := cctk t b o z h
      obtain ⟨p', o2, hp', h2⟩ := cctk t' b o' z' h'
      have := s.tinj p.1 p'.1 _ _ _ _ _ h1 h2
      refine nodup_at _ hnd t t' p.1 (by rw [List.getElem?_map, hp]; rfl) (by rw [List.getElem?_map, hp', this]; rfl)
    · rcases hb with h | ⟨t, _, o, z, h⟩ | ⟨i, _, h⟩
      · exact s.flt b h
      · exact s.own_lt (.inl ⟨t, o, z, h⟩)
      · exact s.own_lt (.inr ⟨i, h⟩)
  have hrow := (takeL_rel s (c' := cc) 4 ds vs os mv ts is htk hr (fun _ h => h) 0 (fun j p hj => by
    show (mv[0 + j]?).bind (rebase c) = _
    rw [Nat.zero_add, hj]
    rfl) (by simp [cc])).1
  obtain ⟨c1, v, H1, e1, ⟨W, e2⟩, e3⟩ := dBody_ok hcall hw hb scc hrow
  have ccown : ∀ b, cc.own b → c.moved mv b := fun b hb => by
    rcases hb with ⟨t, o, z, hb⟩ | ⟨i, hb⟩
    · obtain ⟨p, o', hp, h1⟩ := cctk t b o z hb
      exact ⟨p, List.mem_of_getElem? hp, o', z, h1⟩
    · cases hb
  have c1own : ∀ b, c1.own b → c.moved mv b ∨ H.length ≤ b := fun b hb => by
    rcases e2.own b hb with h | h
    · exact .inl (ccown b h)
    · exact .inr h
  let nt : Nat → Option (Option (Nat × Nat × Nat)) := fun j => (mv'[j]?).bind (rebase c1)
  have ntOf : ∀ j b o z, nt j = some (some (b, o, z)) → ∃ p o', mv'[j]? = some p ∧ c1.tk p.1 = some (some (b, o', z)) := fun j b o z h => by
    have h' : (mv'[j]?).bind (rebase c1) = some (some (b, o, z)) := h
    cases hp : mv'[j]? with
    | none => rw [hp] at h'; cases h'
    | some p =>
      rw [hp] at h'
      obtain ⟨o', h1, _⟩ := rebase_some (show rebase c1 p = some (some (b, o, z)) from h')
      exact ⟨p, o', rfl, h1⟩
  have pre := takeO_rel e2.sr (c' := ⟨c1.frz ts' is', fun k => (mv'[k]?).bind (rebase c1), fun _ => none, mv'.length⟩) 4 d v o mv' ts' is' htk' e3 (fun _ h => h) 0 (fun j p hj => by simp [hj]) (by simp)
  obtain ⟨_, hcnt', hal'⟩ := pre
  have g := Goes.own_back s mv ts is hdis hal (H' := H1) (c1.frz ts' is') nt (O.cnt o) (fun b hb => .inl (e2.step.fz b hb)) (fun b hb => by
      rcases hb with hb | ⟨t, _, o, z, hb⟩ | ⟨i, _, hb⟩
      · rcases e2.fzn b hb with h | h | h
        · exact .inl h
        · exact .inr (.inl (ccown b h))
        · exact .inr (.inr h)
      · exact .inr (c1own b (.inl ⟨t, o, z, hb⟩))
      · exact .inr (c1own b (.inr ⟨i, hb⟩)))
    (fun b hlt hm => e2.frame b hlt fun hb => hm (ccown b hb)) (fun b hb => by
      rcases hb with hb | ⟨t, _, o, z, hb⟩ | ⟨i, _, hb⟩
      · exact e2.sr.flt b hb
      · exact e2.sr.own_lt (.inl ⟨t, o, z, hb⟩)
      · exact e2.sr.own_lt (.inr ⟨i, hb⟩)) e2.len (fun j => by
      show (mv'[j]?).bind (rebase c1) ≠ none ↔ _
      rw [hcnt']
      constructor
      · intro h
        cases hp : mv'[j]? with
        | none => rw [hp] at h; exact absurd rfl h
        | some p => exact lt_of hp
      · intro h
        obtain ⟨p, hp⟩ := at_of (xs := mv') (i := j) h
        rw [hp]
        exact rebase_ne (e2.sr.live (hal' p (List.mem_of_getElem? hp))))
    (fun j b o z h => by
      obtain ⟨p, o', hp, h1⟩ := ntOf j b o z h
      obtain ⟨h2, h3⟩ := e2.sr.tok p.1 b o' z h1
      refine ⟨?_, c1own b (.inl ⟨p.1, o', z, h1⟩), h3⟩
      rintro (hf | ⟨u, hu, o2, z2, hf⟩ | ⟨i, hi, hf⟩)
      · exact h2 hf
      · exact hdis' p (List.mem_of_getElem? hp) (by rw [e2.sr.tinj p.1 u _ _ _ _ _ h1 hf]; exact hu)
      · exact e2.sr.vt i p.1 b o' z hf h1)
    (fun j j' b o z o' z' h h' => by
      obtain ⟨p, o1, hp, h1⟩ := ntOf j b o z h
      obtain ⟨p', o2, hp', h2⟩ := ntOf j' b o' z' h'
      have := e2.sr.tinj p.1 p'.1 _ _ _ _ _ h1 h2
      exact nodup_at _ hnd' j j' p.1 (by rw [List.getElem?_map, hp]; rfl) (by rw [List.getElem?_map, hp', this]; rfl))
  refine ⟨_, v, H1, e1, g, ?_⟩
  refine (takeO_rel e2.sr 4 d v o mv' ts' is' htk' e3 (fun _ h => h) st.c (fun j p hj => ?_) ?_).1
  · show (if c.nx ≤ st.c + j then (mv'[st.c + j - c.nx]?).bind (rebase c1) else _) = _
    rw [s.nx, if_pos (Nat.le_add_right _ _), Nat.add_sub_cancel_left, hj]
    rfl
  · show st.c + mv'.length ≤ c.nx + O.cnt o
    rw [hcnt', s.nx]
    exact Nat.le_refl _

end

end Go.Proofs.Dv

namespace Go.Proofs.Dv
open Go Go.RowKit Go.Proofs.Ev

/-- slices.Insert. -/
def dIns (z bytes : Nat) (ds : List D) (st : St) : Option (D × St × List Nat) := match ds with
  | [x, .fz (.int .i64 k), .ow t2 q2 z2 es2] =>
    if t2 ∈ st.L ∧ z2 = z ∧ 0 < z ∧ 0 < es2.length ∧ allOne es2 = true ∧ 0 ≤ k then (match x with
      | .ow t q z1 es => if t ∈ st.L ∧ t ≠ t2 ∧ z1 = z ∧ k ≤ es.length ∧ allOne es = true ∧ roomOK bytes (es.length + es2.length) then some ((st.drop [t]).own z (es.take k.toNat ++ es2 ++ es.drop k.toNat)) else none
      | .nils => if k = 0 ∧ roomOK bytes es2.length then some (st.own z es2) else none
      | _ => none) else none
  | _ => none

def dSrtQ (str : Bool) (ds : List D) (st : St) : Option (D × St × List Nat) := match ds, st with
  | [.ptr 0 0], ⟨[], [], 0⟩ => some (aSrt str)
  | _, _ => none

def dPrim : Prim → List D → St → Option (D × St × List Nat)
  | .ins z bytes, ds, st => dIns z bytes ds st
  | .yes, [], st => some (.fz (.bool true), st, [])
  | .yes, _ :: _, _ => none
  | .srt str, ds, st => dSrtQ str ds st

abbrev DX := Nat → Option (List D → St → Option (D × St × List Nat))

def dFn (P : Program) (pr : Prims) (dx : DX) (tbl : Nat → Option DFn) : Nat → DCall
  | 0, _, _, _ => none
  | k + 1, f, ds, st => match pr f with
    | some p => dPrim p ds st
    | none => match dx f with
      | some g => g ds st
      | none => match tbl f with
        | some df => match df.mode with
          | .pure => callPure (dPure P (dFn P pr dx tbl k) k df) ds st
          | .vars => callVars (dVars P (dFn P pr dx tbl k) k df) ds st
          | .own => callOwn (dOwn P (dFn P pr dx tbl k) k df) ds st
        | none => none

def DFn.toE (df : DFn) : EFn := ⟨df.nt, df.body.toE, df.res⟩

structure TblOK (P : Program) (pr : Prims) (tblE : Nat → Option EFn) (dx : DX) (tbl : Nat → Option DFn) : Prop where
  code : ∀ f df, pr f = none → dx f = none → tbl f = some df → tblE f = some df.toE ∧ df.body.wf = true
  extq : ∀ f g, dx f = some g → kSrt (g [.ptr 0 0] ⟨[], [], 0⟩) = none
  ext : ∀ f g, pr f = none → dx f = some g → ∀ (k : Nat) (ds : List D) (st : St) (r : D × St × List Nat) (c : Ct) (H : Heap) (vs : List V), g ds st = some r → SR c st H → Row (DR c H) ds vs → Fol c st H r (eFn P pr tblE listHP (k + 1) f vs H)

section
variable {P : Program} {pr : Prims} {tblE : Nat → Option EFn} {dx : DX} {tbl : Nat → Option DFn} {c : Ct} {st : St} {H : Heap}

theorem cells_of {R : F → V → Prop} {es : List (List F)} {z o : Nat} {ws : List V} (hz : ∀ (i : Nat) (e : List F), es[i]? = some e → e.length = z)
    (h : ∀ (i j : Nat) (e : List F) (x : F) (u : V), es[i]? = some e → e[j]? = some x → ws[o + i * z + j]? = some u → R x u) (hl : o + es.length * z ≤ ws.length) (n : Nat) (hn : n = es.length * z) :
    ∀ (i j : Nat) (e : List F) (x : F) (u : V), es[i]? = some e → e[j]? = some x → ((ws.drop o).take n)[i * z + j]? = some u → R x u := fun i j e x u h1 h2 h3 => h i j e x u h1 h2 (cells_at h3)

theorem all_one_of {R : F → V → Prop} (hR : ∀ x v, R x v → x.one = true → v.one = true) {es : List (List F)} {z : Nat} {ws : List V} (hzp : 0 < z) (hz : ∀ (i : Nat) (e : List F), es[i]? = some e → e.length = z) (h1 : allOne es = true) (hl : ws.length = es.length * z)
    (h : ∀ (i j : Nat) (e : List F) (x : F) (u : V), es[i]? = some e → e[j]? = some x → ws[i * z + j]? = some u → R x u) : ws.all V.one = true := by
  rw [List.all_eq_true]
  intro u hu
  obtain ⟨n, hn⟩ := List.mem_iff_getElem?.1 hu
  have hlt := lt_of hn
  rw [hl] at hlt
  have hq : n / z < es.length := by rw [Nat.div_lt_iff_lt_mul hzp]; exact hlt
  obtain ⟨e, he⟩ := at_of hq
  have hr : n % z < e.length := by rw [hz _ e he]; exact Nat.mod_lt _ hzp
  obtain ⟨x, hx⟩ := at_of hr
  have hdm : n / z * z + n % z = n := by rw [Nat.mul_comm]; exact Nat.div_add_mod n z
  exact hR x u (h _ _ e x u he hx (by rw [hdm]; exact hn)) (allOne_spec h1 he hx)

/-- Elements of rows put together. -/
theorem app_cells {R : F → V → Prop} {es fs : List (List F)} {z : Nat} {ws us : List V} (hz : ∀ (i : Nat) (e : List F), es[i]? = some e → e.length = z) (hz2 : ∀ (i : Nat) (e : List F), fs[i]? = some e → e.length = z)
    (hl : ws.length = es.length * z) (h : ∀ (i j : Nat) (e : List F) (x : F) (u : V), es[i]? = some e → e[j]? = some x → ws[i * z + j]? = some u → R x u)
    (h2 : ∀ (i j : Nat) (e : List F) (x : F) (u : V), fs[i]? = some e → e[j]? = some x → us[i * z + j]? = some u → R x u) :
    (∀ (i : Nat) (e : List F), (es ++ fs)[i]? = some e → e.length = z) ∧ ∀ (i j : Nat) (e : List F) (x : F) (u : V), (es ++ fs)[i]? = some e → e[j]? = some x → (ws ++ us)[i * z + j]? = some u → R x u := by
  constructor
  · intro i e he
    rw [List.getElem?_append] at he
    split at he
    · exact hz i e he
    · exact hz2 _ e he
  · intro i j e x u he hx hu
    rw [List.getElem?_append] at he
    split at he
    · rename_i hi
      have hjz : j < z := by rw [← hz i e he]; exact lt_of hx
      have hmul : i * z + z ≤ es.length * z := by
        have := Nat.mul_le_mul_right z (show i + 1 ≤ es.length by omega)
        rw [Nat.add_mul, Nat.one_mul] at this
        exact this
      rw [List.getElem?_append_left (by omega)] at hu
      exact h i j e x u he hx hu
    · rename_i hi
      have hmul : es.length * z ≤ i * z := Nat.mul_le_mul_right _ (by omega)
      rw [List.getElem?_append_right (by omega), hl] at hu
      refine h2 _ j e x u he hx ?_
      rw [Nat.sub_mul, show i * z - es.length * z + j = i * z + j - es.length * z by omega]
      exact hu

theorem take_cells {R : F → V → Prop} {es : List (List F)} {z n : Nat} {ws : List V} (hz : ∀ (i : Nat) (e : List F), es[i]? = some e → e.length = z)
    (h : ∀ (i j : Nat) (e : List F) (x : F) (u : V), es[i]? = some e → e[j]? = some x → ws[i * z + j]? = some u → R x u) :
    (∀ (i : Nat) (e : List F), (es.take n)[i]? = some e → e.length = z) ∧ ∀ (i j : Nat) (e : List F) (x : F) (u : V), (es.take n)[i]? = some e → e[j]? = some x → (ws.take (n * z))[i * z + j]? = some u → R x u := by
  have hg : ∀ (i : Nat) (e : List F), (es.take n)[i]? = some e → es[i]? = some e := fun i e he => by
    rw [List.getElem?_take] at he
    split at he
    · exact he
    · cases he
  refine ⟨fun i e he => hz i e (hg i e he), fun i j e x u he hx hu => h i j e x u (hg i e he) hx ?_⟩
  rw [List.getElem?_take] at hu
  split at hu
  · exact hu
  · cases hu

theorem drop_cells {R : F → V → Prop} {es : List (List F)} {z n : Nat} {ws : List V} (hz : ∀ (i : Nat) (e : List F), es[i]? = some e → e.length = z)
    (h : ∀ (i j : Nat) (e : List F) (x : F) (u : V), es[i]? = some e → e[j]? = some x → ws[i * z + j]? = some u → R x u) :
    (∀ (i : Nat) (e : List F), (es.drop n)[i]? = some e → e.length = z) ∧ ∀ (i j : Nat) (e : List F) (x : F) (u : V), (es.drop n)[i]? = some e → e[j]? = some x → (ws.drop (n * z))[i * z + j]? = some u → R x u := by
  refine ⟨fun i e he => hz (n + i) e (by rw [List.getElem?_drop] at he; exact he), fun i j e x u he hx hu => h (n + i) j e x u (by rw [List.getElem?_drop] at he; exact he) hx ?_⟩
  rw [List.getElem?_drop] at hu
  rw [Nat.add_mul, Nat.add_assoc]
  exact hu

theorem dIns_ok (s : SR c st H) {z bytes : Nat} {ds : List D} {r : D × St × List Nat} (h : dIns z bytes ds st = some r) {vs : List V} (hr : Row (DR c H) ds vs) : Fol c st H r (eIns listHP z bytes vs H) := by
  unfold dIns at h
  split at h
  case h_2 => cases h
  rename_i x k t2 q2 z2 es2
  split at h
  case isFalse => cases h
  rename_i hc
  obtain ⟨ht2, rfl, hzp, hm, ho2, hk0⟩ := hc
  obtain ⟨vx, r1, rfl, hx, hr1⟩ := hr.cons_inv
  obtain ⟨vk, r2, rfl, hk, hr2⟩ := hr1.cons_inv
  obtain ⟨vy, r3, rfl, hy, hr3⟩ := hr2.cons_inv
  rw [hr3.nil_inv]
  have hki := hk.fz_inv
  cases hki
  rcases hy.ow_inv s ht2 with ⟨_, rfl, _⟩ | ⟨vb, vo, kv, htk2, rfl, hkv, hstv, hlv, hzv, hcv⟩
  · simp at hm
  have hlv' : vo + q2 * z2 + es2.length * z2 ≤ kv.cells.length := by rw [Nat.add_mul] at hlv; omega
  have hnews : ldE listHP H vb (vo + q2 * z2) (es2.length * z2) = some ((kv.cells.drop (vo + q2 * z2)).take (es2.length * z2)) := by
    unfold ldE
    rw [show listHP.get H vb = some kv from hkv]
    exact eLd_some (by omega) hlv'
  have hnl : ((kv.cells.drop (vo + q2 * z2)).take (es2.length * z2)).length = es2.length * z2 := by simp; omega
  have hnc : ∀ (i j : Nat) (e : List F) (x : F) (u : V), es2[i]? = some e → e[j]? = some x → ((kv.cells.drop (vo + q2 * z2)).take (es2.length * z2))[i * z2 + j]? = some u → FR c.fz H x u :=
    fun i j e x u h1 h2 h3 => hcv i j e x u h1 h2 (by
      have := cells_at h3
      rw [Nat.add_mul, ← Nat.add_assoc]
      exact this)
  have hone2 : ((kv.cells.drop (vo + q2 * z2)).take (es2.length * z2)).all V.one = true := all_one_of (fun x v h h1 => F.one_rel h h1) hzp hzv ho2 hnl hnc
  split at h
  · rename_i t q z1 es
    split at h
    case isFalse => cases h
    rename_i hc
    obtain ⟨ht, htt, rfl, hkn, ho, hroom⟩ := hc
    cases h
    obtain ⟨kk, rfl⟩ : ∃ kk : Nat, k = kk := ⟨k.toNat, by omega⟩
    have hkn' : kk ≤ es.length := by omega
    rcases hx.ow_inv s ht with ⟨h1, rfl, rfl⟩ | ⟨b, o, kb, htk, rfl, hkb, hst, hl, hz, hcell⟩
    · have hk0 : kk = 0 := by simpa using hkn'
      subst hk0
      simp only [List.length_nil, Nat.zero_add] at hroom
      have g := Goes.drop s [t]
      refine Fol.then s g ?_
      have hw := Fol.own (n := 2) g.sr (es := es2) (ws := (kv.cells.drop (vo + q2 * z1)).take (es2.length * z1)) (z := z1) rfl (by omega) hzv (fun i j e x u h1 h2 h3 => (hnc i j e x u h1 h2 h3).mono g.step.fz g.step.keep)
      unfold eIns
      simp only [Nat.zero_add]
      rw [if_pos (by exact ⟨hm, trivial, by omega, by simp, hroom.1, hroom.2⟩)]
      simp only [hnews, hone2, if_true]
      simpa [eNew, listHP] using hw
    · have hl' : o + q * z1 + es.length * z1 ≤ kb.cells.length := by rw [Nat.add_mul] at hl; omega
      have holds : ldE listHP H b (o + q * z1) (es.length * z1) = some ((kb.cells.drop (o + q * z1)).take (es.length * z1)) := by
        unfold ldE
        rw [show listHP.get H b = some kb from hkb]
        exact eLd_some (by omega) hl'
      have hol : ((kb.cells.drop (o + q * z1)).take (es.length * z1)).length = es.length * z1 := by simp; omega
      have hoc : ∀ (i j : Nat) (e : List F) (x : F) (u : V), es[i]? = some e → e[j]? = some x → ((kb.cells.drop (o + q * z1)).take (es.length * z1))[i * z1 + j]? = some u → FR c.fz H x u :=
        fun i j e x u h1 h2 h3 => hcell i j e x u h1 h2 (by
          have := cells_at h3
          rw [Nat.add_mul, ← Nat.add_assoc]
          exact this)
      have hone : ((kb.cells.drop (o + q * z1)).take (es.length * z1)).all V.one = true := all_one_of (fun x v h h1 => F.one_rel h h1) hzp hz ho hol hoc
      have hbv : b ≠ vb := fun e => by
        subst e
        exact htt (s.tinj t t2 _ _ _ _ _ htk htk2)
      generalize hO : (kb.cells.drop (o + q * z1)).take (es.length * z1) = olds at holds hol hoc hone
      generalize hN : (kv.cells.drop (vo + q2 * z1)).take (es2.length * z1) = news at hnews hnl hnc hone2
      have g := Goes.kill s htk dead
      refine Fol.then s g ?_
      have t1 := take_cells (n := kk) hz hoc
      have t2' := drop_cells (n := kk) hz hoc
      have htl : (olds.take (kk * z1)).length = (es.take kk).length * z1 := by
        have : kk * z1 ≤ es.length * z1 := Nat.mul_le_mul_right _ hkn'
        rw [List.length_take, List.length_take, hol, Nat.min_eq_left this, Nat.min_eq_left hkn']
      have a1 := app_cells t1.1 hzv htl t1.2 hnc
      have htl2 : (olds.take (kk * z1) ++ news).length = (es.take kk ++ es2).length * z1 := by
        rw [List.length_append, List.length_append, htl, hnl, Nat.add_mul]
      have a2 := app_cells a1.1 t2'.1 htl2 a1.2 t2'.2
      have hdl : (olds.drop (kk * z1)).length = (es.drop kk).length * z1 := by
        rw [List.length_drop, List.length_drop, hol, Nat.sub_mul]
      have hall : (olds.take (kk * z1) ++ news ++ olds.drop (kk * z1)).length = (es.take kk ++ es2 ++ es.drop kk).length * z1 := by
        rw [List.length_append, htl2, hdl, ← Nat.add_mul, ← List.length_append]
      have hlen : (es.take kk ++ es2 ++ es.drop kk).length = es.length + es2.length := by
        simp only [List.length_append, List.length_take, List.length_drop]
        omega
      have hw := Fol.own (n := 2) g.sr (es := es.take kk ++ es2 ++ es.drop kk) (ws := olds.take (kk * z1) ++ news ++ olds.drop (kk * z1)) (z := z1) rfl
        (Nat.le_of_eq hall.symm) a2.1 (fun i j e x u h1 h2 h3 => (a2.2 i j e x u h1 h2 h3).mono g.step.fz g.step.keep)
      rw [hlen] at hw
      unfold eIns
      simp only
      rw [if_pos (by exact ⟨hm, trivial, by omega, by exact_mod_cast hkn', hroom.1, hroom.2⟩)]
      simp only [hnews, hone2, if_true, holds, hone]
      rw [if_pos (And.intro trivial hbv)]
      rw [show listHP.get H b = some kb from hkb, show listHP.get H vb = some kv from hkv]
      simp only [hst, hstv, and_self, if_true, Int.toNat_natCast]
      simpa [eNew, listHP] using hw
  · split at h
    case isFalse => cases h
    rename_i hc
    obtain ⟨rfl, hroom⟩ := hc
    cases h
    cases hx
    have hw := Fol.own (n := 2) s (es := es2) (ws := (kv.cells.drop (vo + q2 * z2)).take (es2.length * z2)) (z := z2) rfl (by omega) hzv hnc
    unfold eIns
    simp only [Nat.zero_add]
    rw [if_pos (by exact ⟨hm, trivial, by omega, by simp, hroom.1, hroom.2⟩)]
    simp only [hnews, hone2, if_true]
    simpa [eNew, listHP] using hw
  · cases h

theorem eFn_body (k f : Nat) (df : DFn) (hp : pr f = none) (ht : tblE f = some df.toE) (vs : List V) (H : Heap) : eFn P pr tblE listHP (k + 1) f vs H = eBody P (eFn P pr tblE listHP k) k df vs H := by
  simp only [eFn, hp, ht, DFn.toE, eBody]
  by_cases hl : vs.length ≤ df.nt
  · rw [if_pos hl, if_pos hl]
    cases hc : eC P listHP (eFn P pr tblE listHP k) k df.body.toE (TT.start vs 0 .nil) H with
    | none => rfl
    | some p =>
      obtain ⟨x, T, H'⟩ := p
      cases x <;> rfl
  · rw [if_neg hl, if_neg hl]
    rfl

theorem kSrt_pure (F : List F → Option F) : kSrt (callPure F [.ptr 0 0] ⟨[], [], 0⟩) = none := by
  unfold callPure
  split
  · split
    · split <;> rfl
    · rfl
  · rfl
theorem kSrt_vars (F : List D → List (List F) → Option (VRes × List (List F))) : kSrt (callVars F [.ptr 0 0] ⟨[], [], 0⟩) = none := by
  unfold callVars
  split
  · split
    · split
      · split <;> rfl
      · rfl
    · rfl
  · rfl
theorem kSrt_own (F : List O → Option O) : kSrt (callOwn F [.ptr 0 0] ⟨[], [], 0⟩) = none := by
  have h : takeL (takeO ⟨[], [], 0⟩ 4) [.ptr 0 0] = none := rfl
  unfold callOwn
  rw [h]
  rfl

theorem dFn_srt (ht : TblOK P pr tblE dx tbl) : ∀ (k : Nat), SrtFol (eFn P pr tblE listHP k) (dFn P pr dx tbl k) := by
  intro k f str h vs H
  cases k with
  | zero => cases h
  | succ k =>
    simp only [dFn] at h
    split at h
    · rename_i p hp
      simp only [eFn, hp]
      cases p with
      | ins z bytes => cases h
      | yes => cases h
      | srt b =>
        simp only [dPrim, dSrtQ, aSrt, kSrt] at h
        have hb : b = str := by cases b <;> cases str <;> first | rfl | cases h
        subst hb
        rfl
    · rename_i hp
      split at h
      · rename_i g hg
        rw [ht.extq f g hg] at h
        cases h
      · split at h
        · split at h
          · rw [kSrt_pure] at h; cases h
          · rw [kSrt_vars] at h; cases h
          · rw [kSrt_own] at h; cases h
        · cases h

theorem dFn_ok (ht : TblOK P pr tblE dx tbl) : ∀ (k : Nat), CallFol (eFn P pr tblE listHP k) (dFn P pr dx tbl k) := by
  intro k
  refine ⟨?_, dFn_srt ht k⟩
  induction k with
  | zero => intro f ds st r h; cases h
  | succ k ih0 =>
    have ih : CallFol (eFn P pr tblE listHP k) (dFn P pr dx tbl k) := ⟨ih0, dFn_srt ht k⟩
    intro f ds st r h c H vs s hr
    simp only [dFn] at h
    split at h
    · rename_i p hp
      simp only [eFn, hp]
      cases p with
      | ins z bytes => exact dIns_ok s h hr
      | yes =>
        cases ds with
        | nil =>
          cases h
          rw [hr.nil_inv]
          exact Fol.same s (.fz (.bool true))
        | cons d ds => cases h
      | srt b =>
        simp only [dPrim] at h
        unfold dSrtQ at h
        split at h
        · exfalso
          obtain ⟨v, r1, rfl, hv, _⟩ := hr.cons_inv
          cases hv with
          | ptr hb => exact absurd (s.vlt _ _ hb) (by simp)
        · cases h
    · rename_i hp
      split at h
      · rename_i g hg
        exact ht.ext f g hp hg k ds st r c H vs h s hr
      · rename_i hg
        split at h
        · rename_i df hdf
          obtain ⟨h1, h2⟩ := ht.code f df hp hg hdf
          rw [eFn_body k f df hp h1]
          split at h
          · exact callPure_ok ih h2 h s hr
          · exact callVars_ok ih h2 h s hr
          · exact callOwn_ok ih h2 h s hr
        · cases h

end

end Go.Proofs.Dv
