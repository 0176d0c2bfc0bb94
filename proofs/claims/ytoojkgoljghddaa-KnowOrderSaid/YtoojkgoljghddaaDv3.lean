/-
  What is proved here: a run of a program's text on values that stay, are owned or are variables, is followed by the run on blocks.
  Conditions: none.
-/
import Derived.Test.YtoojkgoljghddaaDv2
set_option linter.unusedVariables false
set_option linter.unusedSimpArgs false
namespace Go.Proofs.Dv
open Go Go.RowKit Go.Proofs.Ev
section
variable {P : Program} {a b : DCall}
theorem dC_dCw (h : CallLe a b) {n : Nat} : ∀ (d : DC), StLe (dC P a n d) (dCw P b d) := by
  intro d
  induction d with
  | skip => intro T st r hr; exact hr
  | reg l =>
    intro T st r hr
    simp only [dC] at hr; simp only [dCw]
    split at hr
    · rename_i T' st' h1
      rw [dIs_mono h l T st _ h1]
      exact hr
    · cases hr
  | drw l =>
    intro T st r hr
    simp only [dC] at hr; simp only [dCw]
    split at hr
    · rename_i T' st' h1
      rw [dOrd_mono h l l 0 [] T st _ h1]
      exact hr
    · cases hr
  | seq x live y ihx ihy =>
    intro T st r hr
    simp only [dC] at hr; simp only [dCw]
    split at hr
    · rename_i T' st' h1
      rw [ihx T st _ h1]
      exact ihy _ _ _ hr
    · rename_i hne
      rw [ihx T st _ hr]
      obtain ⟨x, T', st'⟩ := r
      cases x with
      | normal => exact absurd hr (hne _ _)
      | exit id => rfl
      | ret => rfl
  | cond k x y ihx ihy =>
    intro T st r hr
    simp only [dC] at hr; simp only [dCw]
    split at hr
    · rename_i hd; simp only [hd]; exact ihx _ _ _ hr
    · rename_i hd; simp only [hd]; exact ihy _ _ _ hr
    · cases hr
  | block id x ih =>
    intro T st r hr
    simp only [dC] at hr; simp only [dCw]
    split at hr
    · rename_i j T' st' h1
      rw [ih T st _ h1]
      exact hr
    · rename_i hne
      rw [ih T st _ hr]
      obtain ⟨x, T', st'⟩ := r
      cases x with
      | normal => rfl
      | exit j => exact absurd hr (hne _ _ _)
      | ret => rfl
  | loop live x ih => intro T st r hr; exact iterI_iff.2 ⟨n, dIter_mono ih live n n (Nat.le_refl n) T st r hr⟩
  | exit id => intro T st r hr; exact hr
  | ret => intro T st r hr; exact hr
  | mid l1 i l2 =>
    intro T st r hr
    simp only [dC] at hr; simp only [dCw]
    split at hr
    · rename_i T' st' h1
      rw [dMidR_mono h h1]
      exact hr
    · cases hr
  | srt l1 f i d l2 =>
    intro T st r hr
    simp only [dC] at hr; simp only [dCw]
    split at hr
    · rename_i T' st' h1
      rw [dSrtR_mono h h1]
      exact hr
    · cases hr
  | frz i x ih =>
    intro T st r hr
    simp only [dC] at hr; simp only [dCw]
    split at hr
    · rename_i y ts is hfr
      try simp only [hfr]
      exact ih _ _ _ hr
    · cases hr

theorem dBody_W (h : CallLe a b) {n : Nat} {df : DFn} {ds : List D} {st : St} {r : D × St} (hr : dBody P a n df ds st = some r) : dBodyW P b df ds st = some r := by
  unfold dBody at hr
  unfold dBodyW
  split at hr
  · rename_i hl
    rw [if_pos hl]
    split at hr
    · cases hr
    · rename_i x T st' hne h1
      rw [dC_dCw h df.body _ _ _ h1]
      cases x with
      | normal => exact hr
      | exit id => exact absurd rfl (hne id)
      | ret => exact hr
    · cases hr
  · cases hr


theorem dPure_W (h : CallLe a b) {n : Nat} {df : DFn} {xs : List F} {x : F} (hr : dPure P a n df xs = some x) : dPureW P b df xs = some x := by
  unfold dPure at hr
  unfold dPureW
  split at hr
  · rename_i d st' h1
    rw [dBody_W h h1]
    exact hr
  · cases hr

def onSpot (P : Program) (pr : Prims) (dx : DX) (tbl : Nat → Option DFn) (k f : Nat) (xs : List F) : Option F := match tbl f with
  | some df => dPure P (dFn P pr dx tbl k) k df xs
  | none => none
/-- What is carried out with fuel is so. -/
theorem pureI_spot {pr : Prims} {dx : DX} {tbl : Nat → Option DFn} {f : Nat} {xs : List F} {x : F} (k : Nat) (h : onSpot P pr dx tbl k f xs = some x) : pureI P pr dx tbl f xs = some x := by
  unfold onSpot at h
  unfold pureI
  split at h
  · rename_i df hf
    simp only [hf]
    exact dPure_W (fun f ds st r hr => callI_iff.2 ⟨k, hr⟩) h
  · cases h
end
end Go.Proofs.Dv

namespace Go.Proofs.Dv
open Go Go.RowKit Go.Proofs.Ev

def orC (r d : Option (D × Dv.St × List Nat)) : Option (D × Dv.St × List Nat) := match r with
  | some x => some x
  | none => d
theorem orC_some (x : D × Dv.St × List Nat) (d : Option (D × Dv.St × List Nat)) : orC (some x) d = some x := rfl
/-- A call that hands on variables. -/
theorem callRwV {P : Program} {pr : Prims} {dx : DX} {tbl : Nat → Option DFn} {f : Nat} {df : DFn} (hp : pr f = none) (hx : dx f = none) (ht : tbl f = some df) (hm : df.mode = .vars) (ds : List D) (st : Dv.St) : callI P pr dx tbl f ds st = orC (callVars (varsI P pr dx tbl f) ds st) (callI0 P pr dx tbl f ds st) := by
  cases h : callVars (varsI P pr dx tbl f) ds st with
  | none => rfl
  | some r => rw [callI_vars hp hx ht hm h]; rfl

def varsK (n : Nat) (r : Option (D × Dv.St)) : Option (VRes × List (List F)) := match r with
  | some (d, st') => match finals st'.S n with
    | some cs' => match d with
      | .ptr j 0 => if n ≤ j then (match st'.S[j]? with
        | some (true, ds) => match allF ds with
          | some xs => some (.var xs, cs')
          | none => none
        | _ => none) else none
      | d => match fr st' 6 d with
        | some (x, _, is) => if is.all (fun i => decide (n ≤ i)) = true then some (.val x, cs') else none
        | none => none
    | none => none
  | none => none
theorem varsK_ite (n : Nat) (p : Prop) [Decidable p] (r s : Option (D × Dv.St)) : varsK n (if p then r else s) = if p then varsK n r else varsK n s := by split <;> rfl
theorem x_vars {P : Program} {call : DCall} (nt : Nat) (m : Mode) (c : DC) (res : List ERes) (av : List D) (cs : List (List F)) (h : av.length ≤ nt ∧ av.length ≤ 512) : dVarsW P call ⟨nt, m, c, res⟩ av cs = varsK cs.length (outK res (dCw P call c (startD av 0) ⟨varsOf cs, [], 0⟩)) := by
  unfold dVarsW dBodyW
  rw [if_pos h]
  rfl
theorem varsI_of {P : Program} {pr : Prims} {dx : DX} {tbl : Nat → Option DFn} {f : Nat} {df : DFn} (h : tbl f = some df) (av : List D) (cs : List (List F)) : varsI P pr dx tbl f av cs = dVarsW P (callI P pr dx tbl) df av cs := by simp [varsI, h]

end Go.Proofs.Dv

namespace Go.Proofs.Dv
open Go Go.RowKit Go.Proofs.Ev

section
variable {P : Program} {call : DCall} {T : Tm} {st : Dv.St}
theorem y_mv {x} : dIT P call T st (.op (.mv x)) = addT T (dA P T st (.mv x)) := rfl
theorem y_pick {a} {b} {c} : dIT P call T st (.op (.pick a b c)) = addT T (dA P T st (.pick a b c)) := rfl
theorem y_new {k} : dIT P call T st (.op (.new k)) = addT T (dA P T st (.new k)) := rfl
theorem y_box {x} : dIT P call T st (.op (.box x)) = addT T (dA P T st (.box x)) := rfl
theorem y_build {z} {ps} : dIT P call T st (.op (.build z ps)) = addT T (dA P T st (.build z ps)) := rfl
theorem y_bslice {z} {n} {zs} {ps} : dIT P call T st (.op (.bslice z n zs ps)) = addT T (dA P T st (.bslice z n zs ps)) := rfl
theorem y_ld1 {x} : dIT P call T st (.op (.ld1 x)) = addT T (dA P T st (.ld1 x)) := rfl
theorem y_ldn {n} {x} : dIT P call T st (.op (.ldn n x)) = addT T (dA P T st (.ldn n x)) := rfl
theorem y_nilchk {x} : dIT P call T st (.op (.nilchk x)) = addT T (dA P T st (.nilchk x)) := rfl
theorem y_bin {op} {nk} {x} {y} : dIT P call T st (.op (.bin op nk x y)) = addT T (dA P T st (.bin op nk x y)) := rfl
theorem y_not {x} : dIT P call T st (.op (.not x)) = addT T (dA P T st (.not x)) := rfl
theorem y_conv {k} {x} : dIT P call T st (.op (.conv k x)) = addT T (dA P T st (.conv k x)) := rfl
theorem y_bytes {x} : dIT P call T st (.op (.bytes x)) = addT T (dA P T st (.bytes x)) := rfl
theorem y_string {x} : dIT P call T st (.op (.string x)) = addT T (dA P T st (.string x)) := rfl
theorem y_ifc {t} {x} : dIT P call T st (.op (.ifc t x)) = addT T (dA P T st (.ifc t x)) := rfl
theorem y_fn {f} {xs} : dIT P call T st (.op (.fn f xs)) = addT T (dA P T st (.fn f xs)) := rfl
theorem y_cut {z} {a} {x} {l} {h} : dIT P call T st (.op (.cut z a x l h)) = addT T (dA P T st (.cut z a x l h)) := rfl
theorem y_cuts {x} {l} {h} : dIT P call T st (.op (.cuts x l h)) = addT T (dA P T st (.cuts x l h)) := rfl
theorem y_fa {o} {x} : dIT P call T st (.op (.fa o x)) = addT T (dA P T st (.fa o x)) := rfl
theorem y_fld {n} {o} {x} : dIT P call T st (.op (.fld n o x)) = addT T (dA P T st (.fld n o x)) := rfl
theorem y_ia {z} {a} {x} {i} : dIT P call T st (.op (.ia z a x i)) = addT T (dA P T st (.ia z a x i)) := rfl
theorem y_idx {z} {n} {a} {x} {i} : dIT P call T st (.op (.idx z n a x i)) = addT T (dA P T st (.idx z n a x i)) := rfl
theorem y_idxs {x} {i} : dIT P call T st (.op (.idxs x i)) = addT T (dA P T st (.idxs x i)) := rfl
theorem y_ext {x} {i} : dIT P call T st (.op (.ext x i)) = addT T (dA P T st (.ext x i)) := rfl
theorem y_len {x} : dIT P call T st (.op (.len x)) = addT T (dA P T st (.len x)) := rfl
theorem y_lenstr {x} : dIT P call T st (.op (.lenstr x)) = addT T (dA P T st (.lenstr x)) := rfl
theorem y_app {z} {b} {s} {x} {y} : dIT P call T st (.op (.app z b s x y)) = addT T (dA P T st (.app z b s x y)) := rfl
theorem y_grow {z} {b} {zero} {x} {y} : dIT P call T st (.op (.grow z b zero x y)) = addT T (dA P T st (.grow z b zero x y)) := rfl
theorem y_mks {z} {b} {zero} {l} {c} : dIT P call T st (.op (.mks z b zero l c)) = addT T (dA P T st (.mks z b zero l c)) := rfl
theorem y_mget {kd} {z} {m} {k} : dIT P call T st (.op (.mget kd z m k)) = addT T (dA P T st (.mget kd z m k)) := rfl
theorem y_slow {o} : dIT P call T st (.op (.slow o)) = addT T (dA P T st (.slow o)) := rfl
theorem y_call {f xs} : dIT P call T st (.call f xs) = addT T (call f (xs.map (deo T)) st) := rfl
theorem y_callv {x xs} : dIT P call T st (.callv x xs) = addT T (dI P call T st (.callv x xs)) := rfl
theorem y_inv {x name xs o} : dIT P call T st (.inv x name xs o) = addT T (dI P call T st (.inv x name xs o)) := rfl
theorem y_mop {m} : dIT P call T st (.mop m) = addT T (dM T st m) := rfl
theorem y_extc {o} : dIT P call T st (.ext o) = addT T (dI P call T st (.ext o)) := rfl

theorem callRwO {pr : Prims} {dx : DX} {tbl : Nat → Option DFn} {f : Nat} {df : DFn} (hp : pr f = none) (hx : dx f = none) (ht : tbl f = some df) (hm : df.mode = .own) (ds : List D) (st : Dv.St) : callI P pr dx tbl f ds st = orC (callOwn (ownI P pr dx tbl f) ds st) (callI0 P pr dx tbl f ds st) := by
  cases h : callOwn (ownI P pr dx tbl f) ds st with
  | none => rfl
  | some r => rw [callI_own hp hx ht hm h]; rfl

def ownK (r : Option (D × Dv.St)) : Option O := match r with
  | some (d, st') => match takeO st' 4 d with
    | some (o, mv, ts, is) => if aliveMv mv ts then some o else none
    | none => none
  | none => none
theorem ownK_ite (p : Prop) [Decidable p] (r s : Option (D × Dv.St)) : ownK (if p then r else s) = if p then ownK r else ownK s := by split <;> rfl
theorem x_own (nt : Nat) (m : Mode) (c : DC) (res : List ERes) (os : List O) (h : (giveL 0 os).length ≤ nt ∧ (giveL 0 os).length ≤ 512) : dOwnW P call ⟨nt, m, c, res⟩ os = ownK (outK res (dCw P call c (startD (giveL 0 os) 0) ⟨[], newL 0 (O.cntL os), O.cntL os⟩)) := by
  unfold dOwnW dBodyW
  rw [if_pos h]
  rfl
theorem ownI_of {pr : Prims} {dx : DX} {tbl : Nat → Option DFn} {f : Nat} {df : DFn} (h : tbl f = some df) (os : List O) : ownI P pr dx tbl f os = dOwnW P (callI P pr dx tbl) df os := by simp [ownI, h]
/-- A call of a known step. -/
theorem callRwX {pr : Prims} {dx : DX} {tbl : Nat → Option DFn} {f : Nat} {g : List D → Dv.St → Option (D × Dv.St × List Nat)} (hp : pr f = none) (hx : dx f = some g) (ds : List D) (st : Dv.St) : callI P pr dx tbl f ds st = orC (g ds st) (callI0 P pr dx tbl f ds st) := by
  cases h : g ds st with
  | none => rfl
  | some r => rw [callI_ext hp hx h]; rfl
theorem callRwP {pr : Prims} {dx : DX} {tbl : Nat → Option DFn} {f : Nat} {p : Prim} (hp : pr f = some p) (ds : List D) (st : Dv.St) : callI P pr dx tbl f ds st = orC (dPrim p ds st) (callI0 P pr dx tbl f ds st) := by
  cases h : dPrim p ds st with
  | none => rfl
  | some r => rw [callI_prim hp h]; rfl
end
theorem allOne_nil : allOne [] = true := rfl
theorem allOne_cons (e : List F) (r : List (List F)) : allOne (e :: r) = (e.all F.one && allOne r) := rfl
theorem allOne_append (r s : List (List F)) : allOne (r ++ s) = (allOne r && allOne s) := by simp [allOne]
theorem allLen_nil (z : Nat) : allLen z [] = true := rfl
theorem allLen_cons (z : Nat) (e : List F) (r : List (List F)) : allLen z (e :: r) = (decide (e.length = z) && allLen z r) := rfl
theorem allLen_append (z : Nat) (r s : List (List F)) : allLen z (r ++ s) = (allLen z r && allLen z s) := by simp [allLen]
theorem allOne_map {α : Type} (f : α → List F) (h : ∀ a, (f a).all F.one = true) : ∀ (l : List α), allOne (l.map f) = true
  | [] => rfl
  | a :: r => by rw [List.map_cons, allOne_cons, h, allOne_map f h r]; rfl
theorem allLen_map {α : Type} (z : Nat) (f : α → List F) (h : ∀ a, (f a).length = z) : ∀ (l : List α), allLen z (l.map f) = true
  | [] => rfl
  | a :: r => by rw [List.map_cons, allLen_cons, allLen_map z f h r]; simp [h]
theorem roomOK_small {b m : Nat} (h1 : b ≤ 10000) (h2 : m ≤ 1000000) : roomOK b m := by
  have : m * b ≤ 1000000 * 10000 := Nat.mul_le_mul h2 h1
  exact ⟨by omega, by omega⟩
theorem drop_cons {α : Type} {l r : List α} {i : Nat} {a : α} (h : l.drop i = a :: r) : ∃ h' : i < l.length, l[i] = a ∧ l.drop (i + 1) = r := by
  have hg : l[i]? = some a := by
    have := congrArg (·[0]?) h
    simpa [List.getElem?_drop] using this
  refine ⟨lt_of hg, ?_, ?_⟩
  · rw [List.getElem?_eq_getElem (lt_of hg)] at hg
    exact Option.some.inj hg
  · have := congrArg (List.drop 1) h
    simpa [List.drop_drop, Nat.add_comm] using this
theorem drop_nil {α : Type} {l : List α} {i : Nat} (h : l.drop i = []) (hi : i ≤ l.length) : i = l.length := by
  have := congrArg List.length h
  simp at this
  omega
theorem filterT (L : List Nat) : L.filter (fun _ => true) = L := List.filter_eq_self.2 fun _ _ => rfl

end Go.Proofs.Dv

namespace Go.Proofs.Dv
open Go Go.RowKit Go.Proofs.Ev

/-- The text of slices.Clone. -/
def cloneD (z b : Nat) : DFn := ⟨8, .pure,
 .seq (.reg [⟨.op (.mv (.c (.sl none 0))), (some 2), none⟩])
 [0]
 (.seq (.seq (.reg [⟨.op (.mv (.t 0)), (some 3), none⟩, ⟨.op (.bin .eql 1 (.t 3) (.c (.sl none 0))), (some 4), none⟩])
 [0, 4]
 (.cond (.t 4) (.seq (.reg [⟨.op (.mv (.c (.sl none 0))), (some 2), none⟩])
 [2]
 (.ret)) (.skip)))
 [0]
 (.seq (.reg [⟨.op (.bslice z 0 [] []), (some 5), none⟩, ⟨.op (.mv (.t 0)), (some 6), none⟩, ⟨.op (.app z b false (.t 5) (.t 6)), (some 7), none⟩, ⟨.op (.mv (.t 7)), (some 2), none⟩])
 [2]
 (.ret))),
 [.tmp 2]⟩

def dClone (z bytes : Nat) (ds : List D) (st : Dv.St) : Option (D × Dv.St × List Nat) := match ds with
  | [d] => match dSrc st false z d with
    | some es => if 0 < z ∧ roomOK bytes es.length then some (st.own z es) else none
    | none => none
  | _ => none

theorem clone_run {P : Program} {ec : ECall listHP} {n z b : Nat} (v : V) (H : Heap) : eBody P ec n (cloneD z b) [v] H = match v with
    | .sl none m => if m = 0 then some (.sl none 0, H) else none
    | .sl (some p) m => match eSrc listHP (H ++ [⟨[], 2⟩]) false z (.sl (some p) m) with
      | some (k, news) => if news.all V.one = true then (if k = 0 then some (.sl (some (H.length, 0, z)) 0, H ++ [⟨[], 2⟩]) else if k * b ≤ 140737488355328 ∧ k ≤ 4611686018427387904 then some (.sl (some (H.length + 1, 0, z)) k, H ++ [dead] ++ [⟨news, 2⟩]) else none) else none
      | none => none
    | _ => none := by
  have at0 : ∀ (t : TT) (i j : Nat) (w : V), i < 512 → j < 512 → (t.put i w).at j = if j = i then w else t.at j := fun t i j w hi hj => TT.at_put t i j w hi hj
  cases v with
  | sl a m =>
    cases a with
    | none =>
      by_cases hm : m = 0
      · subst hm
        simp [eBody, cloneD, DC.toE, eC, eIs, eI, eA, eW, ePut, eo, eBin, eNil, at0, TT.start, eRes, oneOf]
      · simp [eBody, cloneD, DC.toE, eC, eIs, eI, eA, eW, ePut, eo, eBin, eNil, at0, TT.start, eRes, oneOf, hm]
    | some p =>
      simp [eBody, cloneD, DC.toE, eC, eIs, eI, eA, eW, ePut, eo, eBin, eNil, at0, TT.start, eRes, oneOf, eFill, eNew]
      have hp : ∀ (G : Heap) (k : Blk), listHP.push G k = some (G ++ [k]) := fun _ _ => rfl
      have hl : ∀ (G : Heap), listHP.len G = G.length := fun _ => rfl
      have hg : ∀ (G : Heap) (k : Blk), listHP.get (G ++ [k]) G.length = some k := fun _ _ => get_append_eq
      have hs : ∀ (G : Heap) (k : Blk), listHP.set (G ++ [k]) G.length dead = G ++ [dead] := fun G k => by
        show (G ++ [k]).set G.length dead = _
        rw [List.set_append_right _ _ (Nat.le_refl _)]
        simp
      rw [hp, hl]
      simp only []
      cases hsrc : eSrc listHP (H ++ [⟨[], 2⟩]) false z (V.sl (some p) m) with
      | none => rfl
      | some q =>
        obtain ⟨k, news⟩ := q
        simp only []
        by_cases hall : ∀ (x : V), x ∈ news → x.one = true
        · rw [if_pos hall, if_pos hall]
          by_cases hk : k = 0
          · rw [if_pos hk, if_pos hk]
            simp [at0]
          · rw [if_neg hk, if_neg hk]
            simp only [if_true, hg, Nat.le_refl, eLd, Nat.zero_mul, Nat.zero_add, hs, hp, hl]
            simp
            by_cases hr : k * b ≤ 140737488355328 ∧ k ≤ 4611686018427387904
            · simp [hr, at0]
            · simp [hr]
        · rw [if_neg hall, if_neg hall]
  | _ => simp [eBody, cloneD, DC.toE, eC, eIs, eI, eA, eW, ePut, eo, eBin, eNil, at0, TT.start, eRes, oneOf]

theorem clone_ok {P : Program} {pr : Prims} {tblE : Nat → Option EFn} {f : Nat} (hp : pr f = none) {z bytes : Nat} (ht : tblE f = some (cloneD z bytes).toE) (k : Nat) (ds : List D) (st : Dv.St) (r : D × Dv.St × List Nat) (c : Ct) (H : Heap) (vs : List V)
    (h : dClone z bytes ds st = some r) (s : SR c st H) (hr : Row (DR c H) ds vs) : Fol c st H r (eFn P pr tblE listHP (k + 1) f vs H) := by
  rw [eFn_body k f (cloneD z bytes) hp ht]
  unfold dClone at h
  split at h
  case h_2 => cases h
  rename_i d
  obtain ⟨v, zs, rfl, hd, hz⟩ := hr.cons_inv
  rw [hz.nil_inv, clone_run]
  split at h
  case h_2 => cases h
  rename_i es hes
  split at h
  case isFalse => cases h
  rename_i hc
  cases h
  obtain ⟨hzp, hroom⟩ := hc
  -- the value is a slice
  have hsl : ∃ a m, v = .sl a m ∧ (a = none → m = 0) := by
    unfold dSrc at hes
    split at hes
    · rename_i es' _
      rcases hd.fz_inv.list_inv with ⟨_, h1 | ⟨p, h1⟩⟩ | ⟨b, o, z, k, h1, _⟩
      · exact ⟨_, _, h1, fun _ => rfl⟩
      · exact ⟨_, _, h1, fun e => by cases e⟩
      · exact ⟨_, _, h1, fun e => by cases e⟩
    · split at hes
      · rename_i hc2
        rcases hd.ow_inv s hc2.1 with ⟨_, _, h1⟩ | ⟨b, o, k, _, h1, _⟩
        · exact ⟨_, _, h1, fun _ => rfl⟩
        · exact ⟨_, _, h1, fun e => by cases e⟩
      · cases hes
    · cases hd; exact ⟨_, _, rfl, fun _ => rfl⟩
    · exact absurd ‹false = true› (by simp)
    · cases hes
  obtain ⟨a, m, rfl, hn⟩ := hsl
  obtain ⟨news0, e0, _, hlen0, _, _⟩ := dSrc_rel s hzp hes hd
  cases a with
  | none =>
    obtain rfl := hn rfl
    simp only [if_true]
    have : es = [] := by
      simp only [eSrc, if_true] at e0
      injection e0 with e0
      exact List.eq_nil_of_length_eq_zero (Prod.mk.inj e0).1.symm
    subst this
    exact Fol.ownNil s z
  | some p =>
    simp only
    -- a block is made; what is read is as it was
    have g : Goes [] c st H c st (H ++ [⟨[], 2⟩]) := Goes.behind s c.fz (fun _ h => h) (fun b h => .inl h) (fun b h => by have := s.flt b h; simp; omega) (fun b hb => get_append_lt hb) (by simp)
    have hd' : DR c (H ++ [⟨[], 2⟩]) d (.sl (some p) m) := hd.mono g.step
    obtain ⟨news, e1, hone, hlen, hz2, hcell⟩ := dSrc_rel g.sr hzp hes hd'
    have e1' : eSrc listHP (H ++ [⟨[], 2⟩]) false z (.sl (some p) m) = some (es.length, news) := e1
    rw [e1']
    simp only
    rw [if_pos hone]
    by_cases hk : es.length = 0
    · rw [if_pos hk]
      have : es = [] := List.eq_nil_of_length_eq_zero hk
      subst this
      have := Fol.own (n := 2) s (es := []) (ws := []) (z := z) rfl (by simp) (fun i e h => by simp at h) (fun i j e x u h => by simp at h)
      simpa using this
    · rw [if_neg hk, if_pos (by exact ⟨hroom.1, hroom.2⟩)]
      have gd : Goes [] c st H c st (H ++ [dead]) := Goes.behind s c.fz (fun _ h => h) (fun b h => .inl h) (fun b h => by have := s.flt b h; simp; omega) (fun b hb => get_append_lt hb) (by simp)
      refine Fol.then s gd ?_
      have hcell' : ∀ (i j : Nat) (e : List F) (x : F) (u : V), es[i]? = some e → e[j]? = some x → news[i * z + j]? = some u → FR c.fz (H ++ [dead]) x u := fun i j e x u h1 h2 h3 => by
        refine (hcell i j e x u h1 h2 h3).mono (fun _ h => h) fun b hb _ => ?_
        have := s.flt b hb
        rw [get_append_lt this, get_append_lt this]
      have := Fol.own (n := 2) gd.sr (es := es) (ws := news) (z := z) rfl (by omega) hz2 hcell'
      simpa using this
end Go.Proofs.Dv

namespace Go.Proofs.Dv
open Go Go.RowKit Go.Proofs.Ev

theorem pureRun_bind {α β : Type} {P : Program} (s : Sem α) (f : α → Sem β) : pureRun P (s >>= f) = (pureRun P s).bind fun x => pureRun P (f x) := by
  show pureRun P (s.bind f) = _
  induction s <;> simp_all [Sem.bind, pureRun]
theorem pureRun_map {α β : Type} {P : Program} (f : α → β) (s : Sem α) : pureRun P (f <$> s) = (pureRun P s).map f := by
  show pureRun P (s.bind fun x => Sem.pure (f x)) = _
  have := pureRun_bind (P := P) s fun x => Sem.pure (f x)
  rw [show (s >>= fun x => Sem.pure (f x)) = s.bind fun x => Sem.pure (f x) from rfl] at this
  rw [this]
  cases pureRun P s <;> rfl
theorem pureRun_pure {α : Type} {P : Program} (x : α) : pureRun P (pure x : Sem α) = some x := rfl

/-- Two numbers' operation on bits. -/
def bitV (op : BinOp) (k : IntKind) (a : Int) (yk : IntKind) (b : Int) : Option Int := match op with
  | .shl => if b < 0 then none else some (k.wrap (a * 2 ^ (min b.toNat k.bits)))
  | .shr => if b < 0 then none else some (a.fdiv (2 ^ (min b.toNat k.bits)))
  | .and => if k = yk then some (k.wrap (BitVec.ofInt k.bits a &&& BitVec.ofInt k.bits b).toNat) else none
  | .or => if k = yk then some (k.wrap (BitVec.ofInt k.bits a ||| BitVec.ofInt k.bits b).toNat) else none
  | .xor => if k = yk then some (k.wrap (BitVec.ofInt k.bits a ^^^ BitVec.ofInt k.bits b).toNat) else none
  | .andNot => if k = yk then some (k.wrap (BitVec.ofInt k.bits a &&& ~~~ BitVec.ofInt k.bits b).toNat) else none
  | _ => none

theorem bitV_run {P : Program} {op : BinOp} {k yk : IntKind} {a b n : Int} {t : TypeId} (h : bitV op k a yk b = some n) : pureRun P (Go.binOp op t (.int k a) (.int yk b)) = some (.int k n) := by
  unfold bitV at h
  split at h
  · split at h
    · cases h
    · rename_i hb
      cases h
      simp [Go.binOp, Op.shift, hb, pureRun_pure]
  · split at h
    · cases h
    · rename_i hb
      cases h
      simp [Go.binOp, Op.shift, hb, pureRun_pure]
  · split at h
    · rename_i he; subst he; cases h; simp [Go.binOp, Op.intBits, pureRun_pure]
    · cases h
  · split at h
    · rename_i he; subst he; cases h; simp [Go.binOp, Op.intBits, pureRun_pure]
    · cases h
  · split at h
    · rename_i he; subst he; cases h; simp [Go.binOp, Op.intBits, pureRun_pure]
    · cases h
  · split at h
    · rename_i he; subst he; cases h; simp [Go.binOp, Op.intBits, pureRun_pure]
    · cases h
  · cases h

inductive SO where
  | t (i : Nat)
  | c (k : IntKind) (n : Int)
def sopnd : Operand → Option SO
  | .tmp i => some (.t i)
  | .const c => match absN 9 c with
    | some (.int k n) => some (.c k n)
    | _ => none
  | _ => none
def sD (T : Tm) : SO → D
  | .t i => T.at i
  | .c k n => .fz (.int k n)
def bitOp (o : Oper) : Option (BinOp × SO × SO) := match o.op with
  | .binOp op t x y _ => match sopnd x, sopnd y with
    | some a, some b => some (op, a, b)
    | _, _ => none
  | _ => none
def bitD (op : BinOp) (d e : D) (r : Option D) : Option D := match d, e with
  | .fz (.int k a), .fz (.int k' b) => match bitV op k a k' b with
    | some n => some (.fz (.int k n))
    | none => r
  | _, _ => r

theorem sopnd_env {T : Tm} {x : Operand} {s : SO} {k : IntKind} {n : Int} (h : sopnd x = some s) (hd : sD T s = .fz (.int k n)) : dEnv T x = some (.int k n) := by
  unfold sopnd at h
  split at h
  · cases h
    simp only [sD] at hd
    simp [dEnv, hd, D.full, F.full]
  · split at h
    · rename_i k' n' hc
      cases h
      simp only [sD] at hd
      cases hd
      exact hc
    · cases h
  · cases h

theorem slow_bit {P : Program} {o : Oper} {op : BinOp} {x y : SO} (h : bitOp o = some (op, x, y)) (T : Tm) : dSlowX P T o = bitD op (sD T x) (sD T y) (mmRest P T o) := by
  unfold bitD
  split
  · rename_i k a k' b hx hy
    split
    · rename_i n hn
      unfold bitOp at h
      split at h
      · rename_i op' t x' y' tt hc
        split at h
        · rename_i sx sy h1 h2
          cases h
          have ex := sopnd_env h1 hx
          have ey := sopnd_env h2 hy
          have hop : o.op.operands = #[x', y'] := by rw [hc]; rfl
          have hb := bitV_run (P := P) (t := t) hn
          have hg : ∀ u v, pureRun P (eqGuard op t u v (.int k a) (.int k' b)) = some () := by
            intro u v
            unfold bitV at hn
            split at hn <;> first | rfl | cases hn
          have hrun : pureRun P (execOp (fun x => (concO (dEnv T) x).getD undef) o) = some (.value (.int k n)) := by
            simp [execOp, hc, concO, ex, ey, conc, pureRun_bind, pureRun_map, hb, hg]
          have hp : pureOp P (dEnv T) o = some (.int k n) := by
            simp only [pureOp, hop, hrun]
            simp [hc, isSelect, concO, ex, ey, conc, absN]
          have he : evA P (dEnv T) o [] = some (.int k n, []) := by
            simp only [evA, hc, hp]
          simp only [dSlowX, dSlow, hop, he]
          simp [ex, ey, toD, vF]
        · cases h
      · cases h
    · rfl
  · rfl

theorem frL_fz (st : Dv.St) (n : Nat) : ∀ (xs : List F), frL (fr st n) (xs.map .fz) = some (xs, [], [])
  | [] => rfl
  | x :: r => by
    have h0 : fr st n (.fz x) = some (x, [], []) := by cases n <;> rfl
    simp only [List.map_cons, frL, h0, frL_fz st n r, List.nil_append]
theorem allF_fz : ∀ (xs : List F), allF (xs.map .fz) = some xs
  | [] => rfl
  | x :: r => by simp only [List.map_cons, allF, allF_fz r]
theorem chunk_one : ∀ (n : Nat) (xs : List F), xs.length = n → chunk 1 n xs = xs.map fun x => [x]
  | 0, xs, h => by rw [List.eq_nil_of_length_eq_zero h]; rfl
  | n + 1, x :: r, h => by
    have := chunk_one n r (by simpa using h)
    simp [chunk, this]

end Go.Proofs.Dv
