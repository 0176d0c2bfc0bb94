/-
  What is proved here: versions by numbers, as they came; of these what is held.
  Conditions: none.
-/
import Derived.Test.YtmbboljcgpccfaaHjH
set_option linter.unusedVariables false
set_option linter.unusedSimpArgs false
set_option maxRecDepth 100000
set_option maxHeartbeats 8000000
namespace Go.Proofs.Ytmbboljcgpccfaa.Pl
open Go Go.Proofs Go.Proofs.Ev Go.Proofs.Dv Cd
attribute [local simp] x_pure x_skip x_reg x_drw x_seq x_cond x_block x_loop' Tm.keep_nil x_exit x_ret k_seq k_seq_ret k_seq_exit k_seq_none k_seq_ite k_cond k_block k_block_ret k_block_exit k_block_none k_block_ite k_iter k_iter_ret k_iter_exit k_iter_none k_iter_ite k_reg k_reg_none k_reg_ite x_is_nil x_is x_is_g k_ins k_ins_none k_ins_ite k_grd x_ord_nil x_ord x_ord_g k_ord k_ord_none k_ord_ite k_ogrd k_out_ret k_out k_out_none k_out_ite k_pure k_pure_none k_pure_ite startD dI dA deo Tm.at Tm.dst Tm.set Tm.put Tm.keep dW dRes oneOfD mkTup mkAgg mkFn allF frL fr vD vD1 vF vFL dBin dEq dNil isNilD dScal F.cv eBin sameKind eInt eStr cellsD oneD F.one dFill putAtD chunk dbnd dSrc St.own St.drop St.still St.fresh chkQ stillQ freshQ lOf rdOf rdOK undefD F.full F.fullL List.mapIdx_cons strip allOne_nil allOne_cons allOne_append allLen_nil allLen_cons allLen_append roomOK_small filterT y_mv y_pick y_new y_box y_build y_bslice y_ld1 y_ldn y_nilchk y_bin y_not y_conv y_bytes y_string y_ifc y_fn y_cut y_cuts y_fa y_fld y_ia y_idx y_idxs y_ext y_len y_lenstr y_app y_grow y_mks y_slow y_call y_callv y_inv y_extc x_it_st x_it_clr x_it_cpy k_addT k_addT_none k_addT_ite k_orU k_orU_none dU D.turn turnL Tm.turn turnS St.turn turnRows_length

theorem qBegun10 (st : Dv.St) : callI Try.prog prims dx tbl 14 [] st = some (.fz (.bool true), st, []) := callI_iff.2 ⟨60, by kernel_rfl⟩
theorem vOver (l : List Int) (hl : U8s l) (i : Nat) (hi : i ≤ l.length) : varsI Try.prog prims dx tbl 68 [.ptr 0 0] [[.list (l.map fun z => [.int .u8 z]), .int .i64 i]] = some (.val (.bool (decide (l.length ≤ i))), [[.list (l.map fun z => [.int .u8 z]), .int .i64 i]]) := by
  rw [varsI_of (rfl : tbl 68 = some c68)]
  simp [c68, x_vars, varsOf, varsK, varsK_ite, finals, callVars, splitV, contents, updV, orC]
theorem rOver (ds : List D) (st : Dv.St) : callI Try.prog prims dx tbl 68 ds st = orC (callVars (varsI Try.prog prims dx tbl 68) ds st) (callI0 Try.prog prims dx tbl 68 ds st) := callRwV rfl rfl (rfl : tbl 68 = some c68) rfl ds st
def FrzD (rows : List (List F)) (d : D) : Prop := (rows = [] ∧ d = .nils) ∨ d = .fz (.list rows)

def OkVs (l : List Ver) : Prop := ∀ v ∈ l, v.ok
theorem OkVs.ats {l : List Ver} (h : OkVs l) : ∀ v ∈ l, v.ats.length < 100000 := fun v hv => by have := (h v hv).ats; omega
def PostRw (r : Option DSt) : Prop := ∃ (rows : List Ver) (d : D) (st' : Dv.St) (T' : Tm), OkVs rows ∧ rows.length ≤ 8 ∧ OwnS 8 (rows.map encV) st'.L d ∧ T'.keep [4] = [(4, d)] ∧ r = some (.exit 0, T', st')
theorem loopRw (p : List Int) (hp : U8s p) : ∀ (m k : Nat) (kz : Int) (rows : List Ver) (R : List (List F)) (d : D) (i : Nat) (L : List Nat) (c : Nat), k + m = 8 → kz = k → rows.length ≤ k → OkVs rows → R = rows.map encV → OwnS 8 R L d → i ≤ p.length →
    PostRw (iterI (dCw Try.prog (callI Try.prog prims dx tbl) l33_0) [3, 4, 5] [(3, .ptr 0 0), (4, d), (5, .fz (.int .i64 kz))] ⟨[(true, [.fz (.list (p.map fun z => [.int .u8 z])), .fz (.int .i64 i)])], L, c⟩) := by
  intro m
  induction m with
  | zero =>
    intro k kz rows R d i L c hk hz hr ho hR hd hi
    subst hR
    obtain rfl : k = 8 := by omega
    rw [x_iter]
    simp [u33_0, hz]
    exact ⟨rows, d, _, _, ho, hr, hd, by simp [Tm.keep], rfl⟩
  | succ m ih =>
    intro k kz rows R d i L c hk hz hr ho hR hd hi
    subst hR
    have hk8 : kz < 8 := by omega
    have e0 := vOver p hp i hi
    by_cases hov : p.length ≤ i
    · simp [hov] at e0
      rw [x_iter]
      simp [u33_0, x_vars, varsOf, varsK, varsK_ite, finals, callVars, splitV, contents, updV, orC, hk8, rOver, e0]
      exact ⟨rows, d, _, _, ho, by omega, hd, by simp [Tm.keep], rfl⟩
    · simp [hov] at e0
      obtain ⟨v, i1, b1, hv, e1⟩ := vVersion p hp i hi
      simp only [encV] at e1
      have ho' : OkVs (rows ++ [v]) := fun x hx => by
        rcases List.mem_append.1 hx with h1 | h1
        · exact ho x h1
        · simp only [List.mem_singleton] at h1; subst h1; exact hv
      have o1 := encV_one rows
      have r1 : roomOK 96 (rows.length + 1) := roomOK_small (by omega) (by omega)
      have hk1 : kz + 1 = ((k + 1 : Nat) : Int) := by omega
      have hkm : (k + 1) + m = 8 := by omega
      have hr1 : (rows ++ [v]).length ≤ k + 1 := by simp; omega
      have wk : wrapF .i64 (kz + 1) = kz + 1 := wrap_id _ (by omega) (by omega)
      rw [x_iter]
      rcases hd with ⟨h5, rfl⟩ | ⟨t, hne, ht, rfl⟩
      · have h6 : rows = [] := by simpa using h5
        subst h6
        simp [u33_0, x_vars, varsOf, varsK, varsK_ite, finals, callVars, splitV, contents, updV, orC, hk8, rOver, e0, rVersion, e1, wk]
        refine ih (k + 1) _ ([] ++ [v]) _ _ _ _ _ hkm hk1 hr1 ho' ?_ (.inr ⟨_, by simp, ?_, rfl⟩) b1
        · simp [encV]
        · simp
      · simp [u33_0, x_vars, varsOf, varsK, varsK_ite, finals, callVars, splitV, contents, updV, orC, hk8, rOver, e0, rVersion, e1, wk, ht, o1, r1]
        refine ih (k + 1) _ (rows ++ [v]) _ _ _ _ _ hkm hk1 hr1 ho' ?_ (.inr ⟨_, by simp, ?_, rfl⟩) b1
        · simp [encV]
        · simp
theorem pRows (p : List Int) (hp : U8s p) : ∃ l : List Ver, OkVs l ∧ l.length ≤ 8 ∧ pureI Try.prog prims dx tbl 33 [.list (p.map fun z => [.int .u8 z])] = some (.list (l.map encV)) := by
  obtain ⟨l, d, st', T', ho, hl, hd, hk, hT⟩ := loopRw p hp 8 0 0 [] [] .nils 0 [] 0 rfl rfl (Nat.le_refl _) (fun h hh => by cases hh) rfl (.inl ⟨rfl, rfl⟩) (Nat.zero_le _)
  refine ⟨l, ho, hl, ?_⟩
  have m1 := vMade p
  rw [pureI_of (rfl : tbl 33 = some c33)]
  try simp at hT
  rcases hd with ⟨h5, rfl⟩ | ⟨t, hne, ht, rfl⟩
  · simp [c33, x_vars, varsOf, varsK, varsK_ite, finals, callVars, splitV, contents, updV, orC, rMade, m1, hT, hk, h5]
  · simp [c33, x_vars, varsOf, varsK, varsK_ite, finals, callVars, splitV, contents, updV, orC, rMade, m1, hT, hk, ht]
theorem rRows (ds : List D) (st : Dv.St) : callI Try.prog prims dx tbl 33 ds st = callR Try.prog prims dx tbl 33 ds st (frL (fr st 6) ds) := callRw rfl rfl (rfl : tbl 33 = some c33) rfl ds st
def PostHl (res : List Ver) (r : Option DSt) : Prop := ∃ (d : D) (st' : Dv.St) (T' : Tm), FrzD (res.map encV) d ∧ T'.keep [3] = [(3, d)] ∧ r = some (.exit 0, T', st')
theorem loopHl (l : List Ver) (hl : l.length ≤ 1000) (ol : OkVs l) : ∀ (r : List Ver) (i : Nat) (iz : Int) (acc : List Ver) (d : D) (S : List (Bool × List D)) (L : List Nat) (c : Nat), iz = i → l.drop i = r → i ≤ l.length → Rise Ver.item acc → OkVs acc → FrzD (acc.map encV) d →
    PostHl (r.foldl putV acc) (iterI (dCw Try.prog (callI Try.prog prims dx tbl) l15_0) [3, 4, 5] [(3, d), (4, .fz (.int .i64 iz)), (5, .fz (.list (l.map encV)))] ⟨S, L, c⟩) := by
  intro r
  induction r with
  | nil =>
    intro i iz acc d S L c hz hd hi hs ho hf
    have hi' := drop_nil hd hi
    subst hi' hz
    rw [x_iter]
    simp [u15_0]
    exact ⟨d, _, _, hf, by simp [Tm.keep], rfl⟩
  | cons a r ih =>
    intro i iz acc d S L c hz hd hi hs ho hf
    subst hz
    obtain ⟨hlt, hli, hd'⟩ := drop_cons hd
    have hm : a ∈ l := by rw [← hli]; exact List.getElem_mem hlt
    have hn := held_len hs ho
    have hp := pRPutV acc (by omega) hs a
    have hs' : Rise Ver.item (putV acc a) := putV_rise hs
    have ho' : OkVs (putV acc a) := fun x hx => by
      rcases putV_mem hs hx with rfl | hx
      · exact ol _ hm
      · exact ho x hx
    have hi1 : ((i : Int) + 1) = ((i + 1 : Nat) : Int) := by omega
    have hw : wrapF .i64 ((i : Int) + 1) = (i : Int) + 1 := wrap_id _ (by omega) (by omega)
    have goal := fun S L c => ih (i + 1) _ (putV acc a) (.fz (.list ((putV acc a).map encV))) S L c hi1 hd' hlt hs' ho' (.inr rfl)
    rw [List.foldl_cons]
    rw [encV] at hp
    rw [x_iter]
    generalize putV acc a = acc' at hp goal ⊢
    rcases hf with ⟨h5, rfl⟩ | rfl
    · rw [h5] at hp
      simp [u15_0, hlt, encV_len, encV_take, hli, rRPutV, callR, hp, hw]
      exact goal _ _ _
    · simp [u15_0, hlt, encV_len, encV_take, hli, rRPutV, callR, hp, hw]
      exact goal _ _ _
theorem pHeld (p : List Int) (hp : U8s p) : ∃ l : List Ver, Rise Ver.item l ∧ OkVs l ∧ pureI Try.prog prims dx tbl 15 [.list (p.map fun z => [.int .u8 z])] = some (.list (l.map encV)) := by
  obtain ⟨l, ho, hl, hr⟩ := pRows p hp
  obtain ⟨d, st', T', hf, hk, hT⟩ := loopHl l (by omega) ho l 0 0 [] .nils [] [] 0 rfl rfl (Nat.zero_le _) List.Pairwise.nil (fun h hh => by cases hh) (.inl ⟨rfl, rfl⟩)
  refine ⟨heldV l, held_rise l, fun x hx => ho x (held_mem x hx), ?_⟩
  rw [show l.foldl putV [] = heldV l from rfl] at hf
  generalize heldV l = res at hf ⊢
  rw [pureI_of (rfl : tbl 15 = some c15)]
  try simp at hT
  rcases hf with ⟨h5, rfl⟩ | rfl
  · simp [c15, rRows, callR, hr, hT, hk, h5]
  · simp [c15, rRows, callR, hr, hT, hk]
theorem rHeld (ds : List D) (st : Dv.St) : callI Try.prog prims dx tbl 15 ds st = callR Try.prog prims dx tbl 15 ds st (frL (fr st 6) ds) := callRw rfl rfl (rfl : tbl 15 = some c15) rfl ds st
theorem rWithout (ds : List D) (st : Dv.St) : callI Try.prog prims dx tbl 25 ds st = callR Try.prog prims dx tbl 25 ds st (frL (fr st 6) ds) := callRw rfl rfl (rfl : tbl 25 = some c25) rfl ds st
theorem rRWithout (ds : List D) (st : Dv.St) : callI Try.prog prims dx tbl 26 ds st = callR Try.prog prims dx tbl 26 ds st (frL (fr st 6) ds) := callRw rfl rfl (rfl : tbl 26 = some c26) rfl ds st
theorem rIn (ds : List D) (st : Dv.St) : callI Try.prog prims dx tbl 31 ds st = callR Try.prog prims dx tbl 31 ds st (frL (fr st 6) ds) := callRw rfl rfl (rfl : tbl 31 = some c31) rfl ds st
theorem rOut (ds : List D) (st : Dv.St) : callI Try.prog prims dx tbl 32 ds st = callR Try.prog prims dx tbl 32 ds st (frL (fr st 6) ds) := callRw rfl rfl (rfl : tbl 32 = some c32) rfl ds st
end Go.Proofs.Ytmbboljcgpccfaa.Pl
