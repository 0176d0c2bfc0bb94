/-
  What is proved here: what a filter lets through and what it does not are all, each once, and heads go with them.
  Conditions: none.
-/
import Derived.Test.YtmbboljcgpccfaaHkH
set_option linter.unusedVariables false
set_option linter.unusedSimpArgs false
set_option maxRecDepth 100000
set_option maxHeartbeats 8000000
namespace Go.Proofs.Ytmbboljcgpccfaa.Pl
open Go Go.Proofs Go.Proofs.Ev Go.Proofs.Dv Cd
attribute [local simp] x_pure x_skip x_reg x_drw x_seq x_cond x_block x_loop' Tm.keep_nil x_exit x_ret k_seq k_seq_ret k_seq_exit k_seq_none k_seq_ite k_cond k_block k_block_ret k_block_exit k_block_none k_block_ite k_iter k_iter_ret k_iter_exit k_iter_none k_iter_ite k_reg k_reg_none k_reg_ite x_is_nil x_is x_is_g k_ins k_ins_none k_ins_ite k_grd x_ord_nil x_ord x_ord_g k_ord k_ord_none k_ord_ite k_ogrd k_out_ret k_out k_out_none k_out_ite k_pure k_pure_none k_pure_ite startD dI dA deo Tm.at Tm.dst Tm.set Tm.put Tm.keep dW dRes oneOfD mkTup mkAgg mkFn allF frL fr vD vD1 vF vFL dBin dEq dNil isNilD dScal F.cv eBin sameKind eInt eStr cellsD oneD F.one dFill putAtD chunk dbnd dSrc St.own St.drop St.still St.fresh chkQ stillQ freshQ lOf rdOf rdOK undefD F.full F.fullL List.mapIdx_cons strip allOne_nil allOne_cons allOne_append allLen_nil allLen_cons allLen_append roomOK_small filterT y_mv y_pick y_new y_box y_build y_bslice y_ld1 y_ldn y_nilchk y_bin y_not y_conv y_bytes y_string y_ifc y_fn y_cut y_cuts y_fa y_fld y_ia y_idx y_idxs y_ext y_len y_lenstr y_app y_grow y_mks y_slow y_call y_callv y_inv y_extc x_it_st x_it_clr x_it_cpy k_addT k_addT_none k_addT_ite k_orU k_orU_none dU D.turn turnL Tm.turn turnS St.turn turnRows_length

theorem sameF_ne (v w : Ver) (hl : v.ats.length < 100000) (hw : w.ats.length < 100000) (hne : v ≠ w) : pureI Try.prog prims dx tbl 21 [.agg (encV v), .agg (encV w)] = some (.bool false) := by
  rw [pSameF v w hl hw]
  congr 2
  cases hb : (decide (v.item = w.item) && (((v.a == w.a) && ((v.b == w.b) && (v.c == w.c))) && ((v.dead == w.dead) && (decide (v.tag = w.tag) && (decide (v.body = w.body) && decide (v.ats = w.ats)))))) with
  | false => rfl
  | true =>
    exfalso
    apply hne
    obtain ⟨i, a, b, c, dd, ats, tg, bd⟩ := v
    obtain ⟨i', a', b', c', dd', ats', tg', bd'⟩ := w
    simp at hb
    obtain ⟨e1, ⟨e2, e3, e4⟩, e5, e6, e7, e8⟩ := hb
    subst e1 e2 e3 e4 e5 e6 e7 e8
    rfl
def PostMg (l FI FO : List Ver) (r : Option DSt) : Prop := ∃ (st' : Dv.St) (T' : Tm), T'.keep [5, 7, 8, 9, 10] = [(5, .fz (.list (l.map encV))), (7, .fz (.list (FI.map encV))), (8, .fz (.list (FO.map encV))), (9, .fz (.int .i64 FI.length)), (10, .fz (.int .i64 FO.length))] ∧ r = some (.exit 0, T', st')
theorem loopMg (l FI FO : List Ver) (p : Ver → Bool) (hl : l.length ≤ 1000) (hI : FI.length ≤ 1000) (hO : FO.length ≤ 1000) (ol : ∀ v ∈ l, v.ats.length < 100000) (oI : ∀ v ∈ FI, v.ats.length < 100000) (pI : ∀ v ∈ FI, p v = true) (st : Dv.St) :
    ∀ (r : List Ver) (i a b : Nat) (iz az bz : Int), iz = i → az = a → bz = b → l.drop i = r → i ≤ l.length → FI.drop a = r.filter p → FO.drop b = (r.filter fun v => !p v) → a ≤ FI.length → b ≤ FO.length →
    PostMg l FI FO (iterI (dCw Try.prog (callI Try.prog prims dx tbl) l5_0) [5, 7, 8, 9, 10, 11] [(5, .fz (.list (l.map encV))), (7, .fz (.list (FI.map encV))), (8, .fz (.list (FO.map encV))), (9, .fz (.int .i64 az)), (10, .fz (.int .i64 bz)), (11, .fz (.int .i64 iz))] st) := by
  intro r
  induction r with
  | nil =>
    intro i a b iz az bz hz ha hb hd hi hA hB la lb
    have hi' := drop_nil hd hi
    have ha' := drop_nil hA la
    have hb' := drop_nil hB lb
    subst hi' hz ha' hb' ha hb
    rw [x_iter]
    simp [u5_0]
    exact ⟨_, _, by simp [Tm.keep], rfl⟩
  | cons x r ih =>
    intro i a b iz az bz hz ha hb hd hi hA hB la lb
    subst hz ha hb
    obtain ⟨hlt, hli, hd'⟩ := drop_cons hd
    have hmem : x ∈ l := by rw [← hli]; exact List.getElem_mem hlt
    have hi1 : ((i : Int) + 1) = ((i + 1 : Nat) : Int) := by omega
    rw [x_iter]
    cases hp : p x with
    | true =>
      rw [List.filter_cons_of_pos hp] at hA
      rw [List.filter_cons_of_neg (by simp [hp])] at hB
      obtain ⟨hlta, hlia, hda⟩ := drop_cons hA
      have hs := sameF_self x (ol x hmem)
      simp [encV] at hs
      have ha1 : ((a : Int) + 1) = ((a + 1 : Nat) : Int) := by omega
      have hw : wrapF .i64 ((i : Int) + 1) = (i : Int) + 1 := wrap_id _ (by omega) (by omega)
      have hw2 : wrapF .i64 ((a : Int) + 1) = (a : Int) + 1 := wrap_id _ (by omega) (by omega)
      simp [u5_0, hlt, hlta, encV_len, encV_take, hli, hlia, rSameF, callR, hs, hw, hw2]
      exact ih (i + 1) (a + 1) b _ _ _ hi1 ha1 rfl hd' hlt hda hB hlta lb
    | false =>
      rw [List.filter_cons_of_neg (by simp [hp])] at hA
      rw [List.filter_cons_of_pos (by simp [hp])] at hB
      obtain ⟨hltb, hlib, hdb⟩ := drop_cons hB
      have hs := sameF_self x (ol x hmem)
      simp [encV] at hs
      have hb1 : ((b : Int) + 1) = ((b + 1 : Nat) : Int) := by omega
      have hw : wrapF .i64 ((i : Int) + 1) = (i : Int) + 1 := wrap_id _ (by omega) (by omega)
      have hw2 : wrapF .i64 ((b : Int) + 1) = (b : Int) + 1 := wrap_id _ (by omega) (by omega)
      by_cases hlta : a < FI.length
      · obtain ⟨y, hy⟩ : ∃ y, FI[a] = y := ⟨_, rfl⟩
        have hym : y ∈ FI := by rw [← hy]; exact List.getElem_mem hlta
        have hne : y ≠ x := fun e => by
          have := pI y hym
          rw [e, hp] at this
          cases this
        have hsy := sameF_ne y x (oI y hym) (ol x hmem) hne
        simp only [encV] at hsy
        simp [u5_0, hlt, hlta, hltb, encV_len, encV_take, hli, hy, hlib, rSameF, callR, hs, hsy, hw, hw2]
        exact ih (i + 1) a (b + 1) _ _ _ hi1 rfl hb1 hd' hlt hA hdb la hltb
      · simp [u5_0, hlt, hlta, hltb, encV_len, encV_take, hli, hlib, rSameF, callR, hs, hw, hw2]
        exact ih (i + 1) a (b + 1) _ _ _ hi1 rfl hb1 hd' hlt hA hdb la hltb
theorem pHoldParts (l1 : List Int) (h1 : l1.length ≤ maxLen) (hb1 : ∀ z ∈ l1, 0 ≤ z ∧ z < 256) (l2 : List Int) (h2 : l2.length ≤ maxLen) (hb2 : ∀ z ∈ l2, 0 ≤ z ∧ z < 256) :
    pureI Try.prog prims dx tbl 5 [.list (l1.map fun z => [.int .u8 z]), .list (l2.map fun z => [.int .u8 z])] = some (.bool true) := by
  rw [pureI_of (rfl : tbl 5 = some c5)]
  by_cases g1 : 80 < l1.length
  · simp [c5, qBegun10, show (80 : Int) < l1.length by omega]
  · by_cases g2 : 30 < l2.length
    · simp [c5, qBegun10, show ¬ (80 : Int) < l1.length by omega, show (30 : Int) < l2.length by omega]
    · obtain ⟨l, hs, ol, el⟩ := pHeld l1 (u8s_of (by omega) hb1)
      have nl := held_len hs ol
      have m2 := vMade l2
      obtain ⟨f, i2, b2, hf, e2⟩ := vFilter l2 (u8s_of (by omega) hb2) 3 3 0 rfl (by omega) (Nat.zero_le _)
      obtain ⟨x1, x2, x3, x4, x5, x6, hx⟩ := encF_eq f
      have n1 := pIn l (by omega) ol.ats f hf
      have n2 := pOut l (by omega) ol.ats f hf
      have lI := List.length_filter_le (fun v : Ver => lets f v.ats v.tag) l
      have lO := List.length_filter_le (fun v : Ver => !lets f v.ats v.tag) l
      have oI : OkVs (l.filter fun v => lets f v.ats v.tag) := fun v hv => ol v (List.mem_filter.1 hv).1
      have oO : OkVs (l.filter fun v => !lets f v.ats v.tag) := fun v hv => ol v (List.mem_filter.1 hv).1
      have sI : Rise Ver.item (l.filter fun v => lets f v.ats v.tag) := List.Pairwise.filter _ hs
      have hm := most_parts (fun v => lets f v.ats v.tag) hs ol
      obtain ⟨st', T', hk, hT⟩ := loopMg l (l.filter fun v => lets f v.ats v.tag) (l.filter fun v => !lets f v.ats v.tag) (fun v => lets f v.ats v.tag) (by omega) (by omega) (by omega) ol.ats oI.ats (fun v hv => (List.mem_filter.1 hv).2) ⟨[(true, [.fz (.list (l2.map fun z => [.int .u8 z])), .fz (.int .i64 i2)]), (true, [.fz (.int .i64 x1), .fz (.int .i64 x2), .fz (.int .i64 x3), .fz (.int .i64 x4), .fz (.str x5), .fz (.list x6)])], [], 0⟩ l 0 0 0 0 0 0 rfl rfl rfl rfl (Nat.zero_le _) rfl rfl (Nat.zero_le _) (Nat.zero_le _)
      generalize (l.filter fun v => lets f v.ats v.tag) = fi at n1 lI oI sI hm hk hT
      generalize (l.filter fun v => !lets f v.ats v.tag) = fo at n2 lO oO hm hk hT
      have d1 := pHeadsV fi (by omega)
      have d2 := pHeadsV fo (by omega)
      have d3 := pHeadsV l (by omega)
      have d4 := pRMost (fi.map hdV) (fo.map hdV) (by simp; omega) (by simp; omega) (hdV_srt sI)
      have d5 := pSame (l.map hdV) (l.map hdV) (by simp; omega) (by simp; omega)
      rw [decide_eq_true rfl] at d5
      rw [hm] at d4
      generalize fi.map hdV = hi at d1 d4
      generalize fo.map hdV = ho at d2 d4
      generalize l.map hdV = hh at d3 d4 d5
      rw [hx] at n1 n2 e2
      simp at e2 hT
      simp [c5, x_vars, varsOf, varsK, varsK_ite, finals, callVars, splitV, contents, updV, orC, qBegun10, show ¬ (80 : Int) < l1.length by omega, show ¬ (30 : Int) < l2.length by omega, rHeld, callR, el, rMade, m2, rFilter, e2, rIn, n1, rOut, n2, hT, hk, rHeadsV, d1, d2, d3, rRMost, d4, rSame, d5]
end Go.Proofs.Ytmbboljcgpccfaa.Pl
