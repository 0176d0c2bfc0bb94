/-
  What is proved here: versions that are held: all of them, those of other things, those that a filter lets through, those that it does not.
  Conditions: none.
-/
import Derived.Test.YtmbboljcgpccfaaHcH
set_option linter.unusedVariables false
set_option linter.unusedSimpArgs false
set_option maxRecDepth 100000
set_option maxHeartbeats 8000000
namespace Go.Proofs.Ytmbboljcgpccfaa.Pl
open Go Go.Proofs Go.Proofs.Ev Go.Proofs.Dv Cd
attribute [local simp] x_pure x_skip x_reg x_drw x_seq x_cond x_block x_loop' Tm.keep_nil x_exit x_ret k_seq k_seq_ret k_seq_exit k_seq_none k_seq_ite k_cond k_block k_block_ret k_block_exit k_block_none k_block_ite k_iter k_iter_ret k_iter_exit k_iter_none k_iter_ite k_reg k_reg_none k_reg_ite x_is_nil x_is x_is_g k_ins k_ins_none k_ins_ite k_grd x_ord_nil x_ord x_ord_g k_ord k_ord_none k_ord_ite k_ogrd k_out_ret k_out k_out_none k_out_ite k_pure k_pure_none k_pure_ite startD dI dA deo Tm.at Tm.dst Tm.set Tm.put Tm.keep dW dRes oneOfD mkTup mkAgg mkFn allF frL fr vD vD1 vF vFL dBin dEq dNil isNilD dScal F.cv eBin sameKind eInt eStr cellsD oneD F.one dFill putAtD chunk dbnd dSrc St.own St.drop St.still St.fresh chkQ stillQ freshQ lOf rdOf rdOK undefD F.full F.fullL List.mapIdx_cons strip allOne_nil allOne_cons allOne_append allLen_nil allLen_cons allLen_append roomOK_small filterT y_mv y_pick y_new y_box y_build y_bslice y_ld1 y_ldn y_nilchk y_bin y_not y_conv y_bytes y_string y_ifc y_fn y_cut y_cuts y_fa y_fld y_ia y_idx y_idxs y_ext y_len y_lenstr y_app y_grow y_mks y_slow y_call y_callv y_inv y_extc x_it_st x_it_clr x_it_cpy k_addT k_addT_none k_addT_ite k_orU k_orU_none dU D.turn turnL Tm.turn turnS St.turn turnRows_length

theorem rSome (ds : List D) (st : Dv.St) : callI Try.prog prims dx tbl 61 ds st = orC (callOwn (ownI Try.prog prims dx tbl 61) ds st) (callI0 Try.prog prims dx tbl 61 ds st) := callRwO rfl rfl (rfl : tbl 61 = some c61) rfl ds st
theorem rA1 (ds : List D) (st : Dv.St) : callI Try.prog prims dx tbl 88 ds st = callR Try.prog prims dx tbl 88 ds st (frL (fr st 6) ds) := callRw rfl rfl (rfl : tbl 88 = some c88) rfl ds st
theorem pA1 (v : Ver) : pureI Try.prog prims dx tbl 88 [.agg (encV v)] = some (.bool true) := by
  rw [pureI_of (rfl : tbl 88 = some c88)]
  simp [c88, encV]
theorem oAll (l : List Ver) (hl : l.length < 100000) (hb : ∀ v ∈ l, v.ats.length < 100000) : ownI Try.prog prims dx tbl 58 [.fz (.list (l.map encV))] = some (someO l) := by
  rw [ownI_of (rfl : tbl 58 = some c58)]
  have h := oSome (fun _ => true) 88 [] l (fun x _ st => by
    have := pA1 x
    rw [encV] at this
    simp [rA1, frL, fr, callR, this, F.full]) hl hb
  rw [List.filter_eq_self.2 (fun _ _ => rfl)] at h
  unfold someO at h ⊢
  by_cases hn : l = []
  · rw [if_pos hn] at h ⊢
    simp [c58, x_own, ownK, ownK_ite, takeO, takeL, giveO, giveL, O.cnt, O.cntL, newL, aliveMv, St.back, callOwn, orC, rSome, h]
  · rw [if_neg hn] at h ⊢
    simp [c58, x_own, ownK, ownK_ite, takeO, takeL, giveO, giveL, O.cnt, O.cntL, newL, aliveMv, St.back, callOwn, orC, rSome, h]
theorem rAll (ds : List D) (st : Dv.St) : callI Try.prog prims dx tbl 58 ds st = orC (callOwn (ownI Try.prog prims dx tbl 58) ds st) (callI0 Try.prog prims dx tbl 58 ds st) := callRwO rfl rfl (rfl : tbl 58 = some c58) rfl ds st
theorem rW1 (ds : List D) (st : Dv.St) : callI Try.prog prims dx tbl 62 ds st = callR Try.prog prims dx tbl 62 ds st (frL (fr st 6) ds) := callRw rfl rfl (rfl : tbl 62 = some c62) rfl ds st
theorem pW1 (v : Ver) (t : Int) : pureI Try.prog prims dx tbl 62 [.agg (encV v), .fp [.int .i64 t]] = some (.bool (decide (v.item ≠ t))) := by
  rw [pureI_of (rfl : tbl 62 = some c62)]
  by_cases h : v.item = t
  · simp [c62, encV, h]
  · simp [c62, encV, h]
theorem pWithout (l : List Ver) (hl : l.length < 100000) (hb : ∀ v ∈ l, v.ats.length < 100000) (t : Int) : pureI Try.prog prims dx tbl 25 [.list (l.map encV), .int .i64 t] = some (.list ((l.filter fun v => decide (v.item ≠ t)).map encV)) := by
  rw [pureI_of (rfl : tbl 25 = some c25)]
  have h := oSome (fun v => decide (v.item ≠ t)) 62 [.fp [.int .i64 t]] l (fun x _ st => by
    have := pW1 x t
    rw [encV] at this
    simp [rW1, frL, fr, callR, this, F.full]) hl hb
  generalize (l.filter fun v => decide (v.item ≠ t)) = res at h ⊢
  unfold someO at h
  by_cases hn : res = []
  · rw [if_pos hn] at h
    simp [c25, x_own, ownK, ownK_ite, takeO, takeL, giveO, giveL, O.cnt, O.cntL, newL, aliveMv, St.back, callOwn, orC, rSome, h, hn]
  · rw [if_neg hn] at h
    simp [c25, x_own, ownK, ownK_ite, takeO, takeL, giveO, giveL, O.cnt, O.cntL, newL, aliveMv, St.back, callOwn, orC, rSome, h, hn]
theorem rI1 (ds : List D) (st : Dv.St) : callI Try.prog prims dx tbl 65 ds st = callR Try.prog prims dx tbl 65 ds st (frL (fr st 6) ds) := callRw rfl rfl (rfl : tbl 65 = some c65) rfl ds st
theorem rO1 (ds : List D) (st : Dv.St) : callI Try.prog prims dx tbl 67 ds st = callR Try.prog prims dx tbl 67 ds st (frL (fr st 6) ds) := callRw rfl rfl (rfl : tbl 67 = some c67) rfl ds st
theorem pI1 (v : Ver) (f : Flt) (b : Bool) (h : pureI Try.prog prims dx tbl 66 [.agg (encF f), .agg (encV v)] = some (.bool b)) : pureI Try.prog prims dx tbl 65 [.agg (encV v), .fp (encF f)] = some (.bool b) := by
  obtain ⟨x1, x2, x3, x4, x5, x6, hx⟩ := encF_eq f
  rw [hx, encV] at h
  rw [hx, pureI_of (rfl : tbl 65 = some c65)]
  simp [c65, encV, rE, callR, h]
theorem pO1 (v : Ver) (f : Flt) (b : Bool) (h : pureI Try.prog prims dx tbl 66 [.agg (encF f), .agg (encV v)] = some (.bool b)) : pureI Try.prog prims dx tbl 67 [.agg (encV v), .fp (encF f)] = some (.bool (!b)) := by
  obtain ⟨x1, x2, x3, x4, x5, x6, hx⟩ := encF_eq f
  rw [hx, encV] at h
  rw [hx, pureI_of (rfl : tbl 67 = some c67)]
  simp [c67, encV, rE, callR, h]
theorem pIn (l : List Ver) (hl : l.length < 100000) (hb : ∀ v ∈ l, v.ats.length < 100000) (f : Flt) (hf : f.ok) : pureI Try.prog prims dx tbl 31 [.list (l.map encV), .agg (encF f)] = some (.list ((l.filter fun v => lets f v.ats v.tag).map encV)) := by
  rw [pureI_of (rfl : tbl 31 = some c31)]
  have h := oSome (fun v => lets f v.ats v.tag) 65 [.fp (encF f)] l (fun x hx st => by
    have := pI1 x f _ (pELets x (by have := hb x hx; omega) f hf)
    obtain ⟨x1, x2, x3, x4, x5, x6, hx⟩ := encF_eq f
    rw [encV, hx] at this
    rw [hx]
    simp [rI1, frL, fr, callR, this, F.full]) hl hb
  generalize (l.filter fun v => lets f v.ats v.tag) = res at h ⊢
  obtain ⟨x1, x2, x3, x4, x5, x6, hx⟩ := encF_eq f
  rw [hx] at h ⊢
  unfold someO at h
  by_cases hn : res = []
  · rw [if_pos hn] at h
    simp [c31, x_own, ownK, ownK_ite, takeO, takeL, giveO, giveL, O.cnt, O.cntL, newL, aliveMv, St.back, callOwn, orC, rSome, h, hn]
  · rw [if_neg hn] at h
    simp [c31, x_own, ownK, ownK_ite, takeO, takeL, giveO, giveL, O.cnt, O.cntL, newL, aliveMv, St.back, callOwn, orC, rSome, h, hn]
theorem pOut (l : List Ver) (hl : l.length < 100000) (hb : ∀ v ∈ l, v.ats.length < 100000) (f : Flt) (hf : f.ok) : pureI Try.prog prims dx tbl 32 [.list (l.map encV), .agg (encF f)] = some (.list ((l.filter fun v => !lets f v.ats v.tag).map encV)) := by
  rw [pureI_of (rfl : tbl 32 = some c32)]
  have h := oSome (fun v => !lets f v.ats v.tag) 67 [.fp (encF f)] l (fun x hx st => by
    have := pO1 x f _ (pELets x (by have := hb x hx; omega) f hf)
    obtain ⟨x1, x2, x3, x4, x5, x6, hx⟩ := encF_eq f
    rw [encV, hx] at this
    rw [hx]
    simp [rO1, frL, fr, callR, this, F.full]) hl hb
  generalize (l.filter fun v => !lets f v.ats v.tag) = res at h ⊢
  obtain ⟨x1, x2, x3, x4, x5, x6, hx⟩ := encF_eq f
  rw [hx] at h ⊢
  unfold someO at h
  by_cases hn : res = []
  · rw [if_pos hn] at h
    simp [c32, x_own, ownK, ownK_ite, takeO, takeL, giveO, giveL, O.cnt, O.cntL, newL, aliveMv, St.back, callOwn, orC, rSome, h, hn]
  · rw [if_neg hn] at h
    simp [c32, x_own, ownK, ownK_ite, takeO, takeL, giveO, giveL, O.cnt, O.cntL, newL, aliveMv, St.back, callOwn, orC, rSome, h, hn]
end Go.Proofs.Ytmbboljcgpccfaa.Pl
