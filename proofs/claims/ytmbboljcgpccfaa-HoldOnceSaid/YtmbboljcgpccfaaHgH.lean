/-
  What is proved here: versions that are held: with another one.
  Conditions: none.
-/
import Derived.Test.YtmbboljcgpccfaaHfH
set_option linter.unusedVariables false
set_option linter.unusedSimpArgs false
set_option maxRecDepth 100000
set_option maxHeartbeats 8000000
namespace Go.Proofs.Ytmbboljcgpccfaa.Pl
open Go Go.Proofs Go.Proofs.Ev Go.Proofs.Dv Cd
attribute [local simp] x_pure x_skip x_reg x_drw x_seq x_cond x_block x_loop' Tm.keep_nil x_exit x_ret k_seq k_seq_ret k_seq_exit k_seq_none k_seq_ite k_cond k_block k_block_ret k_block_exit k_block_none k_block_ite k_iter k_iter_ret k_iter_exit k_iter_none k_iter_ite k_reg k_reg_none k_reg_ite x_is_nil x_is x_is_g k_ins k_ins_none k_ins_ite k_grd x_ord_nil x_ord x_ord_g k_ord k_ord_none k_ord_ite k_ogrd k_out_ret k_out k_out_none k_out_ite k_pure k_pure_none k_pure_ite startD dI dA deo Tm.at Tm.dst Tm.set Tm.put Tm.keep dW dRes oneOfD mkTup mkAgg mkFn allF frL fr vD vD1 vF vFL dBin dEq dNil isNilD dScal F.cv eBin sameKind eInt eStr cellsD oneD F.one dFill putAtD chunk dbnd dSrc St.own St.drop St.still St.fresh chkQ stillQ freshQ lOf rdOf rdOK undefD F.full F.fullL List.mapIdx_cons strip allOne_nil allOne_cons allOne_append allLen_nil allLen_cons allLen_append roomOK_small filterT y_mv y_pick y_new y_box y_build y_bslice y_ld1 y_ldn y_nilchk y_bin y_not y_conv y_bytes y_string y_ifc y_fn y_cut y_cuts y_fa y_fld y_ia y_idx y_idxs y_ext y_len y_lenstr y_app y_grow y_mks y_slow y_call y_callv y_inv y_extc x_it_st x_it_clr x_it_cpy k_addT k_addT_none k_addT_ite k_orU k_orU_none dU D.turn turnL Tm.turn turnS St.turn turnRows_length

def Ver.s (v : Ver) : Int × Int × Int := (v.a, v.b, v.c)
theorem pNewer (v w : Ver) : pureI Try.prog prims dx tbl 60 [.agg (encV v), .agg (encV w)] = some (.bool (decide (0 < cmpS v.s w.s))) := by
  rw [pureI_of (rfl : tbl 60 = some c60)]
  have hc := pCmp v.a v.b v.c w.a w.b w.c
  have e : cmpS (v.a, v.b, v.c) (w.a, w.b, w.c) = cmpS v.s w.s := rfl
  rw [e] at hc
  by_cases h : 0 < cmpS v.s w.s
  · simp [c60, encV, rCmp, callR, hc, h]
  · simp [c60, encV, rCmp, callR, hc, h]
theorem rNewer (ds : List D) (st : Dv.St) : callI Try.prog prims dx tbl 60 ds st = callR Try.prog prims dx tbl 60 ds st (frL (fr st 6) ds) := callRw rfl rfl (rfl : tbl 60 = some c60) rfl ds st
theorem rInsV (ds : List D) (st : Dv.St) : callI Try.prog prims dx tbl 59 ds st = orC (dPrim (.ins 8 96) ds st) (callI0 Try.prog prims dx tbl 59 ds st) := callRwP rfl ds st
theorem turn_setV (l : List Ver) (k : Nat) (h : Ver) : turnRows (rowU k 0 [.int .i64 h.item, .int .i64 h.a, .int .i64 h.b, .int .i64 h.c, .bool h.dead, .list (h.ats.map encA), .str h.tag, .str h.body]) 0 (l.map encV) = (l.set k h).map encV := by
  have := turn_set encV h (fun x => rfl) l 0 k
  rw [Nat.zero_add] at this
  exact this
def putV (l : List Ver) (v : Ver) : List Ver := if isK Ver.item v.item l = true then (if ∃ x, l[cntK Ver.item v.item l]? = some x ∧ 0 < cmpS x.s v.s then l else l.set (cntK Ver.item v.item l) v) else l.take (cntK Ver.item v.item l) ++ v :: l.drop (cntK Ver.item v.item l)
theorem pPutV (l : List Ver) (hl : l.length < 90000) (hs : Rise Ver.item l) (ha : ∀ v ∈ l, v.ats.length < 100000) (v : Ver) (hv : v.ats.length < 100000) : pureI Try.prog prims dx tbl 23 [.list (l.map encV), .agg (encV v)] = some (.list ((putV l v).map encV)) := by
  rw [pureI_of (rfl : tbl 23 = some c23)]
  have hA := oAll l (by omega) ha
  have hp := pPlaceV l (by omega) hs v.item
  have hm := pMine v hv
  simp [encV] at hm
  have hcl := cntK_le Ver.item v.item l
  have o1 := encV_one l
  have r2 : roomOK 96 (l.length + 1) := roomOK_small (by omega) (by omega)
  have r3 : roomOK 96 1 := roomOK_small (by omega) (by omega)
  unfold someO at hA
  rcases isK_iff Ver.item v.item l with ⟨h1, h2⟩ | ⟨hlt, h1, h2⟩
  · rw [h1] at hp
    have hput : putV l v = l.take (cntK Ver.item v.item l) ++ v :: l.drop (cntK Ver.item v.item l) := by simp [putV, h1]
    rw [hput]
    by_cases hn : l = []
    · rw [if_pos hn] at hA
      subst hn
      simp [cntK] at hp hA
      simp [c23, x_own, ownK, ownK_ite, takeO, takeL, giveO, giveL, O.cnt, O.cntL, newL, aliveMv, St.back, callOwn, orC, encV, rAll, hA, rPlaceV, callR, hp, rMine, hm, rInsV, dPrim, dIns, orC, r3, cntK]
    · rw [if_neg hn] at hA
      simp [c23, x_own, ownK, ownK_ite, takeO, takeL, giveO, giveL, O.cnt, O.cntL, newL, aliveMv, St.back, callOwn, orC, encV, rAll, hA, rPlaceV, callR, hp, rMine, hm, rInsV, dPrim, dIns, orC, o1, r2, hcl]
  · have hn : ¬ l = [] := by
      intro e
      subst e
      simp at hlt
    rw [if_neg hn] at hA
    rw [h1] at hp
    have hN := pNewer l[cntK Ver.item v.item l] v
    simp only [encV] at hN
    by_cases hc : 0 < cmpS (l[cntK Ver.item v.item l]).s v.s
    · have hput : putV l v = l := by simp [putV, h1, hlt, hc]
      rw [hput]
      rw [decide_eq_true hc] at hN
      simp [c23, x_own, ownK, ownK_ite, takeO, takeL, giveO, giveL, O.cnt, O.cntL, newL, aliveMv, St.back, callOwn, orC, encV, rAll, hA, rPlaceV, callR, hp, rNewer, hN, hlt]
    · have hput : putV l v = l.set (cntK Ver.item v.item l) v := by simp [putV, h1, hlt, hc]
      rw [hput]
      rw [decide_eq_false hc] at hN
      simp [c23, x_own, ownK, ownK_ite, takeO, takeL, giveO, giveL, O.cnt, O.cntL, newL, aliveMv, St.back, callOwn, orC, encV, rAll, hA, rPlaceV, callR, hp, rNewer, hN, hlt, rMine, hm, turn_setV]
theorem rPutV (ds : List D) (st : Dv.St) : callI Try.prog prims dx tbl 23 ds st = callR Try.prog prims dx tbl 23 ds st (frL (fr st 6) ds) := callRw rfl rfl (rfl : tbl 23 = some c23) rfl ds st
end Go.Proofs.Ytmbboljcgpccfaa.Pl
