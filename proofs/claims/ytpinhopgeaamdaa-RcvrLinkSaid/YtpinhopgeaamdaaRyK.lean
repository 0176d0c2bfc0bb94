/-
  What is proved here: what came with another piece, and what is told: the contract.
  Conditions: none.
-/
import Derived.Test.YtpinhopgeaamdaaRwK
set_option linter.unusedVariables false
set_option linter.unusedSimpArgs false
set_option maxRecDepth 100000
set_option maxHeartbeats 8000000
namespace Go.Proofs.Ytpinhopgeaamdaa.Pl
open Go Go.Proofs Go.Proofs.Ev Go.Proofs.Dv Cd
attribute [local simp] x_pure x_skip x_reg x_drw x_seq x_cond x_block x_loop' Tm.keep_nil x_exit x_ret k_seq k_seq_ret k_seq_exit k_seq_none k_seq_ite k_cond k_block k_block_ret k_block_exit k_block_none k_block_ite k_iter k_iter_ret k_iter_exit k_iter_none k_iter_ite k_reg k_reg_none k_reg_ite x_is_nil x_is x_is_g k_ins k_ins_none k_ins_ite k_grd x_ord_nil x_ord x_ord_g k_ord k_ord_none k_ord_ite k_ogrd k_out_ret k_out k_out_none k_out_ite k_pure k_pure_none k_pure_ite startD dI dA deo Tm.at Tm.dst Tm.set Tm.put Tm.keep dW dRes oneOfD mkTup mkAgg mkFn allF frL fr vD vD1 vF vFL dBin dEq dNil isNilD dScal F.cv eBin sameKind eInt eStr cellsD oneD F.one dFill putAtD chunk dbnd dSrc St.own St.drop St.still St.fresh chkQ stillQ freshQ lOf rdOf rdOK undefD F.full F.fullL List.mapIdx_cons strip allOne_nil allOne_cons allOne_append allLen_nil allLen_cons allLen_append roomOK_small filterT y_mv y_pick y_new y_box y_build y_bslice y_ld1 y_ldn y_nilchk y_bin y_not y_conv y_bytes y_string y_ifc y_fn y_cut y_cuts y_fa y_fld y_ia y_idx y_idxs y_ext y_len y_lenstr y_app y_grow y_mks y_slow y_call y_callv y_inv y_extc x_it_st x_it_clr x_it_cpy k_addT k_addT_none k_addT_ite k_orU k_orU_none dU D.turn turnL Tm.turn turnS St.turn turnRows_length

def Rv.ok (r : Rv) : Prop := 0 ≤ r.k.up ∧ r.k.up ≤ 900000 ∧ (∀ m ∈ r.k.more, m ≤ 1000000) ∧ r.k.more.length < 10000 ∧ Rise idI r.k.more ∧ r.l.length < 10000 ∧ Rise Sg.num r.l
theorem rCloneG' (ds : List D) (st : Dv.St) : callI Try.prog prims dx tbl 57 ds st = orC (dClone 2 24 ds st) (callI0 Try.prog prims dx tbl 57 ds st) := callRwX rfl rfl ds st
theorem rInsG (ds : List D) (st : Dv.St) : callI Try.prog prims dx tbl 60 ds st = orC (dPrim (.ins 2 24) ds st) (callI0 Try.prog prims dx tbl 60 ds st) := callRwP rfl ds st
theorem pComes (r : Rv) (ok : r.ok) (s : Sg) : pureI Try.prog prims dx tbl 33 [.agg (encR r), .agg (encG s)] = some (.tup [.agg (encR (comesR r s).1), .list ((comesR r s).2.map encT)]) := by
  obtain ⟨u0, u1, hm, hl, hs, hl2, hs2⟩ := ok
  rw [pureI_of (rfl : tbl 33 = some c33)]
  have o1 := encI_ok r.k.more
  have r1 : roomOK 8 r.k.more.length := roomOK_small (by omega) (by omega)
  have o2 := encG_ok r.l
  have r2 : roomOK 24 r.l.length := roomOK_small (by omega) (by omega)
  have r3 : roomOK 24 (r.l.length + 1) := roomOK_small (by omega) (by omega)
  have hh := pHas r.k (by omega) s.num
  have w4 : wrapF .i64 (r.k.up + 4) = r.k.up + 4 := wrap_id _ (by omega) (by omega)
  cases a1 : hasK r.k s.num with
  | true =>
    rw [a1] at hh
    simp [encK] at hh
    simp [c33, encR, encG, rCloneI, rCloneG', dClone, dSrc, orC, o1, r1, o2, r2, comesR, a1, rHas, callR, hh]
  | false =>
    rw [a1] at hh
    simp [encK] at hh
    by_cases a2 : s.num < 1
    · simp [c33, encR, encG, rCloneI, rCloneG', dClone, dSrc, orC, o1, r1, o2, r2, comesR, a1, a2, rHas, callR, hh]
    · by_cases a3 : r.k.up + 4 < s.num
      · simp [c33, encR, encG, rCloneI, rCloneG', dClone, dSrc, orC, o1, r1, o2, r2, comesR, a1, a2, a3, w4, rHas, callR, hh]
      · have ha := pAdd r.k u0 (by omega) hm hl hs s.num
        have hb := pBSG r.l (by omega) hs2 s.num
        have hc := cntK_le Sg.num s.num r.l
        have hn : ((cntK Sg.num s.num r.l : Nat) : Int) ≤ (r.l.length : Int) := by omega
        have hg : (insG r.l s).length = r.l.length + 1 := by simp [insG]; omega
        obtain ⟨q, d, L, c, T', ht, ho, hk, hT⟩ := loopC (addK r.k s.num).up (.fz (.list ((addK r.k s.num).more.map encI))) [.fz (.int .i64 s.num), .fz (.str s.b)] [.fz (.int .i64 0), .nils, .nils] 3 (insG r.l s) [] [] .nils 0 [3, 2] 4 (by simp) (by omega) rfl (.inl ⟨rfl, rfl⟩) (by simp [hg]; omega)
        have hcm : comesR r s = (⟨addK r.k s.num, (runU (addK r.k s.num).up (insG r.l s)).2⟩, (runU (addK r.k s.num).up (insG r.l s)).1) := by simp [comesR, a1, a2, a3]
        rw [hcm]
        generalize hkk : addK r.k s.num = k' at ha hT hcm ho ⊢
        rw [List.nil_append] at hT ho
        generalize hres : runU k'.up (insG r.l s) = res at hT hcm ho ⊢
        simp [encK] at ha
        simp [insG, encG] at hT
        rcases ho with ⟨h5, rfl⟩ | ⟨t2, h6, h7, rfl⟩
        · have h5' : res.1 = [] := by simpa using h5
          simp [c33, encR, encG, rCloneI, rCloneG', dClone, dSrc, orC, o1, r1, o2, r2, a1, a2, a3, w4, rHas, callR, hh, rAdd, ha, rBSG, hb, rInsG, dPrim, dIns, r3, hc, hn, hT, hk, ht, h5']
        · simp [c33, encR, encG, rCloneI, rCloneG', dClone, dSrc, orC, o1, r1, o2, r2, a1, a2, a3, w4, rHas, callR, hh, rAdd, ha, rBSG, hb, rInsG, dPrim, dIns, r3, hc, hn, hT, hk, ht, h6, h7]
theorem rComes (ds : List D) (st : Dv.St) : callI Try.prog prims dx tbl 33 ds st = callR Try.prog prims dx tbl 33 ds st (frL (fr st 6) ds) := callRw rfl rfl (rfl : tbl 33 = some c33) rfl ds st
end Go.Proofs.Ytpinhopgeaamdaa.Pl
