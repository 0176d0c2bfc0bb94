/-
  What is proved here: two versions compared, in the document's own words.
  Conditions: none.
-/
import Derived.Test.YtmbboljcgpccfaaHhH
set_option linter.unusedVariables false
set_option linter.unusedSimpArgs false
set_option maxRecDepth 100000
set_option maxHeartbeats 8000000
namespace Go.Proofs.Ytmbboljcgpccfaa.Pl
open Go Go.Proofs Go.Proofs.Ev Go.Proofs.Dv Cd
attribute [local simp] x_pure x_skip x_reg x_drw x_seq x_cond x_block x_loop' Tm.keep_nil x_exit x_ret k_seq k_seq_ret k_seq_exit k_seq_none k_seq_ite k_cond k_block k_block_ret k_block_exit k_block_none k_block_ite k_iter k_iter_ret k_iter_exit k_iter_none k_iter_ite k_reg k_reg_none k_reg_ite x_is_nil x_is x_is_g k_ins k_ins_none k_ins_ite k_grd x_ord_nil x_ord x_ord_g k_ord k_ord_none k_ord_ite k_ogrd k_out_ret k_out k_out_none k_out_ite k_pure k_pure_none k_pure_ite startD dI dA deo Tm.at Tm.dst Tm.set Tm.put Tm.keep dW dRes oneOfD mkTup mkAgg mkFn allF frL fr vD vD1 vF vFL dBin dEq dNil isNilD dScal F.cv eBin sameKind eInt eStr cellsD oneD F.one dFill putAtD chunk dbnd dSrc St.own St.drop St.still St.fresh chkQ stillQ freshQ lOf rdOf rdOK undefD F.full F.fullL List.mapIdx_cons strip allOne_nil allOne_cons allOne_append allLen_nil allLen_cons allLen_append roomOK_small filterT y_mv y_pick y_new y_box y_build y_bslice y_ld1 y_ldn y_nilchk y_bin y_not y_conv y_bytes y_string y_ifc y_fn y_cut y_cuts y_fa y_fld y_ia y_idx y_idxs y_ext y_len y_lenstr y_app y_grow y_mks y_slow y_call y_callv y_inv y_extc x_it_st x_it_clr x_it_cpy k_addT k_addT_none k_addT_ite k_orU k_orU_none dU D.turn turnL Tm.turn turnS St.turn turnRows_length

theorem pSameF (v w : Ver) (hl : v.ats.length < 100000) (hw : w.ats.length < 100000) : pureI Try.prog prims dx tbl 21 [.agg (encV v), .agg (encV w)] = some (.bool (decide (v.item = w.item) && (((v.a == w.a) && ((v.b == w.b) && (v.c == w.c))) && ((v.dead == w.dead) && (decide (v.tag = w.tag) && (decide (v.body = w.body) && decide (v.ats = w.ats))))))) := by
  rw [pureI_of (rfl : tbl 21 = some c21)]
  by_cases h1 : v.item = w.item
  · cases h2 : ((v.a == w.a) && ((v.b == w.b) && (v.c == w.c))) with
    | false => simp [c21, encV, h1, slow_eqStamp eSm1, eqDStamp, beqB_eq, h2]
    | true =>
      cases h3 : (v.dead == w.dead) with
      | false =>
        have h3' : ¬ v.dead = w.dead := by simpa using h3
        simp [c21, encV, h1, slow_eqStamp eSm1, eqDStamp, beqB_eq, h2, h3, h3']
      | true =>
        have h3' : v.dead = w.dead := by simpa using h3
        by_cases h4 : v.tag = w.tag
        · by_cases h5 : v.body = w.body
          · by_cases h6 : v.ats.length = w.ats.length
            · obtain ⟨T', st', j1, j2⟩ := loopSv v w hl h6 v.ats 0 0 rfl rfl (Nat.zero_le _)
              simp only [List.drop_zero] at j1 j2
              simp [varV, h1, h3', h4, h5] at j1
              by_cases h7 : v.ats = w.ats
              · simp [h7] at j1
                simp [c21, encV, h1, slow_eqStamp eSm1, eqDStamp, beqB_eq, h2, h3, h3', h4, h5, h7, j1]
                try (rw [h1, h3', h4, h5] at j1; simp [j1])
              · simp [h7] at j1 j2
                simp [c21, encV, h1, slow_eqStamp eSm1, eqDStamp, beqB_eq, h2, h3, h3', h4, h5, h6, h7, j1, j2]
                try (rw [h1, h3', h4, h5] at j1; simp [j1, j2])
            · have h7 : ¬ v.ats = w.ats := fun e => h6 (by rw [e])
              simp [c21, encV, h1, slow_eqStamp eSm1, eqDStamp, beqB_eq, h2, h3, h3', h4, h5, h6, h7, show ¬ (v.ats.length : Int) = w.ats.length by omega]
          · have h5' : (v.body == w.body) = false := by simpa using h5
            simp [c21, encV, h1, slow_eqStamp eSm1, eqDStamp, beqB_eq, h2, h3, h3', h4, h5, h5']
        · have h4' : (v.tag == w.tag) = false := by simpa using h4
          simp [c21, encV, h1, slow_eqStamp eSm1, eqDStamp, beqB_eq, h2, h3, h3', h4, h4']
  · simp [c21, encV, h1]
theorem rSameF (ds : List D) (st : Dv.St) : callI Try.prog prims dx tbl 21 ds st = callR Try.prog prims dx tbl 21 ds st (frL (fr st 6) ds) := callRw rfl rfl (rfl : tbl 21 = some c21) rfl ds st
end Go.Proofs.Ytmbboljcgpccfaa.Pl
