/-
  What is proved here: what both know.
  Conditions: none.
-/
import Derived.Test.YtjkichflkjcccaaBcB
import Derived.Test.YtjkichflkjcccaaKmB
set_option linter.unusedVariables false
set_option linter.unusedSimpArgs false
set_option maxRecDepth 100000
set_option maxHeartbeats 8000000
namespace Go.Proofs.Ytjkichflkjcccaa.Pl
open Go Go.Proofs Go.Proofs.Ev Go.Proofs.Dv Cd
attribute [local simp] x_pure x_skip x_reg x_drw x_seq x_cond x_block x_frz x_loop' Tm.keep_nil x_exit x_ret k_seq k_seq_ret k_seq_exit k_seq_none k_seq_ite k_cond k_block k_block_ret k_block_exit k_block_none k_block_ite k_iter k_iter_ret k_iter_exit k_iter_none k_iter_ite k_reg k_reg_none k_reg_ite x_is_nil x_is x_is_g k_ins k_ins_none k_ins_ite k_grd x_ord_nil x_ord x_ord_g k_ord k_ord_none k_ord_ite k_ogrd k_out_ret k_out k_out_none k_out_ite k_pure k_pure_none k_pure_ite startD dI dA deo Tm.at Tm.dst Tm.set Tm.put Tm.keep dW dRes oneOfD mkTup mkAgg mkFn allF frL fr vD vD1 vF vFL dBin dEq dNil isNilD dScal F.cv eBin sameKind eInt eStr cellsD oneD F.one dFill putAtD chunk dbnd dSrc St.own St.drop St.still St.fresh chkQ stillQ freshQ lOf rdOf rdOK undefD F.full F.fullL List.mapIdx_cons strip allOne_nil allOne_cons allOne_append allLen_nil allLen_cons allLen_append roomOK_small filterT y_mv y_pick y_new y_box y_build y_bslice y_ld1 y_ldn y_nilchk y_bin y_not y_conv y_bytes y_string y_ifc y_fn y_cut y_cuts y_fa y_fld y_ia y_idx y_idxs y_ext y_len y_lenstr y_app y_grow y_mks y_slow y_call y_callv y_inv y_extc x_it_st x_it_clr x_it_cpy k_addT k_addT_none k_addT_ite k_orU k_orU_none dU D.turn turnL Tm.turn turnS St.turn turnRows_length

theorem sSort : callI Try.prog prims dx tbl 15 [.ptr 0 0] ⟨[], [], 0⟩ = some (aSrt false) := callI_prim (p := .srt false) rfl rfl
theorem sF (l : List Int) : srtF false (l.map encI) = some ((sortB leI l).map encI) := srtF_int l
theorem turn_over : ∀ (rows rs : List (List F)) (pre : List (List F)) (q : Nat), rs.length = rows.length → turnRows (rowsU q (pre ++ rs)) (q + pre.length) rows = rs
  | [], rs, pre, q, h => by
    obtain rfl := List.eq_nil_of_length_eq_zero h
    rfl
  | e :: r, [], pre, q, h => by simp at h
  | e :: r, x :: rs, pre, q, h => by
    simp only [turnRows]
    have h1 : rowsU q (pre ++ x :: rs) (q + pre.length) e = x := by
      simp only [rowsU]
      rw [if_pos (by simp)]
      rw [show q + pre.length - q = pre.length by omega, List.getD_eq_getElem?_getD, List.getElem?_append_right (Nat.le_refl _), Nat.sub_self]
      rfl
    have h2 := turn_over r rs (pre ++ [x]) q (by simpa using h)
    simp only [List.append_assoc, List.singleton_append, List.length_append, List.length_singleton] at h2
    rw [h1, show q + pre.length + 1 = q + (pre.length + 1) by omega, h2]
theorem turn_all (rows rs : List (List F)) (h : rs.length = rows.length) : turnRows (rowsU 0 rs) 0 rows = rs := by
  have := turn_over rows rs [] 0 h
  simpa using this
theorem mmB : minmax (operAt Try.prog 6 16) = some (true, 15, 17) := by kernel_rfl
theorem pBoth (a b : Kn) (ha : K50 a) (hb : K50 b) : pureI Try.prog prims dx tbl 6 [.agg (encK a), .agg (encK b)] = some (.agg (encK (bothK a b))) := by
  rw [pureI_of (rfl : tbl 6 = some c6)]
  have la := ha.len
  have lb := hb.len
  have hC := oConcat a.more b.more (by omega) (by omega)
  have hS := sF (a.more ++ b.more)
  have hP := oCompact (sortB leI (a.more ++ b.more)) (by rw [sortB_length, List.length_append]; omega)
  have hW := pWhole ⟨if a.up < b.up then b.up else a.up, cmpc (sortB leI (a.more ++ b.more))⟩ (by have := ha.up; have := hb.up; simp only; split <;> omega) (by have := ha.up; have := hb.up; simp only; split <;> omega) (fun m hm => by
    simp only at hm
    rw [cmpc_mem, sortI_mem, List.mem_append] at hm
    rcases hm with hm | hm
    · have := (ha.more m hm).2; omega
    · have := (hb.more m hm).2; omega) (by
    have h1 := cmpc_len (sortB leI (a.more ++ b.more))
    rw [sortB_length, List.length_append] at h1
    simp only
    omega)
  have hlen : ((sortB leI (a.more ++ b.more)).map encI).length = ((a.more ++ b.more).map encI).length := by rw [List.length_map, List.length_map, sortB_length]
  have hT := turn_all _ _ hlen
  have hbig : (a.more ++ b.more).length < 4611686018427387904 := by rw [List.length_append]; omega
  have hR : bothK a b = wholeK (if a.up < b.up then b.up else a.up) (cmpc (sortB leI (a.more ++ b.more))) := rfl
  simp only [encK] at hW
  rw [hR]
  simp only [encK]
  have oS := (encI_ok (cmpc (sortB leI (a.more ++ b.more))))
  have hL := (List.length_map encI : ((a.more ++ b.more).map encI).length = (a.more ++ b.more).length)
  generalize hX : a.more ++ b.more = X at *
  by_cases h0 : X.length = 0
  · obtain rfl : X = [] := List.eq_nil_of_length_eq_zero h0
    have e : cmpc (sortB leI []) = [] := rfl
    rw [e] at hP hW ⊢
    have e2 : sortB leI ([] : List Int) = [] := rfl
    rw [e2] at hP
    simp at hC hP hW
    simp [c6, x_own, ownK, ownK_ite, takeO, takeL, giveO, giveL, O.cnt, O.cntL, newL, aliveMv, St.back, callOwn, orC, x_srt, k_srt1, k_srt2, k_srt3, q_srt, sSort, dSrt, rConcat, hC, slow_mm mmB, mmD, rCompact, hP, rWhole, callR, hW]
  · have hpos : 0 < X.length := by omega
    simp [c6, x_own, ownK, ownK_ite, takeO, takeL, giveO, giveL, O.cnt, O.cntL, newL, aliveMv, St.back, callOwn, orC, x_srt, k_srt1, k_srt2, k_srt3, q_srt, sSort, dSrt, rConcat, hC, hS, hT, h0, hbig, hpos, slow_mm mmB, mmD, rCompact, hP, rWhole, callR, hW]
theorem rBoth (ds : List D) (st : Dv.St) : callI Try.prog prims dx tbl 6 ds st = callR Try.prog prims dx tbl 6 ds st (frL (fr st 6) ds) := callRw rfl rfl (rfl : tbl 6 = some c6) rfl ds st
end Go.Proofs.Ytjkichflkjcccaa.Pl
