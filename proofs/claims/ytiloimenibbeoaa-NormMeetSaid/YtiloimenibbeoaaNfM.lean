/-
  What is proved here: what two boxes both let through: the whole.
  Conditions: none.
-/
import Derived.Test.YtiloimenibbeoaaNeM
set_option linter.unusedVariables false
set_option linter.unusedSimpArgs false
set_option maxRecDepth 100000
set_option maxHeartbeats 8000000
namespace Go.Proofs.Ytiloimenibbeoaa.Pl
open Go Go.Proofs Go.Proofs.Ev Go.Proofs.Dv Cd
attribute [local simp] x_pure x_skip x_reg x_drw x_seq x_cond x_block x_frz x_loop' Tm.keep_nil x_exit x_ret k_seq k_seq_ret k_seq_exit k_seq_none k_seq_ite k_cond k_block k_block_ret k_block_exit k_block_none k_block_ite k_iter k_iter_ret k_iter_exit k_iter_none k_iter_ite k_reg k_reg_none k_reg_ite x_is_nil x_is x_is_g k_ins k_ins_none k_ins_ite k_grd x_ord_nil x_ord x_ord_g k_ord k_ord_none k_ord_ite k_ogrd k_out_ret k_out k_out_none k_out_ite k_pure k_pure_none k_pure_ite startD dI dA deo Tm.at Tm.dst Tm.set Tm.put Tm.keep dW dRes oneOfD mkTup mkAgg mkFn allF frL fr vD vD1 vF vFL dBin dEq dNil isNilD dScal F.cv eBin sameKind eInt eStr cellsD oneD F.one dFill putAtD chunk dbnd dSrc St.own St.drop St.still St.fresh chkQ stillQ freshQ lOf rdOf rdOK undefD F.full F.fullL List.mapIdx_cons strip allOne_nil allOne_cons allOne_append allLen_nil allLen_cons allLen_append roomOK_small filterT y_mv y_pick y_new y_box y_build y_bslice y_ld1 y_ldn y_nilchk y_bin y_not y_conv y_bytes y_string y_ifc y_fn y_cut y_cuts y_fa y_fld y_ia y_idx y_idxs y_ext y_len y_lenstr y_app y_grow y_mks y_slow y_call y_callv y_inv y_extc x_it_st x_it_clr x_it_cpy k_addT k_addT_none k_addT_ite k_orU k_orU_none dU D.turn turnL Tm.turn turnS St.turn turnRows_length

def meetT (s0 s1 s2 s3 : Side) (p q : Box) : Option Box := if front q.tag p.tag = true ∧ ((cmpc (sortB leS (p.nots ++ q.nots))).any fun x => front x p.tag) = false then some ⟨s0, s1, s2, s3, p.tag, cmpc (sortB leS (p.nots ++ q.nots))⟩ else none
def meetB (a b : Box) : Option Box := if (sideB a.k0 b.k0).2 = true ∧ (sideB a.k1 b.k1).2 = true ∧ (sideB a.k2 b.k2).2 = true ∧ (sideB a.k3 b.k3).2 = true then
    (if a.tag.length < b.tag.length then meetT (sideB a.k0 b.k0).1 (sideB a.k1 b.k1).1 (sideB a.k2 b.k2).1 (sideB a.k3 b.k3).1 b a else meetT (sideB a.k0 b.k0).1 (sideB a.k1 b.k1).1 (sideB a.k2 b.k2).1 (sideB a.k3 b.k3).1 a b) else none
theorem sSortS : callI Try.prog prims dx tbl 37 [.ptr 0 0] ⟨[], [], 0⟩ = some (aSrt true) := callI_prim (p := .srt true) rfl rfl
theorem sFS (l : List (List UInt8)) : srtF true (l.map encT) = some ((sortB leS l).map encT) := srtF_str l
theorem sortB_length' (l : List (List UInt8)) : (sortB leS l).length = l.length := sortB_len leS l
theorem turn_over : ∀ (rows rs : List (List F)) (pre : List (List F)) (q : Nat), rs.length = rows.length → turnRows (rowsU q (pre ++ rs)) (q + pre.length) rows = rs
  | [], rs, pre, q, h => by
    obtain rfl := List.eq_nil_of_length_eq_zero h
    rfl
  | e :: r, [], pre, q, h => by simp at h
  | e :: r, x :: rs, pre, q, h => by
    simp only [turnRows]
    have h1 : rowsU q (pre ++ x :: rs) (q + pre.length) e = x := by
      simp only [rowsU]
      rw [if_pos (by simp)]
      rw [show q + pre.length - q = pre.length by omega, List.getD_eq_getElem?_getD, List.getElem?_append_right (Nat.le_refl _), Nat.sub_self]
      rfl
    have h2 := turn_over r rs (pre ++ [x]) q (by simpa using h)
    simp only [List.append_assoc, List.singleton_append, List.length_append, List.length_singleton] at h2
    rw [h1, show q + pre.length + 1 = q + (pre.length + 1) by omega, h2]
theorem turn_all (rows rs : List (List F)) (h : rs.length = rows.length) : turnRows (rowsU 0 rs) 0 rows = rs := by
  have := turn_over rows rs [] 0 h
  simpa using this
theorem meetNone (a b : Box) {T' : Tm} {st' : Dv.St} (h1 : T'.at 4 = .ptr 2 0) (h2 : T'.at 5 = .fz (.bool false)) (h3 : st'.S[2]? = some varZ) (e : iterI (dCw Try.prog (callI Try.prog prims dx tbl) l19_0) [2, 3, 4, 8] [(2, .ptr 0 0), (3, .ptr 1 0), (4, .ptr 2 0), (8, .fz (.int .i64 0))] ⟨[varB a, varB b, (true, [.fz (.int .i64 0), .fz (.int .i64 0), .fz (.int .i64 0), .fz (.int .i64 0), .fz (.int .i64 0), .fz (.int .i64 0), .fz (.int .i64 0), .fz (.int .i64 0), .fz (.int .i64 0), .fz (.int .i64 0), .fz (.int .i64 0), .fz (.int .i64 0), .fz (.str []), .nils])], [], 0⟩ = some (.ret, T', st')) :
    dPureW Try.prog (callI Try.prog prims dx tbl) c19 [.agg (encB a), .agg (encB b)] = some (.tup [.agg (encB box0), .bool false]) := by
  simp only [varB, varZ, encB, List.map_cons, List.map_nil] at e h3
  simp [c19, encB, box0, side0, e, h1, h2, h3]
theorem meetSome (a b p q : Box) (hpq : p = (if a.tag.length < b.tag.length then b else a) ∧ q = (if a.tag.length < b.tag.length then a else b)) (ha : a.nots.length ≤ 100) (hb : b.nots.length ≤ 100) (s0 s1 s2 s3 : Side) {T' : Tm} (k1 : T'.keep [2, 3, 4] = [(2, .ptr 0 0), (3, .ptr 1 0), (4, .ptr 2 0)]) (e : iterI (dCw Try.prog (callI Try.prog prims dx tbl) l19_0) [2, 3, 4, 8] [(2, .ptr 0 0), (3, .ptr 1 0), (4, .ptr 2 0), (8, .fz (.int .i64 0))] ⟨[varB a, varB b, (true, [.fz (.int .i64 0), .fz (.int .i64 0), .fz (.int .i64 0), .fz (.int .i64 0), .fz (.int .i64 0), .fz (.int .i64 0), .fz (.int .i64 0), .fz (.int .i64 0), .fz (.int .i64 0), .fz (.int .i64 0), .fz (.int .i64 0), .fz (.int .i64 0), .fz (.str []), .nils])], [], 0⟩ = some (.exit 0, T', ⟨[varB a, varB b, (true, [.fz (.int .i64 s0.h), .fz (.int .i64 s0.lo), .fz (.int .i64 s0.hi), .fz (.int .i64 s1.h), .fz (.int .i64 s1.lo), .fz (.int .i64 s1.hi), .fz (.int .i64 s2.h), .fz (.int .i64 s2.lo), .fz (.int .i64 s2.hi), .fz (.int .i64 s3.h), .fz (.int .i64 s3.lo), .fz (.int .i64 s3.hi), .fz (.str []), .nils])], [], 0⟩)) :
    dPureW Try.prog (callI Try.prog prims dx tbl) c19 [.agg (encB a), .agg (encB b)] = some (.tup [.agg (encB ((meetT s0 s1 s2 s3 p q).getD box0)), .bool (meetT s0 s1 s2 s3 p q).isSome]) := by
  have hC := oConcatS (p.nots.map encT) (q.nots.map encT) (by rw [List.length_map]; obtain ⟨rfl, _⟩ := hpq; split <;> assumption) (by rw [List.length_map]; obtain ⟨_, rfl⟩ := hpq; split <;> assumption) (encT_ok _).1 (encT_ok _).1 (encT_ok _).2 (encT_ok _).2
  rw [← List.map_append] at hC
  have hS := sFS (p.nots ++ q.nots)
  have hlX : (p.nots ++ q.nots).length ≤ 200 := by
    rw [List.length_append]
    obtain ⟨rfl, rfl⟩ := hpq
    split <;> omega
  have hP := oCompact (sortB leS (p.nots ++ q.nots)) (by rw [sortB_length']; omega)
  have hlen : ((sortB leS (p.nots ++ q.nots)).map encT).length = ((p.nots ++ q.nots).map encT).length := by rw [List.length_map, List.length_map, sortB_length']
  have hT := turn_all _ _ hlen
  have hbig : (p.nots ++ q.nots).length < 4611686018427387904 := by omega
  have hN := pBgN p.tag (cmpc (sortB leS (p.nots ++ q.nots))) (by have := cmpc_len (sortB leS (p.nots ++ q.nots)); rw [sortB_length'] at this; omega)
  have hF := pPre p.tag q.tag
  have oS := encT_ok (cmpc (sortB leS (p.nots ++ q.nots)))
  unfold meetT
  generalize hX : p.nots ++ q.nots = X at *
  generalize hW : cmpc (sortB leS X) = W at *
  generalize hw : (W.any fun x => front x p.tag) = w at *
  generalize hf : front q.tag p.tag = f at *
  simp only [varB, encB, List.map_cons, List.map_nil] at e
  have hcmp : ((a.tag.length : Int) < b.tag.length) = (a.tag.length < b.tag.length) := by simp
  by_cases hl : a.tag.length < b.tag.length
  · rw [if_pos hl, if_pos hl] at hpq
    obtain ⟨rfl, rfl⟩ := hpq
    have hli : ((q.tag.length : Int) < p.tag.length) := by omega
    by_cases h0 : X.length = 0
    · obtain rfl : X = [] := List.eq_nil_of_length_eq_zero h0
      have e2 : sortB leS ([] : List (List UInt8)) = [] := rfl
      rw [e2] at hP hW hT hS
      obtain rfl : W = [] := hW.symm
      simp at hC hP hN
      simp at hw
      subst hw
      cases f
      · simp [c19, x_own, ownK, ownK_ite, takeO, takeL, giveO, giveL, O.cnt, O.cntL, newL, aliveMv, St.back, callOwn, orC, encB, box0, side0, e, k1, hl, hli, x_srt, k_srt1, k_srt2, k_srt3, q_srt, sSortS, dSrt, rConcatS, hC, rCompact, hP, rPre, callR, hF]
      · simp [c19, x_own, ownK, ownK_ite, takeO, takeL, giveO, giveL, O.cnt, O.cntL, newL, aliveMv, St.back, callOwn, orC, encB, box0, side0, e, k1, hl, hli, x_srt, k_srt1, k_srt2, k_srt3, q_srt, sSortS, dSrt, rConcatS, hC, rCompact, hP, rPre, callR, hF, rBgN, hN]
    · have hpos : 0 < X.length := by omega
      cases f
      · simp [c19, x_own, ownK, ownK_ite, takeO, takeL, giveO, giveL, O.cnt, O.cntL, newL, aliveMv, St.back, callOwn, orC, encB, box0, side0, e, k1, hl, hli, x_srt, k_srt1, k_srt2, k_srt3, q_srt, sSortS, dSrt, rConcatS, hC, hS, hT, h0, hbig, hpos, rCompact, hP, rPre, callR, hF]
      · cases w <;> simp [c19, x_own, ownK, ownK_ite, takeO, takeL, giveO, giveL, O.cnt, O.cntL, newL, aliveMv, St.back, callOwn, orC, encB, box0, side0, e, k1, hl, hli, x_srt, k_srt1, k_srt2, k_srt3, q_srt, sSortS, dSrt, rConcatS, hC, hS, hT, h0, hbig, hpos, rCompact, hP, rPre, callR, hF, rBgN, hN]
  · rw [if_neg hl, if_neg hl] at hpq
    obtain ⟨rfl, rfl⟩ := hpq
    have hli : ¬ ((p.tag.length : Int) < q.tag.length) := by omega
    by_cases h0 : X.length = 0
    · obtain rfl : X = [] := List.eq_nil_of_length_eq_zero h0
      have e2 : sortB leS ([] : List (List UInt8)) = [] := rfl
      rw [e2] at hP hW hT hS
      obtain rfl : W = [] := hW.symm
      simp at hC hP hN
      simp at hw
      subst hw
      cases f
      · simp [c19, x_own, ownK, ownK_ite, takeO, takeL, giveO, giveL, O.cnt, O.cntL, newL, aliveMv, St.back, callOwn, orC, encB, box0, side0, e, k1, hl, hli, x_srt, k_srt1, k_srt2, k_srt3, q_srt, sSortS, dSrt, rConcatS, hC, rCompact, hP, rPre, callR, hF]
      · simp [c19, x_own, ownK, ownK_ite, takeO, takeL, giveO, giveL, O.cnt, O.cntL, newL, aliveMv, St.back, callOwn, orC, encB, box0, side0, e, k1, hl, hli, x_srt, k_srt1, k_srt2, k_srt3, q_srt, sSortS, dSrt, rConcatS, hC, rCompact, hP, rPre, callR, hF, rBgN, hN]
    · have hpos : 0 < X.length := by omega
      cases f
      · simp [c19, x_own, ownK, ownK_ite, takeO, takeL, giveO, giveL, O.cnt, O.cntL, newL, aliveMv, St.back, callOwn, orC, encB, box0, side0, e, k1, hl, hli, x_srt, k_srt1, k_srt2, k_srt3, q_srt, sSortS, dSrt, rConcatS, hC, hS, hT, h0, hbig, hpos, rCompact, hP, rPre, callR, hF]
      · cases w <;> simp [c19, x_own, ownK, ownK_ite, takeO, takeL, giveO, giveL, O.cnt, O.cntL, newL, aliveMv, St.back, callOwn, orC, encB, box0, side0, e, k1, hl, hli, x_srt, k_srt1, k_srt2, k_srt3, q_srt, sSortS, dSrt, rConcatS, hC, hS, hT, h0, hbig, hpos, rCompact, hP, rPre, callR, hF, rBgN, hN]
theorem pMeet (a b : Box) (ha : a.nots.length ≤ 100) (hb : b.nots.length ≤ 100) : pureI Try.prog prims dx tbl 19 [.agg (encB a), .agg (encB b)] = some (.tup [.agg (encB ((meetB a b).getD box0)), .bool (meetB a b).isSome]) := by
  rw [pureI_of (rfl : tbl 19 = some c19)]
  cases h0 : (sideB a.k0 b.k0).2 with
  | false =>
    obtain ⟨T', st', a1, a2, a3, a4⟩ := roundM0f a b h0
    rw [meetNone a b a1 a2 a3 a4]
    simp [meetB, h0]
  | true =>
    have e0 := roundM0t a b h0
    cases h1 : (sideB a.k1 b.k1).2 with
    | false =>
      obtain ⟨T', st', a1, a2, a3, a4⟩ := roundM1f a b _ h1
      rw [meetNone a b a1 a2 a3 (e0.trans a4)]
      simp [meetB, h1]
    | true =>
      have e1 := e0.trans (roundM1t a b _ h1)
      cases h2 : (sideB a.k2 b.k2).2 with
      | false =>
        obtain ⟨T', st', a1, a2, a3, a4⟩ := roundM2f a b _ _ h2
        rw [meetNone a b a1 a2 a3 (e1.trans a4)]
        simp [meetB, h2]
      | true =>
        have e2 := e1.trans (roundM2t a b _ _ h2)
        cases h3 : (sideB a.k3 b.k3).2 with
        | false =>
          obtain ⟨T', st', a1, a2, a3, a4⟩ := roundM3f a b _ _ _ h3
          rw [meetNone a b a1 a2 a3 (e2.trans a4)]
          simp [meetB, h3]
        | true =>
          have e3 := e2.trans (roundM3t a b _ _ _ h3)
          obtain ⟨T', k1, a2⟩ := roundM4 a b (sideB a.k0 b.k0).1 (sideB a.k1 b.k1).1 (sideB a.k2 b.k2).1 (sideB a.k3 b.k3).1
          rw [meetSome a b _ _ ⟨rfl, rfl⟩ ha hb _ _ _ _ k1 (e3.trans a2)]
          by_cases hl : a.tag.length < b.tag.length
          · have e9 : meetB a b = meetT (sideB a.k0 b.k0).1 (sideB a.k1 b.k1).1 (sideB a.k2 b.k2).1 (sideB a.k3 b.k3).1 b a := by
              unfold meetB
              rw [if_pos ⟨h0, h1, h2, h3⟩, if_pos hl]
            rw [e9, if_pos hl, if_pos hl]
          · have e9 : meetB a b = meetT (sideB a.k0 b.k0).1 (sideB a.k1 b.k1).1 (sideB a.k2 b.k2).1 (sideB a.k3 b.k3).1 a b := by
              unfold meetB
              rw [if_pos ⟨h0, h1, h2, h3⟩, if_neg hl]
            rw [e9, if_neg hl, if_neg hl]
theorem rMeet (ds : List D) (st : Dv.St) : callI Try.prog prims dx tbl 19 ds st = callR Try.prog prims dx tbl 19 ds st (frL (fr st 6) ds) := callRw rfl rfl (rfl : tbl 19 = some c19) rfl ds st
end Go.Proofs.Ytiloimenibbeoaa.Pl
