/-
  What is proved here: over how many edges each is from one: the walk of the steps.
  Conditions: none.
-/
import Derived.Test.YtmbboljcgpccfaaTbP
set_option linter.unusedVariables false
set_option linter.unusedSimpArgs false
set_option maxRecDepth 100000
set_option maxHeartbeats 8000000
namespace Go.Proofs.Ytmbboljcgpccfaa.Pl
open Go Go.Proofs Go.Proofs.Ev Go.Proofs.Dv Cd
attribute [local simp] x_pure x_skip x_reg x_drw x_seq x_cond x_block x_frz x_loop' Tm.keep_nil x_exit x_ret k_seq k_seq_ret k_seq_exit k_seq_none k_seq_ite k_cond k_block k_block_ret k_block_exit k_block_none k_block_ite k_iter k_iter_ret k_iter_exit k_iter_none k_iter_ite k_reg k_reg_none k_reg_ite x_is_nil x_is x_is_g k_ins k_ins_none k_ins_ite k_grd x_ord_nil x_ord x_ord_g k_ord k_ord_none k_ord_ite k_ogrd k_out_ret k_out k_out_none k_out_ite k_pure k_pure_none k_pure_ite startD dI dA deo Tm.at Tm.dst Tm.set Tm.put Tm.keep dW dRes oneOfD mkTup mkAgg mkFn allF frL fr vD vD1 vF vFL dBin dEq dNil isNilD dScal F.cv eBin sameKind eInt eStr cellsD oneD F.one dFill putAtD chunk dbnd dSrc St.own St.drop St.still St.fresh chkQ stillQ freshQ lOf rdOf rdOK undefD F.full F.fullL List.mapIdx_cons strip allOne_nil allOne_cons allOne_append allLen_nil allLen_cons allLen_append roomOK_small filterT y_mv y_pick y_new y_box y_build y_bslice y_ld1 y_ldn y_nilchk y_bin y_not y_conv y_bytes y_string y_ifc y_fn y_cut y_cuts y_fa y_fld y_ia y_idx y_idxs y_ext y_len y_lenstr y_app y_grow y_mks y_slow y_call y_callv y_inv y_extc x_it_st x_it_clr x_it_cpy k_addT k_addT_none k_addT_ite k_orU k_orU_none dU D.turn turnL Tm.turn turnS St.turn turnRows_length

theorem wz (x : Int) (h : -100000 ≤ x ∧ x ≤ 100000) : wrapF .i64 x = x := wrap_id _ (by omega) (by omega)
theorem wzp (x p : Int) (h : x = p) (hb : -100000 ≤ p ∧ p ≤ 100000) : wrapF .i64 x = p := by rw [h]; exact wz p hb
theorem turn_setI (l : List Int) (k : Nat) (v : Int) : turnRows (rowU k 0 [.int .i64 v]) 0 (l.map encI) = (l.set k v).map encI := by
  have := turn_set encI v (fun x => rfl) l 0 k
  rw [Nat.zero_add] at this
  exact this
theorem lookR_ok (e : List (Int × Int)) (n : Nat) (a : Int) : ∀ (m i : Nat) (out todo : List Int), i + m = n → Bok n out todo → 1 ≤ a ∧ a ≤ n ∧ 0 ≤ out.getD (a - 1).toNat 0 →
    Bok n (lookR e a m i out todo).1 (lookR e a m i out todo).2 ∧ negs (lookR e a m i out todo).1 + (lookR e a m i out todo).2.length = negs out + todo.length
  | 0, i, out, todo, h, b, ha => ⟨b, rfl⟩
  | m + 1, i, out, todo, h, b, ha => by
    simp only [lookR]
    split
    · rename_i hc
      have hal : (a - 1).toNat < out.length := by rw [b.len]; omega
      have hil : i < out.length := by rw [b.len]; omega
      have hv := b.lo _ (getD_mem hal)
      have hn := negs_set out i (out.getD (a - 1).toNat 0 + 1) hc.1 (by omega)
      obtain ⟨i1, i2⟩ := lookR_ok e n a m (i + 1) _ _ (by omega) (b.set ha (by omega) hc.1) ⟨ha.1, ha.2.1, by
        rw [getD_set hil]
        split <;> omega⟩
      refine ⟨i1, ?_⟩
      rw [i2, List.length_append, List.length_singleton]
      omega
    · exact lookR_ok e n a m (i + 1) out todo (by omega) b ha
theorem lookR_head (e : List (Int × Int)) (a : Int) : ∀ (m i : Nat) (out todo : List Int), ∃ r, (lookR e a m i out (a :: todo)).2 = a :: r
  | 0, i, out, todo => ⟨todo, rfl⟩
  | m + 1, i, out, todo => by
    simp only [lookR]
    split
    · rw [List.cons_append]
      exact lookR_head e a m (i + 1) _ _
    · exact lookR_head e a m (i + 1) _ _
def PostLk (e : List (Int × Int)) (res : List Int × List Int) (r : Option DSt) : Prop := ∃ (t s q : Nat) (L : List Nat) (c : Nat) (T' : Tm), t ∈ L ∧ s ∈ L ∧ t ≠ s ∧ t < c ∧ s < c ∧ T'.keep [1, 7, 8] = [(1, .fz (.list (e.map encE))), (7, .ow t 0 1 (res.1.map encI)), (8, .ow s q 1 (res.2.map encI))] ∧ r = some (.exit 2, T', ⟨[], L, c⟩)
theorem loopLk (e : List (Int × Int)) (he : e.length < 1000000) (n : Nat) (hn : n ≤ 50) (a : Int) : ∀ (m i : Nat) (iz : Int) (out todo : List Int) (t s q : Nat) (L : List Nat) (c : Nat), i + m = n → iz = i → Bok n out (a :: todo) → todo.length + m ≤ 1000 → t ∈ L → s ∈ L → t ≠ s → t < c → s < c →
    PostLk e (lookR e a m i out (a :: todo)) (iterI (dCw Try.prog (callI Try.prog prims dx tbl) l79_0) [1, 7, 8, 33, 34] [(1, .fz (.list (e.map encE))), (7, .ow t 0 1 (out.map encI)), (8, .ow s q 1 ((a :: todo).map encI)), (33, .fz (.int .i64 n)), (34, .fz (.int .i64 iz))] ⟨[], L, c⟩) := by
  intro m
  induction m with
  | zero =>
    intro i iz out todo t s q L c hm hz b hlen ht hs hts htc hsc
    obtain rfl : i = n := by omega
    subst hz
    rw [x_iter]
    simp [u79_0]
    exact ⟨t, s, q, L, c, _, ht, hs, hts, htc, hsc, by simp [Tm.keep, lookR], rfl⟩
  | succ m ih =>
    intro i iz out todo t s q L c hm hz b hlen ht hs hts htc hsc
    subst hz
    have hin : i < n := by omega
    have hil : i < out.length := by rw [b.len]; exact hin
    have hm1 : (i + 1) + m = n := by omega
    have hi1 : ((i : Int) + 1) = ((i + 1 : Nat) : Int) := by omega
    obtain ⟨a1, a2, a3⟩ := b.todo a (by simp)
    obtain ⟨p, hp⟩ : ∃ p : Nat, a = (p : Int) + 1 := ⟨(a - 1).toNat, by omega⟩
    have hpl : p < out.length := by rw [b.len]; omega
    have hpn : (a - 1).toNat = p := by omega
    obtain ⟨z, hz⟩ : ∃ z, out[i] = z := ⟨_, rfl⟩
    have hzd : out.getD i 0 = z := by rw [List.getD_eq_getElem?_getD, List.getElem?_eq_getElem hil, hz]; rfl
    obtain ⟨v, hv⟩ : ∃ v, out[p] = v := ⟨_, rfl⟩
    have hvd : out.getD (a - 1).toNat 0 = v := by rw [hpn, List.getD_eq_getElem?_getD, List.getElem?_eq_getElem hpl, hv]; rfl
    have hvb := b.lo v (by rw [← hv]; exact List.getElem_mem hpl)
    have hbs := pBes e he a ((i : Int) + 1)
    have o1 := (encI_ok (a :: todo)).1
    have r1 : roomOK 8 (todo.length + 1 + 1) := roomOK_small (by omega) (by omega)
    have hst : ¬ s = t := fun h => hts h.symm
    have etc : ¬ t = c := by omega
    have etc1 : ¬ t = c + 1 := by omega
    have hbig : todo.length + m ≤ 1000 := by omega
    have hbig2 : (todo ++ [(i : Int) + 1]).length + m ≤ 1000 := by simp; omega
    by_cases hneg : z < 0
    · cases hb : besE e a ((i : Int) + 1) with
      | true =>
        rw [hb] at hbs
        have e1 : lookR e a (m + 1) i out (a :: todo) = lookR e a m (i + 1) (out.set i (v + 1)) (a :: (todo ++ [(i : Int) + 1])) := by
          simp only [lookR, hzd, hvd, hb]
          rw [if_pos ⟨hneg, trivial⟩]
          rfl
        have b' := b.set ⟨a1, a2, a3⟩ hin (by rw [hzd]; exact hneg)
        rw [hvd] at b'
        have goal := fun t s q L c => ih (i + 1) _ (out.set i (v + 1)) (todo ++ [(i : Int) + 1]) t s q L c hm1 hi1 b' hbig2
        have hi9 : -100000 ≤ (i : Int) + 1 ∧ (i : Int) + 1 ≤ 100000 := by omega
        have hv9 : -100000 ≤ v + 1 ∧ v + 1 ≤ 100000 := by omega
        have ha9 : a - 1 = (p : Int) := by omega
        have hp9 : -100000 ≤ (p : Int) ∧ (p : Int) ≤ 100000 := by omega
        rw [e1, x_iter]
        generalize lookR e a m (i + 1) (out.set i (v + 1)) (a :: (todo ++ [(i : Int) + 1])) = res at goal ⊢
        have o0 := (encI_ok todo).1
        have m1 : (List.map encI out).set i [F.int .i64 (v + 1)] = (out.set i (v + 1)).map encI := by rw [List.map_set]; rfl
        have m2 : ([F.int .i64 a] :: (List.map encI todo ++ [[F.int .i64 ((i : Int) + 1)]])) = (a :: (todo ++ [(i : Int) + 1])).map encI := by simp [encI]
        have n1 : ¬ c = s := by omega
        have n2 : ¬ c + 1 = c := by omega
        have n3 : ¬ c = c + 1 := by omega
        have n4 : ¬ c + 1 = s := by omega
        have n5 : ¬ c = t := by omega
        have n6 : ¬ c + 1 = t := by omega
        simp [u79_0, hin, hil, hpl, ht, hs, hz, hv, encI, hneg, rBes, callR, hbs, wz _ hi9, wz _ hv9, wzp _ _ ha9 hp9, turn_setI, hts, hst, o0, o1, r1, n1, n2, n3, n4, n5, n6]
        try rw [m1]
        try rw [m2]
        exact goal c (c + 1 + 1) 0 _ (c + 3) (by simp [n1, n2, n3, n4, n5, n6]) (by simp) (by omega) (by omega) (by omega)
      | false =>
        rw [hb] at hbs
        have e1 : lookR e a (m + 1) i out (a :: todo) = lookR e a m (i + 1) out (a :: todo) := by
          simp only [lookR, hzd, hvd, hb]
          rw [if_neg (by simp)]
        have goal := ih (i + 1) _ out todo t s q L c hm1 hi1 b hbig ht hs hts htc hsc
        have hw : wrapF .i64 ((i : Int) + 1) = (i : Int) + 1 := wrap_id _ (by omega) (by omega)
        rw [e1, x_iter]
        generalize lookR e a m (i + 1) out (a :: todo) = res at goal ⊢
        simp [encI] at goal
        simp [u79_0, hin, hil, hpl, ht, hs, hz, hv, encI, hneg, rBes, callR, hbs, hw]
        exact goal
    · have e1 : lookR e a (m + 1) i out (a :: todo) = lookR e a m (i + 1) out (a :: todo) := by
        simp only [lookR, hzd, hvd]
        rw [if_neg (fun h => hneg h.1)]
      have goal := ih (i + 1) _ out todo t s q L c hm1 hi1 b hbig ht hs hts htc hsc
      have hw : wrapF .i64 ((i : Int) + 1) = (i : Int) + 1 := wrap_id _ (by omega) (by omega)
      rw [e1, x_iter]
      generalize lookR e a m (i + 1) out (a :: todo) = res at goal ⊢
      simp [encI] at goal
      simp [u79_0, hin, hil, hpl, ht, hs, hz, hv, encI, hneg, hw]
      exact goal
end Go.Proofs.Ytmbboljcgpccfaa.Pl
