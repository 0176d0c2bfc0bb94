/-
  What is proved here: pieces that are told are taken out, in place.
  Conditions: none.
-/
import Derived.Test.YtpinhopgeaamdaaWpK
set_option linter.unusedVariables false
set_option linter.unusedSimpArgs false
set_option maxRecDepth 100000
set_option maxHeartbeats 4000000
namespace Go.Proofs.Ytpinhopgeaamdaa.Pl
open Go Go.Proofs Go.Proofs.Ev Go.Proofs.Dv Cd
attribute [local simp] x_pure x_skip x_reg x_drw x_seq x_cond x_block x_loop' Tm.keep_nil x_exit x_ret k_seq k_seq_ret k_seq_exit k_seq_none k_seq_ite k_cond k_block k_block_ret k_block_exit k_block_none k_block_ite k_iter k_iter_ret k_iter_exit k_iter_none k_iter_ite k_reg k_reg_none k_reg_ite x_is_nil x_is x_is_g k_ins k_ins_none k_ins_ite k_grd x_ord_nil x_ord x_ord_g k_ord k_ord_none k_ord_ite k_ogrd k_out_ret k_out k_out_none k_out_ite k_pure k_pure_none k_pure_ite startD dI dA deo Tm.at Tm.dst Tm.set Tm.put Tm.keep dW dRes oneOfD mkTup mkAgg mkFn allF frL fr vD vD1 vF vFL dBin dEq dNil isNilD dScal F.cv eBin sameKind eInt eStr cellsD oneD F.one dFill putAtD chunk dbnd dSrc St.own St.drop St.still St.fresh chkQ stillQ freshQ lOf rdOf rdOK undefD F.full F.fullL List.mapIdx_cons strip allOne_nil allOne_cons allOne_append allLen_nil allLen_cons allLen_append roomOK_small filterT y_mv y_pick y_new y_box y_build y_bslice y_ld1 y_ldn y_nilchk y_bin y_not y_conv y_bytes y_string y_ifc y_fn y_cut y_cuts y_fa y_fld y_ia y_idx y_idxs y_ext y_len y_lenstr y_app y_grow y_mks y_slow y_call y_callv y_inv y_extc x_it_st x_it_clr x_it_cpy k_addT k_addT_none k_addT_ite k_orU k_orU_none dU D.turn turnL Tm.turn turnS St.turn turnRows_length

theorem turnRows_take (u : RowTurn) : ∀ (R : List (List F)) (q i : Nat), (∀ k e, k < q + i → u k e = e) → (turnRows u q R).take i = R.take i
  | [], q, i, _ => by simp [turnRows]
  | e :: r, q, 0, _ => by simp
  | e :: r, q, i + 1, h => by
    simp only [turnRows, List.take_succ_cons]
    rw [h q e (by omega), turnRows_take u r (q + 1) i fun k e hk => h k e (by omega)]
theorem take_rowsU (i : Nat) (rs R : List (List F)) : (turnRows (rowsU i rs) 0 R).take i = R.take i := turnRows_take _ _ _ _ fun k e hk => by
  unfold rowsU
  rw [if_neg (by omega)]
theorem rDF (ds : List D) (st : Dv.St) : callI Try.prog prims dx tbl 65 ds st = orC (callOwn (ownI Try.prog prims dx tbl 65) ds st) (callI0 Try.prog prims dx tbl 65 ds st) := callRwO rfl rfl (rfl : tbl 65 = some c65) rfl ds st
def PostDF (p : Sg → Bool) (l : List Sg) (r : Option DSt) : Prop := ∃ (rows : List Sg) (i t : Nat) (S : List (Bool × List D)) (L : List Nat) (c : Nat) (T' : Tm), Mid p l rows i l.length ∧ t ∈ L ∧ T'.keep [0, 5] = [(0, .ow t 0 2 (rows.map encG)), (5, .fz (.int .i64 (i : Nat)))] ∧ r = some (.exit 0, T', ⟨S, L, c⟩)
theorem loopDF (p : Sg → Bool) (g : Nat) (cs : List F) (l : List Sg) (hc : ∀ x ∈ l, ∀ st, callI Try.prog prims dx tbl g (.fz (.agg [.int .i64 x.num, .str x.b]) :: cs.map .fz) st = some (.fz (.bool (p x)), st, [])) (hl : l.length < 1000000) : ∀ (m : Nat) (rows : List Sg) (R : List (List F)) (i j t : Nat) (iz jz : Int) (S : List (Bool × List D)) (L : List Nat) (c : Nat),
    j + m = l.length → Mid p l rows i j → R = rows.map encG → t ∈ L → iz = i → jz = j →
    PostDF p l (iterI (dCw Try.prog (callI Try.prog prims dx tbl) l65_0) [0, 1, 5, 6] [(0, .ow t 0 2 R), (1, .fz (.fn g cs)), (5, .fz (.int .i64 iz)), (6, .fz (.int .i64 jz))] ⟨S, L, c⟩) := by
  intro m
  induction m with
  | zero =>
    intro rows R i j t iz jz S L c hm hmid hR ht hiz hjz
    subst hR hiz hjz
    obtain rfl : j = l.length := by omega
    have hlen := hmid.len
    rw [x_iter]
    simp [u65_0, ht, hlen]
    exact ⟨rows, i, t, S, L, c, _, hmid, ht, by simp [Tm.keep], rfl⟩
  | succ m ih =>
    intro rows R i j t iz jz S L c hm hmid hR ht hiz hjz
    subst hR hiz hjz
    have hlen := hmid.len
    have hij := hmid.ij
    have hjl : j < l.length := by omega
    have hjr : j < rows.length := by omega
    have hir : i < rows.length := by omega
    obtain ⟨x, hx⟩ : ∃ x, l[j] = x := ⟨_, rfl⟩
    have hx2 : l[j]? = some x := by rw [List.getElem?_eq_getElem hjl, hx]
    have hxr : rows[j] = x := by
      have := hmid.get
      rw [hx2, List.getElem?_eq_getElem hjr] at this
      exact Option.some.inj this
    have hcx := hc x (List.mem_of_getElem? hx2)
    have hm1 : (j + 1) + m = l.length := by omega
    have hj1 : ((j : Int) + 1) = ((j + 1 : Nat) : Int) := by omega
    have hi1 : ((i : Int) + 1) = ((i + 1 : Nat) : Int) := by omega
    have hjz : (j : Int) < (rows.length : Int) := by omega
    have w1 : wrapF .i64 ((j : Int) + 1) = (j : Int) + 1 := wrap_id _ (by omega) (by omega)
    have w2 : wrapF .i64 ((i : Int) + 1) = (i : Int) + 1 := wrap_id _ (by omega) (by omega)
    rw [x_iter]
    cases hp : p x with
    | true =>
      have hs := hmid.skip hx2 hp
      simp only [hp] at hcx
      simp [u65_0, ht, hjr, hxr, encG_len, encG_take, setC, hcx, w1]
      exact ih rows _ i (j + 1) t _ _ _ _ _ hm1 hs rfl ht rfl hj1
    | false =>
      have hs := hmid.put hx2 hp
      simp only [hp] at hcx
      simp [u65_0, ht, hjr, hir, hxr, encG_len, encG_take, setC, hcx, w1, w2, turn_setG]
      exact ih (rows.set i x) _ (i + 1) (j + 1) _ _ _ _ _ _ hm1 hs (by rw [List.map_set]) (by simp) hi1 hj1
theorem oDF (p : Sg → Bool) (g : Nat) (cs : List F) (l : List Sg) (hc : ∀ x ∈ l, ∀ st, callI Try.prog prims dx tbl g (.fz (.agg [.int .i64 x.num, .str x.b]) :: cs.map .fz) st = some (.fz (.bool (p x)), st, [])) (hl : l.length < 1000000) :
    ownI Try.prog prims dx tbl 65 [.ow 2 (l.map encG), .fz (.fn g cs)] = some (.ow 2 ((keepP p l).map encG)) := by
  rw [ownI_of (rfl : tbl 65 = some c65)]
  have hi := pIxG p g cs l hc hl
  rcases keepP_idx p l 0 with ⟨h1, h2⟩ | ⟨i, h1, h2, h3⟩
  · rw [h1] at hi
    rw [h2]
    simp [c65, x_own, ownK, ownK_ite, takeO, takeL, giveO, giveL, O.cnt, O.cntL, newL, aliveMv, St.back, callOwn, orC, rIxG, callR, hi]
  · rw [Nat.zero_add] at h1
    rw [h1] at hi
    have hmid : Mid p l l i (i + 1) := by
      refine ⟨rfl, by omega, h2, ?_, rfl⟩
      have : keepP p l = keepP p (l.take (i + 1)) ++ keepP p (l.drop (i + 1)) := by
        unfold keepP
        rw [← List.filter_append, List.take_append_drop]
      rw [this] at h3
      exact (List.append_cancel_right h3).symm
    have hi1 : ((i : Int) + 1) = ((i + 1 : Nat) : Int) := by omega
    obtain ⟨rows, q, t, S, L, c, T', hm, ht, hk, hT⟩ := loopDF p g cs l hc hl (l.length - (i + 1)) l _ i (i + 1) 0 i _ [] [0] 1 (by omega) hmid rfl (by simp) rfl rfl
    have hq : q < rows.length := by rw [hm.len]; exact hm.ij
    have hfr := hm.front
    rw [List.take_of_length_le (Nat.le_refl _)] at hfr
    have hql : ((rows.map encG).take q) = (keepP p l).map encG := by rw [← List.map_take, hfr]
    have w1 : wrapF .i64 ((i : Int) + 1) = (i : Int) + 1 := wrap_id _ (by omega) (by omega)
    rw [← hi1] at hT
    have hne : ¬ (i : Int) = -1 := by omega
    have hpos : 0 < rows.length - q := by omega
    simp [c65, x_own, ownK, ownK_ite, takeO, takeL, giveO, giveL, O.cnt, O.cntL, newL, aliveMv, St.back, callOwn, orC, rIxG, callR, hi, hne, w1, hT, hk, ht, hq, Nat.le_of_lt hq, hpos, take_rowsU, hql]
end Go.Proofs.Ytpinhopgeaamdaa.Pl
