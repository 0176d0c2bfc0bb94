/-
  What is proved here: versions that are held: where one stands, found.
  Conditions: none.
-/
import Derived.Test.YtmbboljcgpccfaaHaH
set_option linter.unusedVariables false
set_option linter.unusedSimpArgs false
set_option maxRecDepth 100000
set_option maxHeartbeats 8000000
namespace Go.Proofs.Ytmbboljcgpccfaa.Pl
open Go Go.Proofs Go.Proofs.Ev Go.Proofs.Dv Cd
attribute [local simp] x_pure x_skip x_reg x_drw x_seq x_cond x_block x_loop' Tm.keep_nil x_exit x_ret k_seq k_seq_ret k_seq_exit k_seq_none k_seq_ite k_cond k_block k_block_ret k_block_exit k_block_none k_block_ite k_iter k_iter_ret k_iter_exit k_iter_none k_iter_ite k_reg k_reg_none k_reg_ite x_is_nil x_is x_is_g k_ins k_ins_none k_ins_ite k_grd x_ord_nil x_ord x_ord_g k_ord k_ord_none k_ord_ite k_ogrd k_out_ret k_out k_out_none k_out_ite k_pure k_pure_none k_pure_ite startD dI dA deo Tm.at Tm.dst Tm.set Tm.put Tm.keep dW dRes oneOfD mkTup mkAgg mkFn allF frL fr vD vD1 vF vFL dBin dEq dNil isNilD dScal F.cv eBin sameKind eInt eStr cellsD oneD F.one dFill putAtD chunk dbnd dSrc St.own St.drop St.still St.fresh chkQ stillQ freshQ lOf rdOf rdOK undefD F.full F.fullL List.mapIdx_cons strip allOne_nil allOne_cons allOne_append allLen_nil allLen_cons allLen_append roomOK_small filterT y_mv y_pick y_new y_box y_build y_bslice y_ld1 y_ldn y_nilchk y_bin y_not y_conv y_bytes y_string y_ifc y_fn y_cut y_cuts y_fa y_fld y_ia y_idx y_idxs y_ext y_len y_lenstr y_app y_grow y_mks y_slow y_call y_callv y_inv y_extc x_it_st x_it_clr x_it_cpy k_addT k_addT_none k_addT_ite k_orU k_orU_none dU D.turn turnL Tm.turn turnS St.turn turnRows_length

theorem encV_len (v : Ver) : (encV v).length = 8 := rfl
theorem encV_take (v : Ver) : (encV v).take 8 = [.int .i64 v.item, .int .i64 v.a, .int .i64 v.b, .int .i64 v.c, .bool v.dead, .list (v.ats.map encA), .str v.tag, .str v.body] := rfl
theorem pBCV (v : Ver) (t : Int) : pureI Try.prog prims dx tbl 85 [.agg [.int .i64 v.item, .int .i64 v.a, .int .i64 v.b, .int .i64 v.c, .bool v.dead, .list (v.ats.map encA), .str v.tag, .str v.body], .int .i64 t] = some (.int .i64 (cmpI v.item t)) := by
  rw [pureI_of (rfl : tbl 85 = some c85)]
  simp [c85, rCmpI, callR, pCmpI]

theorem rBSV (ds : List D) (st : Dv.St) : callI Try.prog prims dx tbl 84 ds st = callR Try.prog prims dx tbl 84 ds st (frL (fr st 6) ds) := callRw rfl rfl (rfl : tbl 84 = some c84) rfl ds st
theorem rBCV (ds : List D) (st : Dv.St) : callI Try.prog prims dx tbl 85 ds st = callR Try.prog prims dx tbl 85 ds st (frL (fr st 6) ds) := callRw rfl rfl (rfl : tbl 85 = some c85) rfl ds st
theorem sBSV : bitOp (operAt Try.prog 84 15) = some (.shr, .t 21, .c .u64 1) := by kernel_rfl
def PostBV (l : List Ver) (t : Int) (r : Option DSt) : Prop := ∃ T', r = some (.exit 0, T', ⟨[], [], 0⟩) ∧ T'.keep [0, 1, 2, 8, 9] = [(0, .fz (.list (l.map encV))), (1, .fz (.int .i64 t)), (2, .fz (.fn 85 [])), (8, .fz (.int .i64 l.length)), (9, .fz (.int .i64 (cntK Ver.item t l : Nat)))]
theorem loopBSV (l : List Ver) (hl : l.length < 1000000) (hs : Rise Ver.item l) (t : Int) : ∀ (m i j : Nat) (iz jz : Int), iz = i → jz = j → j - i ≤ m → i ≤ cntK Ver.item t l → cntK Ver.item t l ≤ j → j ≤ l.length →
    PostBV l t (iterI (dCw Try.prog (callI Try.prog prims dx tbl) l84_0) [0, 1, 2, 8, 9, 10] [(0, .fz (.list (l.map encV))), (1, .fz (.int .i64 t)), (2, .fz (.fn 85 [])), (8, .fz (.int .i64 l.length)), (9, .fz (.int .i64 iz)), (10, .fz (.int .i64 jz))] ⟨[], [], 0⟩) := by
  intro m
  induction m with
  | zero =>
    intro i j iz jz hiz hjz hm h1 h2 h3
    obtain rfl : i = j := by omega
    obtain rfl : i = cntK Ver.item t l := by omega
    subst hiz hjz
    rw [x_iter]
    simp [u84_0]
    exact ⟨_, rfl, by simp [Tm.keep]⟩
  | succ m ih =>
    intro i j iz jz hiz hjz hm h1 h2 h3
    subst hiz hjz
    by_cases hij : i = j
    · subst hij
      obtain rfl : i = cntK Ver.item t l := by omega
      rw [x_iter]
      simp [u84_0]
      exact ⟨_, rfl, by simp [Tm.keep]⟩
    · have hlt : i < j := by omega
      obtain ⟨h, hh⟩ : ∃ h : Nat, h = (i + j) / 2 := ⟨_, rfl⟩
      have hhl : h < l.length := by omega
      have hc := pBCV l[h] t
      have hk := cntK_iff (t := t) hs h hhl
      have hij' : (i : Int) < (j : Int) := by omega
      have b1 : j - (h + 1) ≤ m := by omega
      have b2 : h - i ≤ m := by omega
      have b3 : h ≤ l.length := by omega
      have b4 : (h : Int) + 1 = ((h + 1 : Nat) : Int) := by omega
      rw [x_iter]
      by_cases hlt2 : Ver.item l[h] < t
      · have hc1 : cmpI (Ver.item l[h]) t = -1 := by simp [cmpI, hlt2]
        rw [hc1] at hc
        obtain ⟨w1, w2, w3, w4, w5⟩ := bs_w i j h hh (by omega)
        simp [u84_0, hij', hlt, w1, w2, slow_bit sBSV, bitD, sD, w3, w4, hhl, encV_len, encV_take, rBCV, callR, hc, w5]
        exact ih (h + 1) j _ _ b4 rfl b1 (hk.1 hlt2) h2 h3
      · have hc1 : ¬ cmpI (Ver.item l[h]) t < 0 := by simp only [cmpI]; split <;> (try split) <;> omega
        obtain ⟨w1, w2, w3, w4, w5⟩ := bs_w i j h hh (by omega)
        simp [u84_0, hij', hlt, w1, w2, slow_bit sBSV, bitD, sD, w3, w4, hhl, encV_len, encV_take, rBCV, callR, hc, hc1]
        exact ih i h _ _ rfl rfl b2 h1 (Nat.le_of_not_lt (mt hk.2 hlt2)) b3
theorem pBSV (l : List Ver) (hl : l.length < 1000000) (hs : Rise Ver.item l) (t : Int) : pureI Try.prog prims dx tbl 84 [.list (l.map encV), .int .i64 t, .fn 85 []] = some (.tup [.int .i64 (cntK Ver.item t l : Nat), .bool (isK Ver.item t l)]) := by
  rw [pureI_of (rfl : tbl 84 = some c84)]
  obtain ⟨T', h1, h2⟩ := loopBSV l hl hs t l.length 0 l.length 0 l.length rfl rfl (by omega) (Nat.zero_le _) (cntK_le _ _ _) (Nat.le_refl _)
  by_cases hlt : cntK Ver.item t l < l.length
  · have hc := pBCV l[cntK Ver.item t l] t
    have hi : isK Ver.item t l = decide (Ver.item l[cntK Ver.item t l] = t) := by simp [isK, hlt]
    have he : (cmpI (Ver.item l[cntK Ver.item t l]) t = 0) ↔ (Ver.item l[cntK Ver.item t l] = t) := by
      simp only [cmpI]
      split
      · constructor <;> intro <;> omega
      · split
        · constructor <;> intro <;> omega
        · constructor <;> intro <;> omega
    rw [hi]
    simp [c84, h1, h2, hlt, encV_len, encV_take, rBCV, callR, hc, he]
  · have hi : isK Ver.item t l = false := by
      unfold isK
      rw [List.getElem?_eq_none (by omega)]
    rw [hi]
    simp [c84, h1, h2, hlt]

theorem find_none {t : Int} : ∀ {l : List Ver}, (∀ x ∈ l, x.item ≠ t) → findV l t = (zeroVer, false)
  | [], _ => rfl
  | y :: r, h => by
    have h1 : ¬ y.item = t := h y (by simp)
    simp only [findV, if_neg h1]
    exact find_none fun x hx => h x (by simp [hx])
theorem find_cnt {t : Int} : ∀ {l : List Ver}, Rise Ver.item l → (isK Ver.item t l = false → findV l t = (zeroVer, false)) ∧ ∀ x, l[cntK Ver.item t l]? = some x → x.item = t → findV l t = (x, true)
  | [], _ => ⟨fun _ => rfl, fun x h => by simp at h⟩
  | y :: r, hs => by
    obtain ⟨h1, h2⟩ := List.pairwise_cons.1 hs
    obtain ⟨i1, i2⟩ := find_cnt (t := t) h2
    simp only [cntK, isK]
    by_cases hy : y.item < t
    · simp only [hy, if_true, List.getElem?_cons_succ, findV, if_neg (show ¬ y.item = t by omega)]
      exact ⟨i1, i2⟩
    · simp only [hy, if_false, List.getElem?_cons_zero, Option.some.injEq, forall_eq', decide_eq_false_iff_not]
      constructor
      · intro hne
        refine find_none fun z hz => ?_
        rcases List.mem_cons.1 hz with rfl | hz
        · exact hne
        · have := h1 z hz
          omega
      · intro he
        simp [findV, he]
theorem pPlaceV (l : List Ver) (hl : l.length < 1000000) (hs : Rise Ver.item l) (t : Int) : pureI Try.prog prims dx tbl 56 [.list (l.map encV), .int .i64 t] = some (.tup [.int .i64 (cntK Ver.item t l : Nat), .bool (isK Ver.item t l)]) := by
  rw [pureI_of (rfl : tbl 56 = some c56)]
  simp [c56, rBSV, callR, pBSV l hl hs t]
theorem rPlaceV (ds : List D) (st : Dv.St) : callI Try.prog prims dx tbl 56 ds st = callR Try.prog prims dx tbl 56 ds st (frL (fr st 6) ds) := callRw rfl rfl (rfl : tbl 56 = some c56) rfl ds st
theorem pFind (l : List Ver) (hl : l.length < 1000000) (hs : Rise Ver.item l) (ha : ∀ v ∈ l, v.ats.length < 100000) (t : Int) : pureI Try.prog prims dx tbl 19 [.list (l.map encV), .int .i64 t] = some (.tup [.agg (encV (findV l t).1), .bool (findV l t).2]) := by
  rw [pureI_of (rfl : tbl 19 = some c19)]
  have hp := pPlaceV l hl hs t
  obtain ⟨a1, a2⟩ := find_cnt (t := t) hs
  rcases isK_iff Ver.item t l with ⟨h1, h2⟩ | ⟨hlt, h1, h2⟩
  · rw [h1] at hp
    rw [a1 h1]
    simp [c19, rPlaceV, callR, hp, encV, zeroVer]
  · rw [h1] at hp
    have hf := a2 l[cntK Ver.item t l] (List.getElem?_eq_getElem hlt) h2
    have hm := pMine l[cntK Ver.item t l] (ha _ (List.getElem_mem hlt))
    rw [hf]
    simp [encV] at hm
    simp [c19, rPlaceV, callR, hp, hlt, encV, rMine, hm]
theorem rFind (ds : List D) (st : Dv.St) : callI Try.prog prims dx tbl 19 ds st = callR Try.prog prims dx tbl 19 ds st (frL (fr st 6) ds) := callRw rfl rfl (rfl : tbl 19 = some c19) rfl ds st
end Go.Proofs.Ytmbboljcgpccfaa.Pl
