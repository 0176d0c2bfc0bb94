/-
  What is proved here: heads: where a thing stands, its stamp, and what is put.
  Conditions: none.
-/
import Derived.Test.YtmbboljcgpccfaaStH
import Derived.Test.YtmbboljcgpccfaaSl
import Derived.Test.YtmbboljcgpccfaaCn
set_option linter.unusedVariables false
set_option linter.unusedSimpArgs false
set_option maxRecDepth 100000
set_option maxHeartbeats 4000000
namespace Go.Proofs.Ytmbboljcgpccfaa.Pl
open Go Go.Proofs Go.Proofs.Ev Go.Proofs.Dv Cd
attribute [local simp] x_pure x_skip x_reg x_drw x_seq x_cond x_block x_loop' Tm.keep_nil x_exit x_ret k_seq k_seq_ret k_seq_exit k_seq_none k_seq_ite k_cond k_block k_block_ret k_block_exit k_block_none k_block_ite k_iter k_iter_ret k_iter_exit k_iter_none k_iter_ite k_reg k_reg_none k_reg_ite x_is_nil x_is x_is_g k_ins k_ins_none k_ins_ite k_grd x_ord_nil x_ord x_ord_g k_ord k_ord_none k_ord_ite k_ogrd k_out_ret k_out k_out_none k_out_ite k_pure k_pure_none k_pure_ite startD dI dA deo Tm.at Tm.dst Tm.set Tm.put Tm.keep dW dRes oneOfD mkTup mkAgg mkFn allF frL fr vD vD1 vF vFL dBin dEq dNil isNilD dScal F.cv eBin sameKind eInt eStr cellsD oneD F.one dFill putAtD chunk dbnd dSrc St.own St.drop St.still St.fresh chkQ stillQ freshQ lOf rdOf rdOK undefD F.full F.fullL List.mapIdx_cons strip allOne_nil allOne_cons allOne_append allLen_nil allLen_cons allLen_append roomOK_small filterT y_mv y_pick y_new y_box y_build y_bslice y_ld1 y_ldn y_nilchk y_bin y_not y_conv y_bytes y_string y_ifc y_fn y_cut y_cuts y_fa y_fld y_ia y_idx y_idxs y_ext y_len y_lenstr y_app y_grow y_mks y_slow y_call y_callv y_inv y_extc x_it_st x_it_clr x_it_cpy k_addT k_addT_none k_addT_ite k_orU k_orU_none dU D.turn turnL Tm.turn turnS St.turn turnRows_length

def encH (h : Hd) : List F := [.int .i64 h.item, .int .i64 h.a, .int .i64 h.b, .int .i64 h.c]
theorem encH_len (h : Hd) : (encH h).length = 4 := rfl
theorem encH_take (h : Hd) : (encH h).take 4 = [.int .i64 h.item, .int .i64 h.a, .int .i64 h.b, .int .i64 h.c] := rfl
theorem pBCH (h : Hd) (t : Int) : pureI Try.prog prims dx tbl 100 [.agg [.int .i64 h.item, .int .i64 h.a, .int .i64 h.b, .int .i64 h.c], .int .i64 t] = some (.int .i64 (cmpI h.item t)) := by
  rw [pureI_of (rfl : tbl 100 = some c100)]
  simp [c100, rCmpI, callR, pCmpI]

theorem rBSH (ds : List D) (st : Dv.St) : callI Try.prog prims dx tbl 99 ds st = callR Try.prog prims dx tbl 99 ds st (frL (fr st 6) ds) := callRw rfl rfl (rfl : tbl 99 = some c99) rfl ds st
theorem rBCH (ds : List D) (st : Dv.St) : callI Try.prog prims dx tbl 100 ds st = callR Try.prog prims dx tbl 100 ds st (frL (fr st 6) ds) := callRw rfl rfl (rfl : tbl 100 = some c100) rfl ds st
theorem sBSH : bitOp (operAt Try.prog 99 15) = some (.shr, .t 21, .c .u64 1) := by kernel_rfl
def PostBH (l : List Hd) (t : Int) (r : Option DSt) : Prop := ∃ T', r = some (.exit 0, T', ⟨[], [], 0⟩) ∧ T'.keep [0, 1, 2, 8, 9] = [(0, .fz (.list (l.map encH))), (1, .fz (.int .i64 t)), (2, .fz (.fn 100 [])), (8, .fz (.int .i64 l.length)), (9, .fz (.int .i64 (cntK Hd.item t l : Nat)))]
theorem loopBSH (l : List Hd) (hl : l.length < 1000000) (hs : Rise Hd.item l) (t : Int) : ∀ (m i j : Nat) (iz jz : Int), iz = i → jz = j → j - i ≤ m → i ≤ cntK Hd.item t l → cntK Hd.item t l ≤ j → j ≤ l.length →
    PostBH l t (iterI (dCw Try.prog (callI Try.prog prims dx tbl) l99_0) [0, 1, 2, 8, 9, 10] [(0, .fz (.list (l.map encH))), (1, .fz (.int .i64 t)), (2, .fz (.fn 100 [])), (8, .fz (.int .i64 l.length)), (9, .fz (.int .i64 iz)), (10, .fz (.int .i64 jz))] ⟨[], [], 0⟩) := by
  intro m
  induction m with
  | zero =>
    intro i j iz jz hiz hjz hm h1 h2 h3
    obtain rfl : i = j := by omega
    obtain rfl : i = cntK Hd.item t l := by omega
    subst hiz hjz
    rw [x_iter]
    simp [u99_0]
    exact ⟨_, rfl, by simp [Tm.keep]⟩
  | succ m ih =>
    intro i j iz jz hiz hjz hm h1 h2 h3
    subst hiz hjz
    by_cases hij : i = j
    · subst hij
      obtain rfl : i = cntK Hd.item t l := by omega
      rw [x_iter]
      simp [u99_0]
      exact ⟨_, rfl, by simp [Tm.keep]⟩
    · have hlt : i < j := by omega
      obtain ⟨h, hh⟩ : ∃ h : Nat, h = (i + j) / 2 := ⟨_, rfl⟩
      have hhl : h < l.length := by omega
      have hc := pBCH l[h] t
      have hk := cntK_iff (t := t) hs h hhl
      have hij' : (i : Int) < (j : Int) := by omega
      have b1 : j - (h + 1) ≤ m := by omega
      have b2 : h - i ≤ m := by omega
      have b3 : h ≤ l.length := by omega
      have b4 : (h : Int) + 1 = ((h + 1 : Nat) : Int) := by omega
      rw [x_iter]
      by_cases hlt2 : Hd.item l[h] < t
      · have hc1 : cmpI (Hd.item l[h]) t = -1 := by simp [cmpI, hlt2]
        rw [hc1] at hc
        obtain ⟨w1, w2, w3, w4, w5⟩ := bs_w i j h hh (by omega)
        simp [u99_0, hij', hlt, w1, w2, slow_bit sBSH, bitD, sD, w3, w4, hhl, encH_len, encH_take, rBCH, callR, hc, w5]
        exact ih (h + 1) j _ _ b4 rfl b1 (hk.1 hlt2) h2 h3
      · have hc1 : ¬ cmpI (Hd.item l[h]) t < 0 := by simp only [cmpI]; split <;> (try split) <;> omega
        obtain ⟨w1, w2, w3, w4, w5⟩ := bs_w i j h hh (by omega)
        simp [u99_0, hij', hlt, w1, w2, slow_bit sBSH, bitD, sD, w3, w4, hhl, encH_len, encH_take, rBCH, callR, hc, hc1]
        exact ih i h _ _ rfl rfl b2 h1 (Nat.le_of_not_lt (mt hk.2 hlt2)) b3
theorem pBSH (l : List Hd) (hl : l.length < 1000000) (hs : Rise Hd.item l) (t : Int) : pureI Try.prog prims dx tbl 99 [.list (l.map encH), .int .i64 t, .fn 100 []] = some (.tup [.int .i64 (cntK Hd.item t l : Nat), .bool (isK Hd.item t l)]) := by
  rw [pureI_of (rfl : tbl 99 = some c99)]
  obtain ⟨T', h1, h2⟩ := loopBSH l hl hs t l.length 0 l.length 0 l.length rfl rfl (by omega) (Nat.zero_le _) (cntK_le _ _ _) (Nat.le_refl _)
  by_cases hlt : cntK Hd.item t l < l.length
  · have hc := pBCH l[cntK Hd.item t l] t
    have hi : isK Hd.item t l = decide (Hd.item l[cntK Hd.item t l] = t) := by simp [isK, hlt]
    have he : (cmpI (Hd.item l[cntK Hd.item t l]) t = 0) ↔ (Hd.item l[cntK Hd.item t l] = t) := by
      simp only [cmpI]
      split
      · constructor <;> intro <;> omega
      · split
        · constructor <;> intro <;> omega
        · constructor <;> intro <;> omega
    rw [hi]
    simp [c99, h1, h2, hlt, encH_len, encH_take, rBCH, callR, hc, he]
  · have hi : isK Hd.item t l = false := by
      unfold isK
      rw [List.getElem?_eq_none (by omega)]
    rw [hi]
    simp [c99, h1, h2, hlt]
end Go.Proofs.Ytmbboljcgpccfaa.Pl
