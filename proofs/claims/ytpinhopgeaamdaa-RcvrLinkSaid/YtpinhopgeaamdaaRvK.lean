/-
  What is proved here: what came with another piece, and what is told.
  Conditions: none.
-/
import Derived.Test.YtpinhopgeaamdaaWrK
import Derived.Test.YtpinhopgeaamdaaKxK
set_option linter.unusedVariables false
set_option linter.unusedSimpArgs false
set_option maxRecDepth 100000
set_option maxHeartbeats 8000000
namespace Go.Proofs.Ytpinhopgeaamdaa.Pl
open Go Go.Proofs Go.Proofs.Ev Go.Proofs.Dv Cd
attribute [local simp] x_pure x_skip x_reg x_drw x_seq x_cond x_block x_loop' Tm.keep_nil x_exit x_ret k_seq k_seq_ret k_seq_exit k_seq_none k_seq_ite k_cond k_block k_block_ret k_block_exit k_block_none k_block_ite k_iter k_iter_ret k_iter_exit k_iter_none k_iter_ite k_reg k_reg_none k_reg_ite x_is_nil x_is x_is_g k_ins k_ins_none k_ins_ite k_grd x_ord_nil x_ord x_ord_g k_ord k_ord_none k_ord_ite k_ogrd k_out_ret k_out k_out_none k_out_ite k_pure k_pure_none k_pure_ite startD dI dA deo Tm.at Tm.dst Tm.set Tm.put Tm.keep dW dRes oneOfD mkTup mkAgg mkFn allF frL fr vD vD1 vF vFL dBin dEq dNil isNilD dScal F.cv eBin sameKind eInt eStr cellsD oneD F.one dFill putAtD chunk dbnd dSrc St.own St.drop St.still St.fresh chkQ stillQ freshQ lOf rdOf rdOK undefD F.full F.fullL List.mapIdx_cons strip allOne_nil allOne_cons allOne_append allLen_nil allLen_cons allLen_append roomOK_small filterT y_mv y_pick y_new y_box y_build y_bslice y_ld1 y_ldn y_nilchk y_bin y_not y_conv y_bytes y_string y_ifc y_fn y_cut y_cuts y_fa y_fld y_ia y_idx y_idxs y_ext y_len y_lenstr y_app y_grow y_mks y_slow y_call y_callv y_inv y_extc x_it_st x_it_clr x_it_cpy k_addT k_addT_none k_addT_ite k_orU k_orU_none dU D.turn turnL Tm.turn turnS St.turn turnRows_length

theorem rCmpI (ds : List D) (st : Dv.St) : callI Try.prog prims dx tbl 43 ds st = callR Try.prog prims dx tbl 43 ds st (frL (fr st 6) ds) := callRw rfl rfl (rfl : tbl 43 = some c43) rfl ds st
theorem pCmpI (x y : Int) : pureI Try.prog prims dx tbl 43 [.int .i64 x, .int .i64 y] = some (.int .i64 (cmpI x y)) := by
  rw [pureI_of (rfl : tbl 43 = some c43)]
  by_cases h1 : x < y
  · simp [c43, rNaI, callR, pNaI, cmpI, h1]
  · by_cases h2 : y < x
    · simp [c43, rNaI, callR, pNaI, cmpI, h1, h2]
    · simp [c43, rNaI, callR, pNaI, cmpI, h1, h2]
theorem pBCG (x : Sg) (t : Int) : pureI Try.prog prims dx tbl 59 [.agg [.int .i64 x.num, .str x.b], .int .i64 t] = some (.int .i64 (cmpI x.num t)) := by
  rw [pureI_of (rfl : tbl 59 = some c59)]
  simp [c59, rCmpI, callR, pCmpI]

theorem rBSG (ds : List D) (st : Dv.St) : callI Try.prog prims dx tbl 58 ds st = callR Try.prog prims dx tbl 58 ds st (frL (fr st 6) ds) := callRw rfl rfl (rfl : tbl 58 = some c58) rfl ds st
theorem rBCG (ds : List D) (st : Dv.St) : callI Try.prog prims dx tbl 59 ds st = callR Try.prog prims dx tbl 59 ds st (frL (fr st 6) ds) := callRw rfl rfl (rfl : tbl 59 = some c59) rfl ds st
theorem sBSG : bitOp (operAt Try.prog 58 15) = some (.shr, .t 21, .c .u64 1) := by kernel_rfl
def PostBG (l : List Sg) (t : Int) (r : Option DSt) : Prop := ∃ T', r = some (.exit 0, T', ⟨[], [], 0⟩) ∧ T'.keep [0, 1, 2, 8, 9] = [(0, .fz (.list (l.map encG))), (1, .fz (.int .i64 t)), (2, .fz (.fn 59 [])), (8, .fz (.int .i64 l.length)), (9, .fz (.int .i64 (cntK Sg.num t l : Nat)))]
theorem loopBSG (l : List Sg) (hl : l.length < 1000000) (hs : Rise Sg.num l) (t : Int) : ∀ (m i j : Nat) (iz jz : Int), iz = i → jz = j → j - i ≤ m → i ≤ cntK Sg.num t l → cntK Sg.num t l ≤ j → j ≤ l.length →
    PostBG l t (iterI (dCw Try.prog (callI Try.prog prims dx tbl) l58_0) [0, 1, 2, 8, 9, 10] [(0, .fz (.list (l.map encG))), (1, .fz (.int .i64 t)), (2, .fz (.fn 59 [])), (8, .fz (.int .i64 l.length)), (9, .fz (.int .i64 iz)), (10, .fz (.int .i64 jz))] ⟨[], [], 0⟩) := by
  intro m
  induction m with
  | zero =>
    intro i j iz jz hiz hjz hm h1 h2 h3
    obtain rfl : i = j := by omega
    obtain rfl : i = cntK Sg.num t l := by omega
    subst hiz hjz
    rw [x_iter]
    simp [u58_0]
    exact ⟨_, rfl, by simp [Tm.keep]⟩
  | succ m ih =>
    intro i j iz jz hiz hjz hm h1 h2 h3
    subst hiz hjz
    by_cases hij : i = j
    · subst hij
      obtain rfl : i = cntK Sg.num t l := by omega
      rw [x_iter]
      simp [u58_0]
      exact ⟨_, rfl, by simp [Tm.keep]⟩
    · have hlt : i < j := by omega
      obtain ⟨h, hh⟩ : ∃ h : Nat, h = (i + j) / 2 := ⟨_, rfl⟩
      have hhl : h < l.length := by omega
      have hc := pBCG l[h] t
      have hk := cntK_iff (t := t) hs h hhl
      have hij' : (i : Int) < (j : Int) := by omega
      have b1 : j - (h + 1) ≤ m := by omega
      have b2 : h - i ≤ m := by omega
      have b3 : h ≤ l.length := by omega
      have b4 : (h : Int) + 1 = ((h + 1 : Nat) : Int) := by omega
      rw [x_iter]
      by_cases hlt2 : Sg.num l[h] < t
      · have hc1 : cmpI (Sg.num l[h]) t = -1 := by simp [cmpI, hlt2]
        rw [hc1] at hc
        obtain ⟨w1, w2, w3, w4, w5⟩ := bs_w i j h hh (by omega)
        simp [u58_0, hij', hlt, w1, w2, slow_bit sBSG, bitD, sD, w3, w4, hhl, encG_len, encG_take, rBCG, callR, hc, w5]
        exact ih (h + 1) j _ _ b4 rfl b1 (hk.1 hlt2) h2 h3
      · have hc1 : ¬ cmpI (Sg.num l[h]) t < 0 := by simp only [cmpI]; split <;> (try split) <;> omega
        obtain ⟨w1, w2, w3, w4, w5⟩ := bs_w i j h hh (by omega)
        simp [u58_0, hij', hlt, w1, w2, slow_bit sBSG, bitD, sD, w3, w4, hhl, encG_len, encG_take, rBCG, callR, hc, hc1]
        exact ih i h _ _ rfl rfl b2 h1 (Nat.le_of_not_lt (mt hk.2 hlt2)) b3
theorem pBSG (l : List Sg) (hl : l.length < 1000000) (hs : Rise Sg.num l) (t : Int) : pureI Try.prog prims dx tbl 58 [.list (l.map encG), .int .i64 t, .fn 59 []] = some (.tup [.int .i64 (cntK Sg.num t l : Nat), .bool (isK Sg.num t l)]) := by
  rw [pureI_of (rfl : tbl 58 = some c58)]
  obtain ⟨T', h1, h2⟩ := loopBSG l hl hs t l.length 0 l.length 0 l.length rfl rfl (by omega) (Nat.zero_le _) (cntK_le _ _ _) (Nat.le_refl _)
  by_cases hlt : cntK Sg.num t l < l.length
  · have hc := pBCG l[cntK Sg.num t l] t
    have hi : isK Sg.num t l = decide (Sg.num l[cntK Sg.num t l] = t) := by simp [isK, hlt]
    have he : (cmpI (Sg.num l[cntK Sg.num t l]) t = 0) ↔ (Sg.num l[cntK Sg.num t l] = t) := by
      simp only [cmpI]
      split
      · constructor <;> intro <;> omega
      · split
        · constructor <;> intro <;> omega
        · constructor <;> intro <;> omega
    rw [hi]
    simp [c58, h1, h2, hlt, encG_len, encG_take, rBCG, callR, hc, he]
  · have hi : isK Sg.num t l = false := by
      unfold isK
      rw [List.getElem?_eq_none (by omega)]
    rw [hi]
    simp [c58, h1, h2, hlt]

/-! ### rcvr.Comes -/
structure Rv where
  k : Kn
  l : List Sg
def encR (r : Rv) : List F := [.int .i64 r.k.up, .list (r.k.more.map encI), .list (r.l.map encG)]
def runU (up : Int) : List Sg → List (List UInt8) × List Sg
  | [] => ([], [])
  | x :: r => if x.num ≤ up then (x.b :: (runU up r).1, (runU up r).2) else ([], x :: r)
def insG (l : List Sg) (s : Sg) : List Sg := l.take (cntK Sg.num s.num l) ++ s :: l.drop (cntK Sg.num s.num l)
def comesR (r : Rv) (s : Sg) : Rv × List (List UInt8) := if hasK r.k s.num = true ∨ s.num < 1 ∨ r.k.up + 4 < s.num then (r, []) else (⟨addK r.k s.num, (runU (addK r.k s.num).up (insG r.l s)).2⟩, (runU (addK r.k s.num).up (insG r.l s)).1)
end Go.Proofs.Ytpinhopgeaamdaa.Pl
