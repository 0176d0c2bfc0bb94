/-
  What is proved here: numbers that are known: where one stands, and with another one.
  Conditions: none.
-/
import Derived.Test.YtoojkgoljghddaaKwM
set_option linter.unusedVariables false
set_option linter.unusedSimpArgs false
set_option maxRecDepth 100000
set_option maxHeartbeats 8000000
namespace Go.Proofs.Ytoojkgoljghddaa.Pl
open Go Go.Proofs Go.Proofs.Ev Go.Proofs.Dv Cd
attribute [local simp] x_pure x_skip x_reg x_drw x_seq x_cond x_block x_frz x_loop' Tm.keep_nil x_exit x_ret k_seq k_seq_ret k_seq_exit k_seq_none k_seq_ite k_cond k_block k_block_ret k_block_exit k_block_none k_block_ite k_iter k_iter_ret k_iter_exit k_iter_none k_iter_ite k_reg k_reg_none k_reg_ite x_is_nil x_is x_is_g k_ins k_ins_none k_ins_ite k_grd x_ord_nil x_ord x_ord_g k_ord k_ord_none k_ord_ite k_ogrd k_out_ret k_out k_out_none k_out_ite k_pure k_pure_none k_pure_ite startD dI dA deo Tm.at Tm.dst Tm.set Tm.put Tm.keep dW dRes oneOfD mkTup mkAgg mkFn allF frL fr vD vD1 vF vFL dBin dEq dNil isNilD dScal F.cv eBin sameKind eInt eStr cellsD oneD F.one dFill putAtD chunk dbnd dSrc St.own St.drop St.still St.fresh chkQ stillQ freshQ lOf rdOf rdOK undefD F.full F.fullL List.mapIdx_cons strip allOne_nil allOne_cons allOne_append allLen_nil allLen_cons allLen_append roomOK_small filterT y_mv y_pick y_new y_box y_build y_bslice y_ld1 y_ldn y_nilchk y_bin y_not y_conv y_bytes y_string y_ifc y_fn y_cut y_cuts y_fa y_fld y_ia y_idx y_idxs y_ext y_len y_lenstr y_app y_grow y_mks y_mget y_mop dM y_slow y_call y_callv y_inv y_extc x_it_st x_it_clr x_it_cpy k_addT k_addT_none k_addT_ite k_orU k_orU_none dU D.turn turnL Tm.turn turnS St.turn turnRows_length

def idI (z : Int) : Int := z
theorem rNaI (ds : List D) (st : Dv.St) : callI Try.prog prims dx tbl 25 ds st = callR Try.prog prims dx tbl 25 ds st (frL (fr st 6) ds) := callRw rfl rfl (rfl : tbl 25 = some c25) rfl ds st
theorem rNaS (ds : List D) (st : Dv.St) : callI Try.prog prims dx tbl 19 ds st = callR Try.prog prims dx tbl 19 ds st (frL (fr st 6) ds) := callRw rfl rfl (rfl : tbl 19 = some c19) rfl ds st
theorem rLess (ds : List D) (st : Dv.St) : callI Try.prog prims dx tbl 18 ds st = callR Try.prog prims dx tbl 18 ds st (frL (fr st 6) ds) := callRw rfl rfl (rfl : tbl 18 = some c18) rfl ds st
theorem pNaI (x : Int) : pureI Try.prog prims dx tbl 25 [.int .i64 x] = some (.bool false) := by
  rw [pureI_of (rfl : tbl 25 = some c25)]
  simp [c25]
theorem pNaS (x : Int) : pureI Try.prog prims dx tbl 19 [.int .i64 x] = some (.bool false) := by
  rw [pureI_of (rfl : tbl 19 = some c19)]
  simp [c19]
theorem pLess (x y : Int) : pureI Try.prog prims dx tbl 18 [.int .i64 x, .int .i64 y] = some (.bool (decide (x < y))) := by
  rw [pureI_of (rfl : tbl 18 = some c18)]
  simp [c18, rNaI, callR, pNaI]
theorem sBSI : bitOp (operAt Try.prog 11 15) = some (.shr, .t 19, .c .u64 1) := by kernel_rfl
def PostBI (l : List Int) (t : Int) (r : Option DSt) : Prop := ∃ T', r = some (.exit 0, T', ⟨[], [], 0⟩) ∧ T'.keep [0, 1, 6, 7] = [(0, .fz (.list (l.map encI))), (1, .fz (.int .i64 t)), (6, .fz (.int .i64 l.length)), (7, .fz (.int .i64 (cntK idI t l : Nat)))]
theorem loopBSI (l : List Int) (hl : l.length < 1000000) (hs : Rise idI l) (t : Int) : ∀ (m i j : Nat) (iz jz : Int), iz = i → jz = j → j - i ≤ m → i ≤ cntK idI t l → cntK idI t l ≤ j → j ≤ l.length →
    PostBI l t (iterI (dCw Try.prog (callI Try.prog prims dx tbl) l11_0) [0, 1, 6, 7, 8] [(0, .fz (.list (l.map encI))), (1, .fz (.int .i64 t)), (6, .fz (.int .i64 l.length)), (7, .fz (.int .i64 iz)), (8, .fz (.int .i64 jz))] ⟨[], [], 0⟩) := by
  intro m
  induction m with
  | zero =>
    intro i j iz jz hiz hjz hm h1 h2 h3
    obtain rfl : i = j := by omega
    obtain rfl : i = cntK idI t l := by omega
    subst hiz hjz
    rw [x_iter]
    simp [u11_0]
    exact ⟨_, rfl, by simp [Tm.keep]⟩
  | succ m ih =>
    intro i j iz jz hiz hjz hm h1 h2 h3
    subst hiz hjz
    by_cases hij : i = j
    · subst hij
      obtain rfl : i = cntK idI t l := by omega
      rw [x_iter]
      simp [u11_0]
      exact ⟨_, rfl, by simp [Tm.keep]⟩
    · have hlt : i < j := by omega
      obtain ⟨h, hh⟩ : ∃ h : Nat, h = (i + j) / 2 := ⟨_, rfl⟩
      have hhl : h < l.length := by omega
      have hc := pLess l[h] t
      have hk : (l[h] < t ↔ h < cntK idI t l) := cntK_iff (t := t) hs h hhl
      have hij' : (i : Int) < (j : Int) := by omega
      have b1 : j - (h + 1) ≤ m := by omega
      have b2 : h - i ≤ m := by omega
      have b3 : h ≤ l.length := by omega
      have b4 : (h : Int) + 1 = ((h + 1 : Nat) : Int) := by omega
      rw [x_iter]
      by_cases hlt2 : l[h] < t
      · obtain ⟨w1, w2, w3, w4, w5⟩ := bs_w i j h hh (by omega)
        simp [hlt2] at hc
        simp [u11_0, hij', hlt, w1, w2, slow_bit sBSI, bitD, sD, w3, w4, hhl, encI, rLess, callR, hc, w5]
        exact ih (h + 1) j _ _ b4 rfl b1 (hk.1 hlt2) h2 h3
      · obtain ⟨w1, w2, w3, w4, w5⟩ := bs_w i j h hh (by omega)
        simp [hlt2] at hc
        simp [u11_0, hij', hlt, w1, w2, slow_bit sBSI, bitD, sD, w3, w4, hhl, encI, rLess, callR, hc]
        exact ih i h _ _ rfl rfl b2 h1 (Nat.le_of_not_lt (mt hk.2 hlt2)) b3
theorem pBSI (l : List Int) (hl : l.length < 1000000) (hs : Rise idI l) (t : Int) : pureI Try.prog prims dx tbl 11 [.list (l.map encI), .int .i64 t] = some (.tup [.int .i64 (cntK idI t l : Nat), .bool (isK idI t l)]) := by
  rw [pureI_of (rfl : tbl 11 = some c11)]
  obtain ⟨T', h1, h2⟩ := loopBSI l hl hs t l.length 0 l.length 0 l.length rfl rfl (by omega) (Nat.zero_le _) (cntK_le _ _ _) (Nat.le_refl _)
  try simp at h1
  by_cases hlt : cntK idI t l < l.length
  · have hi : isK idI t l = decide (idI l[cntK idI t l] = t) := by simp [isK, hlt]
    rw [hi]
    by_cases he : l[cntK idI t l] = t
    · have he' : idI l[cntK idI t l] = t := he
      rw [decide_eq_true he']
      simp [c11, h1, h2, hlt, encI, he]
    · have he' : ¬ idI l[cntK idI t l] = t := he
      rw [decide_eq_false he']
      simp [c11, h1, h2, hlt, encI, he, rNaS, callR, pNaS]
  · have hi : isK idI t l = false := by simp [isK, show l[cntK idI t l]? = none from List.getElem?_eq_none (by omega)]
    rw [hi]
    have hlt' : ¬ ((cntK idI t l : Nat) : Int) < (l.length : Int) := by omega
    simp [c11, h1, h2, hlt, hlt']
theorem rBSI (ds : List D) (st : Dv.St) : callI Try.prog prims dx tbl 11 ds st = callR Try.prog prims dx tbl 11 ds st (frL (fr st 6) ds) := callRw rfl rfl (rfl : tbl 11 = some c11) rfl ds st
/-! ### know.Add -/
def insI (l : List Int) (n : Int) : List Int := l.take (cntK idI n l) ++ n :: l.drop (cntK idI n l)
def addK (k : Kn) (n : Int) : Kn := if n < 1 ∨ 1000000 < n ∨ hasK k n = true then k else wholeK k.up (insI k.more n)
theorem insI_mem {l : List Int} {n x : Int} (h : x ∈ insI l n) : x = n ∨ x ∈ l := by
  simp only [insI, List.mem_append, List.mem_cons] at h
  rcases h with h | h | h
  · exact .inr (List.mem_of_mem_take h)
  · exact .inl h
  · exact .inr (List.mem_of_mem_drop h)
theorem pAdd (k : Kn) (h0 : 0 ≤ k.up) (h1 : k.up ≤ 1000000) (hm : ∀ m ∈ k.more, m ≤ 1000000) (hl : k.more.length < 10000) (hs : Rise idI k.more) (n : Int) : pureI Try.prog prims dx tbl 5 [.agg (encK k), .int .i64 n] = some (.agg (encK (addK k n))) := by
  rw [pureI_of (rfl : tbl 5 = some c5)]
  have o1 := encI_ok k.more
  have r1 : roomOK 8 k.more.length := roomOK_small (by omega) (by omega)
  have hh := pHas k (by omega) n
  by_cases a1 : n < 1
  · simp [c5, encK, rCloneI, dClone, dSrc, orC, o1, r1, addK, a1]
  · by_cases a2 : 1000000 < n
    · simp [c5, encK, rCloneI, dClone, dSrc, orC, o1, r1, addK, a1, a2]
    · cases a3 : hasK k n with
      | true =>
        rw [a3] at hh
        simp [encK] at hh
        simp [c5, encK, rCloneI, dClone, dSrc, orC, o1, r1, addK, a1, a2, a3, rHas, callR, hh]
      | false =>
        rw [a3] at hh
        simp [encK] at hh
        have hb := pBSI k.more (by omega) hs n
        have hw := pWhole ⟨k.up, insI k.more n⟩ h0 (by show k.up ≤ 2000000; omega) (fun m hm' => by
          rcases insI_mem hm' with rfl | h
          · omega
          · have := hm m h
            omega) (by
          have hc := cntK_le idI n k.more
          simp [insI]
          omega)
        have hc := cntK_le idI n k.more
        have r2 : roomOK 8 (k.more.length + 1) := roomOK_small (by omega) (by omega)
        have hn : ((cntK idI n k.more : Nat) : Int) ≤ (k.more.length : Int) := by omega
        simp [encK, insI, encI] at hw
        simp [c5, encK, rCloneI, dClone, dSrc, orC, o1, r1, addK, a1, a2, a3, rHas, callR, hh, rBSI, hb, rInsI, dPrim, dIns, r2, hc, hn, insI, encI, rWhole, hw]
theorem rAdd (ds : List D) (st : Dv.St) : callI Try.prog prims dx tbl 5 ds st = callR Try.prog prims dx tbl 5 ds st (frL (fr st 6) ds) := callRw rfl rfl (rfl : tbl 5 = some c5) rfl ds st
end Go.Proofs.Ytoojkgoljghddaa.Pl
