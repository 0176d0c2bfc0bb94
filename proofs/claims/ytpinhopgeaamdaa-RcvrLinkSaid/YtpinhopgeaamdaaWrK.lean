/-
  What is proved here: what one side of a link sends, step by step: by numbers and texts.
  Conditions: none.
-/
import Derived.Test.YtpinhopgeaamdaaWqK
set_option linter.unusedVariables false
set_option linter.unusedSimpArgs false
set_option maxRecDepth 100000
set_option maxHeartbeats 4000000
namespace Go.Proofs.Ytpinhopgeaamdaa.Pl
open Go Go.Proofs Go.Proofs.Ev Go.Proofs.Dv Cd
attribute [local simp] x_pure x_skip x_reg x_drw x_seq x_cond x_block x_loop' Tm.keep_nil x_exit x_ret k_seq k_seq_ret k_seq_exit k_seq_none k_seq_ite k_cond k_block k_block_ret k_block_exit k_block_none k_block_ite k_iter k_iter_ret k_iter_exit k_iter_none k_iter_ite k_reg k_reg_none k_reg_ite x_is_nil x_is x_is_g k_ins k_ins_none k_ins_ite k_grd x_ord_nil x_ord x_ord_g k_ord k_ord_none k_ord_ite k_ogrd k_out_ret k_out k_out_none k_out_ite k_pure k_pure_none k_pure_ite startD dI dA deo Tm.at Tm.dst Tm.set Tm.put Tm.keep dW dRes oneOfD mkTup mkAgg mkFn allF frL fr vD vD1 vF vFL dBin dEq dNil isNilD dScal F.cv eBin sameKind eInt eStr cellsD oneD F.one dFill putAtD chunk dbnd dSrc St.own St.drop St.still St.fresh chkQ stillQ freshQ lOf rdOf rdOK undefD F.full F.fullL List.mapIdx_cons strip allOne_nil allOne_cons allOne_append allLen_nil allLen_cons allLen_append roomOK_small filterT y_mv y_pick y_new y_box y_build y_bslice y_ld1 y_ldn y_nilchk y_bin y_not y_conv y_bytes y_string y_ifc y_fn y_cut y_cuts y_fa y_fld y_ia y_idx y_idxs y_ext y_len y_lenstr y_app y_grow y_mks y_slow y_call y_callv y_inv y_extc x_it_st x_it_clr x_it_cpy k_addT k_addT_none k_addT_ite k_orU k_orU_none dU D.turn turnL Tm.turn turnS St.turn turnRows_length

structure Wd where
  base : Int
  next : Int
  L : List Sg
  wait : List (List UInt8)
def encW (w : Wd) : List F := [.int .i64 w.base, .int .i64 w.next, .list (w.L.map encG), .list (w.wait.map encT)]
def oW (w : Wd) : O := .agg [.fz (.int .i64 w.base), .fz (.int .i64 w.next), .ow 2 (w.L.map encG), .ow 1 (w.wait.map encT)]
def goW (base next : Int) (L : List Sg) : List (List UInt8) → Wd
  | [] => ⟨base, next, L, []⟩
  | s :: r => if next < base + 4 then goW base (next + 1) (L ++ [⟨next, s⟩]) r else ⟨base, next, L, s :: r⟩
def sendW (w : Wd) (s : List UInt8) : Wd := goW w.base w.next w.L (w.wait ++ [s])
def toldW (w : Wd) (up : Int) : Wd := if up < w.base ∨ w.next ≤ up then w else goW (up + 1) w.next (keepP (fun s => decide (s.num ≤ up)) w.L) w.wait
/-- Numbers that are not too great. -/
structure Wd.ok (w : Wd) (n : Nat) : Prop where
  base : 1 ≤ w.base ∧ w.base ≤ w.next
  next : w.next ≤ n + 1
  len : w.L.length ≤ n
  wait : w.wait.length ≤ n

theorem rCloneG (ds : List D) (st : Dv.St) : callI Try.prog prims dx tbl 57 ds st = orC (dClone 2 24 ds st) (callI0 Try.prog prims dx tbl 57 ds st) := callRwX rfl rfl ds st
theorem rCloneT (ds : List D) (st : Dv.St) : callI Try.prog prims dx tbl 84 ds st = orC (dClone 1 16 ds st) (callI0 Try.prog prims dx tbl 84 ds st) := callRwX rfl rfl ds st
theorem oTwin (w : Wd) (hl : w.L.length < 900000) (hw : w.wait.length < 900000) : ownI Try.prog prims dx tbl 63 [.fz (.agg (encW w))] = some (oW w) := by
  rw [ownI_of (rfl : tbl 63 = some c63)]
  have o1 := encG_ok w.L
  have o2 := encT_ok w.wait
  have r1 : roomOK 24 w.L.length := roomOK_small (by omega) (by omega)
  have r2 : roomOK 16 w.wait.length := roomOK_small (by omega) (by omega)
  simp [c63, x_own, ownK, ownK_ite, takeO, takeL, giveO, giveL, O.cnt, O.cntL, newL, aliveMv, St.back, callOwn, orC, encW, oW, rCloneG, rCloneT, dClone, dSrc, o1, o2, r1, r2]
theorem rTwin (ds : List D) (st : Dv.St) : callI Try.prog prims dx tbl 63 ds st = orC (callOwn (ownI Try.prog prims dx tbl 63) ds st) (callI0 Try.prog prims dx tbl 63 ds st) := callRwO rfl rfl (rfl : tbl 63 = some c63) rfl ds st
def PostGo (w : Wd) (r : Option DSt) : Prop := ∃ (t1 t2 q : Nat) (L : List Nat) (c : Nat) (T' : Tm), t1 ∈ L ∧ t2 ∈ L ∧ t1 ≠ t2 ∧ T'.keep [1, 2] = [(1, .ptr 0 0), (2, .ptr 1 0)] ∧
  r = some (.exit 0, T', ⟨[(true, [.fz (.int .i64 w.base), .fz (.int .i64 w.next), .ow t1 0 2 (w.L.map encG), .ow t2 q 1 (w.wait.map encT)]), (true, [.fz (.int .i64 0), .fz (.int .i64 0), .nils, .nils])], L, c⟩)
theorem loopGo (base : Int) (hb : 1 ≤ base ∧ base < 1000000) : ∀ (wait : List (List UInt8)) (next : Int) (l : List Sg) (R : List (List F)) (t1 t2 q : Nat) (L : List Nat) (c : Nat), 1 ≤ next → next + wait.length < 1000000 → l.length + wait.length < 900000 → R = l.map encG → t1 ∈ L → t2 ∈ L → t1 ≠ t2 → t2 < c →
    PostGo (goW base next l wait) (iterI (dCw Try.prog (callI Try.prog prims dx tbl) l64_0) [1, 2] [(1, .ptr 0 0), (2, .ptr 1 0)] ⟨[(true, [.fz (.int .i64 base), .fz (.int .i64 next), .ow t1 0 2 R, .ow t2 q 1 (wait.map encT)]), (true, [.fz (.int .i64 0), .fz (.int .i64 0), .nils, .nils])], L, c⟩) := by
  intro wait
  induction wait with
  | nil =>
    intro next l R t1 t2 q L c hn hnw hlw hR h1 h2 hne hlt
    subst hR
    rw [x_iter]
    simp [u64_0, h1, h2, goW]
    exact ⟨t1, t2, q, L, c, _, h1, h2, hne, by simp [Tm.keep], rfl⟩
  | cons s r ih =>
    intro next l R t1 t2 q L c hn hnw hlw hR h1 h2 hne hlt
    subst hR
    simp only [List.length_cons] at hnw hlw
    have o1 := (encG_ok l).1
    have r1 : roomOK 24 (l.length + 1) := roomOK_small (by omega) (by omega)
    have e1 : next + 1 + (r.length : Int) < 1000000 := by omega
    have e2 : (l ++ [(⟨next, s⟩ : Sg)]).length + r.length < 900000 := by simp; omega
    have e3 : 1 ≤ next + 1 := by omega
    have e4 : t2 ≠ t1 := fun e => hne e.symm
    have e5 : ¬ t2 = c := by omega
    have e6 : ¬ t2 = c + 1 := by omega
    have e7 : ¬ c + 1 = t2 := by omega
    have hpos : (0 : Int) < (r.length : Int) + 1 := by omega
    have htk : List.take r.length (List.map encT r) = List.map encT r := List.take_of_length_le (by simp)
    have wb : wrapF .i64 (base + 4) = base + 4 := wrap_id _ (by omega) (by omega)
    have wn : wrapF .i64 (next + 1) = next + 1 := wrap_id _ (by omega) (by omega)
    rw [x_iter]
    by_cases hc : next < base + 4
    · rw [show goW base next l (s :: r) = goW base (next + 1) (l ++ [⟨next, s⟩]) r by simp [goW, hc]]
      simp [u64_0, h1, h2, hpos, wb, wn, hc, encT, o1, r1, e4, e5, e6, htk]
      refine ih (next + 1) _ _ _ _ _ _ _ e3 e1 e2 ?_ ?_ ?_ e7 ?_
      · simp [encG]
      · simp
      · simp [h2, e4, e5, e6]
      · omega
    · rw [show goW base next l (s :: r) = ⟨base, next, l, s :: r⟩ by simp [goW, hc]]
      simp [u64_0, h1, h2, hpos, wb, wn, hc]
      exact ⟨t1, t2, q, L, c, _, h1, h2, hne, by simp [Tm.keep], rfl⟩
theorem oGoes (w : Wd) (hb : 1 ≤ w.base ∧ w.base < 1000000) (hn : 1 ≤ w.next) (h1 : w.next + w.wait.length < 1000000) (h2 : w.L.length + w.wait.length < 900000) : ownI Try.prog prims dx tbl 64 [oW w] = some (oW (goW w.base w.next w.L w.wait)) := by
  rw [ownI_of (rfl : tbl 64 = some c64)]
  obtain ⟨t1, t2, q, L, c, T', k1, k2, k3, hk, hT⟩ := loopGo w.base hb w.wait w.next w.L _ 0 1 0 [0, 1] 2 hn h1 h2 rfl (by simp) (by simp) (by simp) (by omega)
  generalize goW w.base w.next w.L w.wait = v at hT ⊢
  simp [c64, x_own, ownK, ownK_ite, takeO, takeL, giveO, giveL, O.cnt, O.cntL, newL, aliveMv, St.back, callOwn, orC, oW, hT, hk, k1, k2, k3]
theorem rGoes (ds : List D) (st : Dv.St) : callI Try.prog prims dx tbl 64 ds st = orC (callOwn (ownI Try.prog prims dx tbl 64) ds st) (callI0 Try.prog prims dx tbl 64 ds st) := callRwO rfl rfl (rfl : tbl 64 = some c64) rfl ds st
theorem pSend (w : Wd) (n : Nat) (hn : n < 100000) (ok : w.ok n) (s : List UInt8) : pureI Try.prog prims dx tbl 37 [.agg (encW w), .str s] = some (.agg (encW (sendW w s))) := by
  obtain ⟨a1, a2, a3, a4⟩ := ok
  rw [pureI_of (rfl : tbl 37 = some c37)]
  have h1 := oTwin w (by omega) (by omega)
  have h2 := oGoes { w with wait := w.wait ++ [s] } ⟨a1.1, by simp only; omega⟩ (by simp only; omega) (by simp; omega) (by simp; omega)
  have o2 := (encT_ok w.wait).1
  have r2 : roomOK 16 (w.wait.length + 1) := roomOK_small (by omega) (by omega)
  rw [show goW w.base w.next w.L (w.wait ++ [s]) = sendW w s from rfl] at h2
  simp only [oW, encW] at h1 h2
  simp [encT] at h2
  generalize sendW w s = v at h2 ⊢
  simp [c37, x_own, ownK, ownK_ite, takeO, takeL, giveO, giveL, O.cnt, O.cntL, newL, aliveMv, St.back, callOwn, orC, encW, rTwin, h1, o2, r2, encT, rGoes, h2]
theorem rSend (ds : List D) (st : Dv.St) : callI Try.prog prims dx tbl 37 ds st = callR Try.prog prims dx tbl 37 ds st (frL (fr st 6) ds) := callRw rfl rfl (rfl : tbl 37 = some c37) rfl ds st
theorem rTd1 (ds : List D) (st : Dv.St) : callI Try.prog prims dx tbl 66 ds st = callR Try.prog prims dx tbl 66 ds st (frL (fr st 6) ds) := callRw rfl rfl (rfl : tbl 66 = some c66) rfl ds st
theorem pTd1 (x : Sg) (up : Int) : pureI Try.prog prims dx tbl 66 [.agg [.int .i64 x.num, .str x.b], .fp [.int .i64 up]] = some (.bool (decide (x.num ≤ up))) := by
  rw [pureI_of (rfl : tbl 66 = some c66)]
  simp [c66]
theorem pTold (w : Wd) (n : Nat) (hn : n < 100000) (ok : w.ok n) (up : Int) : pureI Try.prog prims dx tbl 38 [.agg (encW w), .int .i64 up] = some (.agg (encW (toldW w up))) := by
  obtain ⟨a1, a2, a3, a4⟩ := ok
  rw [pureI_of (rfl : tbl 38 = some c38)]
  have h1 := oTwin w (by omega) (by omega)
  simp only [oW, encW] at h1
  by_cases c1 : up < w.base
  · have e : toldW w up = w := by simp [toldW, c1]
    rw [e]
    simp [c38, x_own, ownK, ownK_ite, takeO, takeL, giveO, giveL, O.cnt, O.cntL, newL, aliveMv, St.back, callOwn, orC, encW, rTwin, h1, c1]
  · by_cases c2 : w.next ≤ up
    · have e : toldW w up = w := by simp [toldW, c2]
      rw [e]
      simp [c38, x_own, ownK, ownK_ite, takeO, takeL, giveO, giveL, O.cnt, O.cntL, newL, aliveMv, St.back, callOwn, orC, encW, rTwin, h1, c1, c2]
    · have hk : (keepP (fun s => decide (s.num ≤ up)) w.L).length ≤ w.L.length := List.length_filter_le _ _
      have h2 := oGoes ⟨up + 1, w.next, keepP (fun s => decide (s.num ≤ up)) w.L, w.wait⟩ ⟨by simp only; omega, by simp only; omega⟩ (by simp only; omega) (by simp only; omega) (by simp only; omega)
      have h3 := oDF (fun s => decide (s.num ≤ up)) 66 [.fp [.int .i64 up]] w.L (fun x _ st => by
        simp [rTd1, frL, fr, callR, pTd1 x up, F.full]) (by omega)
      have wu : wrapF .i64 (up + 1) = up + 1 := wrap_id _ (by omega) (by omega)
      have e : toldW w up = goW (up + 1) w.next (keepP (fun s => decide (s.num ≤ up)) w.L) w.wait := by simp [toldW, c1, c2]
      simp only at h2
      rw [← e] at h2
      simp only [oW] at h2
      generalize toldW w up = v at h2 ⊢
      simp [c38, x_own, ownK, ownK_ite, takeO, takeL, giveO, giveL, O.cnt, O.cntL, newL, aliveMv, St.back, callOwn, orC, encW, rTwin, h1, c1, c2, rDF, h3, wu, rGoes, h2]
theorem rTold (ds : List D) (st : Dv.St) : callI Try.prog prims dx tbl 38 ds st = callR Try.prog prims dx tbl 38 ds st (frL (fr st 6) ds) := callRw rfl rfl (rfl : tbl 38 = some c38) rfl ds st
end Go.Proofs.Ytpinhopgeaamdaa.Pl
