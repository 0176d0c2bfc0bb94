/-
  What is proved here: what one side of a link sends, in the document's own words.
  Conditions: none.
-/
import Derived.Test.YtakajpdnbgaahaaWsX
import Derived.Test.YtakajpdnbgaahaaEgX
set_option linter.unusedVariables false
set_option linter.unusedSimpArgs false
set_option maxRecDepth 100000
set_option maxHeartbeats 8000000
namespace Go.Proofs.Ytakajpdnbgaahaa.Pl
open Go Go.Proofs Go.Proofs.Ev Go.Proofs.Dv Cd
attribute [local simp] x_pure x_skip x_reg x_drw x_seq x_cond x_block x_loop' Tm.keep_nil x_exit x_ret k_seq k_seq_ret k_seq_exit k_seq_none k_seq_ite k_cond k_block k_block_ret k_block_exit k_block_none k_block_ite k_iter k_iter_ret k_iter_exit k_iter_none k_iter_ite k_reg k_reg_none k_reg_ite x_is_nil x_is x_is_g k_ins k_ins_none k_ins_ite k_grd x_ord_nil x_ord x_ord_g k_ord k_ord_none k_ord_ite k_ogrd k_out_ret k_out k_out_none k_out_ite k_pure k_pure_none k_pure_ite startD dI dA deo Tm.at Tm.dst Tm.set Tm.put Tm.keep dW dRes oneOfD mkTup mkAgg mkFn allF frL fr vD vD1 vF vFL dBin dEq dNil isNilD dScal F.cv eBin sameKind eInt eStr cellsD oneD F.one dFill putAtD chunk dbnd dSrc St.own St.drop St.still St.fresh chkQ stillQ freshQ lOf rdOf rdOK undefD F.full F.fullL List.mapIdx_cons strip allOne_nil allOne_cons allOne_append allLen_nil allLen_cons allLen_append roomOK_small filterT y_mv y_pick y_new y_box y_build y_bslice y_ld1 y_ldn y_nilchk y_bin y_not y_conv y_bytes y_string y_ifc y_fn y_cut y_cuts y_fa y_fld y_ia y_idx y_idxs y_ext y_len y_lenstr y_app y_grow y_mks y_slow y_call y_callv y_inv y_extc x_it_st x_it_clr x_it_cpy k_addT k_addT_none k_addT_ite k_orU k_orU_none dU D.turn turnL Tm.turn turnS St.turn turnRows_length

def PostRGo (w : Wd) (d0 : List D) (r : Option DSt) : Prop := ∃ (t1 t2 q : Nat) (L : List Nat) (c : Nat) (T' : Tm), t1 ∈ L ∧ t2 ∈ L ∧ t1 ≠ t2 ∧ T'.keep [2, 3] = [(2, .ptr 1 0), (3, .ptr 2 0)] ∧
  r = some (.exit 0, T', ⟨[(true, d0), (true, [.fz (.int .i64 0), .fz (.int .i64 0), .nils, .nils]), (true, [.fz (.int .i64 w.base), .fz (.int .i64 w.next), .ow t1 0 2 (w.L.map encG), .ow t2 q 1 (w.wait.map encT)])], L, c⟩)
theorem loopRGo (d0 : List D) (base : Int) (hb : 1 ≤ base ∧ base < 1000000) : ∀ (wait : List (List UInt8)) (next : Int) (l : List Sg) (R : List (List F)) (t1 t2 q : Nat) (L : List Nat) (c : Nat), 1 ≤ next → next + wait.length < 1000000 → l.length + wait.length < 900000 → R = l.map encG → t1 ∈ L → t2 ∈ L → t1 ≠ t2 → t2 < c →
    PostRGo (goW base next l wait) d0 (iterI (dCw Try.prog (callI Try.prog prims dx tbl) l17_0) [2, 3] [(2, .ptr 1 0), (3, .ptr 2 0)] ⟨[(true, d0), (true, [.fz (.int .i64 0), .fz (.int .i64 0), .nils, .nils]), (true, [.fz (.int .i64 base), .fz (.int .i64 next), .ow t1 0 2 R, .ow t2 q 1 (wait.map encT)])], L, c⟩) := by
  intro wait
  induction wait with
  | nil =>
    intro next l R t1 t2 q L c hn hnw hlw hR h1 h2 hne hlt
    subst hR
    rw [x_iter]
    simp [u17_0, h1, h2, goW]
    exact ⟨t1, t2, q, L, c, _, h1, h2, hne, by simp [Tm.keep], rfl⟩
  | cons s r ih =>
    intro next l R t1 t2 q L c hn hnw hlw hR h1 h2 hne hlt
    subst hR
    simp only [List.length_cons] at hnw hlw
    have o1 := (encG_ok l).1
    have r1 : roomOK 24 (l.length + 1) := roomOK_small (by omega) (by omega)
    have e1 : next + 1 + (r.length : Int) < 1000000 := by omega
    have e2 : (l ++ [(⟨next, s⟩ : Sg)]).length + r.length < 900000 := by simp; omega
    have e3 : 1 ≤ next + 1 := by omega
    have e4 : t2 ≠ t1 := fun e => hne e.symm
    have e5 : ¬ t2 = c := by omega
    have e6 : ¬ t2 = c + 1 := by omega
    have e7 : ¬ c + 1 = t2 := by omega
    have hpos : (0 : Int) < (r.length : Int) + 1 := by omega
    have htk : List.take r.length (List.map encT r) = List.map encT r := List.take_of_length_le (by simp)
    have wb : wrapF .i64 (base + 4) = base + 4 := wrap_id _ (by omega) (by omega)
    have wn : wrapF .i64 (next + 1) = next + 1 := wrap_id _ (by omega) (by omega)
    rw [x_iter]
    by_cases hc : next < base + 4
    · rw [show goW base next l (s :: r) = goW base (next + 1) (l ++ [⟨next, s⟩]) r by simp [goW, hc]]
      simp [u17_0, h1, h2, hpos, wb, wn, hc, encT, o1, r1, e4, e5, e6, htk]
      refine ih (next + 1) _ _ _ _ _ _ _ e3 e1 e2 ?_ ?_ ?_ e7 ?_
      · simp [encG]
      · simp
      · simp [h2, e4, e5, e6]
      · omega
    · rw [show goW base next l (s :: r) = ⟨base, next, l, s :: r⟩ by simp [goW, hc]]
      simp [u17_0, h1, h2, hpos, wb, wn, hc]
      exact ⟨t1, t2, q, L, c, _, h1, h2, hne, by simp [Tm.keep], rfl⟩
theorem pRGoes (w : Wd) (hb : 1 ≤ w.base ∧ w.base < 1000000) (hn : 1 ≤ w.next) (h1 : w.next + w.wait.length < 1000000) (h2 : w.L.length + w.wait.length < 900000) : pureI Try.prog prims dx tbl 17 [.agg (encW w)] = some (.agg (encW (goW w.base w.next w.L w.wait))) := by
  rw [pureI_of (rfl : tbl 17 = some c17)]
  have o1 := encG_ok w.L
  have o2 := encT_ok w.wait
  have r1 : roomOK 24 w.L.length := roomOK_small (by omega) (by omega)
  have r2 : roomOK 16 w.wait.length := roomOK_small (by omega) (by omega)
  obtain ⟨t1, t2, q, L, c, T', k1, k2, k3, hk, hT⟩ := loopRGo [.fz (.int .i64 w.base), .fz (.int .i64 w.next), .fz (.list (w.L.map encG)), .fz (.list (w.wait.map encT))] w.base hb w.wait w.next w.L _ 2 3 0 [3, 2] 4 hn h1 h2 rfl (by simp) (by simp) (by simp) (by omega)
  generalize goW w.base w.next w.L w.wait = v at hT ⊢
  simp [c17, encW, o1, o2, r1, r2, bsQ, onceQ, hT, hk, k1, k2, k3]
theorem rRGoes (ds : List D) (st : Dv.St) : callI Try.prog prims dx tbl 17 ds st = callR Try.prog prims dx tbl 17 ds st (frL (fr st 6) ds) := callRw rfl rfl (rfl : tbl 17 = some c17) rfl ds st
theorem pRSend (w : Wd) (n : Nat) (hn : n < 100000) (ok : w.ok n) (s : List UInt8) : pureI Try.prog prims dx tbl 11 [.agg (encW w), .str s] = some (.agg (encW (sendW w s))) := by
  obtain ⟨a1, a2, a3, a4⟩ := ok
  rw [pureI_of (rfl : tbl 11 = some c11)]
  have h2 := pRGoes { w with wait := w.wait ++ [s] } ⟨a1.1, by simp only; omega⟩ (by simp only; omega) (by simp; omega) (by simp; omega)
  have o2 := encT_ok w.wait
  have r1 : roomOK 16 w.wait.length := roomOK_small (by omega) (by omega)
  have r2 : roomOK 16 (w.wait.length + 1) := roomOK_small (by omega) (by omega)
  rw [show goW w.base w.next w.L (w.wait ++ [s]) = sendW w s from rfl] at h2
  simp only [encW] at h2
  simp [encT] at h2
  generalize sendW w s = v at h2 ⊢
  simp [c11, encW, o2, r1, r2, encT, rRGoes, callR, h2]
theorem rRSend (ds : List D) (st : Dv.St) : callI Try.prog prims dx tbl 11 ds st = callR Try.prog prims dx tbl 11 ds st (frL (fr st 6) ds) := callRw rfl rfl (rfl : tbl 11 = some c11) rfl ds st
def OwnW (z : Nat) (rows : List (List F)) (L : List Nat) (d : D) : Prop := (rows = [] ∧ d = .nils) ∨ ∃ t, rows ≠ [] ∧ t ∈ L ∧ d = .ow t 0 z rows
def PostTo (w : Wd) (up : Int) (res : List Sg) (r : Option DSt) : Prop := ∃ (d : D) (L : List Nat) (c : Nat) (T' : Tm), OwnW 2 (res.map encG) L d ∧ T'.keep [1, 2, 4, 5] = [(1, .fz (.int .i64 up)), (2, .ptr 0 0), (4, .ptr 1 0), (5, d)] ∧ r = some (.exit 0, T', ⟨[(true, [.fz (.int .i64 w.base), .fz (.int .i64 w.next), .fz (.list (w.L.map encG)), .fz (.list (w.wait.map encT))]), (true, [.fz (.int .i64 0), .fz (.int .i64 0), .nils, .nils])], L, c⟩)
theorem loopTo (w : Wd) (hl : w.L.length < 100000) (up : Int) : ∀ (r : List Sg) (i : Nat) (iz : Int) (rows : List Sg) (R : List (List F)) (d : D) (L : List Nat) (c : Nat), iz = i → w.L.drop i = r → i ≤ w.L.length → rows.length ≤ i → R = rows.map encG → OwnW 2 R L d →
    PostTo w up (rows ++ keepP (fun s => decide (s.num ≤ up)) r) (iterI (dCw Try.prog (callI Try.prog prims dx tbl) l13_0) [1, 2, 4, 5, 6] [(1, .fz (.int .i64 up)), (2, .ptr 0 0), (4, .ptr 1 0), (5, d), (6, .fz (.int .i64 iz))] ⟨[(true, [.fz (.int .i64 w.base), .fz (.int .i64 w.next), .fz (.list (w.L.map encG)), .fz (.list (w.wait.map encT))]), (true, [.fz (.int .i64 0), .fz (.int .i64 0), .nils, .nils])], L, c⟩) := by
  intro r
  induction r with
  | nil =>
    intro i iz rows R d L c hz hd hi hrl hR ho
    subst hR
    have hi' := drop_nil hd hi
    subst hi' hz
    rw [x_iter]
    simp [u13_0]
    refine ⟨d, L, c, _, by simpa [keepP] using ho, ?_, rfl⟩
    simp [Tm.keep]
  | cons a r ih =>
    intro i iz rows R d L c hz hd hi hrl hR ho
    subst hz hR
    obtain ⟨hlt, hli, hd'⟩ := drop_cons hd
    have o1 := (encG_ok rows).1
    have r1 : roomOK 24 (rows.length + 1) := roomOK_small (by omega) (by omega)
    have hi1 : ((i : Int) + 1) = ((i + 1 : Nat) : Int) := by omega
    have hrl' : (rows ++ [a]).length ≤ i + 1 := by simp; omega
    have hrl2 : rows.length ≤ i + 1 := by omega
    have hw : wrapF .i64 ((i : Int) + 1) = (i : Int) + 1 := wrap_id _ (by omega) (by omega)
    rw [x_iter]
    by_cases hk : a.num ≤ up
    · have hf : rows ++ keepP (fun s => decide (s.num ≤ up)) (a :: r) = rows ++ keepP (fun s => decide (s.num ≤ up)) r := by simp [keepP, hk]
      have hk' : ¬ up < a.num := by omega
      rw [hf]
      obtain ⟨res, hres⟩ : ∃ res, res = rows ++ keepP (fun s => decide (s.num ≤ up)) r := ⟨_, rfl⟩
      rw [← hres]
      simp [u13_0, hlt, encG, hli, hk, hk', hw]
      rw [hres]
      exact ih (i + 1) _ rows _ _ _ _ hi1 hd' hlt hrl2 rfl ho
    · have hf : rows ++ keepP (fun s => decide (s.num ≤ up)) (a :: r) = (rows ++ [a]) ++ keepP (fun s => decide (s.num ≤ up)) r := by simp [keepP, hk]
      have hk' : up < a.num := by omega
      rw [hf]
      obtain ⟨res, hres⟩ : ∃ res, res = (rows ++ [a]) ++ keepP (fun s => decide (s.num ≤ up)) r := ⟨_, rfl⟩
      rw [← hres]
      rcases ho with ⟨h5, rfl⟩ | ⟨t, hne, ht, rfl⟩
      · have h6 : rows = [] := by simpa using h5
        subst h6
        simp [u13_0, hlt, encG, hli, hk, hk', hw]
        rw [hres]
        refine ih (i + 1) _ ([] ++ [a]) _ _ _ _ hi1 hd' hlt hrl' ?_ (.inr ⟨_, by simp, ?_, rfl⟩)
        · simp [encG]
        · simp
      · simp [u13_0, hlt, encG, hli, hk, hk', hw, ht, o1, r1]
        rw [hres]
        refine ih (i + 1) _ (rows ++ [a]) _ _ _ _ hi1 hd' hlt hrl' ?_ (.inr ⟨_, by simp, ?_, rfl⟩)
        · simp [encG]
        · simp
theorem pRTold (w : Wd) (n : Nat) (hn : n < 100000) (ok : w.ok n) (up : Int) : pureI Try.prog prims dx tbl 13 [.agg (encW w), .int .i64 up] = some (.agg (encW (toldW w up))) := by
  obtain ⟨a1, a2, a3, a4⟩ := ok
  rw [pureI_of (rfl : tbl 13 = some c13)]
  by_cases c1 : up < w.base
  · have e : toldW w up = w := by simp [toldW, c1]
    rw [e]
    simp [c13, encW, c1]
  · by_cases c2 : w.next ≤ up
    · have e : toldW w up = w := by simp [toldW, c2]
      rw [e]
      simp [c13, encW, c1, c2]
    · have hk : (keepP (fun s => decide (s.num ≤ up)) w.L).length ≤ w.L.length := List.length_filter_le _ _
      have h2 := pRGoes ⟨up + 1, w.next, keepP (fun s => decide (s.num ≤ up)) w.L, w.wait⟩ ⟨by simp only; omega, by simp only; omega⟩ (by simp only; omega) (by simp only; omega) (by simp only; omega)
      obtain ⟨d, L, c, T', ho, hk2, hT⟩ := loopTo w (by omega) up w.L 0 0 [] [] .nils [] 0 rfl rfl (Nat.zero_le _) (Nat.le_refl _) rfl (.inl ⟨rfl, rfl⟩)
      rw [List.nil_append] at ho
      have wu : wrapF .i64 (up + 1) = up + 1 := wrap_id _ (by omega) (by omega)
      have e : toldW w up = goW (up + 1) w.next (keepP (fun s => decide (s.num ≤ up)) w.L) w.wait := by simp [toldW, c1, c2]
      simp only at h2
      rw [← e] at h2
      simp only [encW] at h2
      generalize toldW w up = v at h2 ⊢
      generalize keepP (fun s => decide (s.num ≤ up)) w.L = K at h2 ho
      rcases ho with ⟨h5, rfl⟩ | ⟨t, hne, ht, rfl⟩
      · rw [h5] at h2
        simp [c13, encW, c1, c2, hT, hk2, wu, rRGoes, callR, h2]
      · simp [c13, encW, c1, c2, hT, hk2, ht, wu, rRGoes, callR, h2]
theorem rRTold (ds : List D) (st : Dv.St) : callI Try.prog prims dx tbl 13 ds st = callR Try.prog prims dx tbl 13 ds st (frL (fr st 6) ds) := callRw rfl rfl (rfl : tbl 13 = some c13) rfl ds st
theorem pNewW : pureI Try.prog prims dx tbl 8 [] = some (.agg (encW ⟨1, 1, [], []⟩)) := by
  rw [pureI_of (rfl : tbl 8 = some c8)]
  simp [c8, encW]
theorem rNewW (ds : List D) (st : Dv.St) : callI Try.prog prims dx tbl 8 ds st = callR Try.prog prims dx tbl 8 ds st (frL (fr st 6) ds) := callRw rfl rfl (rfl : tbl 8 = some c8) rfl ds st
theorem pRNewW : pureI Try.prog prims dx tbl 9 [] = some (.agg (encW ⟨1, 1, [], []⟩)) := by
  rw [pureI_of (rfl : tbl 9 = some c9)]
  simp [c9, encW]
theorem rRNewW (ds : List D) (st : Dv.St) : callI Try.prog prims dx tbl 9 ds st = callR Try.prog prims dx tbl 9 ds st (frL (fr st 6) ds) := callRw rfl rfl (rfl : tbl 9 = some c9) rfl ds st
theorem beqB_self (s : List UInt8) : beqB s s = true := by rw [beqB_eq]; simp
theorem eSG : eqOSeg (operAt Try.prog 20 20) = some (false, 20, 24) := by kernel_rfl
def PostSG (r : Option DSt) : Prop := ∃ T' st', r = some (.exit 0, T', st')
theorem loopSG (l : List Sg) (hl : l.length < 100000) : ∀ (r : List Sg) (i : Nat) (iz : Int), iz = i → l.drop i = r → i ≤ l.length →
    PostSG (iterI (dCw Try.prog (callI Try.prog prims dx tbl) l20_0) [0, 1, 5] [(0, .fz (.list (l.map encG))), (1, .fz (.list (l.map encG))), (5, .fz (.int .i64 iz))] ⟨[], [], 0⟩) := by
  intro r
  induction r with
  | nil =>
    intro i iz hz hd hi
    have hi' := drop_nil hd hi
    subst hi' hz
    rw [x_iter]
    simp [u20_0]
    exact ⟨_, _, rfl⟩
  | cons a r ih =>
    intro i iz hz hd hi
    subst hz
    obtain ⟨hlt, hli, hd'⟩ := drop_cons hd
    have hi1 : ((i : Int) + 1) = ((i + 1 : Nat) : Int) := by omega
    have hw : wrapF .i64 ((i : Int) + 1) = (i : Int) + 1 := wrap_id _ (by omega) (by omega)
    rw [x_iter]
    simp [u20_0, hlt, encG_len, encG_take, hli, slow_eqSeg eSG, eqDSeg, hw]
    exact ih (i + 1) _ hi1 hd' hlt
theorem pSameSG (l : List Sg) (hl : l.length < 100000) : pureI Try.prog prims dx tbl 20 [.list (l.map encG), .list (l.map encG)] = some (.bool true) := by
  rw [pureI_of (rfl : tbl 20 = some c20)]
  obtain ⟨T', st', h⟩ := loopSG l hl l 0 0 rfl rfl (Nat.zero_le _)
  simp [c20, h]
theorem rSameSG (ds : List D) (st : Dv.St) : callI Try.prog prims dx tbl 20 ds st = callR Try.prog prims dx tbl 20 ds st (frL (fr st 6) ds) := callRw rfl rfl (rfl : tbl 20 = some c20) rfl ds st
def PostSW (w : Wd) (r : Option DSt) : Prop := ∃ T', T'.keep [2, 3] = [(2, .ptr 0 0), (3, .ptr 1 0)] ∧ r = some (.exit 0, T', ⟨[(true, [.fz (.int .i64 w.base), .fz (.int .i64 w.next), .fz (.list (w.L.map encG)), .fz (.list (w.wait.map encT))]), (true, [.fz (.int .i64 w.base), .fz (.int .i64 w.next), .fz (.list (w.L.map encG)), .fz (.list (w.wait.map encT))])], [], 0⟩)
theorem loopSW (w : Wd) (hl : w.wait.length < 100000) : ∀ (r : List (List UInt8)) (i : Nat) (iz : Int), iz = i → w.wait.drop i = r → i ≤ w.wait.length →
    PostSW w (iterI (dCw Try.prog (callI Try.prog prims dx tbl) l14_0) [2, 3, 5] [(2, .ptr 0 0), (3, .ptr 1 0), (5, .fz (.int .i64 iz))] ⟨[(true, [.fz (.int .i64 w.base), .fz (.int .i64 w.next), .fz (.list (w.L.map encG)), .fz (.list (w.wait.map encT))]), (true, [.fz (.int .i64 w.base), .fz (.int .i64 w.next), .fz (.list (w.L.map encG)), .fz (.list (w.wait.map encT))])], [], 0⟩) := by
  intro r
  induction r with
  | nil =>
    intro i iz hz hd hi
    have hi' := drop_nil hd hi
    subst hi' hz
    rw [x_iter]
    simp [u14_0]
    exact ⟨_, by simp [Tm.keep], rfl⟩
  | cons a r ih =>
    intro i iz hz hd hi
    subst hz
    obtain ⟨hlt, hli, hd'⟩ := drop_cons hd
    have hi1 : ((i : Int) + 1) = ((i + 1 : Nat) : Int) := by omega
    have hw : wrapF .i64 ((i : Int) + 1) = (i : Int) + 1 := wrap_id _ (by omega) (by omega)
    rw [x_iter]
    simp [u14_0, hlt, encT, hli, beqB_self, hw]
    exact ih (i + 1) _ hi1 hd' hlt
theorem pSameW (w : Wd) (hl : w.L.length < 100000) (hw : w.wait.length < 100000) : pureI Try.prog prims dx tbl 14 [.agg (encW w), .agg (encW w)] = some (.bool true) := by
  rw [pureI_of (rfl : tbl 14 = some c14)]
  obtain ⟨T', k, h⟩ := loopSW w hw w.wait 0 0 rfl rfl (Nat.zero_le _)
  have hs := pSameSG w.L hl
  simp [c14, encW, h, k, rSameSG, callR, hs]
theorem rSameW (ds : List D) (st : Dv.St) : callI Try.prog prims dx tbl 14 ds st = callR Try.prog prims dx tbl 14 ds st (frL (fr st 6) ds) := callRw rfl rfl (rfl : tbl 14 = some c14) rfl ds st

/-! ### WindAll -/
theorem qBegun20 (st : Dv.St) : callI Try.prog prims dx tbl 7 [] st = some (.fz (.bool true), st, []) := callI_iff.2 ⟨60, by kernel_rfl⟩
theorem loopWA (l : List Int) (hl : l.length ≤ 60) (hb : ∀ z ∈ l, 0 ≤ z ∧ z < 256) (wild : Int) : ∀ (r : List Int) (i : Nat) (iz : Int) (w : Wd) (all : List (List UInt8)) (B N : Nat) (L : List Nat) (c : Nat), iz = i → l.drop i = r → i ≤ l.length → Good w all B N → all.length ≤ i →
    PostSG (iterI (dCw Try.prog (callI Try.prog prims dx tbl) l4_0) [0, 1, 5, 6, 7] [(0, .fz (.list (l.map fun z => [.int .u8 z]))), (1, .fz (.int .i64 wild)), (5, .ptr 0 0), (6, .ptr 1 0), (7, .fz (.int .i64 iz))] ⟨[(true, [.fz (.int .i64 w.base), .fz (.int .i64 w.next), .fz (.list (w.L.map encG)), .fz (.list (w.wait.map encT))]), (true, [.fz (.int .i64 w.base), .fz (.int .i64 w.next), .fz (.list (w.L.map encG)), .fz (.list (w.wait.map encT))])], L, c⟩) := by
  intro r
  induction r with
  | nil =>
    intro i iz w all B N L c hz hd hi g hal
    have hi' := drop_nil hd hi
    subst hi' hz
    rw [x_iter]
    simp [u4_0]
    exact ⟨_, _, rfl⟩
  | cons a r ih =>
    intro i iz w all B N L c hz hd hi g hal
    subst hz
    obtain ⟨hlt, hli, hd'⟩ := drop_cons hd
    have hi1 : (i : Int) + 1 = ((i + 1 : Nat) : Int) := by omega
    have hok := g.ok (n := 200) (by omega) (by omega)
    have same : ∀ (v : Wd) (all' : List (List UInt8)) (B' N' : Nat), Good v all' B' N' → all'.length ≤ i + 1 → pureI Try.prog prims dx tbl 14 [.agg (encW v), .agg (encW v)] = some (.bool true) := fun v all' B' N' g' h' => by
      have hk := g'.ok (n := 200) (by omega) (by omega)
      have := hk.len
      have := hk.wait
      exact pSameW v (by omega) (by omega)
    have w3 : wrapF .i64 ((i : Int) + 1) = (i : Int) + 1 := wrap_id _ (by omega) (by omega)
    by_cases h3 : 0 < a.tmod 3
    · obtain ⟨s, hs⟩ : ∃ s, bytesF [[.int .u8 (wrapF .u8 (97 + a.tmod 26))]] = some s := ⟨_, rfl⟩
      have hp := pSend w 200 (by omega) hok s
      have hq := pRSend w 200 (by omega) hok s
      obtain ⟨N', g'⟩ := g.send s
      have hal' : (all ++ [s]).length ≤ i + 1 := by simp; omega
      have hsm := same _ _ _ _ g' hal'
      have hn := fun L c => ih (i + 1) _ (sendW w s) (all ++ [s]) B N' L c rfl hd' hlt g' hal'
      simp only [← hi1] at hn
      generalize hv : sendW w s = v at hp hq hsm hn
      simp only [encW] at hp hq hsm
      rw [x_iter]
      simp [u4_0, hlt, hli, h3, hs, rSend, rRSend, callR, hp, hq, rSameW, hsm, w3]
      exact hn _ _
    · have told : ∀ up, ∃ (B' N' : Nat), Good (toldW w up) all B' N' := fun up => g.told up
      by_cases h9 : (i : Int).tmod 9 = 8
      · have hp := pTold w 200 (by omega) hok wild
        have hq := pRTold w 200 (by omega) hok wild
        obtain ⟨B', N', g'⟩ := told wild
        have hal' : all.length ≤ i + 1 := by omega
        have hsm := same _ _ _ _ g' hal'
        have hn := fun L c => ih (i + 1) _ (toldW w wild) all B' N' L c rfl hd' hlt g' hal'
        simp only [← hi1] at hn
        generalize hv : toldW w wild = v at hp hq hsm hn
        simp only [encW] at hp hq hsm
        rw [x_iter]
        simp [u4_0, hlt, hli, h3, h9, rTold, rRTold, callR, hp, hq, rSameW, hsm, w3]
        exact hn _ _
      · obtain ⟨up, hup⟩ : ∃ up, up = wrapF .i64 (wrapF .i64 (w.base - 1) + wrapF .i64 ((wrapF .u8 (a.tdiv 3)).tmod 7)) := ⟨_, rfl⟩
        have hp := pTold w 200 (by omega) hok up
        have hq := pRTold w 200 (by omega) hok up
        obtain ⟨B', N', g'⟩ := told up
        have hal' : all.length ≤ i + 1 := by omega
        have hsm := same _ _ _ _ g' hal'
        have hn := fun L c => ih (i + 1) _ (toldW w up) all B' N' L c rfl hd' hlt g' hal'
        simp only [← hi1] at hn
        generalize hv : toldW w up = v at hp hq hsm hn
        simp only [encW] at hp hq hsm
        rw [x_iter]
        simp [u4_0, hlt, hli, h3, h9, ← hup, rTold, rRTold, callR, hp, hq, rSameW, hsm, w3]
        exact hn _ _
theorem pWindAll (l : List Int) (h1 : l.length ≤ maxLen) (hb : ∀ z ∈ l, 0 ≤ z ∧ z < 256) (wild : Int) (hw : (Lit.int .i64 wild).wf = true) : pureI Try.prog prims dx tbl 4 [.list (l.map fun z => [.int .u8 z]), .int .i64 wild] = some (.bool true) := by
  rw [pureI_of (rfl : tbl 4 = some c4)]
  by_cases g1 : 60 < l.length
  · simp [c4, qBegun20, show (60 : Int) < l.length by omega]
  · have hp := pNewW
    have hq := pRNewW
    simp only [encW] at hp hq
    have g : Good ⟨1, 1, [], []⟩ [] 0 0 := ⟨rfl, rfl, Nat.le_refl _, by omega, by simp, rfl, rfl, fun h => by simp at h⟩
    obtain ⟨T', st', hT⟩ := loopWA l (by omega) hb wild l 0 0 ⟨1, 1, [], []⟩ [] 0 0 [] 0 rfl rfl (Nat.zero_le _) g (by simp)
    simp at hp hq hT
    simp [c4, qBegun20, show ¬ (60 : Int) < l.length by omega, rNewW, rRNewW, callR, hp, hq, hT]
end Go.Proofs.Ytakajpdnbgaahaa.Pl
