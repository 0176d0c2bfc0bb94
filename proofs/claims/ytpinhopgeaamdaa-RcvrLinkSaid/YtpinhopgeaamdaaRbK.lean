/-
  What is proved here: what comes of pieces that come, as the document says.
  Conditions: none.
-/
import Derived.Test.YtpinhopgeaamdaaRaK
import Derived.Test.YtpinhopgeaamdaaPg
set_option linter.unusedVariables false
set_option linter.unusedSimpArgs false
set_option maxRecDepth 100000
set_option maxHeartbeats 8000000
namespace Go.Proofs.Ytpinhopgeaamdaa.Pl
open Go Go.Proofs Go.Proofs.Ev Go.Proofs.Dv Cd
attribute [local simp] x_pure x_skip x_reg x_drw x_seq x_cond x_block x_loop' Tm.keep_nil x_exit x_ret k_seq k_seq_ret k_seq_exit k_seq_none k_seq_ite k_cond k_block k_block_ret k_block_exit k_block_none k_block_ite k_iter k_iter_ret k_iter_exit k_iter_none k_iter_ite k_reg k_reg_none k_reg_ite x_is_nil x_is x_is_g k_ins k_ins_none k_ins_ite k_grd x_ord_nil x_ord x_ord_g k_ord k_ord_none k_ord_ite k_ogrd k_out_ret k_out k_out_none k_out_ite k_pure k_pure_none k_pure_ite startD dI dA deo Tm.at Tm.dst Tm.set Tm.put Tm.keep dW dRes oneOfD mkTup mkAgg mkFn allF frL fr vD vD1 vF vFL dBin dEq dNil isNilD dScal F.cv eBin sameKind eInt eStr cellsD oneD F.one dFill putAtD chunk dbnd dSrc St.own St.drop St.still St.fresh chkQ stillQ freshQ lOf rdOf rdOK undefD F.full F.fullL List.mapIdx_cons strip allOne_nil allOne_cons allOne_append allLen_nil allLen_cons allLen_append roomOK_small filterT y_mv y_pick y_new y_box y_build y_bslice y_ld1 y_ldn y_nilchk y_bin y_not y_conv y_bytes y_string y_ifc y_fn y_cut y_cuts y_fa y_fld y_ia y_idx y_idxs y_ext y_len y_lenstr y_app y_grow y_mks y_slow y_call y_callv y_inv y_extc x_it_st x_it_clr x_it_cpy k_addT k_addT_none k_addT_ite k_orU k_orU_none dU D.turn turnL Tm.turn turnS St.turn turnRows_length

theorem qBegun21 (st : Dv.St) : callI Try.prog prims dx tbl 32 [] st = some (.fz (.bool true), st, []) := callI_iff.2 ⟨60, by kernel_rfl⟩
theorem beqB_self (s : List UInt8) : beqB s s = true := by rw [beqB_eq]; simp
theorem eSG : eqOSeg (operAt Try.prog 62 20) = some (false, 20, 24) := by kernel_rfl
def PostSG (r : Option DSt) : Prop := ∃ T' st', r = some (.exit 0, T', st')
theorem loopSG (l : List Sg) (hl : l.length < 100000) : ∀ (r : List Sg) (i : Nat) (iz : Int), iz = i → l.drop i = r → i ≤ l.length →
    PostSG (iterI (dCw Try.prog (callI Try.prog prims dx tbl) l62_0) [0, 1, 5] [(0, .fz (.list (l.map encG))), (1, .fz (.list (l.map encG))), (5, .fz (.int .i64 iz))] ⟨[], [], 0⟩) := by
  intro r
  induction r with
  | nil =>
    intro i iz hz hd hi
    have hi' := drop_nil hd hi
    subst hi' hz
    rw [x_iter]
    simp [u62_0]
    exact ⟨_, _, rfl⟩
  | cons a r ih =>
    intro i iz hz hd hi
    subst hz
    obtain ⟨hlt, hli, hd'⟩ := drop_cons hd
    have hi1 : ((i : Int) + 1) = ((i + 1 : Nat) : Int) := by omega
    have hw : wrapF .i64 ((i : Int) + 1) = (i : Int) + 1 := wrap_id _ (by omega) (by omega)
    rw [x_iter]
    simp [u62_0, hlt, encG_len, encG_take, hli, slow_eqSeg eSG, eqDSeg, hw]
    exact ih (i + 1) _ hi1 hd' hlt
theorem pSameSG (l : List Sg) (hl : l.length < 100000) : pureI Try.prog prims dx tbl 62 [.list (l.map encG), .list (l.map encG)] = some (.bool true) := by
  rw [pureI_of (rfl : tbl 62 = some c62)]
  obtain ⟨T', st', h⟩ := loopSG l hl l 0 0 rfl rfl (Nat.zero_le _)
  simp [c62, h]
theorem rSameSG (ds : List D) (st : Dv.St) : callI Try.prog prims dx tbl 62 ds st = callR Try.prog prims dx tbl 62 ds st (frL (fr st 6) ds) := callRw rfl rfl (rfl : tbl 62 = some c62) rfl ds st

theorem pSameRv (r : Rv) (h1 : r.k.more.length < 10000) (h2 : r.l.length < 10000) : pureI Try.prog prims dx tbl 35 [.agg (encR r), .agg (encR r)] = some (.bool true) := by
  rw [pureI_of (rfl : tbl 35 = some c35)]
  have hs := pSameSG r.l (by omega)
  have hk := pSameK r.k r.k (by omega) (by omega)
  simp [encK] at hk
  simp [c35, encR, rSameK, rSameSG, callR, hk, hs]
theorem rSameRv (ds : List D) (st : Dv.St) : callI Try.prog prims dx tbl 35 ds st = callR Try.prog prims dx tbl 35 ds st (frL (fr st 6) ds) := callRw rfl rfl (rfl : tbl 35 = some c35) rfl ds st
theorem mapI {α : Type} (S : List α) : List.mapIdx (fun _ p => p) S = S := by
  apply List.ext_getElem?
  intro i
  simp
theorem mapI2 {α : Type} (S : List α) : List.mapIdx (fun _ => (fun p : α => p) ∘ fun p => p) S = S := mapI S
theorem g1a {α : Type} (S : List α) (a : α) : (S ++ [a])[S.length]? = some a := by simp
theorem g2a {α : Type} (S : List α) (a b : α) : (S ++ [a, b])[S.length]? = some a := by
  rw [List.getElem?_append_right (Nat.le_refl _)]; simp
theorem g2b {α : Type} (S : List α) (a b : α) : (S ++ [a, b])[S.length + 1]? = some b := by
  rw [List.getElem?_append_right (by omega)]; simp
theorem g3a {α : Type} (S : List α) (a b c : α) : (S ++ [a, b, c])[S.length]? = some a := by
  rw [List.getElem?_append_right (Nat.le_refl _)]; simp
theorem g3b {α : Type} (S : List α) (a b c : α) : (S ++ [a, b, c])[S.length + 1]? = some b := by
  rw [List.getElem?_append_right (by omega)]; simp
theorem g3c {α : Type} (S : List α) (a b c : α) : (S ++ [a, b, c])[S.length + 1 + 1]? = some c := by
  rw [List.getElem?_append_right (by omega)]
  rw [show S.length + 1 + 1 - S.length = 2 by omega]
  rfl
theorem g3c' {α : Type} (S : List α) (a b c : α) : (S ++ [a, b, c])[S.length + 2]? = some c := g3c S a b c
theorem s1a {α : Type} (S : List α) (a x : α) : (S ++ [a]).set S.length x = S ++ [x] := by
  rw [List.set_append_right _ _ (Nat.le_refl _)]; simp
theorem s2b {α : Type} (S : List α) (a b x : α) : (S ++ [a, b]).set (S.length + 1) x = S ++ [a, x] := by
  rw [List.set_append_right _ _ (by omega)]; simp
theorem s3c {α : Type} (S : List α) (a b c x : α) : (S ++ [a, b, c]).set (S.length + 1 + 1) x = S ++ [a, b, x] := by
  rw [List.set_append_right _ _ (by omega)]
  rw [show S.length + 1 + 1 - S.length = 2 by omega]
  rfl
theorem s3c' {α : Type} (S : List α) (a b c x : α) : (S ++ [a, b, c]).set (S.length + 2) x = S ++ [a, b, x] := s3c S a b c x
def PostRa (d0 d7 : D) (j9 j11 : Nat) (st : Dv.St) (r : Option DSt) : Prop := ∃ T', T'.keep [0, 3, 5, 6, 7, 9, 11] = [(0, d0), (3, .ptr 0 0), (5, .ptr 1 0), (6, .ptr 2 0), (7, d7), (9, .ptr j9 0), (11, .ptr j11 0)] ∧ r = some (.exit 2, T', st)
theorem loopRa (d0 d7 : D) (j9 j11 : Nat) (X : List (List UInt8)) (hX : X.length < 10000) (st : Dv.St) : ∀ (r : List (List UInt8)) (i : Nat) (iz : Int), iz = i → X.drop i = r → i ≤ X.length →
    PostRa d0 d7 j9 j11 st (iterI (dCw Try.prog (callI Try.prog prims dx tbl) l11_0) [0, 3, 5, 6, 7, 9, 10, 11, 12, 13] [(0, d0), (3, .ptr 0 0), (5, .ptr 1 0), (6, .ptr 2 0), (7, d7), (9, .ptr j9 0), (10, .fz (.list (X.map encT))), (11, .ptr j11 0), (12, .fz (.list (X.map encT))), (13, .fz (.int .i64 iz))] st) := by
  intro r
  induction r with
  | nil =>
    intro i iz hz hd hi
    have hi' := drop_nil hd hi
    subst hi' hz
    rw [x_iter]
    simp [u11_0]
    exact ⟨_, by simp [Tm.keep], rfl⟩
  | cons a r ih =>
    intro i iz hz hd hi
    subst hz
    obtain ⟨hlt, hli, hd'⟩ := drop_cons hd
    have hi1 : ((i : Int) + 1) = ((i + 1 : Nat) : Int) := by omega
    have hw : wrapF .i64 ((i : Int) + 1) = (i : Int) + 1 := wrap_id _ (by omega) (by omega)
    rw [x_iter]
    simp [u11_0, hlt, encT, hli, beqB_self, hw]
    exact ih (i + 1) _ hi1 hd' hlt
def StR (r : Rv) (dm dl : D) : Prop := (dm = .nils ∧ dl = .nils ∧ r = ⟨⟨0, []⟩, []⟩) ∨ (dm = .fz (.list (r.k.more.map encI)) ∧ dl = .fz (.list (r.l.map encG)))
theorem told_len (r : Rv) (n : Nat) (h : ROk r n) (s : Sg) : (comesR r s).2.length ≤ 10 := by
  unfold comesR
  split
  · simp
  · have hl := h.len
    have hi := insG_len r.l s
    have : ∀ (l : List Sg) (up : Int), (runU up l).1.length ≤ l.length := by
      intro l up
      induction l with
      | nil => simp [runU]
      | cons x r ih =>
        simp only [runU]
        split
        · simp; omega
        · simp
    have := this (insG r.l s) (addK r.k s.num).up
    simp only
    omega
theorem loopRL (l : List Int) (hl : l.length ≤ 60) (wn : Int) (wb : List UInt8) : ∀ (q : List Int) (i : Nat) (iz : Int) (r : Rv) (dm dl : D) (rest : List (Bool × List D)) (L : List Nat) (c : Nat), iz = i → l.drop i = q → i ≤ l.length → ROk r (4 * i) → StR r dm dl →
    PostSG (iterI (dCw Try.prog (callI Try.prog prims dx tbl) l11_1) [0, 3, 5, 6, 7] [(0, .fz (.list (l.map fun z => [.int .u8 z]))), (3, .ptr 0 0), (5, .ptr 1 0), (6, .ptr 2 0), (7, .fz (.int .i64 iz))] ⟨(true, [.fz (.int .i64 wn), .fz (.str wb)]) :: (true, [.fz (.int .i64 r.k.up), dm, dl]) :: (true, [.fz (.int .i64 r.k.up), dm, dl]) :: rest, L, c⟩) := by
  intro q
  induction q with
  | nil =>
    intro i iz r dm dl rest L c hz hd hi hr hs
    have hi' := drop_nil hd hi
    subst hi' hz
    rw [x_iter]
    simp [u11_1]
    exact ⟨_, _, rfl⟩
  | cons a q ih =>
    intro i iz r dm dl rest L c hz hd hi hr hs
    subst hz
    obtain ⟨hlt, hli, hd'⟩ := drop_cons hd
    have hi1 : ((i : Int) + 1) = ((i + 1 : Nat) : Int) := by omega
    obtain ⟨s, hsb⟩ : ∃ s, bytesF [[.int .u8 (wrapF .u8 (97 + a.tmod 26))]] = some s := ⟨_, rfl⟩
    obtain ⟨nm, hnm⟩ : ∃ nm, nm = wrapF .i64 (wrapF .i64 (r.k.up - 1) + wrapF .i64 (a.tmod 8)) := ⟨_, rfl⟩
    have hw : wrapF .i64 ((i : Int) + 1) = (i : Int) + 1 := wrap_id _ (by omega) (by omega)
    -- whichever piece comes
    have go : ∀ g : Sg, (g = if (i : Int).tmod 9 = 8 then ⟨wn, wb⟩ else ⟨nm, s⟩) → PostSG (iterI (dCw Try.prog (callI Try.prog prims dx tbl) l11_1) [0, 3, 5, 6, 7] [(0, .fz (.list (l.map fun z => [.int .u8 z]))), (3, .ptr 0 0), (5, .ptr 1 0), (6, .ptr 2 0), (7, .fz (.int .i64 (i : Int)))] ⟨(true, [.fz (.int .i64 wn), .fz (.str wb)]) :: (true, [.fz (.int .i64 r.k.up), dm, dl]) :: (true, [.fz (.int .i64 r.k.up), dm, dl]) :: rest, L, c⟩) := by
      intro g hg
      have hp := pComes r (hr.rv (by omega)) g
      have hq := pRComes r (4 * i) (by omega) hr g
      have hr' := hr.comes (by omega) g
      have htl := told_len r (4 * i) hr g
      have hlen := hr'.len
      have hsm := pSameRv (comesR r g).1 (by omega) (by omega)
      rw [show 4 * i + 4 = 4 * (i + 1) by omega] at hr'
      have goal := fun rest L c => ih (i + 1) _ (comesR r g).1 _ _ rest L c rfl hd' hlt hr' (.inr ⟨rfl, rfl⟩)
      simp only [← hi1] at goal
      generalize (comesR r g).1 = r' at hp hq hsm goal
      generalize (comesR r g).2 = X at hp hq htl
      have inner := fun j9 j11 st => loopRa (.fz (.list (l.map fun z => [.int .u8 z]))) (.fz (.int .i64 (i : Int))) j9 j11 X (by omega) st X 0 0 rfl rfl (Nat.zero_le _)
      simp only [encR, encG] at hp hq hsm
      by_cases h9 : (i : Int).tmod 9 = 8
      · rw [if_pos h9] at hg
        subst hg
        rw [x_iter]
        rcases hs with ⟨rfl, rfl, rfl⟩ | ⟨rfl, rfl⟩
        · simp at hp hq hnm
          obtain ⟨T1, j1, j2⟩ := inner (rest.length + 1 + 1 + 1 + 1) (rest.length + 2 + 1 + 1 + 1) ⟨(true, [.fz (.int .i64 wn), .fz (.str wb)]) :: (true, [.fz (.int .i64 0), .nils, .nils]) :: (true, [.fz (.int .i64 0), .nils, .nils]) :: (rest ++ [(true, [.fz (.int .i64 wn), .fz (.str wb)]), (true, [.fz (.int .i64 r'.k.up), .fz (.list (r'.k.more.map encI)), .fz (.list (r'.l.map encG))]), (true, [.fz (.int .i64 r'.k.up), .fz (.list (r'.k.more.map encI)), .fz (.list (r'.l.map encG))])]), c :: L, c + 1⟩
          simp [u11_1, hlt, hli, hsb, ← hnm, h9, rComes, rRComes, rSameRv, callR, hp, hq, hsm, mapI, mapI2, g1a, g2a, g2b, g3a, g3b, g3c, g3c', s1a, s2b, s3c, s3c', j1, j2, hw]
          exact goal _ _ _
        · simp at hp hq
          obtain ⟨T1, j1, j2⟩ := inner (rest.length + 1 + 1 + 1 + 1) (rest.length + 2 + 1 + 1 + 1) ⟨(true, [.fz (.int .i64 wn), .fz (.str wb)]) :: (true, [.fz (.int .i64 r.k.up), .fz (.list (r.k.more.map encI)), .fz (.list (r.l.map encG))]) :: (true, [.fz (.int .i64 r.k.up), .fz (.list (r.k.more.map encI)), .fz (.list (r.l.map encG))]) :: (rest ++ [(true, [.fz (.int .i64 wn), .fz (.str wb)]), (true, [.fz (.int .i64 r'.k.up), .fz (.list (r'.k.more.map encI)), .fz (.list (r'.l.map encG))]), (true, [.fz (.int .i64 r'.k.up), .fz (.list (r'.k.more.map encI)), .fz (.list (r'.l.map encG))])]), c :: L, c + 1⟩
          simp [u11_1, hlt, hli, hsb, ← hnm, h9, rComes, rRComes, rSameRv, callR, hp, hq, hsm, mapI, mapI2, g1a, g2a, g2b, g3a, g3b, g3c, g3c', s1a, s2b, s3c, s3c', j1, j2, hw]
          exact goal _ _ _
      · rw [if_neg h9] at hg
        subst hg
        rw [x_iter]
        rcases hs with ⟨rfl, rfl, rfl⟩ | ⟨rfl, rfl⟩
        · simp at hp hq hnm
          obtain ⟨T1, j1, j2⟩ := inner (rest.length + 1 + 1 + 1 + 1) (rest.length + 2 + 1 + 1 + 1) ⟨(true, [.fz (.int .i64 wn), .fz (.str wb)]) :: (true, [.fz (.int .i64 0), .nils, .nils]) :: (true, [.fz (.int .i64 0), .nils, .nils]) :: (rest ++ [(true, [.fz (.int .i64 nm), .fz (.str s)]), (true, [.fz (.int .i64 r'.k.up), .fz (.list (r'.k.more.map encI)), .fz (.list (r'.l.map encG))]), (true, [.fz (.int .i64 r'.k.up), .fz (.list (r'.k.more.map encI)), .fz (.list (r'.l.map encG))])]), c :: L, c + 1⟩
          simp [u11_1, hlt, hli, hsb, ← hnm, h9, rComes, rRComes, rSameRv, callR, hp, hq, hsm, mapI, mapI2, g1a, g2a, g2b, g3a, g3b, g3c, g3c', s1a, s2b, s3c, s3c', j1, j2, hw]
          exact goal _ _ _
        · simp at hp hq
          obtain ⟨T1, j1, j2⟩ := inner (rest.length + 1 + 1 + 1 + 1) (rest.length + 2 + 1 + 1 + 1) ⟨(true, [.fz (.int .i64 wn), .fz (.str wb)]) :: (true, [.fz (.int .i64 r.k.up), .fz (.list (r.k.more.map encI)), .fz (.list (r.l.map encG))]) :: (true, [.fz (.int .i64 r.k.up), .fz (.list (r.k.more.map encI)), .fz (.list (r.l.map encG))]) :: (rest ++ [(true, [.fz (.int .i64 nm), .fz (.str s)]), (true, [.fz (.int .i64 r'.k.up), .fz (.list (r'.k.more.map encI)), .fz (.list (r'.l.map encG))]), (true, [.fz (.int .i64 r'.k.up), .fz (.list (r'.k.more.map encI)), .fz (.list (r'.l.map encG))])]), c :: L, c + 1⟩
          simp [u11_1, hlt, hli, hsb, ← hnm, h9, rComes, rRComes, rSameRv, callR, hp, hq, hsm, mapI, mapI2, g1a, g2a, g2b, g3a, g3b, g3c, g3c', s1a, s2b, s3c, s3c', j1, j2, hw]
          exact goal _ _ _
    exact go _ rfl
theorem pRcvrAll (l : List Int) (h1 : l.length ≤ maxLen) (hb : ∀ z ∈ l, 0 ≤ z ∧ z < 256) (wn : Int) (wb : List UInt8) : pureI Try.prog prims dx tbl 11 [.list (l.map fun z => [.int .u8 z]), .agg [.int .i64 wn, .str wb]] = some (.bool true) := by
  rw [pureI_of (rfl : tbl 11 = some c11)]
  by_cases g1 : 60 < l.length
  · simp [c11, qBegun21, show (60 : Int) < l.length by omega]
  · by_cases g2 : 20 < wb.length
    · simp [c11, qBegun21, show ¬ (60 : Int) < l.length by omega, show (20 : Int) < wb.length by omega]
    · have hr : ROk ⟨⟨0, []⟩, []⟩ (4 * 0) := ⟨⟨Int.le_refl _, List.Pairwise.nil, by simp⟩, by simp, by simp, rfl⟩
      obtain ⟨T', st', hT⟩ := loopRL l (by omega) wn wb l 0 0 ⟨⟨0, []⟩, []⟩ .nils .nils [] [] 0 rfl rfl (Nat.zero_le _) hr (.inl ⟨rfl, rfl, rfl⟩)
      try simp at hT
      simp [c11, qBegun21, show ¬ (60 : Int) < l.length by omega, show ¬ (20 : Int) < wb.length by omega, hT]
end Go.Proofs.Ytpinhopgeaamdaa.Pl
