/-
  What is proved here: over a way on which pieces are lost, come twice, late, each comes once, in order, and, if each is sent again till it is told, all come.
  Conditions: none.
-/
import Derived.Test.YtpinhopgeaamdaaLrK
set_option linter.unusedVariables false
set_option linter.unusedSimpArgs false
set_option maxRecDepth 100000
set_option maxHeartbeats 8000000
namespace Go.Proofs.Ytpinhopgeaamdaa.Pl
open Go Go.Proofs Go.Proofs.Ev Go.Proofs.Dv Cd
attribute [local simp] x_pure x_skip x_reg x_drw x_seq x_cond x_block x_loop' Tm.keep_nil x_exit x_ret k_seq k_seq_ret k_seq_exit k_seq_none k_seq_ite k_cond k_block k_block_ret k_block_exit k_block_none k_block_ite k_iter k_iter_ret k_iter_exit k_iter_none k_iter_ite k_reg k_reg_none k_reg_ite x_is_nil x_is x_is_g k_ins k_ins_none k_ins_ite k_grd x_ord_nil x_ord x_ord_g k_ord k_ord_none k_ord_ite k_ogrd k_out_ret k_out k_out_none k_out_ite k_pure k_pure_none k_pure_ite startD dI dA deo Tm.at Tm.dst Tm.set Tm.put Tm.keep dW dRes oneOfD mkTup mkAgg mkFn allF frL fr vD vD1 vF vFL dBin dEq dNil isNilD dScal F.cv eBin sameKind eInt eStr cellsD oneD F.one dFill putAtD chunk dbnd dSrc St.own St.drop St.still St.fresh chkQ stillQ freshQ lOf rdOf rdOK undefD F.full F.fullL List.mapIdx_cons strip allOne_nil allOne_cons allOne_append allLen_nil allLen_cons allLen_append roomOK_small filterT y_mv y_pick y_new y_box y_build y_bslice y_ld1 y_ldn y_nilchk y_bin y_not y_conv y_bytes y_string y_ifc y_fn y_cut y_cuts y_fa y_fld y_ia y_idx y_idxs y_ext y_len y_lenstr y_app y_grow y_mks y_slow y_call y_callv y_inv y_extc x_it_st x_it_clr x_it_cpy k_addT k_addT_none k_addT_ite k_orU k_orU_none dU D.turn turnL Tm.turn turnS St.turn turnRows_length

/-! ### All of it is sent again -/
def PostK4 (k : Nat) (w : Wd) (B N : Nat) (d17 : D) (n : Nat) (r0 : Option DSt) : Prop := ∃ (r : Rv) (g : List UInt8) (dm dl : D) (rest : List (Bool × List D)) (L : List Nat) (c : Nat) (T' : Tm), Lnk (lets k) B N r n g ∧ (∀ y : Int, (B : Int) < y → y ≤ N → hasK r.k y = true) ∧ StR r dm dl ∧ T'.keep [5, 6, 8, 9, 17] = [(5, .fz (.int .i64 k)), (6, .ptr 0 0), (8, .ptr 1 0), (9, .fz (.str g)), (17, d17)] ∧
  r0 = some (.exit 9, T', ⟨(true, [.fz (.int .i64 w.base), .fz (.int .i64 w.next), .fz (.list (w.L.map encG)), .fz (.list (w.wait.map encT))]) :: (true, [.fz (.int .i64 r.k.up), dm, dl]) :: rest, L, c⟩)
theorem loopK4 (k : Nat) (hk : k ≤ 100) (w : Wd) (B N : Nat) (gw : Good w (lets k) B N) (d17 : D) (n0 : Nat) (hn0 : n0 ≤ 20000) : ∀ (m j : Nat) (jz : Int) (r : Rv) (g : List UInt8) (dm dl : D) (rest : List (Bool × List D)) (L : List Nat) (c : Nat), j + m = N - B → jz = j → Lnk (lets k) B N r (n0 + 4 * j) g → (∀ y : Int, (B : Int) < y → y ≤ (B : Int) + j → hasK r.k y = true) → StR r dm dl →
    PostK4 k w B N d17 (n0 + 16) (iterI (dCw Try.prog (callI Try.prog prims dx tbl) l13_4) [5, 6, 8, 9, 17, 18] [(5, .fz (.int .i64 k)), (6, .ptr 0 0), (8, .ptr 1 0), (9, .fz (.str g)), (17, d17), (18, .fz (.int .i64 jz))] ⟨(true, [.fz (.int .i64 w.base), .fz (.int .i64 w.next), .fz (.list (w.L.map encG)), .fz (.list (w.wait.map encT))]) :: (true, [.fz (.int .i64 r.k.up), dm, dl]) :: rest, L, c⟩) := by
  have hbn := gw.bn
  have hn4 := gw.n4
  have hna := gw.na
  have hall : (lets k).length = k := lets_len k
  have hlen : w.L.length = N - B := by rw [gw.L, mkL_len]
  intro m
  induction m with
  | zero =>
    intro j jz r g dm dl rest L c hm hz hr hh hs
    subst hz
    have hj : j = w.L.length := by omega
    rw [x_iter]
    simp [u13_4, hj]
    exact ⟨r, g, dm, dl, rest, L, c, _, hr.mono (by omega), fun y h1 h2 => hh y h1 (by omega), hs, by simp [Tm.keep], rfl⟩
  | succ m ih =>
    intro j jz r g dm dl rest L c hm hz hr hh hs
    subst hz
    have hj : j < w.L.length := by omega
    have hj1 : ((j : Int) + 1) = ((j + 1 : Nat) : Int) := by omega
    have hget : w.L[j] = ⟨((B + j : Nat) : Int) + 1, (lets k).getD (B + j) []⟩ := by
      have h1 : w.L[j]? = some ⟨((B + j : Nat) : Int) + 1, (lets k).getD (B + j) []⟩ := by rw [gw.L]; exact mkL_get _ B (N - B) j (by omega)
      rw [List.getElem?_eq_getElem hj] at h1
      exact Option.some.inj h1
    obtain ⟨x, hx⟩ : ∃ x, w.L[j] = x := ⟨_, rfl⟩
    rw [hx] at hget
    have hxs : Sent (lets k) N x := ⟨B + j, by omega, hget⟩
    have hxn : x.num = (B : Int) + j + 1 := by rw [hget]; simp
    have hlo := hr.lo
    have hp := pComes r (hr.ok.rv (by omega)) x
    have htl := told_len r _ hr.ok x
    have hr' := hr.comes (by omega) (by omega) hxs
    have hh' : ∀ y : Int, (B : Int) < y → y ≤ (B : Int) + ((j + 1 : Nat) : Int) → hasK (comesR r x).1.k y = true := fun y h1 h2 => by
      refine comes_has hr.ok (by omega) (by omega) (by omega) y ?_
      by_cases he : y ≤ (B : Int) + j
      · exact .inl (hh y h1 he)
      · exact .inr (by omega)
    have hgl : (g ++ (comesR r x).2.flatten).length ≤ k := by rw [hr'.got]; exact take_flat k _
    rw [List.length_append] at hgl
    rw [show n0 + 4 * j + 4 = n0 + 4 * (j + 1) by omega] at hr'
    have goal := fun rest L c => ih (j + 1) _ (comesR r x).1 (g ++ (comesR r x).2.flatten) _ _ rest L c (by omega) hj1 hr' hh' (.inr ⟨rfl, rfl⟩)
    generalize (comesR r x).1 = r' at hp goal
    generalize (comesR r x).2 = X at hp goal htl hgl
    have inner := fun st => loopK3 (.fz (.int .i64 k)) d17 (.fz (.int .i64 (j : Int))) X (by omega) st X 0 0 g rfl rfl (Nat.zero_le _) (by omega)
    simp only [encR, encG] at hp
    have hw : wrapF .i64 ((j : Int) + 1) = (j : Int) + 1 := wrap_id _ (by omega) (by omega)
    rw [x_iter]
    obtain ⟨T1, j1, j2⟩ := inner ⟨(true, [.fz (.int .i64 w.base), .fz (.int .i64 w.next), .fz (.list (w.L.map encG)), .fz (.list (w.wait.map encT))]) :: (true, [.fz (.int .i64 r'.k.up), .fz (.list (r'.k.more.map encI)), .fz (.list (r'.l.map encG))]) :: (rest ++ [(true, [.fz (.int .i64 r'.k.up), .fz (.list (r'.k.more.map encI)), .fz (.list (r'.l.map encG))])]), L, c⟩
    rcases hs with ⟨rfl, rfl, rfl⟩ | ⟨rfl, rfl⟩
    · simp at hp
      simp [u13_4, hj, hx, encG, rComes, callR, hp, mapI, mapI2, g1a, s1a, j1, j2, hw]
      exact goal _ _ _
    · simp [u13_4, hj, hx, encG, rComes, callR, hp, mapI, mapI2, g1a, s1a, j1, j2, hw]
      exact goal _ _ _
def PostK5 (k : Nat) (r0 : Option DSt) : Prop := ∃ (w : Wd) (r : Rv) (dm dl : D) (rest : List (Bool × List D)) (L : List Nat) (c : Nat) (T' : Tm), w.L = [] ∧ w.wait = [] ∧ r.k.up = k ∧ r.l = [] ∧ StR r dm dl ∧ T'.keep [5, 6, 8, 9] = [(5, .fz (.int .i64 k)), (6, .ptr 0 0), (8, .ptr 1 0), (9, .fz (.str (lets k).flatten))] ∧
  r0 = some (.exit 7, T', ⟨(true, [.fz (.int .i64 w.base), .fz (.int .i64 w.next), .fz (.list (w.L.map encG)), .fz (.list (w.wait.map encT))]) :: (true, [.fz (.int .i64 r.k.up), dm, dl]) :: rest, L, c⟩)
theorem loopK5 (k : Nat) (hk : k ≤ 100) : ∀ (m t : Nat) (tz : Int) (w : Wd) (B N : Nat) (r : Rv) (n : Nat) (g : List UInt8) (dm dl : D) (rest : List (Bool × List D)) (L : List Nat) (c : Nat), t + m = 2 * k + 2 → tz = t → Good w (lets k) B N → Lnk (lets k) B N r n g → n ≤ 1000 + 16 * t → (t = 0 ∨ (r.k.up = B ∧ r.l = [] ∧ (t ≤ B + 1 ∨ B = k))) → StR r dm dl →
    PostK5 k (iterI (dCw Try.prog (callI Try.prog prims dx tbl) l13_5) [5, 6, 8, 9, 17] [(5, .fz (.int .i64 k)), (6, .ptr 0 0), (8, .ptr 1 0), (9, .fz (.str g)), (17, .fz (.int .i64 tz))] ⟨(true, [.fz (.int .i64 w.base), .fz (.int .i64 w.next), .fz (.list (w.L.map encG)), .fz (.list (w.wait.map encT))]) :: (true, [.fz (.int .i64 r.k.up), dm, dl]) :: rest, L, c⟩) := by
  have hall : (lets k).length = k := lets_len k
  intro m
  induction m with
  | zero =>
    intro t tz w B N r n g dm dl rest L c hm hz gw hr hn hpr hs
    subst hz
    obtain rfl : t = 2 * k + 2 := by omega
    have hbn := gw.bn
    have hna := gw.na
    obtain ⟨p1, p2, p3⟩ := hpr.resolve_left (by omega)
    have hB : B = k := by omega
    have hN : N = k := by omega
    have hL : w.L = [] := by
      have : w.L.length = 0 := by rw [gw.L, mkL_len]; omega
      exact List.eq_nil_of_length_eq_zero this
    have hW : w.wait = [] := by
      rw [gw.wait]
      exact List.drop_eq_nil_of_le (by omega)
    have hg : g = (lets k).flatten := by
      rw [hr.got, p1, hB]
      rw [List.take_of_length_le (by omega)]
    have w1 : wrapF .i64 (2 * (k : Int)) = 2 * (k : Int) := wrap_id _ (by omega) (by omega)
    have w2 : wrapF .i64 (2 * (k : Int) + 2) = 2 * (k : Int) + 2 := wrap_id _ (by omega) (by omega)
    rw [x_iter]
    simp [u13_5, w1, w2]
    refine ⟨w, r, dm, dl, rest, L, c, _, hL, hW, by rw [p1, hB], p2, hs, ?_, rfl⟩
    simp [Tm.keep, hg]
  | succ m ih =>
    intro t tz w B N r n g dm dl rest L c hm hz gw hr hn hpr hs
    subst hz
    have hbn := gw.bn
    have hna := gw.na
    have hn4 := gw.n4
    have hlt : (t : Int) < 2 * (k : Int) + 2 := by omega
    have ht1 : ((t : Int) + 1) = ((t + 1 : Nat) : Int) := by omega
    obtain ⟨r', g', dm', dl', rest', L', c', T1, q1, q2, q3, q4, q5⟩ := loopK4 k hk w B N gw (.fz (.int .i64 t)) n (by omega) (N - B) 0 0 r g dm dl rest L c (by omega) rfl hr (fun y h1 h2 => by simp at h2; omega) hs
    obtain ⟨e1, e2, e3⟩ := q1.all_known q2
    have hwok := gw.ok (n := 200) (by omega) (by omega)
    have hp := pTold w 200 (by omega) hwok r'.k.up
    obtain ⟨N', hN', gw'⟩ := gw.told2 N hbn (Nat.le_refl _)
    have hfull := gw.full
    have goal := fun L c => ih (t + 1) _ (toldW w (N : Int)) N N' r' (n + 16) g' dm' dl' rest' L c (by omega) ht1 gw' (q1.told e1 hN') (by omega) (.inr ⟨e1, e3, by omega⟩) q3
    rw [← e1] at goal
    generalize toldW w r'.k.up = v at hp goal
    simp only [encW] at hp
    have w1 : wrapF .i64 (2 * (k : Int)) = 2 * (k : Int) := wrap_id _ (by omega) (by omega)
    have w2 : wrapF .i64 (2 * (k : Int) + 2) = 2 * (k : Int) + 2 := wrap_id _ (by omega) (by omega)
    have hw : wrapF .i64 ((t : Int) + 1) = (t : Int) + 1 := wrap_id _ (by omega) (by omega)
    rw [x_iter]
    rcases q3 with ⟨rfl, rfl, rfl⟩ | ⟨rfl, rfl⟩
    · simp at hp q5
      simp [u13_5, hlt, w1, w2, q4, q5, rTold, callR, hp, mapI, mapI2, hw]
      exact goal _ _
    · simp [u13_5, hlt, w1, w2, q4, q5, rTold, callR, hp, mapI, mapI2, hw]
      exact goal _ _
theorem pNewW : pureI Try.prog prims dx tbl 36 [] = some (.agg (encW ⟨1, 1, [], []⟩)) := by
  rw [pureI_of (rfl : tbl 36 = some c36)]
  simp [c36, encW]
theorem rNewW (ds : List D) (st : Dv.St) : callI Try.prog prims dx tbl 36 ds st = callR Try.prog prims dx tbl 36 ds st (frL (fr st 6) ds) := callRw rfl rfl (rfl : tbl 36 = some c36) rfl ds st
theorem pRcvrLink (nz : Int) (hz : 0 ≤ nz ∧ nz < 256) (l : List Int) (h1 : l.length ≤ maxLen) (hb : ∀ z ∈ l, 0 ≤ z ∧ z < 256) : pureI Try.prog prims dx tbl 13 [.int .u8 nz, .list (l.map fun z => [.int .u8 z])] = some (.bool true) := by
  rw [pureI_of (rfl : tbl 13 = some c13)]
  by_cases g1 : 150 < l.length
  · simp [c13, qBegun21, show (150 : Int) < l.length by omega]
  · obtain ⟨k, hk⟩ : ∃ k : Nat, nz.tmod 20 = k := ⟨(nz.tmod 20).toNat, by rw [Int.tmod_eq_emod_of_nonneg hz.1]; omega⟩
    have hk20 : k < 20 := by
      rw [Int.tmod_eq_emod_of_nonneg hz.1] at hk
      omega
    have wk : wrapF .i64 (k : Int) = k := wrap_id _ (by omega) (by omega)
    have hp := pNewW
    simp only [encW] at hp
    simp at hp
    have g0 : Good ⟨1, 1, [], []⟩ (lets 0) 0 0 := ⟨rfl, rfl, Nat.le_refl _, by omega, by simp, rfl, rfl, fun h => by simp [lets] at h⟩
    obtain ⟨w, N, L, c, T1, gw, a1, a2⟩ := loopK0 k (by omega) (.fz (.list (l.map fun z => [.int .u8 z]))) k 0 0 ⟨1, 1, [], []⟩ 0 [] 0 (by omega) rfl g0
    have r0 : Lnk (lets k) 0 N ⟨⟨0, []⟩, []⟩ (4 * 0) [] := ⟨⟨⟨Int.le_refl _, List.Pairwise.nil, by simp⟩, by simp, by simp, rfl⟩, by simp, by simp, by simp, by simp, by simp⟩
    obtain ⟨w2, B2, N2, r2, n2, g2, dm2, dl2, rest2, L2, c2, T2, b1, b2, b3, b4, b5, b6⟩ := loopK2 k (by omega) l (by omega) hb l 0 0 w 0 N ⟨⟨0, []⟩, []⟩ [] [] .nils .nils .nils [] L c rfl rfl (Nat.zero_le _) gw r0 (by simp) (by simp) (.inl ⟨rfl, rfl⟩) (.inl ⟨rfl, rfl, rfl⟩)
    obtain ⟨w3, r3, dm3, dl3, rest3, L3, c3, T3, e1, e2, e3, e4, e5, e6, e7⟩ := loopK5 k (by omega) (2 * k + 2) 0 0 w2 B2 N2 r2 n2 g2 dm2 dl2 rest2 L2 c2 (by omega) rfl b1 b2 (by omega) (.inl rfl) b4
    obtain ⟨T4, L4, c4, f1, f2⟩ := loopK6 k (by omega) (.ptr 1 0) (.fz (.str (lets k).flatten)) ((true, [.fz (.int .i64 w3.base), .fz (.int .i64 w3.next), .fz (.list (w3.L.map encG)), .fz (.list (w3.wait.map encT))]) :: (true, [.fz (.int .i64 r3.k.up), dm3, dl3]) :: rest3) k 0 0 L3 c3 (by omega) rfl
    have e0 : (lets 0).flatten = [] := rfl
    simp only [List.map_nil] at a2 b6
    rw [e0] at f2
    simp only [e1, e2, e3, List.map_nil] at e7 f2
    rcases e5 with ⟨rfl, rfl, _⟩ | ⟨rfl, rfl⟩
    · simp [c13, qBegun21, show ¬ (150 : Int) < l.length by omega, hk, wk, rNewW, callR, hp, mapI, mapI2, a1, a2, b5, b6, e6, e7, f1, f2, beqB_self, e3]
    · simp only [e4, List.map_nil] at e7 f2
      simp [c13, qBegun21, show ¬ (150 : Int) < l.length by omega, hk, wk, rNewW, callR, hp, mapI, mapI2, a1, a2, b5, b6, e6, e7, f1, f2, beqB_self, e3, e4]
end Go.Proofs.Ytpinhopgeaamdaa.Pl
