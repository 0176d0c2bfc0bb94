/-
  What is proved here: the law of one more edge: its loops.
  Conditions: none.
-/
import Derived.Test.YtmbboljcgpccfaaThP
set_option linter.unusedVariables false
set_option linter.unusedSimpArgs false
set_option maxRecDepth 100000
set_option maxHeartbeats 8000000
namespace Go.Proofs.Ytmbboljcgpccfaa.Pl
open Go Go.Proofs Go.Proofs.Ev Go.Proofs.Dv Cd
attribute [local simp] x_pure x_skip x_reg x_drw x_seq x_cond x_block x_frz x_loop' Tm.keep_nil x_exit x_ret k_seq k_seq_ret k_seq_exit k_seq_none k_seq_ite k_cond k_block k_block_ret k_block_exit k_block_none k_block_ite k_iter k_iter_ret k_iter_exit k_iter_none k_iter_ite k_reg k_reg_none k_reg_ite x_is_nil x_is x_is_g k_ins k_ins_none k_ins_ite k_grd x_ord_nil x_ord x_ord_g k_ord k_ord_none k_ord_ite k_ogrd k_out_ret k_out k_out_none k_out_ite k_pure k_pure_none k_pure_ite startD dI dA deo Tm.at Tm.dst Tm.set Tm.put Tm.keep dW dRes oneOfD mkTup mkAgg mkFn allF frL fr vD vD1 vF vFL dBin dEq dNil isNilD dScal F.cv eBin sameKind eInt eStr cellsD oneD F.one dFill putAtD chunk dbnd dSrc St.own St.drop St.still St.fresh chkQ stillQ freshQ lOf rdOf rdOK undefD F.full F.fullL List.mapIdx_cons strip allOne_nil allOne_cons allOne_append allLen_nil allLen_cons allLen_append roomOK_small filterT y_mv y_pick y_new y_box y_build y_bslice y_ld1 y_ldn y_nilchk y_bin y_not y_conv y_bytes y_string y_ifc y_fn y_cut y_cuts y_fa y_fld y_ia y_idx y_idxs y_ext y_len y_lenstr y_app y_grow y_mks y_slow y_call y_callv y_inv y_extc x_it_st x_it_clr x_it_cpy k_addT k_addT_none k_addT_ite k_orU k_orU_none dU D.turn turnL Tm.turn turnS St.turn turnRows_length

def PostN0 (xa xb : F) (n : Nat) (l : List (Int × Int)) (e : Int × Int) (p : Bool) (o : List (Int × Int)) (r : Option DSt) : Prop := ∃ (d : D) (L : List Nat) (c : Nat) (T' : Tm), OwnE o L d ∧ r = some (.exit 0, T', ⟨[(true, [.fz xa, .fz xb])], L, c⟩) ∧ T'.keep [9, 10, 11, 12, 13, 14] = [(9, .fz (.int .i64 n)), (10, .fz (.list (l.map encE))), (11, .fz (.int .i64 e.1)), (12, .fz (.int .i64 e.2)), (13, d), (14, .fz (.bool p))]
theorem loopN0 (xa xb : F) (n : Nat) (l : List (Int × Int)) (hl : l.length ≤ 100) (e : Int × Int) : ∀ (r : List (Int × Int)) (i : Nat) (iz : Int) (put : Bool) (out : List (Int × Int)) (d : D) (L : List Nat) (c : Nat) (p : Bool) (o : List (Int × Int)), iz = i → l.drop i = r → i ≤ l.length → out.length ≤ 2 * i → OwnE out L d → e ∉ r → jA e put out r = some (p, o) →
    PostN0 xa xb n l e p o (iterI (dCw Try.prog (callI Try.prog prims dx tbl) l13_0) [9, 10, 11, 12, 13, 14, 15] [(9, .fz (.int .i64 n)), (10, .fz (.list (l.map encE))), (11, .fz (.int .i64 e.1)), (12, .fz (.int .i64 e.2)), (13, d), (14, .fz (.bool put)), (15, .fz (.int .i64 iz))] ⟨[(true, [.fz xa, .fz xb])], L, c⟩) := by
  intro r
  induction r with
  | nil =>
    intro i iz put out d L c p o hz hd hi ho hw hn hj
    have hi' := drop_nil hd hi
    subst hi' hz
    simp only [jA, Option.some.injEq, Prod.mk.injEq] at hj
    obtain ⟨rfl, rfl⟩ := hj
    rw [x_iter]
    simp [u13_0]
    exact ⟨d, L, c, _, hw, rfl, by simp [Tm.keep]⟩
  | cons a r ih =>
    intro i iz put out d L c p o hz hd hi ho hw hn hj
    subst hz
    obtain ⟨hlt, hli, hd'⟩ := drop_cons hd
    have hi1 : ((i : Int) + 1) = ((i + 1 : Nat) : Int) := by omega
    have h : ¬ a = e := fun k => hn (by simp [k])
    have hn' : e ∉ r := fun k => hn (by simp [k])
    have o1 := (encE_ok out).1
    have o2 := (encE_ok out).2
    have r1 : roomOK 16 (out.length + 1) := roomOK_small (by omega) (by omega)
    have r2 : roomOK 16 (out.length + 1 + 1) := roomOK_small (by omega) (by omega)
    have r3 : roomOK 16 1 := roomOK_small (by omega) (by omega)
    have r4 : roomOK 16 2 := roomOK_small (by omega) (by omega)
    have c1 : -100000 ≤ (i : Int) + 1 ∧ (i : Int) + 1 ≤ 100000 := by omega
    by_cases hc : put = false ∧ (e.1 < a.1 ∨ a.1 = e.1 ∧ e.2 < a.2)
    · have e1 : jA e put out (a :: r) = jA e true (out ++ [e] ++ [a]) r := by rw [jA, if_neg h, if_pos hc]
      rw [e1] at hj
      have goal1 := fun d L c hw => ih (i + 1) _ true (out ++ [e] ++ [a]) d L c p o hi1 hd' hlt (by rw [List.length_append, List.length_append, List.length_singleton, List.length_singleton]; omega) hw hn' hj
      obtain ⟨rfl, hc⟩ := hc
      rw [x_iter]
      rcases hw with ⟨rfl, rfl⟩ | ⟨t, ho0, ht, rfl⟩
      · rcases hc with g1 | ⟨g1, g2⟩
        · simp [u13_0, hlt, hli, encE, g1, r1, r2, r3, r4, wz _ c1]
          exact goal1 _ _ _ (ownE_of (by simp) (by simp [encE]) (by simp))
        · simp [u13_0, hlt, hli, encE, g1, g2, r1, r2, r3, r4, wz _ c1]
          exact goal1 _ _ _ (ownE_of (by simp) (by simp [encE, g1]) (by simp))
      · rcases hc with g1 | ⟨g1, g2⟩
        · simp [u13_0, hlt, hli, encE, g1, r1, r2, r3, r4, wz _ c1, ht, o1, o2]
          exact goal1 _ _ _ (ownE_of (by simp) (by simp [encE]) (by simp))
        · simp [u13_0, hlt, hli, encE, g1, g2, r1, r2, r3, r4, wz _ c1, ht, o1, o2]
          exact goal1 _ _ _ (ownE_of (by simp) (by simp [encE, g1]) (by simp))
    · have e1 : jA e put out (a :: r) = jA e put (out ++ [a]) r := by rw [jA, if_neg h, if_neg hc]
      rw [e1] at hj
      have goal2 := fun d L c hw => ih (i + 1) _ put (out ++ [a]) d L c p o hi1 hd' hlt (by rw [List.length_append, List.length_singleton]; omega) hw hn' hj
      rw [x_iter]
      rcases hw with ⟨rfl, rfl⟩ | ⟨t, ho0, ht, rfl⟩
      · cases put with
        | true =>
          simp [u13_0, hlt, hli, encE, r1, r2, r3, r4, wz _ c1]
          exact goal2 _ _ _ (ownE_of (by simp) (by simp [encE]) (by simp))
        | false =>
          have g1 : ¬ e.1 < a.1 := fun k => hc ⟨rfl, .inl k⟩
          by_cases g2 : a.1 = e.1
          · have g3 : ¬ e.2 < a.2 := fun k => hc ⟨rfl, .inr ⟨g2, k⟩⟩
            simp [u13_0, hlt, hli, encE, g2, g3, r1, r2, r3, r4, wz _ c1]
            exact goal2 _ _ _ (ownE_of (by simp) (by simp [encE, g2]) (by simp))
          · simp [u13_0, hlt, hli, encE, g1, g2, r1, r2, r3, r4, wz _ c1]
            exact goal2 _ _ _ (ownE_of (by simp) (by simp [encE]) (by simp))
      · cases put with
        | true =>
          simp [u13_0, hlt, hli, encE, r1, r2, r3, r4, wz _ c1, ht, o1, o2]
          exact goal2 _ _ _ (ownE_of (by simp) (by simp [encE]) (by simp))
        | false =>
          have g1 : ¬ e.1 < a.1 := fun k => hc ⟨rfl, .inl k⟩
          by_cases g2 : a.1 = e.1
          · have g3 : ¬ e.2 < a.2 := fun k => hc ⟨rfl, .inr ⟨g2, k⟩⟩
            simp [u13_0, hlt, hli, encE, g2, g3, r1, r2, r3, r4, wz _ c1, ht, o1, o2]
            exact goal2 _ _ _ (ownE_of (by simp) (by simp [encE, g2]) (by simp))
          · simp [u13_0, hlt, hli, encE, g1, g2, r1, r2, r3, r4, wz _ c1, ht, o1, o2]
            exact goal2 _ _ _ (ownE_of (by simp) (by simp [encE]) (by simp))
/-! ### No step is further -/
def PostN1 (st : Dv.St) (n : Nat) (e m : List (Int × Int)) (x y i : Int) (r : Option DSt) : Prop := ∃ T' : Tm, T'.keep [9, 10, 11, 12, 13, 16] = [(9, .fz (.int .i64 n)), (10, .fz (.list (e.map encE))), (11, .fz (.int .i64 x)), (12, .fz (.int .i64 y)), (13, .fz (.list (m.map encE))), (16, .fz (.int .i64 i))] ∧ r = some (.exit 4, T', st)
theorem loopN1 (st : Dv.St) (n : Nat) (hn : n ≤ 5) (e m : List (Int × Int)) (x y i : Int) (s t : List Int) (hs : s.length = n) (ht : t.length = n) (h : ∀ k, k < n → 0 ≤ t.getD k 0 ∧ t.getD k 0 ≤ s.getD k 0) : ∀ (q k : Nat) (kz : Int), k + q = n → kz = k →
    PostN1 st n e m x y i (iterI (dCw Try.prog (callI Try.prog prims dx tbl) l13_1) [9, 10, 11, 12, 13, 16, 17, 18, 19] [(9, .fz (.int .i64 n)), (10, .fz (.list (e.map encE))), (11, .fz (.int .i64 x)), (12, .fz (.int .i64 y)), (13, .fz (.list (m.map encE))), (16, .fz (.int .i64 i)), (17, .fz (.list (s.map encI))), (18, .fz (.list (t.map encI))), (19, .fz (.int .i64 kz))] st) := by
  intro q
  induction q with
  | zero =>
    intro k kz hk hz
    obtain rfl : k = n := by omega
    subst hz
    refine ⟨_, ?_, (by
      rw [x_iter]
      simp [u13_1]; rfl)⟩
    simp [Tm.keep]
  | succ q ih =>
    intro k kz hk hz
    subst hz
    have hkn : k < n := by omega
    obtain ⟨h1, h2⟩ := h k hkn
    rw [List.getD_eq_getElem?_getD, List.getElem?_eq_getElem (by omega)] at h1 h2
    rw [List.getD_eq_getElem?_getD, List.getElem?_eq_getElem (by omega)] at h2
    simp only [Option.getD_some] at h1 h2
    have g1 : ¬ (t[k]'(by omega) < 0) := by omega
    have g2 : ¬ (s[k]'(by omega) < t[k]'(by omega)) := by omega
    have c1 : -100000 ≤ (k : Int) + 1 ∧ (k : Int) + 1 ≤ 100000 := by omega
    have goal := ih (k + 1) ((k : Int) + 1) (by omega) (by omega)
    rw [x_iter]
    simp [u13_1, hkn, hs, ht, encI, g1, g2, wz _ c1]
    exact goal
def PostN2 (st : Dv.St) (n : Nat) (e m : List (Int × Int)) (x y : Int) (r : Option DSt) : Prop := ∃ T' : Tm, T'.keep [9, 10, 11, 12, 13] = [(9, .fz (.int .i64 n)), (10, .fz (.list (e.map encE))), (11, .fz (.int .i64 x)), (12, .fz (.int .i64 y)), (13, .fz (.list (m.map encE)))] ∧ r = some (.exit 2, T', st)
theorem loopN2 (xa xb : F) (L : List Nat) (c : Nat) (n : Nat) (e m : List (Int × Int)) (f : FOk n e) (g : FOk n m) (he : mayN n e = true) (hm : mayN n m = true) (x y : Int) (h : ∀ i k, i < n → k < n → 0 ≤ sv m n i k ∧ sv m n i k ≤ sv e n i k) : ∀ (q i : Nat) (iz : Int), i + q = n → iz = (i : Int) + 1 →
    PostN2 ⟨[(true, [.fz xa, .fz xb])], L, c⟩ n e m x y (iterI (dCw Try.prog (callI Try.prog prims dx tbl) l13_2) [9, 10, 11, 12, 13, 16] [(9, .fz (.int .i64 n)), (10, .fz (.list (e.map encE))), (11, .fz (.int .i64 x)), (12, .fz (.int .i64 y)), (13, .fz (.list (m.map encE))), (16, .fz (.int .i64 iz))] ⟨[(true, [.fz xa, .fz xb])], L, c⟩) := by
  intro q
  induction q with
  | zero =>
    intro i iz hi hz
    obtain rfl : i = n := by omega
    subst hz
    refine ⟨_, ?_, (by
      rw [x_iter]
      simp [u13_2, show ¬ ((i : Int) + 1 ≤ i) by omega]; rfl)⟩
    simp [Tm.keep]
  | succ q ih =>
    intro i iz hi hz
    subst hz
    have hin : i < n := by omega
    have h5 := f.n5
    have hs := pStepsU n e f he ((i : Int) + 1) (by omega) (by omega)
    have ht := pStepsU n m g hm ((i : Int) + 1) (by omega) (by omega)
    have l1 := stepsN_len e n (by omega) ((i : Int) + 1) (by omega) (by omega)
    have l2 := stepsN_len m n (by omega) ((i : Int) + 1) (by omega) (by omega)
    have c1 : -100000 ≤ (i : Int) + 1 + 1 ∧ (i : Int) + 1 + 1 ≤ 100000 := by omega
    have g1 : (i : Int) + 1 ≤ n := by omega
    obtain ⟨T1, k1, k2⟩ := loopN1 ⟨[(true, [.fz xa, .fz xb])], L, c⟩ n h5 e m x y ((i : Int) + 1) _ _ l1 l2 (fun k hk => h i k hin hk) n 0 0 (by omega) rfl
    have goal := ih (i + 1) ((i : Int) + 1 + 1) (by omega) (by omega)
    rw [x_iter]
    simp [u13_2, g1, rStepsU, callR, hs, ht, l1, l2, wz _ c1, k1, k2]
    exact goal
end Go.Proofs.Ytmbboljcgpccfaa.Pl
