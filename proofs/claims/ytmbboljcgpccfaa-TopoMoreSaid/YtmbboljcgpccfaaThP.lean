/-
  What is proved here: edges with one more, rising.
  Conditions: none.
-/
import Derived.Test.YtmbboljcgpccfaaTpP
set_option linter.unusedVariables false
set_option linter.unusedSimpArgs false
set_option maxRecDepth 100000
set_option maxHeartbeats 8000000
namespace Go.Proofs.Ytmbboljcgpccfaa.Pl
open Go Go.Proofs Go.Proofs.Ev Go.Proofs.Dv Cd
attribute [local simp] x_pure x_skip x_reg x_drw x_seq x_cond x_block x_frz x_loop' Tm.keep_nil x_exit x_ret k_seq k_seq_ret k_seq_exit k_seq_none k_seq_ite k_cond k_block k_block_ret k_block_exit k_block_none k_block_ite k_iter k_iter_ret k_iter_exit k_iter_none k_iter_ite k_reg k_reg_none k_reg_ite x_is_nil x_is x_is_g k_ins k_ins_none k_ins_ite k_grd x_ord_nil x_ord x_ord_g k_ord k_ord_none k_ord_ite k_ogrd k_out_ret k_out k_out_none k_out_ite k_pure k_pure_none k_pure_ite startD dI dA deo Tm.at Tm.dst Tm.set Tm.put Tm.keep dW dRes oneOfD mkTup mkAgg mkFn allF frL fr vD vD1 vF vFL dBin dEq dNil isNilD dScal F.cv eBin sameKind eInt eStr cellsD oneD F.one dFill putAtD chunk dbnd dSrc St.own St.drop St.still St.fresh chkQ stillQ freshQ lOf rdOf rdOK undefD F.full F.fullL List.mapIdx_cons strip allOne_nil allOne_cons allOne_append allLen_nil allLen_cons allLen_append roomOK_small filterT y_mv y_pick y_new y_box y_build y_bslice y_ld1 y_ldn y_nilchk y_bin y_not y_conv y_bytes y_string y_ifc y_fn y_cut y_cuts y_fa y_fld y_ia y_idx y_idxs y_ext y_len y_lenstr y_app y_grow y_mks y_slow y_call y_callv y_inv y_extc x_it_st x_it_clr x_it_cpy k_addT k_addT_none k_addT_ite k_orU k_orU_none dU D.turn turnL Tm.turn turnS St.turn turnRows_length

theorem eJo : eqOPair (operAt Try.prog 78 14) = some (true, 17, 18) := by kernel_rfl
def OwnE (rows : List (Int × Int)) (L : List Nat) (d : D) : Prop := (rows = [] ∧ d = .nils) ∨ ∃ t, rows ≠ [] ∧ t ∈ L ∧ d = .ow t 0 2 (rows.map encE)
def PostJ (l : List (Int × Int)) (e : Int × Int) (o : Option (Bool × List (Int × Int))) (r : Option DSt) : Prop := ∃ (S : List (Bool × List D)) (L : List Nat) (c : Nat) (T' : Tm), match o with
  | none => r = some (.ret, T', ⟨S, L, c⟩) ∧ T'.at 4 = .fz (.list (l.map encE))
  | some (put, out) => ∃ d, OwnE out L d ∧ r = some (.exit 0, T', ⟨[(true, [.fz (.int .i64 e.1), .fz (.int .i64 e.2)])], L, c⟩) ∧ T'.keep [3, 5, 6] = [(3, .ptr 0 0), (5, d), (6, .fz (.bool put))]
theorem ownE_of {rows : List (Int × Int)} {L : List Nat} {t : Nat} {R : List (List F)} (h1 : rows ≠ []) (h2 : R = rows.map encE) (h3 : t ∈ L) : OwnE rows L (.ow t 0 2 R) := .inr ⟨t, h1, h3, by rw [h2]⟩
theorem loopJ (l : List (Int × Int)) (hl : l.length ≤ 100) (e : Int × Int) : ∀ (r : List (Int × Int)) (i : Nat) (iz : Int) (put : Bool) (out : List (Int × Int)) (d : D) (L : List Nat) (c : Nat), iz = i → l.drop i = r → i ≤ l.length → out.length ≤ 2 * i → OwnE out L d →
    PostJ l e (jA e put out r) (iterI (dCw Try.prog (callI Try.prog prims dx tbl) l78_0) [0, 3, 5, 6, 7] [(0, .fz (.list (l.map encE))), (3, .ptr 0 0), (5, d), (6, .fz (.bool put)), (7, .fz (.int .i64 iz))] ⟨[(true, [.fz (.int .i64 e.1), .fz (.int .i64 e.2)])], L, c⟩) := by
  intro r
  induction r with
  | nil =>
    intro i iz put out d L c hz hd hi ho hw
    have hi' := drop_nil hd hi
    subst hi' hz
    rw [x_iter]
    simp [u78_0, jA]
    exact ⟨[], L, c, _, d, hw, rfl, by simp [Tm.keep]⟩
  | cons a r ih =>
    intro i iz put out d L c hz hd hi ho hw
    subst hz
    obtain ⟨hlt, hli, hd'⟩ := drop_cons hd
    have hi1 : ((i : Int) + 1) = ((i + 1 : Nat) : Int) := by omega
    have he := pe_eq a e
    have hwr : wrapF .i64 ((i : Int) + 1) = (i : Int) + 1 := wrap_id _ (by omega) (by omega)
    rw [x_iter]
    by_cases h : a = e
    · rw [decide_eq_true h] at he
      simp [u78_0, hlt, hli, encE, slow_eqPair eJo, eqDPair, h, jA]
      exact ⟨_, L, c, _, rfl, rfl⟩
    · rw [decide_eq_false h] at he
      have hne : ¬ (a.1 = e.1 ∧ a.2 = e.2) := fun k => h (Prod.ext k.1 k.2)
      have o1 := (encE_ok out).1
      have o2 := (encE_ok out).2
      have r1 : roomOK 16 (out.length + 1) := roomOK_small (by omega) (by omega)
      have r2 : roomOK 16 (out.length + 1 + 1) := roomOK_small (by omega) (by omega)
      have r3 : roomOK 16 1 := roomOK_small (by omega) (by omega)
      have r4 : roomOK 16 2 := roomOK_small (by omega) (by omega)
      have goal1 := fun d L c => ih (i + 1) _ true (out ++ [e] ++ [a]) d L c hi1 hd' hlt (by rw [List.length_append, List.length_append, List.length_singleton, List.length_singleton]; omega)
      have goal2 := fun d L c => ih (i + 1) _ put (out ++ [a]) d L c hi1 hd' hlt (by rw [List.length_append, List.length_singleton]; omega)
      by_cases hc : put = false ∧ (e.1 < a.1 ∨ a.1 = e.1 ∧ e.2 < a.2)
      · have e1 : jA e put out (a :: r) = jA e true (out ++ [e] ++ [a]) r := by rw [jA, if_neg h, if_pos hc]
        rw [e1]
        generalize jA e true (out ++ [e] ++ [a]) r = res at goal1
        obtain ⟨rfl, hc⟩ := hc
        rcases hw with ⟨rfl, rfl⟩ | ⟨t, ho0, ht, rfl⟩
        · rcases hc with g1 | ⟨g1, g2⟩
          · simp [u78_0, hlt, hli, encE, slow_eqPair eJo, eqDPair, he, g1, r1, r2, r3, r4, hwr]
            exact goal1 _ _ _ (ownE_of (by simp) (by simp [encE]) (by simp))
          · have g4 : ¬ a.2 = e.2 := fun k => hne ⟨g1, k⟩
            simp [u78_0, hlt, hli, encE, slow_eqPair eJo, eqDPair, he, g1, g2, g4, r1, r2, r3, r4, hwr]
            exact goal1 _ _ _ (ownE_of (by simp) (by simp [encE, g1]) (by simp))
        · rcases hc with g1 | ⟨g1, g2⟩
          · simp [u78_0, hlt, hli, encE, slow_eqPair eJo, eqDPair, he, g1, r1, r2, r3, r4, hwr, ht, o1, o2]
            exact goal1 _ _ _ (ownE_of (by simp) (by simp [encE]) (by simp))
          · have g4 : ¬ a.2 = e.2 := fun k => hne ⟨g1, k⟩
            simp [u78_0, hlt, hli, encE, slow_eqPair eJo, eqDPair, he, g1, g2, g4, r1, r2, r3, r4, hwr, ht, o1, o2]
            exact goal1 _ _ _ (ownE_of (by simp) (by simp [encE, g1]) (by simp))
      · have e1 : jA e put out (a :: r) = jA e put (out ++ [a]) r := by rw [jA, if_neg h, if_neg hc]
        rw [e1]
        generalize jA e put (out ++ [a]) r = res at goal2
        rcases hw with ⟨rfl, rfl⟩ | ⟨t, ho0, ht, rfl⟩
        · cases put with
          | true =>
            simp [u78_0, hlt, hli, encE, slow_eqPair eJo, eqDPair, he, r1, r2, r3, r4, hwr]
            exact goal2 _ _ _ (ownE_of (by simp) (by simp [encE]) (by simp))
          | false =>
            have g1 : ¬ e.1 < a.1 := fun k => hc ⟨rfl, .inl k⟩
            by_cases g2 : a.1 = e.1
            · have g3 : ¬ e.2 < a.2 := fun k => hc ⟨rfl, .inr ⟨g2, k⟩⟩
              have g4 : ¬ a.2 = e.2 := fun k => hne ⟨g2, k⟩
              simp [u78_0, hlt, hli, encE, slow_eqPair eJo, eqDPair, he, g2, g3, g4, r1, r2, r3, r4, hwr]
              exact goal2 _ _ _ (ownE_of (by simp) (by simp [encE, g2]) (by simp))
            · simp [u78_0, hlt, hli, encE, slow_eqPair eJo, eqDPair, he, g1, g2, r1, r2, r3, r4, hwr]
              exact goal2 _ _ _ (ownE_of (by simp) (by simp [encE]) (by simp))
        · cases put with
          | true =>
            simp [u78_0, hlt, hli, encE, slow_eqPair eJo, eqDPair, he, r1, r2, r3, r4, hwr, ht, o1, o2]
            exact goal2 _ _ _ (ownE_of (by simp) (by simp [encE]) (by simp))
          | false =>
            have g1 : ¬ e.1 < a.1 := fun k => hc ⟨rfl, .inl k⟩
            by_cases g2 : a.1 = e.1
            · have g3 : ¬ e.2 < a.2 := fun k => hc ⟨rfl, .inr ⟨g2, k⟩⟩
              have g4 : ¬ a.2 = e.2 := fun k => hne ⟨g2, k⟩
              simp [u78_0, hlt, hli, encE, slow_eqPair eJo, eqDPair, he, g2, g3, g4, r1, r2, r3, r4, hwr, ht, o1, o2]
              exact goal2 _ _ _ (ownE_of (by simp) (by simp [encE, g2]) (by simp))
            · simp [u78_0, hlt, hli, encE, slow_eqPair eJo, eqDPair, he, g1, g2, r1, r2, r3, r4, hwr, ht, o1, o2]
              exact goal2 _ _ _ (ownE_of (by simp) (by simp [encE]) (by simp))
theorem jA_len (e : Int × Int) : ∀ (r : List (Int × Int)) (put : Bool) (out : List (Int × Int)) (p : Bool) (o : List (Int × Int)), jA e put out r = some (p, o) → o.length ≤ out.length + 2 * r.length
  | [], put, out, p, o, h => by
    simp only [jA, Option.some.injEq, Prod.mk.injEq] at h
    rw [← h.2]
    simp
  | a :: r, put, out, p, o, h => by
    simp only [jA] at h
    split at h
    · cases h
    · split at h
      · have := jA_len e r _ _ p o h
        simp at this ⊢
        omega
      · have := jA_len e r _ _ p o h
        simp at this ⊢
        omega
theorem pJoined (l : List (Int × Int)) (hl : l.length ≤ 100) (e : Int × Int) : pureI Try.prog prims dx tbl 78 [.list (l.map encE), .agg [.int .i64 e.1, .int .i64 e.2]] = some (.list ((joinE e l).map encE)) := by
  rw [pureI_of (rfl : tbl 78 = some c78)]
  obtain ⟨S, L, c, T', h⟩ := loopJ l hl e l 0 0 false [] .nils [] 0 rfl rfl (Nat.zero_le _) (Nat.zero_le _) (.inl ⟨rfl, rfl⟩)
  unfold joinE
  cases hj : jA e false [] l with
  | none =>
    rw [hj] at h
    obtain ⟨h1, h2⟩ := h
    simp [c78, h1, h2]
  | some p =>
    obtain ⟨put, out⟩ := p
    rw [hj] at h
    obtain ⟨d, hw, h1, h2⟩ := h
    have o1 := (encE_ok out).1
    have o2 := (encE_ok out).2
    have r3 : roomOK 16 1 := roomOK_small (by omega) (by omega)
    have hlen := jA_len e l _ _ _ _ hj
    have r1 : roomOK 16 (out.length + 1) := roomOK_small (by omega) (by simp at hlen; omega)
    cases put with
    | true =>
      rcases hw with ⟨rfl, rfl⟩ | ⟨t, ho0, ht, rfl⟩
      · simp [c78, h1, h2]
      · simp [c78, h1, h2, ht, o1, o2]
    | false =>
      rcases hw with ⟨rfl, rfl⟩ | ⟨t, ho0, ht, rfl⟩
      · simp [c78, h1, h2, r3, encE]
      · simp [c78, h1, h2, ht, o1, o2, r1, encE]
theorem rJoined (ds : List D) (st : Dv.St) : callI Try.prog prims dx tbl 78 ds st = callR Try.prog prims dx tbl 78 ds st (frL (fr st 6) ds) := callRw rfl rfl (rfl : tbl 78 = some c78) rfl ds st
end Go.Proofs.Ytmbboljcgpccfaa.Pl
