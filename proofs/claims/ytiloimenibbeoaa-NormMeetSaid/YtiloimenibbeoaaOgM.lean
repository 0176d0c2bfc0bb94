/-
  What is proved here: boxes of filters by numbers.
  Conditions: none.
-/
import Derived.Test.YtiloimenibbeoaaOdM
set_option linter.unusedVariables false
set_option linter.unusedSimpArgs false
set_option maxRecDepth 100000
set_option maxHeartbeats 8000000
namespace Go.Proofs.Ytiloimenibbeoaa.Pl
open Go Go.Proofs Go.Proofs.Ev Go.Proofs.Dv Cd
attribute [local simp] x_pure x_skip x_reg x_drw x_seq x_cond x_block x_frz x_loop' Tm.keep_nil x_exit x_ret k_seq k_seq_ret k_seq_exit k_seq_none k_seq_ite k_cond k_block k_block_ret k_block_exit k_block_none k_block_ite k_iter k_iter_ret k_iter_exit k_iter_none k_iter_ite k_reg k_reg_none k_reg_ite x_is_nil x_is x_is_g k_ins k_ins_none k_ins_ite k_grd x_ord_nil x_ord x_ord_g k_ord k_ord_none k_ord_ite k_ogrd k_out_ret k_out k_out_none k_out_ite k_pure k_pure_none k_pure_ite startD dI dA deo Tm.at Tm.dst Tm.set Tm.put Tm.keep dW dRes oneOfD mkTup mkAgg mkFn allF frL fr vD vD1 vF vFL dBin dEq dNil isNilD dScal F.cv eBin sameKind eInt eStr cellsD oneD F.one dFill putAtD chunk dbnd dSrc St.own St.drop St.still St.fresh chkQ stillQ freshQ lOf rdOf rdOK undefD F.full F.fullL List.mapIdx_cons strip allOne_nil allOne_cons allOne_append allLen_nil allLen_cons allLen_append roomOK_small filterT y_mv y_pick y_new y_box y_build y_bslice y_ld1 y_ldn y_nilchk y_bin y_not y_conv y_bytes y_string y_ifc y_fn y_cut y_cuts y_fa y_fld y_ia y_idx y_idxs y_ext y_len y_lenstr y_app y_grow y_mks y_slow y_call y_callv y_inv y_extc x_it_st x_it_clr x_it_cpy k_addT k_addT_none k_addT_ite k_orU k_orU_none dU D.turn turnL Tm.turn turnS St.turn turnRows_length

def madeV (l : List Int) (i : Nat) : Bool × List D := (true, [.fz (.list (l.map fun z => [.int .u8 z])), .fz (.int .i64 i)])
def PostBx (r : Option DSt) : Prop := ∃ (rows : List Box) (d : D) (L : List Nat) (c : Nat) (S : List (Bool × List D)) (T' : Tm), OwnB rows L d ∧ rows.length ≤ 3 ∧ (∀ b ∈ rows, BOk b 8) ∧ T'.keep [4] = [(4, d)] ∧ r = some (.exit 0, T', ⟨S, L, c⟩)
theorem loopBx (l : List Int) (hl : U8s l) : ∀ (m k : Nat) (kz : Int) (i : Nat) (rows : List Box) (d : D) (L : List Nat) (c : Nat), k + m = 3 → kz = k → i ≤ l.length → OwnB rows L d → rows.length ≤ k → (∀ b ∈ rows, BOk b 8) →
    PostBx (iterI (dCw Try.prog (callI Try.prog prims dx tbl) l15_0) [3, 4, 5] [(3, .ptr 0 0), (4, d), (5, .fz (.int .i64 kz))] ⟨[madeV l i], L, c⟩) := by
  intro m
  induction m with
  | zero =>
    intro k kz i rows d L c hm hz hi hw hr hb
    subst hz
    obtain rfl : k = 3 := by omega
    rw [x_iter]
    simp [u15_0]
    exact ⟨rows, d, L, c, _, _, hw, hr, hb, by simp [Tm.keep], rfl⟩
  | succ m ih =>
    intro k kz i rows d L c hm hz hi hw hr hb
    subst hz
    have hk : (k : Int) < 3 := by omega
    have c1 : -100000 ≤ (k : Int) + 1 ∧ (k : Int) + 1 ≤ 100000 := by omega
    obtain ⟨f, i1, b1, ⟨hf, hn⟩, e1⟩ := vFilter l hl 3 3 i rfl (by omega) hi
    have hn8 : leaves f ≤ 8 := hn
    have a1 := pROF f hf (by omega)
    obtain ⟨x1, x2, x3, x4, x5, x6, hx⟩ := encF_eq f
    simp only [hx] at e1 a1
    simp only [madeV]
    have skip := ih (k + 1) ((k : Int) + 1) i1 rows d L c (by omega) (by omega) b1 hw (by omega) hb
    simp only [madeV] at skip
    cases hX : ofB f false with
    | none =>
      simp only [hX, encO, Option.getD_none, Option.isSome_none] at a1
      rw [x_iter]
      simp [u15_0, x_vars, varsOf, varsK, varsK_ite, finals, callVars, splitV, contents, updV, orC, hk, rFilter, e1, rROF, callR, a1, wz _ c1]
      exact skip
    | some X =>
      simp only [hX, encO, Option.getD_some, Option.isSome_some] at a1
      obtain ⟨s1, s2, _⟩ := of_sem [] (fun a ha => by cases ha) [] f hf false X hX
      by_cases h0 : X.length = 0
      · obtain rfl := List.eq_nil_of_length_eq_zero h0
        simp only [List.map_nil] at a1
        rw [x_iter]
        simp [u15_0, x_vars, varsOf, varsK, varsK_ite, finals, callVars, splitV, contents, updV, orC, hk, rFilter, e1, rROF, callR, a1, wz _ c1]
        exact skip
      · obtain ⟨n1, i2, b2, m2, _, e2⟩ := vNum l hl i1 b1 (X.length : Int)
        have m2 := m2 (by omega)
        obtain ⟨n, rfl⟩ : ∃ n : Nat, n1 = n := ⟨n1.toNat, by omega⟩
        have hlt : n < X.length := by omega
        have hpos : (0 : Int) < X.length := by omega
        have hpos2 : 0 < X.length := by omega
        obtain ⟨x, hli⟩ : ∃ x, X[n] = x := ⟨_, rfl⟩
        have hxb : BOk x 8 := (s1 x (by rw [← hli]; exact List.getElem_mem hlt)).mono hn8
        have o1 := (encB_ok rows).1
        have r1 : roomOK 136 1 := roomOK_small (by omega) (by omega)
        have r2 : roomOK 136 (rows.length + 1) := roomOK_small (by omega) (by omega)
        have goal := fun d L c hw => ih (k + 1) ((k : Int) + 1) i2 (rows ++ [x]) d L c (by omega) (by omega) b2 hw (by rw [List.length_append]; simp; omega) (fun b hb' => by
          rcases List.mem_append.1 hb' with h | h
          · exact hb b h
          · rw [List.mem_singleton.1 h]; exact hxb)
        simp only [madeV] at goal
        rw [x_iter]
        rcases hw with ⟨rfl, rfl⟩ | ⟨t, ht, rfl⟩
        · simp [u15_0, x_vars, varsOf, varsK, varsK_ite, finals, callVars, splitV, contents, updV, orC, hk, rFilter, e1, rROF, callR, a1, rNum, e2, hpos, hpos2, hlt, hli, encB, r1, wz _ c1]
          exact goal _ _ _ (ownB_of (by simp [encB]) (by simp))
        · simp [u15_0, x_vars, varsOf, varsK, varsK_ite, finals, callVars, splitV, contents, updV, orC, hk, rFilter, e1, rROF, callR, a1, rNum, e2, hpos, hpos2, hlt, hli, encB, r2, ht, o1, wz _ c1]
          exact goal _ _ _ (ownB_of (by simp [encB]) (by simp))
theorem pBoxes (l : List Int) (hl : U8s l) : ∃ rows : List Box, rows.length ≤ 3 ∧ (∀ b ∈ rows, BOk b 8) ∧ pureI Try.prog prims dx tbl 15 [.list (l.map fun z => [.int .u8 z])] = some (.list (rows.map encB)) := by
  obtain ⟨rows, d, L, c, S, T', hw, hr, hb, k1, j1⟩ := loopBx l hl 3 0 0 0 [] .nils [] 0 rfl rfl (Nat.zero_le _) (.inl ⟨rfl, rfl⟩) (Nat.zero_le _) (fun b hb => by cases hb)
  refine ⟨rows, hr, hb, ?_⟩
  rw [pureI_of (rfl : tbl 15 = some c15)]
  have m1 := vMade l
  simp only [madeV, Int.ofNat_zero, Int.natCast_zero] at j1
  rcases hw with ⟨rfl, rfl⟩ | ⟨t, ht, rfl⟩
  · simp [c15, x_vars, varsOf, varsK, varsK_ite, finals, callVars, splitV, contents, updV, orC, rMade, m1, k1, j1]
  · simp [c15, x_vars, varsOf, varsK, varsK_ite, finals, callVars, splitV, contents, updV, orC, rMade, m1, k1, j1, ht]
theorem rBoxes (ds : List D) (st : Dv.St) : callI Try.prog prims dx tbl 15 ds st = callR Try.prog prims dx tbl 15 ds st (frL (fr st 6) ds) := callRw rfl rfl (rfl : tbl 15 = some c15) rfl ds st
end Go.Proofs.Ytiloimenibbeoaa.Pl
