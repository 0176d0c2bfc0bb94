/-
  What is proved here: what is held, and what of it a filter lets through.
  Conditions: none.
-/
import Derived.Test.YtmbboljcgpccfaaHkH
set_option linter.unusedVariables false
set_option linter.unusedSimpArgs false
set_option maxRecDepth 100000
set_option maxHeartbeats 8000000
namespace Go.Proofs.Ytmbboljcgpccfaa.Pl
open Go Go.Proofs Go.Proofs.Ev Go.Proofs.Dv Cd
attribute [local simp] x_pure x_skip x_reg x_drw x_seq x_cond x_block x_loop' Tm.keep_nil x_exit x_ret k_seq k_seq_ret k_seq_exit k_seq_none k_seq_ite k_cond k_block k_block_ret k_block_exit k_block_none k_block_ite k_iter k_iter_ret k_iter_exit k_iter_none k_iter_ite k_reg k_reg_none k_reg_ite x_is_nil x_is x_is_g k_ins k_ins_none k_ins_ite k_grd x_ord_nil x_ord x_ord_g k_ord k_ord_none k_ord_ite k_ogrd k_out_ret k_out k_out_none k_out_ite k_pure k_pure_none k_pure_ite startD dI dA deo Tm.at Tm.dst Tm.set Tm.put Tm.keep dW dRes oneOfD mkTup mkAgg mkFn allF frL fr vD vD1 vF vFL dBin dEq dNil isNilD dScal F.cv eBin sameKind eInt eStr cellsD oneD F.one dFill putAtD chunk dbnd dSrc St.own St.drop St.still St.fresh chkQ stillQ freshQ lOf rdOf rdOK undefD F.full F.fullL List.mapIdx_cons strip allOne_nil allOne_cons allOne_append allLen_nil allLen_cons allLen_append roomOK_small filterT y_mv y_pick y_new y_box y_build y_bslice y_ld1 y_ldn y_nilchk y_bin y_not y_conv y_bytes y_string y_ifc y_fn y_cut y_cuts y_fa y_fld y_ia y_idx y_idxs y_ext y_len y_lenstr y_app y_grow y_mks y_slow y_call y_callv y_inv y_extc x_it_st x_it_clr x_it_cpy k_addT k_addT_none k_addT_ite k_orU k_orU_none dU D.turn turnL Tm.turn turnS St.turn turnRows_length

/-- Two rows of one's own, apart. -/
def TwoS (z : Nat) (A B : List (List F)) (L : List Nat) (c : Nat) (d e : D) : Prop := ((A = [] ∧ d = .nils) ∨ ∃ t, A ≠ [] ∧ t ∈ L ∧ t < c ∧ d = .ow t 0 z A) ∧ ((B = [] ∧ e = .nils) ∨ ∃ s, B ≠ [] ∧ s ∈ L ∧ s < c ∧ e = .ow s 0 z B) ∧ ∀ t s R Q, d = .ow t 0 z R → e = .ow s 0 z Q → t ≠ s
def PostIO (l : List Ver) (S : List (Bool × List D)) (A B : List Ver) (r : Option DSt) : Prop := ∃ (d e : D) (L : List Nat) (c : Nat) (T' : Tm), TwoS 8 (A.map encV) (B.map encV) L c d e ∧ T'.keep [9, 11, 16, 17] = [(9, .fz (.list (l.map encV))), (11, .ptr 3 0), (16, d), (17, e)] ∧ r = some (.exit 0, T', ⟨S, L, c⟩)
theorem loopIO (l : List Ver) (hl : l.length ≤ 1000) (p : Ver → Bool) (s0 s1 s2 s4 s5 : Bool × List D) (x1 x2 x3 x4 : Int) (x5 : List UInt8) (x6 : List (List F))
    (hc : ∀ x ∈ l, pureI Try.prog prims dx tbl 30 [.agg [.int .i64 x1, .int .i64 x2, .int .i64 x3, .int .i64 x4, .str x5, .list x6], .agg [.int .i64 x.item, .int .i64 x.a, .int .i64 x.b, .int .i64 x.c, .bool x.dead, .list (x.ats.map encA), .str x.tag, .str x.body]] = some (.bool (p x))) :
    ∀ (r : List Ver) (i : Nat) (iz : Int) (A B : List Ver) (RA RB : List (List F)) (d e : D) (L : List Nat) (c : Nat), iz = i → l.drop i = r → i ≤ l.length → A.length ≤ i → B.length ≤ i → RA = A.map encV → RB = B.map encV → TwoS 8 RA RB L c d e →
    PostIO l [s0, s1, s2, (true, [.fz (.int .i64 x1), .fz (.int .i64 x2), .fz (.int .i64 x3), .fz (.int .i64 x4), .fz (.str x5), .fz (.list x6)]), s4, s5] (A ++ r.filter p) (B ++ r.filter fun v => !p v) (iterI (dCw Try.prog (callI Try.prog prims dx tbl) l3_0) [9, 11, 16, 17, 18] [(9, .fz (.list (l.map encV))), (11, .ptr 3 0), (16, d), (17, e), (18, .fz (.int .i64 iz))] ⟨[s0, s1, s2, (true, [.fz (.int .i64 x1), .fz (.int .i64 x2), .fz (.int .i64 x3), .fz (.int .i64 x4), .fz (.str x5), .fz (.list x6)]), s4, s5], L, c⟩) := by
  intro r
  induction r with
  | nil =>
    intro i iz A B RA RB d e L c hz hd hi ha hb hA hB ho
    subst hA hB
    have hi' := drop_nil hd hi
    subst hi' hz
    rw [x_iter]
    simp [u3_0]
    refine ⟨d, e, L, c, _, by simpa using ho, ?_, rfl⟩
    simp [Tm.keep]
  | cons a r ih =>
    intro i iz A B RA RB d e L c hz hd hi ha hb hA hB ho
    subst hz hA hB
    obtain ⟨hlt, hli, hd'⟩ := drop_cons hd
    have hmem : a ∈ l := by rw [← hli]; exact List.getElem_mem hlt
    have hca := hc a hmem
    have o1 := encV_one A
    have o2 := encV_one B
    have r1 : roomOK 96 (A.length + 1) := roomOK_small (by omega) (by omega)
    have r2 : roomOK 96 (B.length + 1) := roomOK_small (by omega) (by omega)
    have hi1 : ((i : Int) + 1) = ((i + 1 : Nat) : Int) := by omega
    have ha' : (A ++ [a]).length ≤ i + 1 := by simp; omega
    have hb' : (B ++ [a]).length ≤ i + 1 := by simp; omega
    have ha2 : A.length ≤ i + 1 := by omega
    have hb2 : B.length ≤ i + 1 := by omega
    have hw : wrapF .i64 ((i : Int) + 1) = (i : Int) + 1 := wrap_id _ (by omega) (by omega)
    rw [x_iter]
    cases hp : p a with
    | true =>
      have hf : A ++ (a :: r).filter p = (A ++ [a]) ++ r.filter p := by simp [hp]
      have hg : (B ++ (a :: r).filter fun v => !p v) = B ++ r.filter fun v => !p v := by simp [hp]
      rw [hf, hg]
      obtain ⟨X, hX⟩ : ∃ X, X = (A ++ [a]) ++ r.filter p := ⟨_, rfl⟩
      obtain ⟨Y, hY⟩ : ∃ Y, Y = B ++ r.filter fun v => !p v := ⟨_, rfl⟩
      rw [← hX, ← hY]
      rw [hp] at hca
      rcases ho with ⟨hA | ⟨t, hn, ht, htc, rfl⟩, hB, hne⟩
      · obtain ⟨h5, rfl⟩ := hA
        have h6 : A = [] := by simpa using h5
        subst h6
        simp [u3_0, hlt, encV_len, encV_take, hli, rLets, callR, hca, hw]
        rw [hX, hY]
        refine ih (i + 1) _ ([] ++ [a]) B _ _ _ _ _ _ hi1 hd' hlt ha' hb2 ?_ rfl ⟨.inr ⟨_, ?_, ?_, ?_, rfl⟩, ?_, ?_⟩
        · simp [encV]
        · simp
        · simp
        · omega
        · rcases hB with h | ⟨s, k1, k2, k3, k4⟩
          · exact .inl h
          · exact .inr ⟨s, k1, by simp [k2], by omega, k4⟩
        · intro t s R Q e1 e2
          rcases hB with ⟨_, h⟩ | ⟨s', k1, k2, k3, k4⟩
          · rw [h] at e2; cases e2
          · rw [k4] at e2; cases e2; cases e1; omega
      · have hne' : ∀ s Q, e = .ow s 0 8 Q → t ≠ s := fun s Q h => hne t s _ Q rfl h
        simp [u3_0, hlt, encV_len, encV_take, hli, rLets, callR, hca, hw, ht, o1, r1]
        rw [hX, hY]
        refine ih (i + 1) _ (A ++ [a]) B _ _ _ _ _ _ hi1 hd' hlt ha' hb2 ?_ rfl ⟨.inr ⟨_, ?_, ?_, ?_, rfl⟩, ?_, ?_⟩
        · simp [encV]
        · simp
        · simp
        · omega
        · rcases hB with h | ⟨s, k1, k2, k3, k4⟩
          · exact .inl h
          · have := hne' s _ k4
            exact .inr ⟨s, k1, by simp [k2]; omega, by omega, k4⟩
        · intro t s R Q e1 e2
          rcases hB with ⟨_, h⟩ | ⟨s', k1, k2, k3, k4⟩
          · rw [h] at e2; cases e2
          · rw [k4] at e2; cases e2; cases e1; omega
    | false =>
      have hf : A ++ (a :: r).filter p = A ++ r.filter p := by simp [hp]
      have hg : (B ++ (a :: r).filter fun v => !p v) = (B ++ [a]) ++ r.filter fun v => !p v := by simp [hp]
      rw [hf, hg]
      obtain ⟨X, hX⟩ : ∃ X, X = A ++ r.filter p := ⟨_, rfl⟩
      obtain ⟨Y, hY⟩ : ∃ Y, Y = (B ++ [a]) ++ r.filter fun v => !p v := ⟨_, rfl⟩
      rw [← hX, ← hY]
      rw [hp] at hca
      rcases ho with ⟨hA, hB | ⟨s, hn, hs, hsc, rfl⟩, hne⟩
      · obtain ⟨h5, rfl⟩ := hB
        have h6 : B = [] := by simpa using h5
        subst h6
        simp [u3_0, hlt, encV_len, encV_take, hli, rLets, callR, hca, hw]
        rw [hX, hY]
        refine ih (i + 1) _ A ([] ++ [a]) _ _ _ _ _ _ hi1 hd' hlt ha2 hb' rfl ?_ ⟨?_, .inr ⟨_, ?_, ?_, ?_, rfl⟩, ?_⟩
        · simp [encV]
        · rcases hA with h | ⟨s, k1, k2, k3, k4⟩
          · exact .inl h
          · exact .inr ⟨s, k1, by simp [k2], by omega, k4⟩
        · simp
        · simp
        · omega
        · intro t s R Q e1 e2
          rcases hA with ⟨_, h⟩ | ⟨s', k1, k2, k3, k4⟩
          · rw [h] at e1; cases e1
          · rw [k4] at e1; cases e1; cases e2; omega
      · have hne' : ∀ t Q, d = .ow t 0 8 Q → t ≠ s := fun t Q h => hne t s Q _ h rfl
        simp [u3_0, hlt, encV_len, encV_take, hli, rLets, callR, hca, hw, hs, o2, r2]
        rw [hX, hY]
        refine ih (i + 1) _ A (B ++ [a]) _ _ _ _ _ _ hi1 hd' hlt ha2 hb' rfl ?_ ⟨?_, .inr ⟨_, ?_, ?_, ?_, rfl⟩, ?_⟩
        · simp [encV]
        · rcases hA with h | ⟨t, k1, k2, k3, k4⟩
          · exact .inl h
          · have := hne' t _ k4
            exact .inr ⟨t, k1, by simp [k2]; omega, by omega, k4⟩
        · simp
        · simp
        · omega
        · intro t s R Q e1 e2
          rcases hA with ⟨_, h⟩ | ⟨s', k1, k2, k3, k4⟩
          · rw [h] at e1; cases e1
          · rw [k4] at e1; cases e1; cases e2; omega
theorem pHoldAll (l1 : List Int) (h1 : l1.length ≤ maxLen) (hb1 : ∀ z ∈ l1, 0 ≤ z ∧ z < 256) (l2 : List Int) (h2 : l2.length ≤ maxLen) (hb2 : ∀ z ∈ l2, 0 ≤ z ∧ z < 256) (l3 : List Int) (h3 : l3.length ≤ maxLen) (hb3 : ∀ z ∈ l3, 0 ≤ z ∧ z < 256) (t : Int) (ht : (Lit.int .i64 t).wf = true) :
    pureI Try.prog prims dx tbl 3 [.list (l1.map fun z => [.int .u8 z]), .list (l2.map fun z => [.int .u8 z]), .list (l3.map fun z => [.int .u8 z]), .int .i64 t] = some (.bool true) := by
  rw [pureI_of (rfl : tbl 3 = some c3)]
  by_cases g1 : 80 < l1.length
  · simp [c3, qBegun10, show (80 : Int) < l1.length by omega]
  · by_cases g2 : 15 < l2.length
    · simp [c3, qBegun10, show ¬ (80 : Int) < l1.length by omega, show (15 : Int) < l2.length by omega]
    · by_cases g3 : 30 < l3.length
      · simp [c3, qBegun10, show ¬ (80 : Int) < l1.length by omega, show ¬ (15 : Int) < l2.length by omega, show (30 : Int) < l3.length by omega]
      · obtain ⟨l, hs, ol, el⟩ := pHeld l1 (u8s_of (by omega) hb1)
        have nl := held_len hs ol
        have m2 := vMade l2
        have m3 := vMade l3
        obtain ⟨v, i1, b1, hv, e1⟩ := vVersion l2 (u8s_of (by omega) hb2) 0 (Nat.zero_le _)
        obtain ⟨f, i2, b2, hf, e2⟩ := vFilter l3 (u8s_of (by omega) hb3) 3 3 0 rfl (by omega) (Nat.zero_le _)
        obtain ⟨x1, x2, x3, x4, x5, x6, hx⟩ := encF_eq f
        have hva : v.ats.length < 100000 := by have := hv.ats; omega
        have f1 := pFind l (by omega) hs ol.ats t
        have f2 := pRFind l (by omega) t
        have f3 : pureI Try.prog prims dx tbl 21 [.agg (encV (findV l t).1), .agg (encV (findV l t).1)] = some (.bool true) := by
          rw [find_look]
          cases hlk : lookV l t with
          | none => exact sameF_self zeroVer (by simp [zeroVer])
          | some x => exact sameF_self x (ol.ats x (look_some hlk).1)
        generalize (findV l t).1 = x at f1 f2 f3
        generalize (findV l t).2 = b at f1 f2
        have p1 := pPutV l (by omega) hs ol.ats v hva
        have p2 := pRPutV l (by omega) hs v
        have p3 := pSameAll (putV l v) (by
          have := held_len (l := putV l v) (putV_rise hs) (fun x hx => by
            rcases putV_mem hs hx with rfl | hx
            · exact hv
            · exact ol x hx)
          omega) (fun x hx => by
            rcases putV_mem hs hx with rfl | hx
            · exact hva
            · exact ol.ats x hx)
        generalize putV l v = pv at p1 p2 p3
        have w1 := pWithout l (by omega) ol.ats t
        have w2 := pRWithout l (by omega) t
        have w3 := pSameAll (l.filter fun v => decide (v.item ≠ t)) (by have := List.length_filter_le (fun v : Ver => decide (v.item ≠ t)) l; omega) (fun x hx => ol.ats x (List.mem_filter.1 hx).1)
        generalize (l.filter fun v => decide (v.item ≠ t)) = wo at w1 w2 w3
        have u1 := pWithout l (by omega) ol.ats 2
        have u2 := pRWithout l (by omega) 2
        have u3 := pSameAll (l.filter fun v => decide (v.item ≠ 2)) (by have := List.length_filter_le (fun v : Ver => decide (v.item ≠ 2)) l; omega) (fun x hx => ol.ats x (List.mem_filter.1 hx).1)
        generalize (l.filter fun v => decide (v.item ≠ 2)) = wu at u1 u2 u3
        have d1 := pHeadsV l (by omega)
        have d2 := pRHeadsV l (by omega)
        have d3 := pSame (l.map hdV) (l.map hdV) (by simp; omega) (by simp; omega)
        rw [decide_eq_true rfl] at d3
        generalize l.map hdV = hh at d1 d2 d3
        have n1 := pIn l (by omega) ol.ats f hf
        have n2 := pOut l (by omega) ol.ats f hf
        have n3 := pSameAll (l.filter fun v => lets f v.ats v.tag) (by have := List.length_filter_le (fun v : Ver => lets f v.ats v.tag) l; omega) (fun x hx => ol.ats x (List.mem_filter.1 hx).1)
        have n4 := pSameAll (l.filter fun v => !lets f v.ats v.tag) (by have := List.length_filter_le (fun v : Ver => !lets f v.ats v.tag) l; omega) (fun x hx => ol.ats x (List.mem_filter.1 hx).1)
        have hc : ∀ y ∈ l, pureI Try.prog prims dx tbl 30 [.agg [.int .i64 x1, .int .i64 x2, .int .i64 x3, .int .i64 x4, .str x5, .list x6], .agg [.int .i64 y.item, .int .i64 y.a, .int .i64 y.b, .int .i64 y.c, .bool y.dead, .list (y.ats.map encA), .str y.tag, .str y.body]] = some (.bool (lets f y.ats y.tag)) := fun y hy => by
          have := pLets y (by have := ol.ats y hy; omega) f hf
          rw [hx] at this
          exact this
        obtain ⟨d, e, L, c, T', hT2, hk, hT⟩ := loopIO l (by omega) (fun y => lets f y.ats y.tag) (true, [.fz (.list (l2.map fun z => [.int .u8 z])), .fz (.int .i64 i1)]) (true, [.fz (.list (l3.map fun z => [.int .u8 z])), .fz (.int .i64 i2)]) (true, [.fz (.int .i64 v.item), .fz (.int .i64 v.a), .fz (.int .i64 v.b), .fz (.int .i64 v.c), .fz (.bool v.dead), .fz (.list (v.ats.map encA)), .fz (.str v.tag), .fz (.str v.body)]) (true, [.fz (.int .i64 x.item), .fz (.int .i64 x.a), .fz (.int .i64 x.b), .fz (.int .i64 x.c), .fz (.bool x.dead), .fz (.list (x.ats.map encA)), .fz (.str x.tag), .fz (.str x.body)]) (true, [.fz (.int .i64 x.item), .fz (.int .i64 x.a), .fz (.int .i64 x.b), .fz (.int .i64 x.c), .fz (.bool x.dead), .fz (.list (x.ats.map encA)), .fz (.str x.tag), .fz (.str x.body)]) x1 x2 x3 x4 x5 x6 hc l 0 0 [] [] [] [] .nils .nils [] 0 rfl rfl (Nat.zero_le _) (Nat.le_refl _) (Nat.le_refl _) rfl rfl ⟨.inl ⟨rfl, rfl⟩, .inl ⟨rfl, rfl⟩, fun t s R Q h => by cases h⟩
        rw [List.nil_append, List.nil_append] at hT2
        generalize (l.filter fun v => lets f v.ats v.tag) = ri at n1 n3 hT2
        generalize (l.filter fun v => !lets f v.ats v.tag) = ro at n2 n4 hT2
        rw [hx] at n1 n2 e2
        simp only [encV] at e1 f1 f2 f3 p1 p2
        simp at e1 e2 hT
        rcases hT2 with ⟨⟨q1, rfl⟩ | ⟨t1, q1, q2, q3, rfl⟩, ⟨q4, rfl⟩ | ⟨t2, q4, q5, q6, rfl⟩, q7⟩
        · rw [q1] at n1 n3
          rw [q4] at n2 n4
          simp [c3, x_vars, varsOf, varsK, varsK_ite, finals, callVars, splitV, contents, updV, orC, qBegun10, show ¬ (80 : Int) < l1.length by omega, show ¬ (15 : Int) < l2.length by omega, show ¬ (30 : Int) < l3.length by omega, rHeld, callR, el, rMade, m2, m3, rVersion, e1, rFilter, e2, rFind, f1, rRFind, f2, rSameF, f3, rPutV, p1, rRPutV, p2, rSameAll, p3, rWithout, w1, rRWithout, w2, w3, rHeadsV, d1, rRHeadsV, d2, rSame, d3, hT, hk, rIn, n1, n3, rOut, n2, n4, u1, u2, u3]
        · have q8 : True := trivial
          rw [q1] at n1 n3
          simp [c3, x_vars, varsOf, varsK, varsK_ite, finals, callVars, splitV, contents, updV, orC, qBegun10, show ¬ (80 : Int) < l1.length by omega, show ¬ (15 : Int) < l2.length by omega, show ¬ (30 : Int) < l3.length by omega, rHeld, callR, el, rMade, m2, m3, rVersion, e1, rFilter, e2, rFind, f1, rRFind, f2, rSameF, f3, rPutV, p1, rRPutV, p2, rSameAll, p3, rWithout, w1, rRWithout, w2, w3, rHeadsV, d1, rRHeadsV, d2, rSame, d3, hT, hk, rIn, n1, n3, rOut, n2, n4, u1, u2, u3, q5]
        · rw [q4] at n2 n4
          simp [c3, x_vars, varsOf, varsK, varsK_ite, finals, callVars, splitV, contents, updV, orC, qBegun10, show ¬ (80 : Int) < l1.length by omega, show ¬ (15 : Int) < l2.length by omega, show ¬ (30 : Int) < l3.length by omega, rHeld, callR, el, rMade, m2, m3, rVersion, e1, rFilter, e2, rFind, f1, rRFind, f2, rSameF, f3, rPutV, p1, rRPutV, p2, rSameAll, p3, rWithout, w1, rRWithout, w2, w3, rHeadsV, d1, rRHeadsV, d2, rSame, d3, hT, hk, rIn, n1, n3, rOut, n2, n4, u1, u2, u3, q2]
        · have q8 := q7 _ _ _ _ rfl rfl
          have q9 : ¬ t2 = t1 := fun e => q8 e.symm
          simp [c3, x_vars, varsOf, varsK, varsK_ite, finals, callVars, splitV, contents, updV, orC, qBegun10, show ¬ (80 : Int) < l1.length by omega, show ¬ (15 : Int) < l2.length by omega, show ¬ (30 : Int) < l3.length by omega, rHeld, callR, el, rMade, m2, m3, rVersion, e1, rFilter, e2, rFind, f1, rRFind, f2, rSameF, f3, rPutV, p1, rRPutV, p2, rSameAll, p3, rWithout, w1, rRWithout, w2, w3, rHeadsV, d1, rRHeadsV, d2, rSame, d3, hT, hk, rIn, n1, n3, rOut, n2, n4, u1, u2, u3, q2, q5, q8, q9]
end Go.Proofs.Ytmbboljcgpccfaa.Pl
