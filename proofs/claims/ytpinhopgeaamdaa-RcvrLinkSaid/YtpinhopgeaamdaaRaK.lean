/-
  What is proved here: what came with another piece, in the document's own words: the contract; both compared.
  Conditions: none.
-/
import Derived.Test.YtpinhopgeaamdaaRzK
import Derived.Test.YtpinhopgeaamdaaEgK
set_option linter.unusedVariables false
set_option linter.unusedSimpArgs false
set_option maxRecDepth 100000
set_option maxHeartbeats 8000000
namespace Go.Proofs.Ytpinhopgeaamdaa.Pl
open Go Go.Proofs Go.Proofs.Ev Go.Proofs.Dv Cd
attribute [local simp] x_pure x_skip x_reg x_drw x_seq x_cond x_block x_loop' Tm.keep_nil x_exit x_ret k_seq k_seq_ret k_seq_exit k_seq_none k_seq_ite k_cond k_block k_block_ret k_block_exit k_block_none k_block_ite k_iter k_iter_ret k_iter_exit k_iter_none k_iter_ite k_reg k_reg_none k_reg_ite x_is_nil x_is x_is_g k_ins k_ins_none k_ins_ite k_grd x_ord_nil x_ord x_ord_g k_ord k_ord_none k_ord_ite k_ogrd k_out_ret k_out k_out_none k_out_ite k_pure k_pure_none k_pure_ite startD dI dA deo Tm.at Tm.dst Tm.set Tm.put Tm.keep dW dRes oneOfD mkTup mkAgg mkFn allF frL fr vD vD1 vF vFL dBin dEq dNil isNilD dScal F.cv eBin sameKind eInt eStr cellsD oneD F.one dFill putAtD chunk dbnd dSrc St.own St.drop St.still St.fresh chkQ stillQ freshQ lOf rdOf rdOK undefD F.full F.fullL List.mapIdx_cons strip allOne_nil allOne_cons allOne_append allLen_nil allLen_cons allLen_append roomOK_small filterT y_mv y_pick y_new y_box y_build y_bslice y_ld1 y_ldn y_nilchk y_bin y_not y_conv y_bytes y_string y_ifc y_fn y_cut y_cuts y_fa y_fld y_ia y_idx y_idxs y_ext y_len y_lenstr y_app y_grow y_mks y_slow y_call y_callv y_inv y_extc x_it_st x_it_clr x_it_cpy k_addT k_addT_none k_addT_ite k_orU k_orU_none dU D.turn turnL Tm.turn turnS St.turn turnRows_length

/-- What came, as it may be behind so many pieces. -/
structure ROk (r : Rv) (n : Nat) : Prop where
  k : KOk r.k
  up : r.k.up ≤ n
  four : ∀ m ∈ r.k.more, m ≤ r.k.up + 4
  nums : r.l.map Sg.num = r.k.more
theorem ROk.rise {r : Rv} {n : Nat} (h : ROk r n) : Rise Sg.num r.l := by
  have := h.k.rise
  rw [← h.nums] at this
  unfold Rise at this ⊢
  rw [List.pairwise_map] at this
  exact this
theorem rise_len : ∀ {l : List Int} {a b : Int}, Rise idI l → (∀ x ∈ l, a < x ∧ x ≤ b) → a ≤ b → (l.length : Int) ≤ b - a
  | [], a, b, _, _, h => by simp; omega
  | x :: r, a, b, hs, h, hab => by
    obtain ⟨h1, h2⟩ := List.pairwise_cons.1 hs
    have h1 : ∀ z ∈ r, x < z := h1
    have hx := h x (by simp)
    have := rise_len (a := x) (b := b) h2 (fun z hz => ⟨h1 z hz, (h z (by simp [hz])).2⟩) hx.2
    simp only [List.length_cons]
    omega
theorem ROk.len {r : Rv} {n : Nat} (h : ROk r n) : r.k.more.length ≤ 4 ∧ r.l.length ≤ 4 := by
  have h1 := rise_len (a := r.k.up) (b := r.k.up + 4) h.k.rise (fun x hx => ⟨by have := h.k.more x hx; omega, h.four x hx⟩) (by omega)
  have h2 : r.l.length = r.k.more.length := by rw [← h.nums]; simp
  omega
theorem ROk.rv {r : Rv} {n : Nat} (h : ROk r n) (hn : n ≤ 800000) : r.ok := by
  have hl := h.len
  have hu := h.up
  exact ⟨h.k.up, by omega, fun m hm => by have := h.four m hm; omega, by omega, h.k.rise, by omega, h.rise⟩
theorem ROk.fresh {r : Rv} {n : Nat} (h : ROk r n) {s : Sg} (hh : hasK r.k s.num = false) : ∀ x ∈ r.l, x.num ≠ s.num := by
  intro x hx e
  have : x.num ∈ r.k.more := by rw [← h.nums]; exact List.mem_map.2 ⟨x, hx, rfl⟩
  rw [e] at this
  simp [hasK, this] at hh
theorem insG_nums {l : List Sg} {s : Sg} {k : List Int} (h : l.map Sg.num = k) : (insG l s).map Sg.num = insI k s.num := by
  have hc : ∀ (l : List Sg), cntK Sg.num s.num l = cntK idI s.num (l.map Sg.num) := by
    intro l
    induction l with
    | nil => rfl
    | cons x r ih =>
      simp only [cntK, List.map_cons, idI, ih]
      rfl
  subst h
  unfold insG insI
  rw [← hc, List.map_append, List.map_cons, List.map_take, List.map_drop]
theorem insG_mem {l : List Sg} {s x : Sg} (h : x ∈ insG l s) : x = s ∨ x ∈ l := by
  simp only [insG, List.mem_append, List.mem_cons] at h
  rcases h with h | h | h
  · exact .inr (List.mem_of_mem_take h)
  · exact .inl h
  · exact .inr (List.mem_of_mem_drop h)
theorem insG_len (l : List Sg) (s : Sg) : (insG l s).length = l.length + 1 := by
  have := cntK_le Sg.num s.num l
  simp [insG]
  omega
/-- Behind another piece. -/
theorem ROk.comes {r : Rv} {n : Nat} (h : ROk r n) (hn : n ≤ 800000) (s : Sg) : ROk (comesR r s).1 (n + 4) := by
  unfold comesR
  split
  · exact ⟨h.k, by have := h.up; show r.k.up ≤ ((n + 4 : Nat) : Int); omega, h.four, h.nums⟩
  · rename_i hc
    simp only [not_or, Bool.not_eq_true] at hc
    obtain ⟨h1, h2, h3⟩ := hc
    have hu := h.up
    have hu0 := h.k.up
    have hfr := h.fresh h1
    have hbig : s.num ≤ 1000000 := by omega
    have hi := add_is h.k (n := s.num) (by omega) hbig
    have hok := add_ok h.k (n := s.num) (by omega) hbig
    have hall : ∀ x ∈ r.k.more ++ [s.num], x ≤ r.k.up + 4 := fun x hx => by
      rcases List.mem_append.1 hx with hx | hx
      · exact h.four x hx
      · simp at hx; omega
    have hup4 : (addK r.k s.num).up ≤ r.k.up + 4 := by
      by_cases he : (addK r.k s.num).up = r.k.up
      · omega
      · have := hi.top.1
        exact hall _ (hi.top.2.1 _ (by omega) (Int.le_refl _))
    refine ⟨hok, by show (addK r.k s.num).up ≤ ((n + 4 : Nat) : Int); omega, fun m hm => ?_, ?_⟩
    · have := hall m ((hi.mem m).1 hm).1
      have := hi.top.1
      show m ≤ (addK r.k s.num).up + 4
      omega
    · show (runU (addK r.k s.num).up (insG r.l s)).2.map Sg.num = (addK r.k s.num).more
      have hr := insG_rise h.rise hfr
      rw [run_filter _ hr]
      have hnums := insG_nums (s := s) h.nums
      refine rise_ext ?_ hok.rise fun x => ?_
      · have h5 : Rise Sg.num ((insG r.l s).filter fun x => !decide (x.num ≤ (addK r.k s.num).up)) := List.Pairwise.filter _ hr
        unfold Rise at h5 ⊢
        rw [List.pairwise_map]
        exact h5
      · rw [hi.mem]
        constructor
        · intro hx
          obtain ⟨y, hy, rfl⟩ := List.mem_map.1 hx
          obtain ⟨y1, y2⟩ := List.mem_filter.1 hy
          have : y.num ∈ insI r.k.more s.num := by rw [← hnums]; exact List.mem_map.2 ⟨y, y1, rfl⟩
          rw [insI_iff] at this
          simp at y2
          refine ⟨?_, y2⟩
          rcases this with e | e
          · simp [e]
          · simp [e]
        · rintro ⟨x1, x2⟩
          have : x ∈ insI r.k.more s.num := by
            rw [insI_iff]
            rcases List.mem_append.1 x1 with e | e
            · exact .inr e
            · simp at e; exact .inl e
          rw [← hnums] at this
          obtain ⟨y, hy, rfl⟩ := List.mem_map.1 this
          exact List.mem_map.2 ⟨y, List.mem_filter.2 ⟨hy, by simp; omega⟩, rfl⟩
theorem pRComes (r : Rv) (n : Nat) (hn : n ≤ 700000) (h : ROk r n) (s : Sg) : pureI Try.prog prims dx tbl 34 [.agg (encR r), .agg (encG s)] = some (.tup [.agg (encR (comesR r s).1), .list ((comesR r s).2.map encT)]) := by
  have hu := h.up
  have hu0 := h.k.up
  obtain ⟨hl1, hl2⟩ := h.len
  have hh := pHasNum r.k (by omega) s.num
  rw [pureI_of (rfl : tbl 34 = some c34)]
  have w4 : wrapF .i64 (r.k.up + 4) = r.k.up + 4 := wrap_id _ (by omega) (by omega)
  cases a1 : hasK r.k s.num with
  | true =>
    rw [a1] at hh
    simp [encK] at hh
    simp [c34, encR, encG, comesR, a1, rHasNum, callR, hh]
  | false =>
    rw [a1] at hh
    simp [encK] at hh
    by_cases a2 : s.num < 1
    · simp [c34, encR, encG, comesR, a1, a2, rHasNum, callR, hh]
    · by_cases a3 : r.k.up + 4 < s.num
      · simp [c34, encR, encG, comesR, a1, a2, a3, w4, rHasNum, callR, hh]
      · have hfr := h.fresh a1
        have hrise := h.rise
        have hins := insG_rise hrise hfr
        have hnums := insG_nums (s := s) h.nums
        have hilen := insG_len r.l s
        have ha := pAddNum r.k h.k (by omega) (by omega) (fun x hx => by have := h.four x hx; omega) s.num (by omega) (by omega)
        have hcm : comesR r s = (⟨addK r.k s.num, (runU (addK r.k s.num).up (insG r.l s)).2⟩, (runU (addK r.k s.num).up (insG r.l s)).1) := by simp [comesR, a1, a2, a3]
        have hab : ∀ x ∈ insG r.l s, r.k.up < x.num := by
          intro x hx
          rcases insG_mem hx with rfl | hx
          · have := a1
            simp [hasK] at this
            have := this.1 (by omega)
            omega
          · have : x.num ∈ r.k.more := by rw [← h.nums]; exact List.mem_map.2 ⟨x, hx, rfl⟩
            have := h.k.more _ this
            omega
        rw [hcm, run_filter _ hins]
        have hf1 : ((insG r.l s).filter fun x => decide (x.num ≤ (addK r.k s.num).up)) = (insG r.l s).filter fun x => decide (r.k.up < x.num ∧ x.num ≤ (addK r.k s.num).up) := List.filter_congr fun x hx => by simp [hab x hx]
        have hf2 : ((insG r.l s).filter fun x => !decide (x.num ≤ (addK r.k s.num).up)) = (insG r.l s).filter fun x => !decide (r.k.up < x.num ∧ x.num ≤ (addK r.k s.num).up) := List.filter_congr fun x hx => by simp [hab x hx]
        rw [hf1, hf2]
        generalize addK r.k s.num = k' at ha ⊢
        obtain ⟨rows, put, t, L, c, T1, t1, t2, t3, t4, t5, t6⟩ := loopR0 r.l (by omega) s r.k.up (.fz (.int .i64 r.k.up)) (.fz (.list (r.k.more.map encI))) (true, [.fz (.int .i64 0), .nils, .nils]) (true, [.fz (.int .i64 k'.up), .fz (.list (k'.more.map encI)), .nils]) r.l 0 0 [] [] false 0 [0] 1 rfl rfl (Nat.zero_le _) rfl (by simp) (by omega) (by simp)
        rw [List.nil_append, goG_ins s hrise hfr] at t4
        simp only [encK] at ha
        have o1 := (encG_ok rows).1
        have r1 : roomOK 24 (rows.length + 1) := roomOK_small (by omega) (by omega)
        cases put with
        | true =>
          simp at t4
          subst t4
          obtain ⟨d, e, L2, c2, T2, hU, k2, hT2⟩ := loopR1 (insG r.l s) (by omega) r.k.up k'.up (true, [.fz (.int .i64 r.k.up), .fz (.list (r.k.more.map encI)), .fz (.list (r.l.map encG))]) (true, [.fz (.int .i64 s.num), .fz (.str s.b)]) (true, [.fz (.int .i64 0), .nils, .nils]) (.fz (.list (k'.more.map encI))) t (insG r.l s) 0 0 [] [] [] [] .nils .nils L c rfl rfl (Nat.zero_le _) (Nat.zero_le _) (Nat.zero_le _) rfl rfl t1 t2 ⟨.inl ⟨rfl, rfl⟩, .inl ⟨rfl, rfl⟩, fun t1 t2 R Q h => by cases h⟩
          rw [List.nil_append, List.nil_append] at hU
          generalize (((insG r.l s).filter fun x => decide (r.k.up < x.num ∧ x.num ≤ k'.up)).map Sg.b) = X at hU ⊢
          generalize ((insG r.l s).filter fun x => !decide (r.k.up < x.num ∧ x.num ≤ k'.up)) = Y at hU ⊢
          rcases hU with ⟨⟨q1, rfl⟩ | ⟨u1, q1, q2, q3, q4, rfl⟩, ⟨p1, rfl⟩ | ⟨u2, p1, p2, p3, p4, rfl⟩, hne⟩
          · simp [c34, encR, encG, a1, a2, a3, w4, rHasNum, callR, hh, rAddNum, ha, t5, t6, k2, hT2, q1, p1]
          · simp [c34, encR, encG, a1, a2, a3, w4, rHasNum, callR, hh, rAddNum, ha, t5, t6, k2, hT2, q1, p2]
          · simp [c34, encR, encG, a1, a2, a3, w4, rHasNum, callR, hh, rAddNum, ha, t5, t6, k2, hT2, q2, p1]
          · have g1 := hne _ _ _ _ rfl rfl
            have g2 : ¬ u2 = u1 := fun e => g1 e.symm
            simp [c34, encR, encG, a1, a2, a3, w4, rHasNum, callR, hh, rAddNum, ha, t5, t6, k2, hT2, q2, p2, g1, g2]
        | false =>
          have t4' : rows ++ [s] = insG r.l s := by simpa using t4
          obtain ⟨d, e, L2, c2, T2, hU, k2, hT2⟩ := loopR1 (insG r.l s) (by omega) r.k.up k'.up (true, [.fz (.int .i64 r.k.up), .fz (.list (r.k.more.map encI)), .fz (.list (r.l.map encG))]) (true, [.fz (.int .i64 s.num), .fz (.str s.b)]) (true, [.fz (.int .i64 0), .nils, .nils]) (.fz (.list (k'.more.map encI))) (c + 1) (insG r.l s) 0 0 [] [] [] [] .nils .nils ((c + 1) :: List.filter (fun q => !decide (q = t)) (c :: L)) (c + 1 + 1) rfl rfl (Nat.zero_le _) (Nat.zero_le _) (Nat.zero_le _) rfl rfl (by simp) (by omega) ⟨.inl ⟨rfl, rfl⟩, .inl ⟨rfl, rfl⟩, fun t1 t2 R Q h => by cases h⟩
          rw [List.nil_append, List.nil_append] at hU
          generalize hX : (((insG r.l s).filter fun x => decide (r.k.up < x.num ∧ x.num ≤ k'.up)).map Sg.b) = X at hU ⊢
          generalize hY : ((insG r.l s).filter fun x => !decide (r.k.up < x.num ∧ x.num ≤ k'.up)) = Y at hU ⊢
          rw [← t4'] at hT2
          simp [encG] at hT2
          rcases hU with ⟨⟨q1, rfl⟩ | ⟨u1, q1, q2, q3, q4, rfl⟩, ⟨p1, rfl⟩ | ⟨u2, p1, p2, p3, p4, rfl⟩, hne⟩
          · simp [c34, encR, encG, a1, a2, a3, w4, rHasNum, callR, hh, rAddNum, ha, t1, t5, t6, o1, r1, k2, hT2, q1, p1]
          · simp [c34, encR, encG, a1, a2, a3, w4, rHasNum, callR, hh, rAddNum, ha, t1, t5, t6, o1, r1, k2, hT2, q1, p2]
          · simp [c34, encR, encG, a1, a2, a3, w4, rHasNum, callR, hh, rAddNum, ha, t1, t5, t6, o1, r1, k2, hT2, q2, p1]
          · have g1 := hne _ _ _ _ rfl rfl
            have g2 : ¬ u2 = u1 := fun e => g1 e.symm
            simp [c34, encR, encG, a1, a2, a3, w4, rHasNum, callR, hh, rAddNum, ha, t1, t5, t6, o1, r1, k2, hT2, q2, p2, g1, g2]
theorem rRComes (ds : List D) (st : Dv.St) : callI Try.prog prims dx tbl 34 ds st = callR Try.prog prims dx tbl 34 ds st (frL (fr st 6) ds) := callRw rfl rfl (rfl : tbl 34 = some c34) rfl ds st
end Go.Proofs.Ytpinhopgeaamdaa.Pl
