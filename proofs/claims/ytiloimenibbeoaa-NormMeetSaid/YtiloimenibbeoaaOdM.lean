/-
  What is proved here: the boxes of a filter, as the document has them.
  Conditions: none.
-/
import Derived.Test.YtiloimenibbeoaaOcM
set_option linter.unusedVariables false
set_option linter.unusedSimpArgs false
set_option maxRecDepth 100000
set_option maxHeartbeats 8000000
namespace Go.Proofs.Ytiloimenibbeoaa.Pl
open Go Go.Proofs Go.Proofs.Ev Go.Proofs.Dv Cd
attribute [local simp] x_pure x_skip x_reg x_drw x_seq x_cond x_block x_frz x_loop' Tm.keep_nil x_exit x_ret k_seq k_seq_ret k_seq_exit k_seq_none k_seq_ite k_cond k_block k_block_ret k_block_exit k_block_none k_block_ite k_iter k_iter_ret k_iter_exit k_iter_none k_iter_ite k_reg k_reg_none k_reg_ite x_is_nil x_is x_is_g k_ins k_ins_none k_ins_ite k_grd x_ord_nil x_ord x_ord_g k_ord k_ord_none k_ord_ite k_ogrd k_out_ret k_out k_out_none k_out_ite k_pure k_pure_none k_pure_ite startD dI dA deo Tm.at Tm.dst Tm.set Tm.put Tm.keep dW dRes oneOfD mkTup mkAgg mkFn allF frL fr vD vD1 vF vFL dBin dEq dNil isNilD dScal F.cv eBin sameKind eInt eStr cellsD oneD F.one dFill putAtD chunk dbnd dSrc St.own St.drop St.still St.fresh chkQ stillQ freshQ lOf rdOf rdOK undefD F.full F.fullL List.mapIdx_cons strip allOne_nil allOne_cons allOne_append allLen_nil allLen_cons allLen_append roomOK_small filterT y_mv y_pick y_new y_box y_build y_bslice y_ld1 y_ldn y_nilchk y_bin y_not y_conv y_bytes y_string y_ifc y_fn y_cut y_cuts y_fa y_fld y_ia y_idx y_idxs y_ext y_len y_lenstr y_app y_grow y_mks y_slow y_call y_callv y_inv y_extc x_it_st x_it_clr x_it_cpy k_addT k_addT_none k_addT_ite k_orU k_orU_none dU D.turn turnL Tm.turn turnS St.turn turnRows_length

theorem pFew (X : List Box) : pureI Try.prog prims dx tbl 45 [.list (X.map encB)] = some (encO (fewB X)) := by
  rw [pureI_of (rfl : tbl 45 = some c45)]
  by_cases h : 16 < X.length
  · have h' : (16 : Int) < X.length := by omega
    simp [c45, h, h', fewB, encO]
  · have h' : ¬ (16 : Int) < X.length := by omega
    simp [c45, h, h', fewB, encO]
theorem rFew (ds : List D) (st : Dv.St) : callI Try.prog prims dx tbl 45 ds st = callR Try.prog prims dx tbl 45 ds st (frL (fr st 6) ds) := callRw rfl rfl (rfl : tbl 45 = some c45) rfl ds st
theorem rROf (ds : List D) (st : Dv.St) : callI Try.prog prims dx tbl 26 ds st = callR Try.prog prims dx tbl 26 ds st (frL (fr st 6) ds) := callRw rfl rfl (rfl : tbl 26 = some c26) rfl ds st
/-! ### Each of one row with each of another one -/
def PostQi (m l : List Box) (i : Int) (rows : List Box) (r : Option DSt) : Prop := ∃ (d : D) (L : List Nat) (c : Nat) (S : List (Bool × List D)) (T' : Tm), OwnB rows L d ∧ T'.keep [8, 10, 13, 14] = [(8, .fz (.list (l.map encB))), (10, .fz (.list (m.map encB))), (13, d), (14, .fz (.int .i64 i))] ∧ r = some (.exit 3, T', ⟨S, L, c⟩)
theorem loopQi (m l : List Box) (hm : m.length ≤ 20) (hn : ∀ b ∈ m, BOk b 100) (i : Nat) (hil : i < l.length) (a : Box) (hla : l[i] = a) (ha : BOk a 100) : ∀ (r : List Box) (j : Nat) (jz : Int) (rows : List Box) (d : D) (L : List Nat) (c : Nat) (S : List (Bool × List D)), jz = j → m.drop j = r → j ≤ m.length → OwnB rows L d → rows.length + r.length ≤ 5000 →
    PostQi m l i (rows ++ rowM a r) (iterI (dCw Try.prog (callI Try.prog prims dx tbl) l26_0) [8, 10, 13, 14, 15] [(8, .fz (.list (l.map encB))), (10, .fz (.list (m.map encB))), (13, d), (14, .fz (.int .i64 i)), (15, .fz (.int .i64 jz))] ⟨S, L, c⟩) := by
  intro r
  induction r with
  | nil =>
    intro j jz rows d L c S hz hd hj hw hr
    have hj' := drop_nil hd hj
    subst hj' hz
    rw [x_iter]
    simp [u26_0, rowM]
    exact ⟨d, L, c, S, _, hw, by simp [Tm.keep], rfl⟩
  | cons b r ih =>
    intro j jz rows d L c S hz hd hj hw hr
    subst hz
    obtain ⟨hlt, hli, hd'⟩ := drop_cons hd
    have hb := hn b (by rw [← hli]; exact List.getElem_mem hlt)
    have hp := pRMeet a b ha hb (Nat.le_refl _) (Nat.le_refl _)
    have c1 : -100000 ≤ (j : Int) + 1 ∧ (j : Int) + 1 ≤ 100000 := by omega
    have e : rowM a (b :: r) = (match meetB a b with | some x => [x] | none => []) ++ rowM a r := by
      simp only [rowM, List.filterMap_cons]
      cases meetB a b <;> rfl
    rw [List.length_cons] at hr
    rw [e]
    have goal := fun rows d L c S hw hr => ih (j + 1) ((j : Int) + 1) rows d L c S (by omega) hd' hlt hw hr
    cases hx : meetB a b with
    | none =>
      rw [hx] at hp
      simp only [encB, Option.getD_none, Option.isSome_none] at hp
      simp only [List.nil_append]
      rw [x_iter]
      simp [u26_0, hlt, hli, hil, hla, encB, g1a, g2a, g2b, s1a, s2b, mapI, mapI2, rRMeet, callR, hp, wz _ c1]
      exact goal _ _ _ _ _ hw (by omega)
    | some x =>
      rw [hx] at hp
      simp only [encB, Option.getD_some, Option.isSome_some] at hp
      have o1 := (encB_ok rows).1
      have r1 : roomOK 136 1 := roomOK_small (by omega) (by omega)
      have r2 : roomOK 136 (rows.length + 1) := roomOK_small (by omega) (by omega)
      rw [x_iter]
      rcases hw with ⟨rfl, rfl⟩ | ⟨t, ht, rfl⟩
      · simp [u26_0, hlt, hli, hil, hla, encB, g1a, g2a, g2b, s1a, s2b, mapI, mapI2, rRMeet, callR, hp, wz _ c1, r1]
        exact goal [x] _ _ _ _ (ownB_of (by simp [encB]) (by simp)) (by simp; omega)
      · simp [u26_0, hlt, hli, hil, hla, encB, g1a, g2a, g2b, s1a, s2b, mapI, mapI2, rRMeet, callR, hp, wz _ c1, ht, o1, r1, r2]
        rw [show rows ++ x :: rowM a r = (rows ++ [x]) ++ rowM a r by simp]
        exact goal (rows ++ [x]) _ _ _ _ (ownB_of (by simp [encB]) (by simp)) (by simp; omega)
def PostQo (rows : List Box) (r : Option DSt) : Prop := ∃ (d : D) (L : List Nat) (c : Nat) (S : List (Bool × List D)) (T' : Tm), OwnB rows L d ∧ T'.keep [13] = [(13, d)] ∧ r = some (.exit 1, T', ⟨S, L, c⟩)
theorem loopQo (m l : List Box) (hm : m.length ≤ 20) (hn : ∀ b ∈ m, BOk b 100) (hl : l.length ≤ 20) (hnl : ∀ b ∈ l, BOk b 100) : ∀ (r : List Box) (i : Nat) (iz : Int) (rows : List Box) (d : D) (L : List Nat) (c : Nat) (S : List (Bool × List D)), iz = i → l.drop i = r → i ≤ l.length → OwnB rows L d → rows.length ≤ 20 * i →
    PostQo (rows ++ meetsB r m) (iterI (dCw Try.prog (callI Try.prog prims dx tbl) l26_1) [8, 10, 13, 14] [(8, .fz (.list (l.map encB))), (10, .fz (.list (m.map encB))), (13, d), (14, .fz (.int .i64 iz))] ⟨S, L, c⟩) := by
  intro r
  induction r with
  | nil =>
    intro i iz rows d L c S hz hd hi hw hr
    have hi' := drop_nil hd hi
    subst hi' hz
    rw [x_iter]
    simp [u26_1, meetsB]
    exact ⟨d, L, c, S, _, hw, by simp [Tm.keep], rfl⟩
  | cons a r ih =>
    intro i iz rows d L c S hz hd hi hw hr
    subst hz
    obtain ⟨hlt, hli, hd'⟩ := drop_cons hd
    have ha := hnl a (by rw [← hli]; exact List.getElem_mem hlt)
    have c1 : -100000 ≤ (i : Int) + 1 ∧ (i : Int) + 1 ≤ 100000 := by omega
    have hlM := rowM_len a m
    have e : meetsB (a :: r) m = rowM a m ++ meetsB r m := by simp [meetsB]
    rw [e]
    obtain ⟨d1, L1, c1', S1, T1, hw1, k1, j1⟩ := loopQi m l hm hn i hlt a hli ha m 0 0 rows d L c S rfl rfl (Nat.zero_le _) hw (by omega)
    have goal := ih (i + 1) ((i : Int) + 1) (rows ++ rowM a m) d1 L1 c1' S1 (by omega) hd' hlt hw1 (by rw [List.length_append]; omega)
    rw [List.append_assoc] at goal
    rw [x_iter]
    simp [u26_1, hlt, j1, k1, wz _ c1]
    exact goal
/-! ### A filter's boxes -/
theorem twoRefNone (op : Int) (a b : Flt) (t : Bool) (hop : op = 5 ∨ op = 6) (ra rb : Option (List Box)) (ha : pureI Try.prog prims dx tbl 26 [.agg (encF a), .bool t] = some (encO ra)) (hb : pureI Try.prog prims dx tbl 26 [.agg (encF b), .bool t] = some (encO rb)) (h : ra = none ∨ rb = none) :
    pureI Try.prog prims dx tbl 26 [.agg (encF (.two op a b)), .bool t] = some (encO none) := by
  rw [pureI_of (rfl : tbl 26 = some c26)]
  simp only [encO] at ha hb
  rcases h with rfl | rfl
  · simp only [Option.getD_none, Option.isSome_none] at ha
    generalize rb.isSome = q at *
    generalize rb.getD [] = m at *
    rcases hop with rfl | rfl <;> cases t <;> cases q <;> simp [c26, encF, encO, encF_len, encF_take, rROf, callR, ha, hb]
  · simp only [Option.getD_none, Option.isSome_none] at hb
    generalize ra.isSome = q at *
    generalize ra.getD [] = m at *
    rcases hop with rfl | rfl <;> cases t <;> cases q <;> simp [c26, encF, encO, encF_len, encF_take, rROf, callR, ha, hb]
theorem twoRef (op : Int) (a b : Flt) (t : Bool) (hop : op = 5 ∨ op = 6) (l m : List Box) (ha : pureI Try.prog prims dx tbl 26 [.agg (encF a), .bool t] = some (encO (some l))) (hb : pureI Try.prog prims dx tbl 26 [.agg (encF b), .bool t] = some (encO (some m))) (hl : l.length ≤ 16) (hm : m.length ≤ 16) (hnl : ∀ b ∈ l, BOk b 100) (hn : ∀ b ∈ m, BOk b 100) :
    pureI Try.prog prims dx tbl 26 [.agg (encF (.two op a b)), .bool t] = some (encO (fewB (if decide (op = 6) = t then meetsB l m else l ++ m))) := by
  rw [pureI_of (rfl : tbl 26 = some c26)]
  have f1 := pFew (l ++ m)
  have f2 := pFew (meetsB l m)
  obtain ⟨d, L, c, S, T', hw, k1, j1⟩ := loopQo m l (by omega) hn (by omega) hnl l 0 0 [] .nils [] 0 [varF (.two op a b), (true, [.fz (.int .i64 0), .fz (.int .i64 0), .fz (.int .i64 0), .fz (.int .i64 0), .fz (.int .i64 0), .fz (.int .i64 0), .fz (.int .i64 0), .fz (.int .i64 0), .fz (.int .i64 0), .fz (.int .i64 0), .fz (.int .i64 0), .fz (.int .i64 0), .fz (.str []), .nils])] rfl rfl (Nat.zero_le _) (.inl ⟨rfl, rfl⟩) (Nat.zero_le _)
  rw [List.nil_append] at hw
  simp only [encO, Option.getD_some, Option.isSome_some] at ha hb
  have r1 : roomOK 136 l.length := roomOK_small (by omega) (by omega)
  have r2 : roomOK 136 (l.length + m.length) := roomOK_small (by omega) (by omega)
  obtain ⟨o1, o2⟩ := encB_ok l
  obtain ⟨o3, o4⟩ := encB_ok m
  rw [List.map_append] at f1
  simp only [varF, encF, List.map_cons, List.map_nil] at j1
  by_cases hj : decide (op = 6) = t
  · rw [if_pos hj]
    generalize meetsB l m = X at *
    simp only [encO] at f2 ⊢
    generalize fewB X = Y at *
    rcases hw with ⟨h0, rfl⟩ | ⟨tk, ht, rfl⟩
    · subst h0
      simp only [List.map_nil] at f2
      rcases hop with rfl | rfl <;> simp at hj <;> subst hj <;> simp [c26, encF, encF_len, encF_take, rROf, callR, ha, hb, j1, k1, rFew, f2]
    · rcases hop with rfl | rfl <;> simp at hj <;> subst hj <;> simp [c26, encF, encF_len, encF_take, rROf, callR, ha, hb, j1, k1, rFew, f2, ht]
  · rw [if_neg hj]
    simp only [encO] at f1 ⊢
    generalize fewB (l ++ m) = Y at *
    have la : (l.map encB).length = l.length := List.length_map _
    have lb : (m.map encB).length = m.length := List.length_map _
    generalize l.map encB = A at *
    generalize m.map encB = B at *
    rw [← la] at r1 r2
    rw [← lb] at r2
    clear j1 k1 hw
    rcases hop with rfl | rfl <;> cases t <;> simp at hj <;> simp [c26, encF, encF_len, encF_take, rROf, callR, ha, hb, rFew, f1, o1, o2, o3, o4, r1, r2]
theorem pROf : ∀ (f : Flt), f.ok → leaves f ≤ 100 → ∀ t, pureI Try.prog prims dx tbl 26 [.agg (encF f), .bool t] = some (encO (ofB f t))
  | .leaf op k lo hi ft, hf, hn, t => by
    rw [pureI_of (rfl : tbl 26 = some c26)]
    rcases hf with ⟨rfl, rfl, rfl, rfl, rfl⟩ | ⟨rfl, k1, k2, l1, l2, rfl, rfl⟩ | ⟨rfl, k1, k2, l1, l2, l3, rfl⟩ | ⟨rfl, rfl, rfl, rfl, hft⟩
    · cases t <;> simp [c26, encF, encO, ofB, encB, box0, side0]
    · have r1 : roomOK 136 1 := roomOK_small (by omega) (by omega)
      have r2 : roomOK 136 2 := roomOK_small (by omega) (by omega)
      have r3 : roomOK 136 3 := roomOK_small (by omega) (by omega)
      have c1 : -100000 ≤ hi - 1 ∧ hi - 1 ≤ 100000 := by omega
      have c2 : -100000 ≤ hi + 1 ∧ hi + 1 ≤ 100000 := by omega
      cases t
      · rcases (show k = 0 ∨ k = 1 ∨ k = 2 ∨ k = 3 by omega) with rfl | rfl | rfl | rfl <;> simp [c26, encF, encO, ofB, encB, box0, side0, putB]
      · by_cases h1 : 0 < hi <;> by_cases h2 : hi < 99 <;> rcases (show k = 0 ∨ k = 1 ∨ k = 2 ∨ k = 3 by omega) with rfl | rfl | rfl | rfl <;> simp [c26, encF, encO, ofB, encB, box0, side0, putB, apartB, h1, h2, r1, r2, r3, wz _ c1, wz _ c2]
    · have r1 : roomOK 136 1 := roomOK_small (by omega) (by omega)
      have r2 : roomOK 136 2 := roomOK_small (by omega) (by omega)
      have r3 : roomOK 136 3 := roomOK_small (by omega) (by omega)
      have c1 : -100000 ≤ lo - 1 ∧ lo - 1 ≤ 100000 := by omega
      have c2 : -100000 ≤ hi + 1 ∧ hi + 1 ≤ 100000 := by omega
      cases t
      · rcases (show k = 0 ∨ k = 1 ∨ k = 2 ∨ k = 3 by omega) with rfl | rfl | rfl | rfl <;> simp [c26, encF, encO, ofB, encB, box0, side0, putB]
      · by_cases h1 : 0 < lo <;> by_cases h2 : hi < 99 <;> rcases (show k = 0 ∨ k = 1 ∨ k = 2 ∨ k = 3 by omega) with rfl | rfl | rfl | rfl <;> simp [c26, encF, encO, ofB, encB, box0, side0, putB, apartB, h1, h2, r1, r2, r3, wz _ c1, wz _ c2]
    · cases t
      · simp [c26, encF, encO, ofB, encB, box0, side0]
      · simp [c26, x_mid, k_mid1, k_mid2, encF, encO, ofB, encB, box0, side0, encT]
  | .not a, hf, hn, t => by
    have ih := pROf a hf hn (!t)
    rw [pureI_of (rfl : tbl 26 = some c26)]
    simp only [ofB, encO] at ih ⊢
    generalize ofB a (!t) = X at *
    simp [c26, encF, rROf, callR, ih, encF_len, encF_take]
  | .two op a b, hf, hn, t => by
    obtain ⟨hop, ha, hb⟩ := hf
    simp only [leaves] at hn
    have iha := pROf a ha (by omega) t
    have ihb := pROf b hb (by omega) t
    simp only [ofB]
    cases h1 : ofB a t with
    | none =>
      rw [h1] at iha
      exact twoRefNone op a b t hop _ _ iha ihb (.inl rfl)
    | some l =>
      rw [h1] at iha
      cases h2 : ofB b t with
      | none =>
        rw [h2] at ihb
        exact twoRefNone op a b t hop _ _ iha ihb (.inr rfl)
      | some m =>
        rw [h2] at ihb
        obtain ⟨s1, s2, _⟩ := of_sem [] (fun a ha => by cases ha) [] a ha t l h1
        obtain ⟨s3, s4, _⟩ := of_sem [] (fun a ha => by cases ha) [] b hb t m h2
        exact twoRef op a b t hop l m iha ihb s2 s4 (fun x hx => (s1 x hx).mono (by omega)) (fun x hx => (s3 x hx).mono (by omega))
theorem pROF (f : Flt) (hf : f.ok) (hn : leaves f ≤ 100) : pureI Try.prog prims dx tbl 13 [.agg (encF f)] = some (encO (ofB f false)) := by
  rw [pureI_of (rfl : tbl 13 = some c13)]
  have q := pROf f hf hn false
  obtain ⟨x1, x2, x3, x4, x5, x6, hx⟩ := encF_eq f
  rw [hx] at q ⊢
  simp only [encO] at q ⊢
  generalize ofB f false = X at *
  simp [c13, rROf, callR, q]
theorem rROF (ds : List D) (st : Dv.St) : callI Try.prog prims dx tbl 13 ds st = callR Try.prog prims dx tbl 13 ds st (frL (fr st 6) ds) := callRw rfl rfl (rfl : tbl 13 = some c13) rfl ds st
end Go.Proofs.Ytiloimenibbeoaa.Pl
