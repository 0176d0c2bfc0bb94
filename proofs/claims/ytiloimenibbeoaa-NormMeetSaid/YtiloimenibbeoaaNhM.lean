/-
  What is proved here: the boxes of a filter.
  Conditions: none.
-/
import Derived.Test.YtiloimenibbeoaaNsM
set_option linter.unusedVariables false
set_option linter.unusedSimpArgs false
set_option maxRecDepth 100000
set_option maxHeartbeats 8000000
namespace Go.Proofs.Ytiloimenibbeoaa.Pl
open Go Go.Proofs Go.Proofs.Ev Go.Proofs.Dv Cd
attribute [local simp] x_pure x_skip x_reg x_drw x_seq x_cond x_block x_frz x_loop' Tm.keep_nil x_exit x_ret k_seq k_seq_ret k_seq_exit k_seq_none k_seq_ite k_cond k_block k_block_ret k_block_exit k_block_none k_block_ite k_iter k_iter_ret k_iter_exit k_iter_none k_iter_ite k_reg k_reg_none k_reg_ite x_is_nil x_is x_is_g k_ins k_ins_none k_ins_ite k_grd x_ord_nil x_ord x_ord_g k_ord k_ord_none k_ord_ite k_ogrd k_out_ret k_out k_out_none k_out_ite k_pure k_pure_none k_pure_ite startD dI dA deo Tm.at Tm.dst Tm.set Tm.put Tm.keep dW dRes oneOfD mkTup mkAgg mkFn allF frL fr vD vD1 vF vFL dBin dEq dNil isNilD dScal F.cv eBin sameKind eInt eStr cellsD oneD F.one dFill putAtD chunk dbnd dSrc St.own St.drop St.still St.fresh chkQ stillQ freshQ lOf rdOf rdOK undefD F.full F.fullL List.mapIdx_cons strip allOne_nil allOne_cons allOne_append allLen_nil allLen_cons allLen_append roomOK_small filterT y_mv y_pick y_new y_box y_build y_bslice y_ld1 y_ldn y_nilchk y_bin y_not y_conv y_bytes y_string y_ifc y_fn y_cut y_cuts y_fa y_fld y_ia y_idx y_idxs y_ext y_len y_lenstr y_app y_grow y_mks y_slow y_call y_callv y_inv y_extc x_it_st x_it_clr x_it_cpy k_addT k_addT_none k_addT_ite k_orU k_orU_none dU D.turn turnL Tm.turn turnS St.turn turnRows_length

def encO (r : Option (List Box)) : F := .tup [.list ((r.getD []).map encB), .bool r.isSome]
def varF (f : Flt) : Bool × List D := (true, (encF f).map .fz)
theorem rOf (ds : List D) (st : Dv.St) : callI Try.prog prims dx tbl 25 ds st = callR Try.prog prims dx tbl 25 ds st (frL (fr st 6) ds) := callRw rfl rfl (rfl : tbl 25 = some c25) rfl ds st
theorem rRow (ds : List D) (st : Dv.St) : callI Try.prog prims dx tbl 44 ds st = callR Try.prog prims dx tbl 44 ds st (frL (fr st 6) ds) := callRw rfl rfl (rfl : tbl 44 = some c44) rfl ds st
theorem rTwo (ds : List D) (st : Dv.St) : callI Try.prog prims dx tbl 58 ds st = callR Try.prog prims dx tbl 58 ds st (frL (fr st 6) ds) := callRw rfl rfl (rfl : tbl 58 = some c58) rfl ds st
/-! ### Two -/
theorem round2t0 (op : Int) (a b : Flt) (j t : Bool) (l : List Box) (ha : pureI Try.prog prims dx tbl 25 [.agg (encF a), .bool t] = some (encO (some l))) :
    iterI (dCw Try.prog (callI Try.prog prims dx tbl) l58_0) [1, 2, 3, 8, 12] [(1, .fz (.bool j)), (2, .fz (.bool t)), (3, .ptr 0 0), (8, .ptr 1 0), (12, .fz (.int .i64 0))] ⟨[varF (.two op a b), (true, [.nils, .nils])], [], 0⟩ = iterI (dCw Try.prog (callI Try.prog prims dx tbl) l58_0) [1, 2, 3, 8, 12] [(1, .fz (.bool j)), (2, .fz (.bool t)), (3, .ptr 0 0), (8, .ptr 1 0), (12, .fz (.int .i64 1))] ⟨[varF (.two op a b), (true, [.fz (.list (l.map encB)), .nils])], [], 0⟩ := by
  have w1 : wrapF .i64 1 = 1 := by decide +kernel
  simp only [encO, Option.getD_some, Option.isSome_some] at ha
  simp only [varF, encF, List.map_cons, List.map_nil]
  rw [x_iter]
  simp [u58_0, rOf, callR, ha, encF_len, encF_take, w1]
theorem round2f0 (op : Int) (a b : Flt) (j t : Bool) (ha : pureI Try.prog prims dx tbl 25 [.agg (encF a), .bool t] = some (encO none)) :
    ∃ (T' : Tm) (st' : Dv.St), T'.at 6 = .nils ∧ T'.at 7 = .fz (.bool false) ∧ iterI (dCw Try.prog (callI Try.prog prims dx tbl) l58_0) [1, 2, 3, 8, 12] [(1, .fz (.bool j)), (2, .fz (.bool t)), (3, .ptr 0 0), (8, .ptr 1 0), (12, .fz (.int .i64 0))] ⟨[varF (.two op a b), (true, [.nils, .nils])], [], 0⟩ = some (.ret, T', st') := by
  simp only [encO, Option.getD_none, Option.isSome_none] at ha
  simp only [varF, encF, List.map_cons, List.map_nil] at ha ⊢
  refine ⟨_, _, ?_, ?_, (by
    rw [x_iter]
    simp [u58_0, rOf, callR, ha, encF_len, encF_take]; exact ⟨rfl, rfl⟩)⟩
  · simp [Tm.at]
  · simp [Tm.at]
theorem round2t1 (op : Int) (a b : Flt) (j t : Bool) (l m : List Box) (hb : pureI Try.prog prims dx tbl 25 [.agg (encF b), .bool t] = some (encO (some m))) :
    iterI (dCw Try.prog (callI Try.prog prims dx tbl) l58_0) [1, 2, 3, 8, 12] [(1, .fz (.bool j)), (2, .fz (.bool t)), (3, .ptr 0 0), (8, .ptr 1 0), (12, .fz (.int .i64 1))] ⟨[varF (.two op a b), (true, [.fz (.list (l.map encB)), .nils])], [], 0⟩ = iterI (dCw Try.prog (callI Try.prog prims dx tbl) l58_0) [1, 2, 3, 8, 12] [(1, .fz (.bool j)), (2, .fz (.bool t)), (3, .ptr 0 0), (8, .ptr 1 0), (12, .fz (.int .i64 2))] ⟨[varF (.two op a b), (true, [.fz (.list (l.map encB)), .fz (.list (m.map encB))])], [], 0⟩ := by
  have w1 : wrapF .i64 2 = 2 := by decide +kernel
  simp only [encO, Option.getD_some, Option.isSome_some] at hb
  simp only [varF, encF, List.map_cons, List.map_nil]
  rw [x_iter]
  simp [u58_0, rOf, callR, hb, encF_len, encF_take, w1]
theorem round2f1 (op : Int) (a b : Flt) (j t : Bool) (l : List Box) (hb : pureI Try.prog prims dx tbl 25 [.agg (encF b), .bool t] = some (encO none)) :
    ∃ (T' : Tm) (st' : Dv.St), T'.at 6 = .nils ∧ T'.at 7 = .fz (.bool false) ∧ iterI (dCw Try.prog (callI Try.prog prims dx tbl) l58_0) [1, 2, 3, 8, 12] [(1, .fz (.bool j)), (2, .fz (.bool t)), (3, .ptr 0 0), (8, .ptr 1 0), (12, .fz (.int .i64 1))] ⟨[varF (.two op a b), (true, [.fz (.list (l.map encB)), .nils])], [], 0⟩ = some (.ret, T', st') := by
  simp only [encO, Option.getD_none, Option.isSome_none] at hb
  simp only [varF, encF, List.map_cons, List.map_nil] at hb ⊢
  refine ⟨_, _, ?_, ?_, (by
    rw [x_iter]
    simp [u58_0, rOf, callR, hb, encF_len, encF_take]; exact ⟨rfl, rfl⟩)⟩
  · simp [Tm.at]
  · simp [Tm.at]
theorem round22 (f : Flt) (j t : Bool) (x : Bool × List D) : ∃ T' : Tm, T'.keep [1, 8] = [(1, .fz (.bool j)), (8, .ptr 1 0)] ∧ iterI (dCw Try.prog (callI Try.prog prims dx tbl) l58_0) [1, 2, 3, 8, 12] [(1, .fz (.bool j)), (2, .fz (.bool t)), (3, .ptr 0 0), (8, .ptr 1 0), (12, .fz (.int .i64 2))] ⟨[varF f, x], [], 0⟩ = some (.exit 0, T', ⟨[varF f, x], [], 0⟩) := by
  refine ⟨_, ?_, (by
    rw [x_iter]
    simp [u58_0]; rfl)⟩
  simp [Tm.keep]
def twoB (ra rb : Option (List Box)) (j : Bool) : Option (List Box) := match ra with
  | none => none
  | some l => match rb with
    | none => none
    | some m => some (if j = true then l ++ m else meetsB l m)
theorem pTwo (op : Int) (a b : Flt) (j t : Bool) (ra rb : Option (List Box)) (ha : pureI Try.prog prims dx tbl 25 [.agg (encF a), .bool t] = some (encO ra)) (hb : pureI Try.prog prims dx tbl 25 [.agg (encF b), .bool t] = some (encO rb))
    (la : ∀ l, ra = some l → l.length ≤ 16 ∧ ∀ x ∈ l, x.nots.length ≤ 100) (lb : ∀ l, rb = some l → l.length ≤ 16 ∧ ∀ x ∈ l, x.nots.length ≤ 100) :
    pureI Try.prog prims dx tbl 58 [.agg (encF (.two op a b)), .bool j, .bool t] = some (encO (twoB ra rb j)) := by
  rw [pureI_of (rfl : tbl 58 = some c58)]
  have fin : ∀ (T' : Tm) (st' : Dv.St), T'.at 6 = .nils → T'.at 7 = .fz (.bool false) → iterI (dCw Try.prog (callI Try.prog prims dx tbl) l58_0) [1, 2, 3, 8, 12] [(1, .fz (.bool j)), (2, .fz (.bool t)), (3, .ptr 0 0), (8, .ptr 1 0), (12, .fz (.int .i64 0))] ⟨[varF (.two op a b), (true, [.nils, .nils])], [], 0⟩ = some (.ret, T', st') → dPureW Try.prog (callI Try.prog prims dx tbl) c58 [.agg (encF (.two op a b)), .bool j, .bool t] = some (encO none) := by
    intro T' st' h1 h2 h3
    simp only [varF, encF, List.map_cons, List.map_nil] at h3
    simp [c58, encF, encO, h1, h2, h3]
  cases ra with
  | none =>
    obtain ⟨T', st', a1, a2, a3⟩ := round2f0 op a b j t ha
    exact fin T' st' a1 a2 a3
  | some l =>
    have e0 := round2t0 op a b j t l ha
    cases rb with
    | none =>
      obtain ⟨T', st', a1, a2, a3⟩ := round2f1 op a b j t l hb
      exact fin T' st' a1 a2 (e0.trans a3)
    | some m =>
      have e1 := e0.trans (round2t1 op a b j t l m hb)
      obtain ⟨T', k1, a3⟩ := round22 (.two op a b) j t (true, [.fz (.list (l.map encB)), .fz (.list (m.map encB))])
      have e := e1.trans a3
      obtain ⟨l1, l2⟩ := la l rfl
      obtain ⟨m1, m2⟩ := lb m rfl
      have hC := oConcatB (l.map encB) (m.map encB) (by rw [List.length_map]; omega) (by rw [List.length_map]; omega) (encB_ok l).1 (encB_ok m).1 (encB_ok l).2 (encB_ok m).2
      rw [← List.map_append] at hC
      have hM := pMeets l m (by omega) (by omega) l2 m2
      simp only [varF, encF, List.map_cons, List.map_nil] at e
      simp only [twoB]
      cases j with
      | true =>
        simp only [if_true]
        generalize l ++ m = X at *
        simp [c58, x_own, ownK, ownK_ite, takeO, takeL, giveO, giveL, O.cnt, O.cntL, newL, aliveMv, St.back, callOwn, orC, encF, encO, e, k1, rConcatB, hC]
      | false =>
        simp only [Bool.false_eq_true, if_false]
        generalize meetsB l m = X at *
        simp [c58, encF, encO, e, k1, rMeets, callR, hM]
/-! ### A row, and whether it is too long -/
theorem pOfR (f : Flt) (t : Bool) (r : Option (List Box)) (h : pureI Try.prog prims dx tbl 44 [.agg (encF f), .bool t] = some (encO r)) : pureI Try.prog prims dx tbl 25 [.agg (encF f), .bool t] = some (encO (r.bind fewB)) := by
  rw [pureI_of (rfl : tbl 25 = some c25)]
  obtain ⟨x1, x2, x3, x4, x5, x6, hx⟩ := encF_eq f
  rw [hx] at h ⊢
  cases r with
  | none =>
    simp only [encO, Option.getD_none, Option.isSome_none] at h
    simp [c25, rRow, callR, h, encO]
  | some l =>
    simp only [encO, Option.getD_some, Option.isSome_some] at h
    by_cases hl : 16 < l.length
    · have hl' : (16 : Int) < l.length := by omega
      have e : (some l).bind fewB = none := by simp [fewB, hl]
      rw [e]
      simp [c25, rRow, callR, h, encO, hl, hl']
    · have hl' : ¬ (16 : Int) < l.length := by omega
      have e : (some l).bind fewB = some l := by simp [fewB, hl]
      rw [e]
      simp [c25, rRow, callR, h, encO, hl, hl']
theorem few_of {f : Flt} (hf : f.ok) {t : Bool} {l : List Box} (h : ofB f t = some l) : l.length ≤ 16 ∧ ∀ x ∈ l, x.nots.length ≤ leaves f := by
  obtain ⟨h1, h2, _⟩ := of_sem [] (fun a ha => by cases ha) [] f hf t l h
  exact ⟨h2, fun x hx => (h1 x hx).nots⟩
theorem few_bind {f : Flt} (hf : f.ok) (t : Bool) : (ofB f t).bind fewB = ofB f t := by
  cases h : ofB f t with
  | none => rfl
  | some l =>
    have := (few_of hf h).1
    simp [fewB]
    omega
theorem pOf : ∀ (f : Flt), f.ok → leaves f ≤ 100 → ∀ t, pureI Try.prog prims dx tbl 25 [.agg (encF f), .bool t] = some (encO (ofB f t))
  | .leaf op k lo hi ft, hf, hn, t => by
    rw [← few_bind hf t]
    refine pOfR _ t _ ?_
    rw [pureI_of (rfl : tbl 44 = some c44)]
    rcases hf with ⟨rfl, rfl, rfl, rfl, rfl⟩ | ⟨rfl, k1, k2, l1, l2, rfl, rfl⟩ | ⟨rfl, k1, k2, l1, l2, l3, rfl⟩ | ⟨rfl, rfl, rfl, rfl, hft⟩
    · cases t <;> simp [c44, encF, encO, ofB, encB, box0, side0]
    · cases t
      · have q := pKey k 1 hi hi ⟨k1, k2⟩
        simp only [ofB]
        generalize putB box0 k ⟨1, hi, hi⟩ = X at *
        simp only [encB] at q
        simp [c44, encF, encO, rKey, callR, q, encB]
      · have q := pApart 2 k hi hi ⟨k1, k2⟩ ⟨l1, l2⟩ ⟨l1, l2⟩
        simp only [ofB]
        generalize apartB k hi hi = X at *
        simp [c44, encF, encO, rApart, callR, q]
    · cases t
      · have q := pKey k 1 lo hi ⟨k1, k2⟩
        simp only [ofB]
        generalize putB box0 k ⟨1, lo, hi⟩ = X at *
        simp only [encB] at q
        simp [c44, encF, encO, rKey, callR, q, encB]
      · have q := pApart 3 k lo hi ⟨k1, k2⟩ ⟨l1, by omega⟩ ⟨by omega, l3⟩
        simp only [ofB]
        generalize apartB k lo hi = X at *
        simp [c44, encF, encO, rApart, callR, q]
    · cases t
      · simp [c44, encF, encO, ofB, encB, box0, side0]
      · simp [c44, x_mid, k_mid1, k_mid2, encF, encO, ofB, encB, box0, side0, encT]
  | .not a, hf, hn, t => by
    have ih := pOf a hf hn (!t)
    rw [← few_bind (f := .not a) hf t]
    refine pOfR _ t _ ?_
    rw [pureI_of (rfl : tbl 44 = some c44)]
    simp only [ofB, encO] at ih ⊢
    generalize ofB a (!t) = X at *
    simp [c44, encF, rOf, callR, ih, encF_len, encF_take]
  | .two op a b, hf, hn, t => by
    obtain ⟨hop, ha, hb⟩ := hf
    simp only [leaves] at hn
    have iha := pOf a ha (by omega) t
    have ihb := pOf b hb (by omega) t
    have la : ∀ l, ofB a t = some l → l.length ≤ 16 ∧ ∀ x ∈ l, x.nots.length ≤ 100 := fun l h => ⟨(few_of ha h).1, fun x hx => by have := (few_of ha h).2 x hx; omega⟩
    have lb : ∀ l, ofB b t = some l → l.length ≤ 16 ∧ ∀ x ∈ l, x.nots.length ≤ 100 := fun l h => ⟨(few_of hb h).1, fun x hx => by have := (few_of hb h).2 x hx; omega⟩
    have e : ofB (.two op a b) t = (twoB (ofB a t) (ofB b t) (decide (op = 6) != t)).bind fewB := by
      simp only [ofB, twoB]
      cases ofB a t with
      | none => rfl
      | some l =>
        cases ofB b t with
        | none => rfl
        | some m =>
          cases h6 : decide (op = 6) <;> cases t <;> rfl
    rw [e]
    refine pOfR _ t _ ?_
    have q := pTwo op a b (decide (op = 6) != t) t _ _ iha ihb la lb
    generalize twoB (ofB a t) (ofB b t) (decide (op = 6) != t) = X at *
    rw [pureI_of (rfl : tbl 44 = some c44)]
    simp only [encF, encO] at q ⊢
    rcases hop with rfl | rfl <;> cases t <;> simp at q <;> simp [c44, rTwo, callR, q]
theorem pOF (f : Flt) (hf : f.ok) (hn : leaves f ≤ 100) : pureI Try.prog prims dx tbl 12 [.agg (encF f)] = some (encO (ofB f false)) := by
  rw [pureI_of (rfl : tbl 12 = some c12)]
  have q := pOf f hf hn false
  obtain ⟨x1, x2, x3, x4, x5, x6, hx⟩ := encF_eq f
  rw [hx] at q ⊢
  simp only [encO] at q ⊢
  generalize ofB f false = X at *
  simp [c12, rOf, callR, q]
theorem rOF (ds : List D) (st : Dv.St) : callI Try.prog prims dx tbl 12 ds st = callR Try.prog prims dx tbl 12 ds st (frL (fr st 6) ds) := callRw rfl rfl (rfl : tbl 12 = some c12) rfl ds st
end Go.Proofs.Ytiloimenibbeoaa.Pl
