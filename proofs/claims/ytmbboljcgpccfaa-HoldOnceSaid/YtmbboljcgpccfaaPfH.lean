/-
  What is proved here: what the program's filters let through, by what is kept.
  Conditions: none.
-/
import Derived.Test.YtmbboljcgpccfaaPeH
set_option linter.unusedVariables false
set_option linter.unusedSimpArgs false
set_option maxRecDepth 100000
set_option maxHeartbeats 4000000
namespace Go.Proofs.Ytmbboljcgpccfaa.Pl
open Go Go.Proofs Go.Proofs.Ev Go.Proofs.Dv Cd
attribute [local simp] x_pure x_skip x_reg x_drw x_seq x_cond x_block x_loop' Tm.keep_nil x_exit x_ret k_seq k_seq_ret k_seq_exit k_seq_none k_seq_ite k_cond k_block k_block_ret k_block_exit k_block_none k_block_ite k_iter k_iter_ret k_iter_exit k_iter_none k_iter_ite k_reg k_reg_none k_reg_ite x_is_nil x_is x_is_g k_ins k_ins_none k_ins_ite k_grd x_ord_nil x_ord x_ord_g k_ord k_ord_none k_ord_ite k_ogrd k_out_ret k_out k_out_none k_out_ite k_pure k_pure_none k_pure_ite startD dI dA deo Tm.at Tm.dst Tm.set Tm.put Tm.keep dW dRes oneOfD mkTup mkAgg mkFn allF frL fr vD vD1 vF vFL dBin dEq dNil isNilD dScal F.cv eBin sameKind eInt eStr cellsD oneD F.one dFill putAtD chunk dbnd dSrc St.own St.drop St.still St.fresh chkQ stillQ freshQ lOf rdOf rdOK undefD F.full F.fullL List.mapIdx_cons strip allOne_nil allOne_cons allOne_append allLen_nil allLen_cons allLen_append roomOK_small filterT y_mv y_pick y_new y_box y_build y_bslice y_ld1 y_ldn y_nilchk y_bin y_not y_conv y_bytes y_string y_ifc y_fn y_cut y_cuts y_fa y_fld y_ia y_idx y_idxs y_ext y_len y_lenstr y_app y_grow y_mks y_slow y_call y_callv y_inv y_extc x_it_st x_it_clr x_it_cpy k_addT k_addT_none k_addT_ite k_orU k_orU_none dU D.turn turnL Tm.turn turnS St.turn turnRows_length

theorem rE1 (ds : List D) (st : Dv.St) : callI Try.prog prims dx tbl 91 ds st = callR Try.prog prims dx tbl 91 ds st (frL (fr st 6) ds) := callRw rfl rfl (rfl : tbl 91 = some c91) rfl ds st
theorem rE2 (ds : List D) (st : Dv.St) : callI Try.prog prims dx tbl 95 ds st = callR Try.prog prims dx tbl 95 ds st (frL (fr st 6) ds) := callRw rfl rfl (rfl : tbl 95 = some c95) rfl ds st
theorem rE (ds : List D) (st : Dv.St) : callI Try.prog prims dx tbl 66 ds st = callR Try.prog prims dx tbl 66 ds st (frL (fr st 6) ds) := callRw rfl rfl (rfl : tbl 66 = some c66) rfl ds st
theorem rIx (ds : List D) (st : Dv.St) : callI Try.prog prims dx tbl 113 ds st = callR Try.prog prims dx tbl 113 ds st (frL (fr st 6) ds) := callRw rfl rfl (rfl : tbl 113 = some c113) rfl ds st
theorem rCo (ds : List D) (st : Dv.St) : callI Try.prog prims dx tbl 94 ds st = callR Try.prog prims dx tbl 94 ds st (frL (fr st 6) ds) := callRw rfl rfl (rfl : tbl 94 = some c94) rfl ds st

theorem pE1 (v : Ver) (f : Flt) (b : Bool) (h : pureI Try.prog prims dx tbl 66 [.agg (encF f), .agg (encV v)] = some (.bool b)) : pureI Try.prog prims dx tbl 91 [.agg (encF f), .fp (encV v)] = some (.bool b) := by
  obtain ⟨x1, x2, x3, x4, x5, x6, hx⟩ := encF_eq f
  rw [hx, encV] at h
  rw [hx, pureI_of (rfl : tbl 91 = some c91)]
  simp [c91, encV, rE, callR, h]
theorem pE2 (v : Ver) (f : Flt) (b : Bool) (h : pureI Try.prog prims dx tbl 66 [.agg (encF f), .agg (encV v)] = some (.bool b)) : pureI Try.prog prims dx tbl 95 [.agg (encF f), .fp [.fn 91 [.fp (encV v)]]] = some (.bool (!b)) := by
  have h1 := pE1 v f b h
  obtain ⟨x1, x2, x3, x4, x5, x6, hx⟩ := encF_eq f
  rw [hx, encV] at h1
  rw [hx, pureI_of (rfl : tbl 95 = some c95)]
  simp [c95, encV, rE1, callR, h1]
theorem pIx1 (f : Flt) (b : Bool) (g : Nat) (cs : List F) (h : ∀ st, callI Try.prog prims dx tbl g (.fz (.agg (encF f)) :: cs.map .fz) st = some (.fz (.bool b), st, [])) : pureI Try.prog prims dx tbl 113 [.list [encF f], .fn g cs] = some (.int .i64 (if b = true then 0 else -1)) := by
  rw [pureI_of (rfl : tbl 113 = some c113)]
  have w1 : wrapF .i64 1 = 1 := by decide +kernel
  cases b <;> simp [c113, u113_0, x_iter, encF_len, encF_take, h, w1]
theorem pIx2 (f f2 : Flt) (b b2 : Bool) (g : Nat) (cs : List F) (h : ∀ st, callI Try.prog prims dx tbl g (.fz (.agg (encF f)) :: cs.map .fz) st = some (.fz (.bool b), st, [])) (h2 : ∀ st, callI Try.prog prims dx tbl g (.fz (.agg (encF f2)) :: cs.map .fz) st = some (.fz (.bool b2), st, [])) :
    pureI Try.prog prims dx tbl 113 [.list [encF f, encF f2], .fn g cs] = some (.int .i64 (if b = true then 0 else if b2 = true then 1 else -1)) := by
  rw [pureI_of (rfl : tbl 113 = some c113)]
  have w1 : wrapF .i64 1 = 1 := by decide +kernel
  have w2 : wrapF .i64 2 = 2 := by decide +kernel
  cases b <;> cases b2 <;> simp [c113, u113_0, x_iter, encF_len, encF_take, h, h2, w1, w2]
theorem pCo1 (f : Flt) (b : Bool) (g : Nat) (cs : List F) (h : ∀ st, callI Try.prog prims dx tbl g (.fz (.agg (encF f)) :: cs.map .fz) st = some (.fz (.bool b), st, [])) : pureI Try.prog prims dx tbl 94 [.list [encF f], .fn g cs] = some (.bool b) := by
  rw [pureI_of (rfl : tbl 94 = some c94)]
  have := pIx1 f b g cs h
  cases b <;> simp at this <;> simp [c94, rIx, callR, this]
theorem pCo2 (f f2 : Flt) (b b2 : Bool) (g : Nat) (cs : List F) (h : ∀ st, callI Try.prog prims dx tbl g (.fz (.agg (encF f)) :: cs.map .fz) st = some (.fz (.bool b), st, [])) (h2 : ∀ st, callI Try.prog prims dx tbl g (.fz (.agg (encF f2)) :: cs.map .fz) st = some (.fz (.bool b2), st, [])) :
    pureI Try.prog prims dx tbl 94 [.list [encF f, encF f2], .fn g cs] = some (.bool (b || b2)) := by
  rw [pureI_of (rfl : tbl 94 = some c94)]
  have := pIx2 f f2 b b2 g cs h h2
  cases b <;> cases b2 <;> simp at this <;> simp [c94, rIx, callR, this]
theorem cE1 (v : Ver) (f : Flt) (b : Bool) (h : pureI Try.prog prims dx tbl 66 [.agg (encF f), .agg (encV v)] = some (.bool b)) (st : Dv.St) : callI Try.prog prims dx tbl 91 (.fz (.agg (encF f)) :: [F.fp (encV v)].map .fz) st = some (.fz (.bool b), st, []) := by
  simp [rE1, frL, fr, callR, pE1 v f b h, F.full]
theorem cE2 (v : Ver) (f : Flt) (b : Bool) (h : pureI Try.prog prims dx tbl 66 [.agg (encF f), .agg (encV v)] = some (.bool b)) (st : Dv.St) : callI Try.prog prims dx tbl 95 (.fz (.agg (encF f)) :: [F.fp [.fn 91 [.fp (encV v)]]].map .fz) st = some (.fz (.bool (!b)), st, []) := by
  simp [rE2, frL, fr, callR, pE2 v f b h, F.full]
theorem pELets (v : Ver) (hl : v.ats.length < 1000000) : ∀ (f : Flt), f.ok → pureI Try.prog prims dx tbl 66 [.agg (encF f), .agg (encV v)] = some (.bool (lets f v.ats v.tag)) := by
  intro f
  induction f with
  | leaf op k lo hi ft =>
    intro hf
    have ha := pAttr v hl k
    rw [encV] at ha
    rw [pureI_of (rfl : tbl 66 = some c66)]
    rcases hf with ⟨rfl, rfl, rfl, rfl, rfl⟩ | ⟨rfl, _⟩ | ⟨rfl, _⟩ | ⟨rfl, rfl, rfl, rfl, _⟩
    · simp [c66, encF, encV, lets]
    · cases h : attr v.ats k with
      | none => simp [h] at ha; simp [c66, encF, encV, lets, rAttr, callR, ha, h]
      | some n => simp [h] at ha; by_cases h1 : lo ≤ n <;> by_cases h2 : n ≤ hi <;> simp [c66, encF, encV, lets, rAttr, callR, ha, h, h1, h2]
    · cases h : attr v.ats k with
      | none => simp [h] at ha; simp [c66, encF, encV, lets, rAttr, callR, ha, h]
      | some n => simp [h] at ha; by_cases h1 : lo ≤ n <;> by_cases h2 : n ≤ hi <;> simp [c66, encF, encV, lets, rAttr, callR, ha, h, h1, h2]
    · simp [c66, encF, encV, lets, rPre, callR, pPre]
  | not a ih =>
    intro hf
    have ih := ih hf
    have h := pCo1 a _ 91 _ (cE1 v a _ ih)
    rw [encV] at h
    rw [pureI_of (rfl : tbl 66 = some c66)]
    simp [c66, encF, encV, lets, rCo, callR, h]
  | two op a b iha ihb =>
    intro hf
    obtain ⟨hop, ha, hb⟩ := hf
    have iha := iha ha
    have ihb := ihb hb
    have h := pCo2 a b _ _ 91 _ (cE1 v a _ iha) (cE1 v b _ ihb)
    have h' := pCo2 a b _ _ 95 _ (cE2 v a _ iha) (cE2 v b _ ihb)
    rw [encV] at h h'
    rw [pureI_of (rfl : tbl 66 = some c66)]
    rcases hop with rfl | rfl
    · simp [c66, encF, encV, lets, rCo, callR, h']
    · simp [c66, encF, encV, lets, rCo, callR, h]
end Go.Proofs.Ytmbboljcgpccfaa.Pl
