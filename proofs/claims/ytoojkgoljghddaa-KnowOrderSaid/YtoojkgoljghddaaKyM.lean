/-
  What is proved here: numbers that are known, in the document's own words: asked for, and compared.
  Conditions: none.
-/
import Derived.Test.YtoojkgoljghddaaKxM
set_option linter.unusedVariables false
set_option linter.unusedSimpArgs false
set_option maxRecDepth 100000
set_option maxHeartbeats 8000000
namespace Go.Proofs.Ytoojkgoljghddaa.Pl
open Go Go.Proofs Go.Proofs.Ev Go.Proofs.Dv Cd
attribute [local simp] x_pure x_skip x_reg x_drw x_seq x_cond x_block x_frz x_loop' Tm.keep_nil x_exit x_ret k_seq k_seq_ret k_seq_exit k_seq_none k_seq_ite k_cond k_block k_block_ret k_block_exit k_block_none k_block_ite k_iter k_iter_ret k_iter_exit k_iter_none k_iter_ite k_reg k_reg_none k_reg_ite x_is_nil x_is x_is_g k_ins k_ins_none k_ins_ite k_grd x_ord_nil x_ord x_ord_g k_ord k_ord_none k_ord_ite k_ogrd k_out_ret k_out k_out_none k_out_ite k_pure k_pure_none k_pure_ite startD dI dA deo Tm.at Tm.dst Tm.set Tm.put Tm.keep dW dRes oneOfD mkTup mkAgg mkFn allF frL fr vD vD1 vF vFL dBin dEq dNil isNilD dScal F.cv eBin sameKind eInt eStr cellsD oneD F.one dFill putAtD chunk dbnd dSrc St.own St.drop St.still St.fresh chkQ stillQ freshQ lOf rdOf rdOK undefD F.full F.fullL List.mapIdx_cons strip allOne_nil allOne_cons allOne_append allLen_nil allLen_cons allLen_append roomOK_small filterT y_mv y_pick y_new y_box y_build y_bslice y_ld1 y_ldn y_nilchk y_bin y_not y_conv y_bytes y_string y_ifc y_fn y_cut y_cuts y_fa y_fld y_ia y_idx y_idxs y_ext y_len y_lenstr y_app y_grow y_mks y_mget y_mop dM y_slow y_call y_callv y_inv y_extc x_it_st x_it_clr x_it_cpy k_addT k_addT_none k_addT_ite k_orU k_orU_none dU D.turn turnL Tm.turn turnS St.turn turnRows_length

def PostSI (b : Bool) (r : Option DSt) : Prop := ∃ T', r = some (if b = true then .exit 0 else .ret, T', ⟨[], [], 0⟩) ∧ (b = false → T'.at 4 = .fz (.bool false))
theorem loopSI (l m : List Int) (hl : l.length < 1000000) (hlm : l.length = m.length) : ∀ (r : List Int) (i : Nat) (iz : Int), iz = i → l.drop i = r → i ≤ l.length →
    PostSI (decide (r = m.drop i)) (iterI (dCw Try.prog (callI Try.prog prims dx tbl) l15_0) [0, 1, 5] [(0, .fz (.list (l.map encI))), (1, .fz (.list (m.map encI))), (5, .fz (.int .i64 iz))] ⟨[], [], 0⟩) := by
  intro r
  induction r with
  | nil =>
    intro i iz hz hd hi
    have hi' := drop_nil hd hi
    subst hi' hz
    rw [x_iter]
    simp [u15_0, hlm]
    exact ⟨_, rfl, fun h => by cases h⟩
  | cons a r ih =>
    intro i iz hz hd hi
    subst hz
    obtain ⟨hlt, hli, hd'⟩ := drop_cons hd
    have hlt2 : i < m.length := by omega
    have hm : m.drop i = m[i] :: m.drop (i + 1) := List.drop_eq_getElem_cons hlt2
    have hw : wrapF .i64 ((i : Int) + 1) = (i : Int) + 1 := wrap_id _ (by omega) (by omega)
    rw [x_iter]
    by_cases hk : a = m[i]
    · have := ih (i + 1) _ rfl hd' hlt
      simp only [hm, hk, List.cons.injEq, true_and]
      simp [u15_0, hlt, hlt2, encI, hli, hk, hw]
      simpa using this
    · simp only [hm, List.cons.injEq, hk, false_and, decide_false]
      simp [u15_0, hlt, hlt2, encI, hli, hk]
      exact ⟨_, rfl, fun _ => rfl⟩
theorem pSameI (l m : List Int) (hl : l.length < 1000000) (hm : m.length < 1000000) : pureI Try.prog prims dx tbl 15 [.list (l.map encI), .list (m.map encI)] = some (.bool (decide (l = m))) := by
  rw [pureI_of (rfl : tbl 15 = some c15)]
  by_cases hlm : l.length = m.length
  · obtain ⟨T', h1, h2⟩ := loopSI l m hl hlm l 0 0 rfl rfl (Nat.zero_le _)
    simp only [List.drop_zero] at h1 h2
    by_cases hk : l = m
    · subst hk
      simp at h1
      simp [c15, h1]
    · simp [hk] at h1 h2
      simp [c15, hlm, h1, h2, hk]
  · have : ¬ l = m := fun e => hlm (by rw [e])
    simp [c15, hlm, this, show ¬ (l.length : Int) = m.length by omega]
theorem rSameI (ds : List D) (st : Dv.St) : callI Try.prog prims dx tbl 15 ds st = callR Try.prog prims dx tbl 15 ds st (frL (fr st 6) ds) := callRw rfl rfl (rfl : tbl 15 = some c15) rfl ds st
theorem pSameK (k m : Kn) (hl : k.more.length < 1000000) (hm : m.more.length < 1000000) : pureI Try.prog prims dx tbl 7 [.agg (encK k), .agg (encK m)] = some (.bool (decide (k.up = m.up) && decide (k.more = m.more))) := by
  rw [pureI_of (rfl : tbl 7 = some c7)]
  have h := pSameI k.more m.more hl hm
  by_cases a : k.up = m.up
  · simp [c7, encK, rSameI, callR, h, a]
  · simp [c7, encK, a]
theorem rSameK (ds : List D) (st : Dv.St) : callI Try.prog prims dx tbl 7 ds st = callR Try.prog prims dx tbl 7 ds st (frL (fr st 6) ds) := callRw rfl rfl (rfl : tbl 7 = some c7) rfl ds st
end Go.Proofs.Ytoojkgoljghddaa.Pl
