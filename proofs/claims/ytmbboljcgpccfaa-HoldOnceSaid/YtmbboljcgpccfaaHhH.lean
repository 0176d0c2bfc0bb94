/-
  What is proved here: two versions compared, in the document's own words.
  Conditions: none.
-/
import Derived.Test.YtmbboljcgpccfaaHgH
import Derived.Test.YtmbboljcgpccfaaEaH
set_option linter.unusedVariables false
set_option linter.unusedSimpArgs false
set_option maxRecDepth 100000
set_option maxHeartbeats 8000000
namespace Go.Proofs.Ytmbboljcgpccfaa.Pl
open Go Go.Proofs Go.Proofs.Ev Go.Proofs.Dv Cd
attribute [local simp] x_pure x_skip x_reg x_drw x_seq x_cond x_block x_loop' Tm.keep_nil x_exit x_ret k_seq k_seq_ret k_seq_exit k_seq_none k_seq_ite k_cond k_block k_block_ret k_block_exit k_block_none k_block_ite k_iter k_iter_ret k_iter_exit k_iter_none k_iter_ite k_reg k_reg_none k_reg_ite x_is_nil x_is x_is_g k_ins k_ins_none k_ins_ite k_grd x_ord_nil x_ord x_ord_g k_ord k_ord_none k_ord_ite k_ogrd k_out_ret k_out k_out_none k_out_ite k_pure k_pure_none k_pure_ite startD dI dA deo Tm.at Tm.dst Tm.set Tm.put Tm.keep dW dRes oneOfD mkTup mkAgg mkFn allF frL fr vD vD1 vF vFL dBin dEq dNil isNilD dScal F.cv eBin sameKind eInt eStr cellsD oneD F.one dFill putAtD chunk dbnd dSrc St.own St.drop St.still St.fresh chkQ stillQ freshQ lOf rdOf rdOK undefD F.full F.fullL List.mapIdx_cons strip allOne_nil allOne_cons allOne_append allLen_nil allLen_cons allLen_append roomOK_small filterT y_mv y_pick y_new y_box y_build y_bslice y_ld1 y_ldn y_nilchk y_bin y_not y_conv y_bytes y_string y_ifc y_fn y_cut y_cuts y_fa y_fld y_ia y_idx y_idxs y_ext y_len y_lenstr y_app y_grow y_mks y_slow y_call y_callv y_inv y_extc x_it_st x_it_clr x_it_cpy k_addT k_addT_none k_addT_ite k_orU k_orU_none dU D.turn turnL Tm.turn turnS St.turn turnRows_length

theorem eSm1 : eqOStamp (operAt Try.prog 21 13) = some (false, 13, 15) := by kernel_rfl
theorem eSm2 : eqOAttr (operAt Try.prog 21 62) = some (false, 59, 64) := by kernel_rfl
theorem at_eq (x y : Int × Int) : ((x.1 == y.1) && (x.2 == y.2)) = decide (x = y) := by
  obtain ⟨a, b⟩ := x
  obtain ⟨a', b'⟩ := y
  rw [Bool.eq_iff_iff]
  simp
def varV (v : Ver) : List D := [.fz (.int .i64 v.item), .fz (.int .i64 v.a), .fz (.int .i64 v.b), .fz (.int .i64 v.c), .fz (.bool v.dead), .fz (.list (v.ats.map encA)), .fz (.str v.tag), .fz (.str v.body)]
def PostSv (b : Bool) (r : Option DSt) : Prop := ∃ T' st', r = some (if b = true then .exit 0 else .ret, T', st') ∧ (b = false → T'.at 4 = .fz (.bool false))
theorem loopSv (v w : Ver) (hl : v.ats.length < 100000) (hlm : v.ats.length = w.ats.length) : ∀ (r : List (Int × Int)) (i : Nat) (iz : Int), iz = i → v.ats.drop i = r → i ≤ v.ats.length →
    PostSv (decide (r = w.ats.drop i)) (iterI (dCw Try.prog (callI Try.prog prims dx tbl) l21_0) [2, 3, 5] [(2, .ptr 0 0), (3, .ptr 1 0), (5, .fz (.int .i64 iz))] ⟨[(true, varV v), (true, varV w)], [], 0⟩) := by
  intro r
  induction r with
  | nil =>
    intro i iz hz hd hi
    have hi' := drop_nil hd hi
    subst hi' hz
    rw [x_iter]
    simp [u21_0, hlm, varV]
    exact ⟨_, _, rfl, fun h => by cases h⟩
  | cons a r ih =>
    intro i iz hz hd hi
    subst hz
    obtain ⟨hlt, hli, hd'⟩ := drop_cons hd
    have hlt2 : i < w.ats.length := by omega
    have hm : w.ats.drop i = w.ats[i] :: w.ats.drop (i + 1) := List.drop_eq_getElem_cons hlt2
    have hw : wrapF .i64 ((i : Int) + 1) = (i : Int) + 1 := wrap_id _ (by omega) (by omega)
    have he := at_eq a w.ats[i]
    rw [x_iter]
    by_cases hk : a = w.ats[i]
    · simp only [← hk, decide_true] at he
      have := ih (i + 1) _ rfl hd' hlt
      simp only [hm, hk, List.cons.injEq, true_and]
      simp [varV] at this
      simp [u21_0, hlt, hlt2, encA, hli, hk, slow_eqAttr eSm2, eqDAttr, hw, varV]
      exact this
    · rw [decide_eq_false hk] at he
      simp only [hm, List.cons.injEq, hk, false_and, decide_false]
      simp [u21_0, hlt, hlt2, encA, hli, slow_eqAttr eSm2, eqDAttr, he, varV]
      exact ⟨_, _, rfl, fun _ => rfl⟩
end Go.Proofs.Ytmbboljcgpccfaa.Pl
