/-
  What is proved here: numbers that are known, made whole; with another one.
  Conditions: none.
-/
import Derived.Test.YtoojkgoljghddaaKnM
set_option linter.unusedVariables false
set_option linter.unusedSimpArgs false
set_option maxRecDepth 100000
set_option maxHeartbeats 8000000
namespace Go.Proofs.Ytoojkgoljghddaa.Pl
open Go Go.Proofs Go.Proofs.Ev Go.Proofs.Dv Cd
attribute [local simp] x_pure x_skip x_reg x_drw x_seq x_cond x_block x_frz x_loop' Tm.keep_nil x_exit x_ret k_seq k_seq_ret k_seq_exit k_seq_none k_seq_ite k_cond k_block k_block_ret k_block_exit k_block_none k_block_ite k_iter k_iter_ret k_iter_exit k_iter_none k_iter_ite k_reg k_reg_none k_reg_ite x_is_nil x_is x_is_g k_ins k_ins_none k_ins_ite k_grd x_ord_nil x_ord x_ord_g k_ord k_ord_none k_ord_ite k_ogrd k_out_ret k_out k_out_none k_out_ite k_pure k_pure_none k_pure_ite startD dI dA deo Tm.at Tm.dst Tm.set Tm.put Tm.keep dW dRes oneOfD mkTup mkAgg mkFn allF frL fr vD vD1 vF vFL dBin dEq dNil isNilD dScal F.cv eBin sameKind eInt eStr cellsD oneD F.one dFill putAtD chunk dbnd dSrc St.own St.drop St.still St.fresh chkQ stillQ freshQ lOf rdOf rdOK undefD F.full F.fullL List.mapIdx_cons strip allOne_nil allOne_cons allOne_append allLen_nil allLen_cons allLen_append roomOK_small filterT y_mv y_pick y_new y_box y_build y_bslice y_ld1 y_ldn y_nilchk y_bin y_not y_conv y_bytes y_string y_ifc y_fn y_cut y_cuts y_fa y_fld y_ia y_idx y_idxs y_ext y_len y_lenstr y_app y_grow y_mks y_mget y_mop dM y_slow y_call y_callv y_inv y_extc x_it_st x_it_clr x_it_cpy k_addT k_addT_none k_addT_ite k_orU k_orU_none dU D.turn turnL Tm.turn turnS St.turn turnRows_length

theorem mm23 : minmax (operAt Try.prog 13 23) = some (true, 20, 23) := by kernel_rfl
def PostWh (k : Kn) (dm : D) (d0 : List D) (t : Nat) (L : List Nat) (c : Nat) (r : Option DSt) : Prop := ∃ (q : Nat) (T' : Tm), T'.keep [1, 2, 3] = [(1, .ptr 0 0), (2, .ptr 1 0), (3, .ow t q 1 (k.more.map encI))] ∧ r = some (.exit 0, T', ⟨[(true, [.fz (.int .i64 k.up), dm]), (true, d0)], L, c⟩)
theorem loopWh (dm : D) (d0 : List D) (t : Nat) (L : List Nat) (c : Nat) (ht : t ∈ L) : ∀ (r : List Int) (up : Int) (q : Nat), 0 ≤ up → up ≤ 2000000 → (∀ m ∈ r, m ≤ 2000000) →
    PostWh (wholeK up r) dm d0 t L c (iterI (dCw Try.prog (callI Try.prog prims dx tbl) l13_0) [1, 2, 3] [(1, .ptr 0 0), (2, .ptr 1 0), (3, .ow t q 1 (r.map encI))] ⟨[(true, [.fz (.int .i64 up), dm]), (true, d0)], L, c⟩) := by
  intro r
  induction r with
  | nil =>
    intro up q h0 h1 hm
    rw [x_iter]
    simp [u13_0, ht, wholeK]
    exact ⟨q, _, by simp [Tm.keep], rfl⟩
  | cons a r ih =>
    intro up q h0 h1 hm
    have ha := hm a (by simp)
    have tk : List.take r.length (r.map encI) = r.map encI := List.take_of_length_le (by simp)
    have hw : wrapF .i64 (up + 1) = up + 1 := wrap_id _ (by omega) (by omega)
    rw [x_iter]
    by_cases h : a ≤ up + 1
    · by_cases h2 : up < a
      · have := ih a (q + 1) (by omega) ha (fun m hm' => hm m (by simp [hm']))
        simp [u13_0, ht, wholeK, encI, hw, h, slow_mm mm23, mmD, h2, tk]
        exact this
      · have := ih up (q + 1) h0 h1 (fun m hm' => hm m (by simp [hm']))
        simp [u13_0, ht, wholeK, encI, hw, h, slow_mm mm23, mmD, h2, tk]
        exact this
    · simp [u13_0, ht, wholeK, encI, hw, h]
      exact ⟨q, _, by simp [Tm.keep, encI], rfl⟩
theorem pWhole (k : Kn) (h0 : 0 ≤ k.up) (h1 : k.up ≤ 2000000) (hm : ∀ m ∈ k.more, m ≤ 2000000) (hl : k.more.length < 100000) : pureI Try.prog prims dx tbl 13 [.agg (encK k)] = some (.agg (encK (wholeK k.up k.more))) := by
  rw [pureI_of (rfl : tbl 13 = some c13)]
  have o1 := encI_ok k.more
  have r1 : roomOK 8 k.more.length := roomOK_small (by omega) (by omega)
  obtain ⟨q, T', j1, j2⟩ := loopWh (.fz (.list (k.more.map encI))) [.fz (.int .i64 0), .nils] 0 [0] 1 (by simp) k.more k.up 0 h0 h1 hm
  simp [c13, encK, rCloneI, dClone, dSrc, orC, o1, r1, j1, j2]
theorem rWhole (ds : List D) (st : Dv.St) : callI Try.prog prims dx tbl 13 ds st = callR Try.prog prims dx tbl 13 ds st (frL (fr st 6) ds) := callRw rfl rfl (rfl : tbl 13 = some c13) rfl ds st
end Go.Proofs.Ytoojkgoljghddaa.Pl
