/-
  What is proved here: which numbers may be; how many there are.
  Conditions: none.
-/
import Derived.Test.YtoojkgoljghddaaKtM
import Derived.Test.YtoojkgoljghddaaKyM
set_option linter.unusedVariables false
set_option linter.unusedSimpArgs false
set_option maxRecDepth 100000
set_option maxHeartbeats 8000000
namespace Go.Proofs.Ytoojkgoljghddaa.Pl
open Go Go.Proofs Go.Proofs.Ev Go.Proofs.Dv Cd
attribute [local simp] x_pure x_skip x_reg x_drw x_seq x_cond x_block x_frz x_loop' Tm.keep_nil x_exit x_ret k_seq k_seq_ret k_seq_exit k_seq_none k_seq_ite k_cond k_block k_block_ret k_block_exit k_block_none k_block_ite k_iter k_iter_ret k_iter_exit k_iter_none k_iter_ite k_reg k_reg_none k_reg_ite x_is_nil x_is x_is_g k_ins k_ins_none k_ins_ite k_grd x_ord_nil x_ord x_ord_g k_ord k_ord_none k_ord_ite k_ogrd k_out_ret k_out k_out_none k_out_ite k_pure k_pure_none k_pure_ite startD dI dA deo Tm.at Tm.dst Tm.set Tm.put Tm.keep dW dRes oneOfD mkTup mkAgg mkFn allF frL fr vD vD1 vF vFL dBin dEq dNil isNilD dScal F.cv eBin sameKind eInt eStr cellsD oneD F.one dFill putAtD chunk dbnd dSrc St.own St.drop St.still St.fresh chkQ stillQ freshQ lOf rdOf rdOK undefD F.full F.fullL List.mapIdx_cons strip allOne_nil allOne_cons allOne_append allLen_nil allLen_cons allLen_append roomOK_small filterT y_mv y_pick y_new y_box y_build y_bslice y_ld1 y_ldn y_nilchk y_bin y_not y_conv y_bytes y_string y_ifc y_fn y_cut y_cuts y_fa y_fld y_ia y_idx y_idxs y_ext y_len y_lenstr y_app y_grow y_mks y_mget y_mop dM y_slow y_call y_callv y_inv y_extc x_it_st x_it_clr x_it_cpy k_addT k_addT_none k_addT_ite k_orU k_orU_none dU D.turn turnL Tm.turn turnS St.turn turnRows_length

theorem wz (x : Int) (h : -100000 ≤ x ∧ x ≤ 100000) : wrapF .i64 x = x := wrap_id _ (by omega) (by omega)
theorem wzp (x p : Int) (h : x = p) (hb : -100000 ≤ p ∧ p ≤ 100000) : wrapF .i64 x = p := by rw [h]; exact wz p hb
def PostCk (st : Dv.St) (r : Option DSt) : Prop := ∃ T' : Tm, r = some (.exit 0, T', st)
theorem loopCk (l : List Int) (hl : l.length ≤ 60) (st : Dv.St) : ∀ (r : List Int) (i : Nat) (iz last : Int), iz = i → l.drop i = r → i ≤ l.length → Rise idI (last :: r) → (∀ x ∈ r, x ≤ 50) →
    PostCk st (iterI (dCw Try.prog (callI Try.prog prims dx tbl) l17_0) [3, 26, 27, 28] [(3, .fz (.int .i64 last)), (26, .fz (.list (l.map encI))), (27, .fz (.int .i64 l.length)), (28, .fz (.int .i64 iz))] st) := by
  intro r
  induction r with
  | nil =>
    intro i iz last hz hd hi hs hm
    have hi' := drop_nil hd hi
    subst hi' hz
    rw [x_iter]
    simp [u17_0]
    exact ⟨_, rfl⟩
  | cons a r ih =>
    intro i iz last hz hd hi hs hm
    subst hz
    obtain ⟨hlt, hli, hd'⟩ := drop_cons hd
    obtain ⟨s1, s2⟩ := List.pairwise_cons.1 hs
    have h1 : last < a := s1 a (by simp)
    have h2 : ¬ a ≤ last := by omega
    have h3 := hm a (by simp)
    have h4 : ¬ 1000000 < a := by omega
    have c1 : -100000 ≤ (i : Int) + 1 ∧ (i : Int) + 1 ≤ 100000 := by omega
    have goal := ih (i + 1) ((i : Int) + 1) a (by omega) hd' hlt s2 fun x hx => hm x (by simp [hx])
    rw [x_iter]
    simp [u17_0, hlt, hli, encI, h2, h4, wz _ c1]
    exact goal
theorem pCheck (k : Kn) (h : K50 k) : pureI Try.prog prims dx tbl 17 [.agg (encK k)] = some .nilifc := by
  rw [pureI_of (rfl : tbl 17 = some c17)]
  have hu := h.up
  have hl := h.len
  have g1 : ¬ k.up < 0 := by omega
  have g2 : ¬ 1000000 < k.up := by omega
  have g3 : ¬ (60 : Int) < k.more.length := by omega
  have c1 : -100000 ≤ k.up + 1 ∧ k.up + 1 ≤ 100000 := by omega
  obtain ⟨T', j1⟩ := loopCk k.more (by omega) ⟨[(true, [.fz (.int .i64 k.up), .fz (.list (k.more.map encI))])], [], 0⟩ k.more 0 0 (k.up + 1) rfl rfl (Nat.zero_le _) (List.pairwise_cons.2 ⟨fun x hx => (h.more x hx).1, h.ok.rise⟩) fun x hx => (h.more x hx).2
  simp only [encK]
  simp [c17, g1, g2, g3, wz _ c1, j1]
theorem rCheck (ds : List D) (st : Dv.St) : callI Try.prog prims dx tbl 17 ds st = callR Try.prog prims dx tbl 17 ds st (frL (fr st 6) ds) := callRw rfl rfl (rfl : tbl 17 = some c17) rfl ds st
theorem pIs : pureI Try.prog prims dx tbl 16 [.nilifc, .ifc 46 (.agg [])] = some (.bool false) := by
  refine pureI_spot 60 ?_
  kernel_rfl
theorem rIs (ds : List D) (st : Dv.St) : callI Try.prog prims dx tbl 16 ds st = callR Try.prog prims dx tbl 16 ds st (frL (fr st 6) ds) := callRw rfl rfl (rfl : tbl 16 = some c16) rfl ds st
theorem pMay (k : Kn) (h : K50 k) : pureI Try.prog prims dx tbl 8 [.agg (encK k)] = some (.bool true) := by
  rw [pureI_of (rfl : tbl 8 = some c8)]
  have h1 := pCheck k h
  have h2 := pIs
  simp only [encK] at h1 ⊢
  simp [c8, rCheck, rIs, callR, h1, h2]
theorem rMay (ds : List D) (st : Dv.St) : callI Try.prog prims dx tbl 8 ds st = callR Try.prog prims dx tbl 8 ds st (frL (fr st 6) ds) := callRw rfl rfl (rfl : tbl 8 = some c8) rfl ds st
theorem pCount (k : Kn) (h : K50 k) : pureI Try.prog prims dx tbl 9 [.agg (encK k)] = some (.int .i64 (k.up + k.more.length)) := by
  rw [pureI_of (rfl : tbl 9 = some c9)]
  have hu := h.up
  have hl := h.len
  have c1 : -100000 ≤ k.up + k.more.length ∧ k.up + k.more.length ≤ 100000 := by omega
  simp only [encK]
  simp [c9, wz _ c1]
theorem rCount (ds : List D) (st : Dv.St) : callI Try.prog prims dx tbl 9 ds st = callR Try.prog prims dx tbl 9 ds st (frL (fr st 6) ds) := callRw rfl rfl (rfl : tbl 9 = some c9) rfl ds st
end Go.Proofs.Ytoojkgoljghddaa.Pl
