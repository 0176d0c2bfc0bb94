/-
  What is proved here: versions that are held: one's own, where one stands, found.
  Conditions: none.
-/
import Derived.Test.YtmbboljcgpccfaaPfH
import Derived.Test.YtmbboljcgpccfaaSrH
set_option linter.unusedVariables false
set_option linter.unusedSimpArgs false
set_option maxRecDepth 100000
set_option maxHeartbeats 8000000
namespace Go.Proofs.Ytmbboljcgpccfaa.Pl
open Go Go.Proofs Go.Proofs.Ev Go.Proofs.Dv Cd
attribute [local simp] x_pure x_skip x_reg x_drw x_seq x_cond x_block x_loop' Tm.keep_nil x_exit x_ret k_seq k_seq_ret k_seq_exit k_seq_none k_seq_ite k_cond k_block k_block_ret k_block_exit k_block_none k_block_ite k_iter k_iter_ret k_iter_exit k_iter_none k_iter_ite k_reg k_reg_none k_reg_ite x_is_nil x_is x_is_g k_ins k_ins_none k_ins_ite k_grd x_ord_nil x_ord x_ord_g k_ord k_ord_none k_ord_ite k_ogrd k_out_ret k_out k_out_none k_out_ite k_pure k_pure_none k_pure_ite startD dI dA deo Tm.at Tm.dst Tm.set Tm.put Tm.keep dW dRes oneOfD mkTup mkAgg mkFn allF frL fr vD vD1 vF vFL dBin dEq dNil isNilD dScal F.cv eBin sameKind eInt eStr cellsD oneD F.one dFill putAtD chunk dbnd dSrc St.own St.drop St.still St.fresh chkQ stillQ freshQ lOf rdOf rdOK undefD F.full F.fullL List.mapIdx_cons strip allOne_nil allOne_cons allOne_append allLen_nil allLen_cons allLen_append roomOK_small filterT y_mv y_pick y_new y_box y_build y_bslice y_ld1 y_ldn y_nilchk y_bin y_not y_conv y_bytes y_string y_ifc y_fn y_cut y_cuts y_fa y_fld y_ia y_idx y_idxs y_ext y_len y_lenstr y_app y_grow y_mks y_slow y_call y_callv y_inv y_extc x_it_st x_it_clr x_it_cpy k_addT k_addT_none k_addT_ite k_orU k_orU_none dU D.turn turnL Tm.turn turnS St.turn turnRows_length

theorem encV_len' (v : Ver) : (encV v).length = 8 := rfl
theorem encA_ok (l : List (Int × Int)) : allOne (l.map encA) = true ∧ allLen 2 (l.map encA) = true := ⟨allOne_map encA (fun a => rfl) _, allLen_map 2 encA (fun a => rfl) _⟩
theorem rCloneA (ds : List D) (st : Dv.St) : callI Try.prog prims dx tbl 87 ds st = orC (dClone 2 16 ds st) (callI0 Try.prog prims dx tbl 87 ds st) := callRwX rfl rfl ds st
theorem pMine (v : Ver) (hl : v.ats.length < 100000) : pureI Try.prog prims dx tbl 57 [.agg (encV v)] = some (.agg (encV v)) := by
  rw [pureI_of (rfl : tbl 57 = some c57)]
  have o1 := encA_ok v.ats
  have r1 : roomOK 16 v.ats.length := roomOK_small (by omega) (by omega)
  simp [c57, encV, rCloneA, dClone, dSrc, orC, o1, r1]
theorem rMine (ds : List D) (st : Dv.St) : callI Try.prog prims dx tbl 57 ds st = callR Try.prog prims dx tbl 57 ds st (frL (fr st 6) ds) := callRw rfl rfl (rfl : tbl 57 = some c57) rfl ds st
/-! ### ref1.Find -/
def zeroVer : Ver := ⟨0, 0, 0, 0, false, [], [], []⟩
def findV : List Ver → Int → Ver × Bool
  | [], _ => (zeroVer, false)
  | a :: r, t => if a.item = t then (a, true) else findV r t
def zV : List D := [.fz (.int .i64 0), .fz (.int .i64 0), .fz (.int .i64 0), .fz (.int .i64 0), .fz (.bool false), .nils, .fz (.str []), .fz (.str [])]
def PostF (p : Ver × Bool) (r : Option DSt) : Prop := (∃ T' st', p.2 = true ∧ r = some (.ret, T', st') ∧ T'.at 4 = .ptr 0 0 ∧ T'.at 5 = .fz (.bool true) ∧ st' = ⟨[(true, (encV p.1).map .fz)], [], 0⟩) ∨
  (p = (zeroVer, false) ∧ ∃ T'', r = some (.exit 0, T'', ⟨[(true, zV)], [], 0⟩) ∧ T''.keep [4] = [(4, .ptr 0 0)])
theorem loopRFind (l : List Ver) (hl : l.length < 1000000) (t : Int) : ∀ (r : List Ver) (i : Nat) (iz : Int), iz = i → l.drop i = r → i ≤ l.length →
    PostF (findV r t) (iterI (dCw Try.prog (callI Try.prog prims dx tbl) l20_0) [0, 1, 4, 6] [(0, .fz (.list (l.map encV))), (1, .fz (.int .i64 t)), (4, .ptr 0 0), (6, .fz (.int .i64 iz))] ⟨[(true, zV)], [], 0⟩) := by
  intro r
  induction r with
  | nil =>
    intro i iz hz hd hi
    have hi' := drop_nil hd hi
    subst hi' hz
    rw [x_iter]
    simp [u20_0]
    exact .inr ⟨rfl, _, rfl, by simp [Tm.keep]⟩
  | cons a r ih =>
    intro i iz hz hd hi
    subst hz
    obtain ⟨hlt, hli, hd'⟩ := drop_cons hd
    have hw : wrapF .i64 ((i : Int) + 1) = (i : Int) + 1 := wrap_id _ (by omega) (by omega)
    rw [x_iter]
    by_cases hk : a.item = t
    · have hf : findV (a :: r) t = (a, true) := if_pos hk
      rw [hf]
      simp [u20_0, hlt, encV, hli, hk, zV]
      exact .inl ⟨_, _, rfl, rfl, by simp [Tm.at], by simp [Tm.at], by simp [encV, hk]⟩
    · have hf : findV (a :: r) t = findV r t := if_neg hk
      rw [hf]
      simp [u20_0, hlt, encV, hli, hk, hw]
      exact ih (i + 1) _ (by omega) hd' hlt
theorem pRFind (l : List Ver) (hl : l.length < 1000000) (t : Int) : pureI Try.prog prims dx tbl 20 [.list (l.map encV), .int .i64 t] = some (.tup [.agg (encV (findV l t).1), .bool (findV l t).2]) := by
  rw [pureI_of (rfl : tbl 20 = some c20)]
  rcases loopRFind l hl t l 0 0 rfl rfl (Nat.zero_le _) with ⟨T', st', h0, h1, h2, h3, rfl⟩ | ⟨h0, T', h1, h2⟩
  · rw [h0]
    simp [zV] at h1
    simp [c20, h1, h2, h3, encV]
  · rw [h0]
    simp [zV] at h1
    simp [c20, h1, h2, encV, zeroVer]
theorem rRFind (ds : List D) (st : Dv.St) : callI Try.prog prims dx tbl 20 ds st = callR Try.prog prims dx tbl 20 ds st (frL (fr st 6) ds) := callRw rfl rfl (rfl : tbl 20 = some c20) rfl ds st
end Go.Proofs.Ytmbboljcgpccfaa.Pl
