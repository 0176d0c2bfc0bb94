/-
  What is proved here: what is within; which numbers may be.
  Conditions: none.
-/
import Derived.Test.YtjkichflkjcccaaBdB
set_option linter.unusedVariables false
set_option linter.unusedSimpArgs false
set_option maxRecDepth 100000
set_option maxHeartbeats 8000000
namespace Go.Proofs.Ytjkichflkjcccaa.Pl
open Go Go.Proofs Go.Proofs.Ev Go.Proofs.Dv Cd
attribute [local simp] x_pure x_skip x_reg x_drw x_seq x_cond x_block x_frz x_loop' Tm.keep_nil x_exit x_ret k_seq k_seq_ret k_seq_exit k_seq_none k_seq_ite k_cond k_block k_block_ret k_block_exit k_block_none k_block_ite k_iter k_iter_ret k_iter_exit k_iter_none k_iter_ite k_reg k_reg_none k_reg_ite x_is_nil x_is x_is_g k_ins k_ins_none k_ins_ite k_grd x_ord_nil x_ord x_ord_g k_ord k_ord_none k_ord_ite k_ogrd k_out_ret k_out k_out_none k_out_ite k_pure k_pure_none k_pure_ite startD dI dA deo Tm.at Tm.dst Tm.set Tm.put Tm.keep dW dRes oneOfD mkTup mkAgg mkFn allF frL fr vD vD1 vF vFL dBin dEq dNil isNilD dScal F.cv eBin sameKind eInt eStr cellsD oneD F.one dFill putAtD chunk dbnd dSrc St.own St.drop St.still St.fresh chkQ stillQ freshQ lOf rdOf rdOK undefD F.full F.fullL List.mapIdx_cons strip allOne_nil allOne_cons allOne_append allLen_nil allLen_cons allLen_append roomOK_small filterT y_mv y_pick y_new y_box y_build y_bslice y_ld1 y_ldn y_nilchk y_bin y_not y_conv y_bytes y_string y_ifc y_fn y_cut y_cuts y_fa y_fld y_ia y_idx y_idxs y_ext y_len y_lenstr y_app y_grow y_mks y_slow y_call y_callv y_inv y_extc x_it_st x_it_clr x_it_cpy k_addT k_addT_none k_addT_ite k_orU k_orU_none dU D.turn turnL Tm.turn turnS St.turn turnRows_length

theorem pWC (b : Kn) (hl : b.more.length < 1000000) (n : Int) : pureI Try.prog prims dx tbl 22 [.int .i64 n, .fp (encK b)] = some (.bool (!hasK b n)) := by
  rw [pureI_of (rfl : tbl 22 = some c22)]
  have hh := pHas b hl n
  simp only [encK] at hh ⊢
  simp [c22, rHas, callR, hh]
theorem rWC (ds : List D) (st : Dv.St) : callI Try.prog prims dx tbl 22 ds st = callR Try.prog prims dx tbl 22 ds st (frL (fr st 6) ds) := callRw rfl rfl (rfl : tbl 22 = some c22) rfl ds st
def idxP (p : Int → Bool) : List Int → Nat → Int
  | [], _ => -1
  | a :: r, n => if p a = true then n else idxP p r (n + 1)
theorem idxP_any (p : Int → Bool) : ∀ (l : List Int) (n : Nat), (0 ≤ idxP p l n ↔ l.any p = true)
  | [], n => by simp [idxP]
  | a :: r, n => by
    simp only [idxP, List.any_cons]
    cases h : p a
    · simpa using idxP_any p r (n + 1)
    · simp
theorem rIxF (ds : List D) (st : Dv.St) : callI Try.prog prims dx tbl 34 ds st = callR Try.prog prims dx tbl 34 ds st (frL (fr st 6) ds) := callRw rfl rfl (rfl : tbl 34 = some c34) rfl ds st
def PostIF (n : Int) (r : Option DSt) : Prop := ∃ T', r = some (if n < 0 then .exit 0 else .ret, T', ⟨[], [], 0⟩) ∧ (0 ≤ n → T'.at 4 = .fz (.int .i64 n))
theorem loopIF (p : Int → Bool) (g : Nat) (cs : List F) (l : List Int) (hc : ∀ x ∈ l, ∀ st, callI Try.prog prims dx tbl g (.fz (.int .i64 x) :: cs.map .fz) st = some (.fz (.bool (p x)), st, [])) (hl : l.length < 1000000) : ∀ (r : List Int) (i : Nat) (iz : Int), iz = i → l.drop i = r → i ≤ l.length →
    PostIF (idxP p r i) (iterI (dCw Try.prog (callI Try.prog prims dx tbl) l34_0) [0, 1, 7, 8] [(0, .fz (.list (l.map encI))), (1, .fz (.fn g cs)), (7, .fz (.int .i64 l.length)), (8, .fz (.int .i64 iz))] ⟨[], [], 0⟩) := by
  intro r
  induction r with
  | nil =>
    intro i iz hz hd hi
    have hi' := drop_nil hd hi
    subst hi' hz
    rw [x_iter]
    simp [u34_0, idxP]
    exact ⟨_, rfl, fun h => by omega⟩
  | cons a r ih =>
    intro i iz hz hd hi
    subst hz
    obtain ⟨hlt, hli, hd'⟩ := drop_cons hd
    have hw : wrapF .i64 ((i : Int) + 1) = (i : Int) + 1 := wrap_id _ (by omega) (by omega)
    have hca := hc a (by rw [← hli]; exact List.getElem_mem hlt)
    rw [x_iter]
    cases hk : p a with
    | true =>
      simp only [hk] at hca
      simp [u34_0, hlt, encI, hca, hli, hk, idxP]
      exact ⟨_, by rw [if_neg (by omega)], fun _ => rfl⟩
    | false =>
      simp only [hk] at hca
      simp [u34_0, hlt, encI, hca, hli, hk, idxP, hw]
      exact ih (i + 1) _ (by omega) hd' hlt
theorem pIxF (p : Int → Bool) (g : Nat) (cs : List F) (l : List Int) (hc : ∀ x ∈ l, ∀ st, callI Try.prog prims dx tbl g (.fz (.int .i64 x) :: cs.map .fz) st = some (.fz (.bool (p x)), st, [])) (hl : l.length < 1000000) : pureI Try.prog prims dx tbl 34 [.list (l.map encI), .fn g cs] = some (.int .i64 (idxP p l 0)) := by
  rw [pureI_of (rfl : tbl 34 = some c34)]
  obtain ⟨T', h1, h2⟩ := loopIF p g cs l hc hl l 0 0 rfl rfl (Nat.zero_le _)
  by_cases h : idxP p l 0 < 0
  · have h3 : idxP p l 0 = -1 := by
      have : ∀ (l : List Int) (n : Nat), idxP p l n = -1 ∨ 0 ≤ idxP p l n := by
        intro l
        induction l with
        | nil => intro n; exact .inl rfl
        | cons a r ih => intro n; simp only [idxP]; split; exact .inr (by omega); exact ih _
      have := this l 0
      omega
    rw [if_pos h] at h1
    simp [c34, h1, h3]
  · rw [if_neg h] at h1
    simp [c34, h1, h2 (by omega)]
theorem pConF (p : Int → Bool) (g : Nat) (cs : List F) (l : List Int) (hc : ∀ x ∈ l, ∀ st, callI Try.prog prims dx tbl g (.fz (.int .i64 x) :: cs.map .fz) st = some (.fz (.bool (p x)), st, [])) (hl : l.length < 1000000) : pureI Try.prog prims dx tbl 21 [.list (l.map encI), .fn g cs] = some (.bool (l.any p)) := by
  rw [pureI_of (rfl : tbl 21 = some c21)]
  have h1 := pIxF p g cs l hc hl
  have h2 := idxP_any p l 0
  cases h : l.any p with
  | true =>
    rw [h] at h2
    have h3 := h2.2 rfl
    simp [c21, rIxF, callR, h1, h3]
  | false =>
    rw [h] at h2
    have h3 : ¬ 0 ≤ idxP p l 0 := fun k => by simpa using h2.1 k
    simp [c21, rIxF, callR, h1, h3]
theorem rConF (ds : List D) (st : Dv.St) : callI Try.prog prims dx tbl 21 ds st = callR Try.prog prims dx tbl 21 ds st (frL (fr st 6) ds) := callRw rfl rfl (rfl : tbl 21 = some c21) rfl ds st
theorem pWithin (a b : Kn) (ha : a.more.length < 1000) (hb : b.more.length < 1000) : pureI Try.prog prims dx tbl 9 [.agg (encK a), .agg (encK b)] = some (.bool (withinK a b)) := by
  rw [pureI_of (rfl : tbl 9 = some c9)]
  have hC := pConF (fun n => !hasK b n) 22 [.fp (encK b)] a.more (fun x _ st => by
    have := pWC b (by omega) x
    simp [rWC, callR, this]) (by omega)
  have e : withinK a b = (decide (a.up ≤ b.up) && !a.more.any fun n => !hasK b n) := by
    unfold withinK
    congr 1
    rw [Bool.eq_iff_iff]
    simp
  rw [e]
  generalize a.more.any (fun n => !hasK b n) = q at *
  simp only [encK] at hC ⊢
  by_cases h : a.up ≤ b.up
  · cases q <;> simp [c9, h, rConF, callR, hC]
  · simp [c9, h]
theorem rWithin (ds : List D) (st : Dv.St) : callI Try.prog prims dx tbl 9 ds st = callR Try.prog prims dx tbl 9 ds st (frL (fr st 6) ds) := callRw rfl rfl (rfl : tbl 9 = some c9) rfl ds st
end Go.Proofs.Ytjkichflkjcccaa.Pl
