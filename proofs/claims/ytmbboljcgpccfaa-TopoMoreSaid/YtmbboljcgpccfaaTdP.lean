/-
  What is proved here: over how many edges each is from one: the outer loop.
  Conditions: none.
-/
import Derived.Test.YtmbboljcgpccfaaTcP
set_option linter.unusedVariables false
set_option linter.unusedSimpArgs false
set_option maxRecDepth 100000
set_option maxHeartbeats 8000000
namespace Go.Proofs.Ytmbboljcgpccfaa.Pl
open Go Go.Proofs Go.Proofs.Ev Go.Proofs.Dv Cd
attribute [local simp] x_pure x_skip x_reg x_drw x_seq x_cond x_block x_frz x_loop' Tm.keep_nil x_exit x_ret k_seq k_seq_ret k_seq_exit k_seq_none k_seq_ite k_cond k_block k_block_ret k_block_exit k_block_none k_block_ite k_iter k_iter_ret k_iter_exit k_iter_none k_iter_ite k_reg k_reg_none k_reg_ite x_is_nil x_is x_is_g k_ins k_ins_none k_ins_ite k_grd x_ord_nil x_ord x_ord_g k_ord k_ord_none k_ord_ite k_ogrd k_out_ret k_out k_out_none k_out_ite k_pure k_pure_none k_pure_ite startD dI dA deo Tm.at Tm.dst Tm.set Tm.put Tm.keep dW dRes oneOfD mkTup mkAgg mkFn allF frL fr vD vD1 vF vFL dBin dEq dNil isNilD dScal F.cv eBin sameKind eInt eStr cellsD oneD F.one dFill putAtD chunk dbnd dSrc St.own St.drop St.still St.fresh chkQ stillQ freshQ lOf rdOf rdOK undefD F.full F.fullL List.mapIdx_cons strip allOne_nil allOne_cons allOne_append allLen_nil allLen_cons allLen_append roomOK_small filterT y_mv y_pick y_new y_box y_build y_bslice y_ld1 y_ldn y_nilchk y_bin y_not y_conv y_bytes y_string y_ifc y_fn y_cut y_cuts y_fa y_fld y_ia y_idx y_idxs y_ext y_len y_lenstr y_app y_grow y_mks y_slow y_call y_callv y_inv y_extc x_it_st x_it_clr x_it_cpy k_addT k_addT_none k_addT_ite k_orU k_orU_none dU D.turn turnL Tm.turn turnS St.turn turnRows_length

theorem bfs_nil (e : List (Int × Int)) (k : Nat) (out : List Int) : bfs e k out [] = out := by cases k <;> rfl
def PostBf (res : List Int) (r : Option DSt) : Prop := ∃ (t : Nat) (L : List Nat) (c : Nat) (T' : Tm), t ∈ L ∧ t < c ∧ T'.keep [7] = [(7, .ow t 0 1 (res.map encI))] ∧ r = some (.exit 0, T', ⟨[], L, c⟩)
theorem loopBf (e : List (Int × Int)) (he : e.length < 1000000) (n : Nat) (hn : n ≤ 50) : ∀ (k : Nat) (out todo : List Int) (t s q : Nat) (L : List Nat) (c : Nat), Bok n out todo → negs out + todo.length ≤ k → k ≤ 100 → t ∈ L → s ∈ L → t ≠ s → t < c → s < c →
    PostBf (bfs e k out todo) (iterI (dCw Try.prog (callI Try.prog prims dx tbl) l79_1) [1, 7, 8] [(1, .fz (.list (e.map encE))), (7, .ow t 0 1 (out.map encI)), (8, .ow s q 1 (todo.map encI))] ⟨[], L, c⟩) := by
  intro k
  induction k with
  | zero =>
    intro out todo t s q L c b hk hk1 ht hs hts htc hsc
    obtain rfl : todo = [] := List.eq_nil_of_length_eq_zero (by omega)
    rw [x_iter]
    simp [u79_1, hs]
    exact ⟨t, L, c, _, ht, htc, by simp [Tm.keep, encI, bfs_nil], rfl⟩
  | succ k ih =>
    intro out todo t s q L c b hk hk1 ht hs hts htc hsc
    cases todo with
    | nil =>
      rw [x_iter]
      simp [u79_1, hs]
      exact ⟨t, L, c, _, ht, htc, by simp [Tm.keep, encI, bfs_nil], rfl⟩
    | cons a r =>
      rw [List.length_cons] at hk
      obtain ⟨a1, a2, a3⟩ := b.todo a (by simp)
      obtain ⟨t', s', q', L', c', T', h1, h2, h3, h4, h5, h6, h7⟩ := loopLk e he n hn a n 0 0 out r t s q L c (by omega) rfl b (by omega) ht hs hts htc hsc
      obtain ⟨b', hl'⟩ := lookR_ok e n a n 0 out (a :: r) (by omega) b ⟨a1, a2, a3⟩
      obtain ⟨r', hr'⟩ := lookR_head e a n 0 out r
      have hb : bfs e (k + 1) out (a :: r) = bfs e k (lookR e a n 0 out (a :: r)).1 r' := by
        simp only [bfs, b.len, hr', List.tail_cons]
      have hlr : (r'.length : Int) + 1 = ((r'.length + 1 : Nat) : Int) := by omega
      rw [hb, x_iter]
      rw [hr'] at h6 b' hl'
      rw [List.length_cons, List.length_cons] at hl'
      have b'' : Bok n (lookR e a n 0 out (a :: r)).1 r' := ⟨b'.len, b'.lo, fun y hy => b'.todo y (by simp [hy])⟩
      have goal := fun q => ih (lookR e a n 0 out (a :: r)).1 r' t' s' q L' c' b'' (by omega) (by omega) h1 h2 h3 h4 h5
      generalize (lookR e a n 0 out (a :: r)).1 = res at goal h6 ⊢
      have hlen := b.len
      have o1 := (encI_ok (a :: r)).1
      have o2 := (encI_ok (a :: r')).1
      simp [encI] at h6 h7
      simp [u79_1, hs, ht, hlen, encI, h6, h7, h1, h2]
      rw [List.take_of_length_le (by simp)]
      exact goal _
end Go.Proofs.Ytmbboljcgpccfaa.Pl
