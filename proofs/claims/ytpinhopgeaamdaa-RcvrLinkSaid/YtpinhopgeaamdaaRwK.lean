/-
  What is proved here: what came with another piece, and what is told: the loop that tells.
  Conditions: none.
-/
import Derived.Test.YtpinhopgeaamdaaRvK
set_option linter.unusedVariables false
set_option linter.unusedSimpArgs false
set_option maxRecDepth 100000
set_option maxHeartbeats 8000000
namespace Go.Proofs.Ytpinhopgeaamdaa.Pl
open Go Go.Proofs Go.Proofs.Ev Go.Proofs.Dv Cd
attribute [local simp] x_pure x_skip x_reg x_drw x_seq x_cond x_block x_loop' Tm.keep_nil x_exit x_ret k_seq k_seq_ret k_seq_exit k_seq_none k_seq_ite k_cond k_block k_block_ret k_block_exit k_block_none k_block_ite k_iter k_iter_ret k_iter_exit k_iter_none k_iter_ite k_reg k_reg_none k_reg_ite x_is_nil x_is x_is_g k_ins k_ins_none k_ins_ite k_grd x_ord_nil x_ord x_ord_g k_ord k_ord_none k_ord_ite k_ogrd k_out_ret k_out k_out_none k_out_ite k_pure k_pure_none k_pure_ite startD dI dA deo Tm.at Tm.dst Tm.set Tm.put Tm.keep dW dRes oneOfD mkTup mkAgg mkFn allF frL fr vD vD1 vF vFL dBin dEq dNil isNilD dScal F.cv eBin sameKind eInt eStr cellsD oneD F.one dFill putAtD chunk dbnd dSrc St.own St.drop St.still St.fresh chkQ stillQ freshQ lOf rdOf rdOK undefD F.full F.fullL List.mapIdx_cons strip allOne_nil allOne_cons allOne_append allLen_nil allLen_cons allLen_append roomOK_small filterT y_mv y_pick y_new y_box y_build y_bslice y_ld1 y_ldn y_nilchk y_bin y_not y_conv y_bytes y_string y_ifc y_fn y_cut y_cuts y_fa y_fld y_ia y_idx y_idxs y_ext y_len y_lenstr y_app y_grow y_mks y_slow y_call y_callv y_inv y_extc x_it_st x_it_clr x_it_cpy k_addT k_addT_none k_addT_ite k_orU k_orU_none dU D.turn turnL Tm.turn turnS St.turn turnRows_length

def OwnT (t z : Nat) (rows : List (List F)) (L : List Nat) (d : D) : Prop := (rows = [] ∧ d = .nils) ∨ ∃ t2, t2 ∈ L ∧ t2 ≠ t ∧ d = .ow t2 0 z rows
def PostC (up : Int) (dm : D) (d1 d0 : List D) (t : Nat) (res : List (List UInt8) × List Sg) (r : Option DSt) : Prop := ∃ (q : Nat) (d : D) (L : List Nat) (c : Nat) (T' : Tm), t ∈ L ∧ OwnT t 1 (res.1.map encT) L d ∧ T'.keep [2, 4, 8] = [(2, .ptr 0 0), (4, .ptr 2 0), (8, d)] ∧ r = some (.exit 3, T', ⟨[(true, [.fz (.int .i64 up), dm, .ow t q 2 (res.2.map encG)]), (true, d1), (true, d0)], L, c⟩)
theorem loopC (up : Int) (dm : D) (d1 d0 : List D) (t : Nat) : ∀ (l : List Sg) (told : List (List UInt8)) (R : List (List F)) (d : D) (q : Nat) (L : List Nat) (c : Nat), t ∈ L → t < c → R = told.map encT → OwnT t 1 R L d → told.length + l.length < 900000 →
    PostC up dm d1 d0 t (told ++ (runU up l).1, (runU up l).2) (iterI (dCw Try.prog (callI Try.prog prims dx tbl) l33_0) [2, 4, 8] [(2, .ptr 0 0), (4, .ptr 2 0), (8, d)] ⟨[(true, [.fz (.int .i64 up), dm, .ow t q 2 (l.map encG)]), (true, d1), (true, d0)], L, c⟩) := by
  intro l
  induction l with
  | nil =>
    intro told R d q L c ht hc hR ho hn
    subst hR
    rw [x_iter]
    simp [u33_0, ht, runU]
    exact ⟨q, d, L, c, _, ht, by simpa using ho, by simp [Tm.keep], rfl⟩
  | cons a r ih =>
    intro told R d q L c ht hc hR ho hn
    subst hR
    simp only [List.length_cons] at hn
    have tk : List.take r.length (r.map encG) = r.map encG := List.take_of_length_le (by simp)
    have o1 := (encT_ok told).1
    have r1 : roomOK 16 (told.length + 1) := roomOK_small (by omega) (by omega)
    have e1 : (told ++ [a.b]).length + r.length < 900000 := by simp; omega
    have e5 : ¬ t = c := by omega
    have e6 : ¬ t = c + 1 := by omega
    rw [x_iter]
    by_cases h : a.num ≤ up
    · have hs : (told ++ (runU up (a :: r)).1, (runU up (a :: r)).2) = ((told ++ [a.b]) ++ (runU up r).1, (runU up r).2) := by simp [runU, h]
      obtain ⟨res, hres⟩ : ∃ res, res = ((told ++ [a.b]) ++ (runU up r).1, (runU up r).2) := ⟨_, rfl⟩
      rw [hs, ← hres]
      rcases ho with ⟨h5, rfl⟩ | ⟨t2, h2, h3, rfl⟩
      · have h6 : told = [] := by simpa using h5
        subst h6
        simp [u33_0, ht, encG, h, tk, e5, e6, encT]
        rw [hres]
        refine ih ([] ++ [a.b]) [[.str a.b]] _ _ _ _ ?_ ?_ ?_ ?_ ?_
        · simp [ht, e5, e6]
        · omega
        · simp [encT]
        · exact .inr ⟨_, by simp, by omega, rfl⟩
        · simpa using e1
      · have e4 : ¬ t = t2 := fun e => h3 e.symm
        simp [u33_0, ht, h2, encG, h, tk, o1, r1, e4, e5, e6, encT]
        rw [hres]
        refine ih (told ++ [a.b]) (told.map encT ++ [[.str a.b]]) _ _ _ _ ?_ ?_ ?_ ?_ e1
        · simp [ht, e4, e5, e6]
        · omega
        · simp [encT]
        · exact .inr ⟨_, by simp, by omega, rfl⟩
    · have hs : (told ++ (runU up (a :: r)).1, (runU up (a :: r)).2) = (told, a :: r) := by simp [runU, h]
      rw [hs]
      simp [u33_0, ht, encG, h]
      refine ⟨q, d, L, c, _, ht, ho, ?_, rfl⟩
      simp [Tm.keep]
end Go.Proofs.Ytpinhopgeaamdaa.Pl
