/-
  What is proved here: over a way on which pieces are lost, come twice, late: the walk of the loops.
  Conditions: none.
-/
import Derived.Test.YtpinhopgeaamdaaLpK
set_option linter.unusedVariables false
set_option linter.unusedSimpArgs false
set_option maxRecDepth 100000
set_option maxHeartbeats 8000000
namespace Go.Proofs.Ytpinhopgeaamdaa.Pl
open Go Go.Proofs Go.Proofs.Ev Go.Proofs.Dv Cd
attribute [local simp] x_pure x_skip x_reg x_drw x_seq x_cond x_block x_loop' Tm.keep_nil x_exit x_ret k_seq k_seq_ret k_seq_exit k_seq_none k_seq_ite k_cond k_block k_block_ret k_block_exit k_block_none k_block_ite k_iter k_iter_ret k_iter_exit k_iter_none k_iter_ite k_reg k_reg_none k_reg_ite x_is_nil x_is x_is_g k_ins k_ins_none k_ins_ite k_grd x_ord_nil x_ord x_ord_g k_ord k_ord_none k_ord_ite k_ogrd k_out_ret k_out k_out_none k_out_ite k_pure k_pure_none k_pure_ite startD dI dA deo Tm.at Tm.dst Tm.set Tm.put Tm.keep dW dRes oneOfD mkTup mkAgg mkFn allF frL fr vD vD1 vF vFL dBin dEq dNil isNilD dScal F.cv eBin sameKind eInt eStr cellsD oneD F.one dFill putAtD chunk dbnd dSrc St.own St.drop St.still St.fresh chkQ stillQ freshQ lOf rdOf rdOK undefD F.full F.fullL List.mapIdx_cons strip allOne_nil allOne_cons allOne_append allLen_nil allLen_cons allLen_append roomOK_small filterT y_mv y_pick y_new y_box y_build y_bslice y_ld1 y_ldn y_nilchk y_bin y_not y_conv y_bytes y_string y_ifc y_fn y_cut y_cuts y_fa y_fld y_ia y_idx y_idxs y_ext y_len y_lenstr y_app y_grow y_mks y_slow y_call y_callv y_inv y_extc x_it_st x_it_clr x_it_cpy k_addT k_addT_none k_addT_ite k_orU k_orU_none dU D.turn turnL Tm.turn turnS St.turn turnRows_length

def lett (i : Nat) : List UInt8 := (bytesF [[.int .u8 (wrapF .u8 (wrapF .i64 (97 + (i : Int))))]]).getD []
theorem lett_eq (i : Nat) : bytesF [[.int .u8 (wrapF .u8 (wrapF .i64 (97 + (i : Int))))]] = some (lett i) := rfl
def lets (n : Nat) : List (List UInt8) := (List.range n).map lett
theorem lets_succ (n : Nat) : lets (n + 1) = lets n ++ [lett n] := by simp [lets, List.range_succ]
theorem lett_len (i : Nat) : (lett i).length = 1 := rfl
theorem lets_flat : ∀ (l : List Nat), ((l.map lett).flatten).length = l.length
  | [] => rfl
  | i :: r => by
    have := lets_flat r
    rw [List.map_cons, List.flatten_cons, List.length_append, lett_len, this, List.length_cons]
    omega
theorem take_flat (k u : Nat) : (((lets k).take u).flatten).length ≤ k := by
  unfold lets
  rw [← List.map_take, lets_flat]
  simp
  omega
theorem lets_len (n : Nat) : (lets n).length = n := by simp [lets]
def wC (w : Wd) : List D := [.fz (.int .i64 w.base), .fz (.int .i64 w.next), .fz (.list (w.L.map encG)), .fz (.list (w.wait.map encT))]

/-! ### How many are sent -/
def PostK0 (k : Nat) (d1 : D) (r : Option DSt) : Prop := ∃ (w : Wd) (N : Nat) (L : List Nat) (c : Nat) (T' : Tm), Good w (lets k) 0 N ∧ T'.keep [1, 5, 6] = [(1, d1), (5, .fz (.int .i64 k)), (6, .ptr 0 0)] ∧ r = some (.exit 0, T', ⟨[(true, [.fz (.int .i64 w.base), .fz (.int .i64 w.next), .fz (.list (w.L.map encG)), .fz (.list (w.wait.map encT))])], L, c⟩)
theorem loopK0 (k : Nat) (hk : k ≤ 100) (d1 : D) : ∀ (m i : Nat) (iz : Int) (w : Wd) (N : Nat) (L : List Nat) (c : Nat), i + m = k → iz = i → Good w (lets i) 0 N →
    PostK0 k d1 (iterI (dCw Try.prog (callI Try.prog prims dx tbl) l13_0) [1, 5, 6, 7] [(1, d1), (5, .fz (.int .i64 k)), (6, .ptr 0 0), (7, .fz (.int .i64 iz))] ⟨[(true, [.fz (.int .i64 w.base), .fz (.int .i64 w.next), .fz (.list (w.L.map encG)), .fz (.list (w.wait.map encT))])], L, c⟩) := by
  intro m
  induction m with
  | zero =>
    intro i iz w N L c hm hz g
    obtain rfl : i = k := by omega
    subst hz
    rw [x_iter]
    simp [u13_0]
    exact ⟨w, N, L, c, _, g, by simp [Tm.keep], rfl⟩
  | succ m ih =>
    intro i iz w N L c hm hz g
    subst hz
    have hik : i < k := by omega
    have hok := g.ok (n := 200) (by rw [lets_len]; omega) (by omega)
    have hs := lett_eq i
    have hp := pSend w 200 (by omega) hok (lett i)
    obtain ⟨N', g'⟩ := g.send (lett i)
    rw [← lets_succ] at g'
    have hi1 : ((i : Int) + 1) = ((i + 1 : Nat) : Int) := by omega
    have goal := fun L c => ih (i + 1) _ (sendW w (lett i)) N' L c (by omega) hi1 g'
    generalize sendW w (lett i) = v at hp goal
    simp only [encW] at hp
    have hw : wrapF .i64 ((i : Int) + 1) = (i : Int) + 1 := wrap_id _ (by omega) (by omega)
    rw [x_iter]
    simp [u13_0, hik, hs, rSend, callR, hp, hw]
    exact goal _ _

/-! ### What is told, put together -/
def PostK1 (d1 d5 d10 d11 d12 d13 : D) (g : List UInt8) (st : Dv.St) (r : Option DSt) : Prop := ∃ T', T'.keep [1, 5, 6, 8, 9, 10, 11, 12, 13] = [(1, d1), (5, d5), (6, .ptr 0 0), (8, .ptr 1 0), (9, .fz (.str g)), (10, d10), (11, d11), (12, d12), (13, d13)] ∧ r = some (.exit 5, T', st)
theorem loopK1 (d1 d5 d10 d11 d12 d13 : D) (X : List (List UInt8)) (hX : X.length < 10000) (st : Dv.St) : ∀ (q : List (List UInt8)) (i : Nat) (iz : Int) (g : List UInt8), iz = i → X.drop i = q → i ≤ X.length → g.length + q.flatten.length < 1000000 →
    PostK1 d1 d5 d10 d11 d12 d13 (g ++ q.flatten) st (iterI (dCw Try.prog (callI Try.prog prims dx tbl) l13_1) [1, 5, 6, 8, 9, 10, 11, 12, 13, 15, 16] [(1, d1), (5, d5), (6, .ptr 0 0), (8, .ptr 1 0), (9, .fz (.str g)), (10, d10), (11, d11), (12, d12), (13, d13), (15, .fz (.list (X.map encT))), (16, .fz (.int .i64 iz))] st) := by
  intro q
  induction q with
  | nil =>
    intro i iz g hz hd hi hG
    have hi' := drop_nil hd hi
    subst hi' hz
    rw [x_iter]
    simp [u13_1]
    exact ⟨_, by simp [Tm.keep], rfl⟩
  | cons a q ih =>
    intro i iz g hz hd hi hG
    subst hz
    obtain ⟨hlt, hli, hd'⟩ := drop_cons hd
    have hi1 : ((i : Int) + 1) = ((i + 1 : Nat) : Int) := by omega
    rw [List.flatten_cons, List.length_append] at hG
    have hga : g.length + a.length < 9223372036854775807 := by omega
    have goal := ih (i + 1) _ (g ++ a) hi1 hd' hlt (by rw [List.length_append]; omega)
    have hw : wrapF .i64 ((i : Int) + 1) = (i : Int) + 1 := wrap_id _ (by omega) (by omega)
    rw [List.flatten_cons, ← List.append_assoc, x_iter]
    generalize (g ++ a) ++ q.flatten = res at goal ⊢
    simp [u13_1, hlt, encT, hli, hga, hw]
    exact goal
def PostK3 (d5 d17 d18 : D) (g : List UInt8) (st : Dv.St) (r : Option DSt) : Prop := ∃ T', T'.keep [5, 6, 8, 9, 17, 18] = [(5, d5), (6, .ptr 0 0), (8, .ptr 1 0), (9, .fz (.str g)), (17, d17), (18, d18)] ∧ r = some (.exit 11, T', st)
theorem loopK3 (d5 d17 d18 : D) (X : List (List UInt8)) (hX : X.length < 10000) (st : Dv.St) : ∀ (q : List (List UInt8)) (i : Nat) (iz : Int) (g : List UInt8), iz = i → X.drop i = q → i ≤ X.length → g.length + q.flatten.length < 1000000 →
    PostK3 d5 d17 d18 (g ++ q.flatten) st (iterI (dCw Try.prog (callI Try.prog prims dx tbl) l13_3) [5, 6, 8, 9, 17, 18, 20, 21] [(5, d5), (6, .ptr 0 0), (8, .ptr 1 0), (9, .fz (.str g)), (17, d17), (18, d18), (20, .fz (.list (X.map encT))), (21, .fz (.int .i64 iz))] st) := by
  intro q
  induction q with
  | nil =>
    intro i iz g hz hd hi hG
    have hi' := drop_nil hd hi
    subst hi' hz
    rw [x_iter]
    simp [u13_3]
    exact ⟨_, by simp [Tm.keep], rfl⟩
  | cons a q ih =>
    intro i iz g hz hd hi hG
    subst hz
    obtain ⟨hlt, hli, hd'⟩ := drop_cons hd
    have hi1 : ((i : Int) + 1) = ((i + 1 : Nat) : Int) := by omega
    rw [List.flatten_cons, List.length_append] at hG
    have hga : g.length + a.length < 9223372036854775807 := by omega
    have goal := ih (i + 1) _ (g ++ a) hi1 hd' hlt (by rw [List.length_append]; omega)
    have hw : wrapF .i64 ((i : Int) + 1) = (i : Int) + 1 := wrap_id _ (by omega) (by omega)
    rw [List.flatten_cons, ← List.append_assoc, x_iter]
    generalize (g ++ a) ++ q.flatten = res at goal ⊢
    simp [u13_3, hlt, encT, hli, hga, hw]
    exact goal
def PostK6 (k : Nat) (d8 d9 : D) (st : Dv.St) (r : Option DSt) : Prop := ∃ T' L c, T'.keep [5, 6, 8, 9, 22] = [(5, .fz (.int .i64 k)), (6, .ptr 0 0), (8, d8), (9, d9), (22, .fz (.str (lets k).flatten))] ∧ r = some (.exit 13, T', ⟨st.S, L, c⟩)
theorem loopK6 (k : Nat) (hk : k ≤ 100) (d8 d9 : D) (S : List (Bool × List D)) : ∀ (m i : Nat) (iz : Int) (L : List Nat) (c : Nat), i + m = k → iz = i →
    PostK6 k d8 d9 ⟨S, L, c⟩ (iterI (dCw Try.prog (callI Try.prog prims dx tbl) l13_6) [5, 6, 8, 9, 22, 23] [(5, .fz (.int .i64 k)), (6, .ptr 0 0), (8, d8), (9, d9), (22, .fz (.str (lets i).flatten)), (23, .fz (.int .i64 iz))] ⟨S, L, c⟩) := by
  intro m
  induction m with
  | zero =>
    intro i iz L c hm hz
    obtain rfl : i = k := by omega
    subst hz
    rw [x_iter]
    simp [u13_6]
    exact ⟨_, L, c, by simp [Tm.keep], rfl⟩
  | succ m ih =>
    intro i iz L c hm hz
    subst hz
    have hik : i < k := by omega
    have hs := lett_eq i
    have hi1 : ((i : Int) + 1) = ((i + 1 : Nat) : Int) := by omega
    have goal := fun L c => ih (i + 1) _ L c (by omega) hi1
    have e : (lets (i + 1)).flatten = (lets i).flatten ++ lett i := by rw [lets_succ]; simp
    rw [e] at goal
    have hF : (lets i).flatten.length = i := by unfold lets; rw [lets_flat]; simp
    have hga : (lets i).flatten.length + (lett i).length < 9223372036854775807 := by rw [hF, lett_len]; omega
    generalize (lets i).flatten = F at goal hga hF ⊢
    have hw : wrapF .i64 ((i : Int) + 1) = (i : Int) + 1 := wrap_id _ (by omega) (by omega)
    rw [x_iter]
    simp [u13_6, hik, hs, hga, mapI, mapI2, hw]
    obtain ⟨T', L', c', h1, h2⟩ := goal (c :: L) (c + 1)
    exact ⟨T', L', c', h1, h2⟩

end Go.Proofs.Ytpinhopgeaamdaa.Pl
