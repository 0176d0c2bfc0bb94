/-
  What is proved here: slices.Compact of a row of texts.
  Conditions: none.
-/
import Derived.Test.YtiloimenibbeoaaNcM
set_option linter.unusedVariables false
set_option linter.unusedSimpArgs false
set_option maxRecDepth 100000
set_option maxHeartbeats 8000000
namespace Go.Proofs.Ytiloimenibbeoaa.Pl
open Go Go.Proofs Go.Proofs.Ev Go.Proofs.Dv Cd
attribute [local simp] x_pure x_skip x_reg x_drw x_seq x_cond x_block x_frz x_loop' Tm.keep_nil x_exit x_ret k_seq k_seq_ret k_seq_exit k_seq_none k_seq_ite k_cond k_block k_block_ret k_block_exit k_block_none k_block_ite k_iter k_iter_ret k_iter_exit k_iter_none k_iter_ite k_reg k_reg_none k_reg_ite x_is_nil x_is x_is_g k_ins k_ins_none k_ins_ite k_grd x_ord_nil x_ord x_ord_g k_ord k_ord_none k_ord_ite k_ogrd k_out_ret k_out k_out_none k_out_ite k_pure k_pure_none k_pure_ite startD dI dA deo Tm.at Tm.dst Tm.set Tm.put Tm.keep dW dRes oneOfD mkTup mkAgg mkFn allF frL fr vD vD1 vF vFL dBin dEq dNil isNilD dScal F.cv eBin sameKind eInt eStr cellsD oneD F.one dFill putAtD chunk dbnd dSrc St.own St.drop St.still St.fresh chkQ stillQ freshQ lOf rdOf rdOK undefD F.full F.fullL List.mapIdx_cons strip allOne_nil allOne_cons allOne_append allLen_nil allLen_cons allLen_append roomOK_small filterT y_mv y_pick y_new y_box y_build y_bslice y_ld1 y_ldn y_nilchk y_bin y_not y_conv y_bytes y_string y_ifc y_fn y_cut y_cuts y_fa y_fld y_ia y_idx y_idxs y_ext y_len y_lenstr y_app y_grow y_mks y_slow y_call y_callv y_inv y_extc x_it_st x_it_clr x_it_cpy k_addT k_addT_none k_addT_ite k_orU k_orU_none dU D.turn turnL Tm.turn turnS St.turn turnRows_length

def goC (p : List UInt8) : List (List UInt8) → List (List UInt8)
  | [] => []
  | y :: r => if y = p then goC p r else y :: goC y r
def cmpc : List (List UInt8) → List (List UInt8)
  | [] => []
  | x :: r => x :: goC x r
theorem goC_mem : ∀ (l : List (List UInt8)) (p x : List UInt8), x ∈ p :: goC p l ↔ x ∈ p :: l
  | [], p, x => by simp [goC]
  | y :: r, p, x => by
    simp only [goC]
    split
    · rename_i h
      subst h
      rw [goC_mem r y x]
      simp
    · have := goC_mem r y x
      rw [List.mem_cons, this, List.mem_cons (a := x) (b := p)]
theorem cmpc_mem : ∀ (l : List (List UInt8)) (x : List UInt8), x ∈ cmpc l ↔ x ∈ l
  | [], x => by simp [cmpc]
  | a :: r, x => goC_mem r a x
theorem goC_len : ∀ (l : List (List UInt8)) (p : List UInt8), (goC p l).length ≤ l.length
  | [], p => Nat.le_refl _
  | y :: r, p => by
    simp only [goC]
    split
    · have := goC_len r p; simp; omega
    · have := goC_len r y; simp; omega
theorem cmpc_len : ∀ (l : List (List UInt8)), (cmpc l).length ≤ l.length
  | [] => Nat.le_refl _
  | a :: r => by have := goC_len r a; simp [cmpc]; omega
theorem turn_setQ (v : List UInt8) : ∀ (l : List (List UInt8)) (q k : Nat), turnRows (rowU (q + k) 0 [.str v]) q (l.map encT) = (l.set k v).map encT
  | [], q, k => by simp [turnRows]
  | x :: r, q, 0 => by
    have h : ∀ (r : List (List UInt8)) (q' : Nat), q < q' → turnRows (rowU q 0 [.str v]) q' (r.map encT) = r.map encT := fun r => by
      induction r with
      | nil => intro q' _; rfl
      | cons y r ih =>
        intro q' hq
        simp only [List.map_cons, turnRows]
        rw [ih (q' + 1) (by omega)]
        congr 1
        simp only [rowU]
        rw [if_neg (by omega)]
    simp only [Nat.add_zero, List.map_cons, turnRows, List.set_cons_zero]
    rw [h r (q + 1) (by omega)]
    congr 1
    simp [rowU, encT]
  | x :: r, q, k + 1 => by
    simp only [List.map_cons, turnRows, List.set_cons_succ]
    have := turn_setQ v r (q + 1) k
    rw [show q + 1 + k = q + (k + 1) by omega] at this
    rw [this]
    congr 1
    simp only [rowU]
    rw [if_neg (by omega)]
theorem turn_setI (l : List (List UInt8)) (k : Nat) (v : List UInt8) : turnRows (rowU k 0 [.str v]) 0 (l.map encT) = (l.set k v).map encT := by
  have := turn_setQ v l 0 k
  rwa [Nat.zero_add] at this
theorem turn_setB {A B : List (List UInt8)} {k0 k : Nat} (hB : B = A.drop k0) (h : k0 ≤ k) (v : List UInt8) : turnRows (rowU k 0 [.str v]) k0 (B.map encT) = ((A.set k v).drop k0).map encT := by
  subst hB
  obtain ⟨d, rfl⟩ : ∃ d, k = k0 + d := ⟨k - k0, by omega⟩
  rw [turn_setQ, List.drop_set, if_neg (by omega)]
  congr 2
  omega
theorem turn_take (q : Nat) (rs : List (List F)) : ∀ (rows : List (List F)) (b n : Nat), b + n ≤ q → (turnRows (rowsU q rs) b rows).take n = rows.take n
  | [], b, n, _ => rfl
  | e :: r, b, 0, _ => rfl
  | e :: r, b, n + 1, h => by
    simp only [turnRows, List.take_succ_cons]
    rw [turn_take q rs r (b + 1) n (by omega)]
    congr 1
    simp only [rowsU]
    rw [if_neg (by omega)]
def PostIn (n : Nat) (R : List (List UInt8)) (r : Option DSt) : Prop := ∃ (t : Nat) (A : List (List UInt8)) (L : List Nat) (c : Nat) (T' : Tm), t ∈ L ∧ t < c ∧ A.length = n ∧ A.take R.length = R ∧ R.length < n ∧ T'.keep [0, 3] = [(0, .ow t 0 1 (A.map encT)), (3, .fz (.int .i64 R.length))] ∧ r = some (.exit 2, T', ⟨[], L, c⟩)
theorem loopIn (k0 : Nat) : ∀ (r : List (List UInt8)) (m k : Nat) (kz mz : Int) (p : List UInt8) (A B P : List (List UInt8)) (t : Nat) (L : List Nat) (c : Nat), kz = k → mz = (m : Int) + 1 → A.length ≤ 1000 → A.take k = P → P.length = k → k ≤ k0 + m → k0 ≤ k → A.drop (k0 + m) = p :: r → B = A.drop k0 → t ∈ L → t < c →
    PostIn A.length (P ++ goC p r) (iterI (dCw Try.prog (callI Try.prog prims dx tbl) l38_0) [0, 3, 4, 5] [(0, .ow t 0 1 (A.map encT)), (3, .fz (.int .i64 kz)), (4, .ow t k0 1 (B.map encT)), (5, .fz (.int .i64 mz))] ⟨[], L, c⟩) := by
  intro r
  induction r with
  | nil =>
    intro m k kz mz p A B P t L c hkz hmz hA hP hPk hkm hk0 hd hB ht htc
    subst hkz hmz
    have hlen : A.length = k0 + m + 1 := by
      have := congrArg List.length hd
      simp at this
      omega
    have hBl : B.length = m + 1 := by rw [hB, List.length_drop]; omega
    rw [x_iter]
    simp [beqB_eq, u38_0, hBl, ht]
    refine ⟨t, A, L, c, _, ht, htc, rfl, by simp [goC, hPk, hP], by simp [goC, hPk]; omega, ?_, rfl⟩
    simp [Tm.keep, goC, hPk]
  | cons y r ih =>
    intro m k kz mz p A B P t L c hkz hmz hA hP hPk hkm hk0 hd hB ht htc
    subst hkz hmz
    have hlen : A.length = k0 + m + 2 + r.length := by
      have := congrArg List.length hd
      simp at this
      omega
    have hBl : B.length = m + 2 + r.length := by rw [hB, List.length_drop]; omega
    have hd' : A.drop (k0 + (m + 1)) = y :: r := by
      have : A.drop (k0 + (m + 1)) = (A.drop (k0 + m)).drop 1 := by rw [List.drop_drop]; congr 1
      rw [this, hd]
      rfl
    have hm0 : m < B.length := by omega
    have hm1 : m + 1 < B.length := by omega
    have hBp : B[m] = p := by
      have h : (A.drop (k0 + m))[0]? = B[m]? := by rw [hB, List.getElem?_drop, List.getElem?_drop]; rfl
      rw [hd, List.getElem?_eq_getElem hm0] at h
      exact (Option.some.inj h).symm
    have hBy : B[m + 1] = y := by
      have h : (A.drop (k0 + (m + 1)))[0]? = B[m + 1]? := by rw [hB, List.getElem?_drop, List.getElem?_drop]; rfl
      rw [hd', List.getElem?_eq_getElem hm1] at h
      exact (Option.some.inj h).symm
    have hi : ((m : Int) + 1) = ((m + 1 : Nat) : Int) := by omega
    have c1 : -100000 ≤ (m : Int) + 1 + 1 ∧ (m : Int) + 1 + 1 ≤ 100000 := by omega
    have c2 : -100000 ≤ (k : Int) + 1 ∧ (k : Int) + 1 ≤ 100000 := by omega
    have c3 : (m : Int) + 1 - 1 = m := by omega
    have c4 : -100000 ≤ (m : Int) ∧ (m : Int) ≤ 100000 := by omega
    have g1 : (m : Int) + 1 < (B.length : Int) := by omega
    have g0 : 0 ≤ (m : Int) + 1 := by omega
    have hkA : k < A.length := by omega
    have o0 := (encT_ok A).1
    have o1 := (encT_ok B).1
    by_cases hy : y = p
    · subst hy
      have goal := ih (m + 1) k (k : Int) ((m : Int) + 1 + 1) y A B P t L c rfl (by omega) hA hP hPk (by omega) hk0 hd' hB ht htc
      have e : goC y (y :: r) = goC y r := by simp [goC]
      rw [e, x_iter]
      simp [beqB_eq, u38_0, hm0, hm1, hBp, hBy, encT, ht, g1, g0, wz _ c4, wz _ c1]
      exact goal
    · have hlen' : (A.set k y).length = A.length := List.length_set
      have goal := fun t L c => ih (m + 1) (k + 1) ((k : Int) + 1) ((m : Int) + 1 + 1) y (A.set k y) ((A.set k y).drop k0) (P ++ [y]) t L c (by omega) (by omega) (by omega) (by
        rw [List.take_set, List.take_add_one, hP, List.getElem?_eq_getElem hkA, Option.toList, List.set_append_right _ _ (by omega), hPk, Nat.sub_self]
        rfl) (by simp [hPk]) (by omega) (by omega) (by rw [List.drop_set, if_pos (by omega)]; exact hd') rfl
      rw [hlen'] at goal
      have e : P ++ goC p (y :: r) = P ++ [y] ++ goC y r := by simp [goC, hy]
      have n1 : ¬ t = c := by omega
      have n2 : ¬ c = t := by omega
      rw [e, x_iter]
      generalize P ++ [y] ++ goC y r = R at goal ⊢
      simp [beqB_eq, u38_0, hm0, hm1, hBp, hBy, hkA, encT, ht, g1, g0, hy, wz _ c4, wz _ c1, wz _ c2, turn_setI, turn_setB hB hk0, o0, o1, n1, n2]
      have m1 : (List.map encT A).set k [F.str y] = (A.set k y).map encT := by rw [List.map_set]; rfl
      rw [m1, ← List.map_drop]
      exact goal _ _ _ (by simp) (by omega)
/-- What is told at the end of the outer walk. -/
def PostOut (l : List (List UInt8)) (r : Option DSt) : Prop := (∃ T' : Tm, cmpc l = l ∧ T'.keep [0] = [(0, .ow 0 0 1 (l.map encT))] ∧ r = some (.exit 0, T', ⟨[], [0], 1⟩)) ∨ ∃ (t : Nat) (L : List Nat) (c : Nat) (T' : Tm), t ∈ L ∧ T'.at 2 = .ow t 0 1 ((cmpc l).map encT) ∧ r = some (.ret, T', ⟨[], L, c⟩)
theorem loopOut (l : List (List UInt8)) (hl : l.length ≤ 1000) : ∀ (r : List (List UInt8)) (m : Nat) (kz : Int) (p : List UInt8) (P : List (List UInt8)), kz = (m : Int) + 1 → l.drop m = p :: r → cmpc l = l.take (m + 1) ++ goC p r →
    PostOut l (iterI (dCw Try.prog (callI Try.prog prims dx tbl) l38_1) [0, 3] [(0, .ow 0 0 1 (l.map encT)), (3, .fz (.int .i64 kz))] ⟨[], [0], 1⟩) := by
  intro r
  induction r with
  | nil =>
    intro m kz p P hkz hd hc
    subst hkz
    have hlen : l.length = m + 1 := by
      have := congrArg List.length hd
      simp at this
      omega
    rw [x_iter]
    simp [beqB_eq, u38_1, hlen]
    refine .inl ⟨_, ?_, ?_, rfl⟩
    · rw [hc, goC, List.append_nil, List.take_of_length_le (by omega)]
    · simp [Tm.keep]
  | cons y r ih =>
    intro m kz p P hkz hd hc
    subst hkz
    have hlen : l.length = m + 2 + r.length := by
      have := congrArg List.length hd
      simp at this
      omega
    have hd' : l.drop (m + 1) = y :: r := by
      have : l.drop (m + 1) = (l.drop m).drop 1 := by rw [List.drop_drop]
      rw [this, hd]
      rfl
    have hm0 : m < l.length := by omega
    have hm1 : m + 1 < l.length := by omega
    have hp : l[m] = p := by
      have h : (l.drop m)[0]? = l[m]? := by rw [List.getElem?_drop]; rfl
      rw [hd, List.getElem?_eq_getElem hm0] at h
      exact (Option.some.inj h).symm
    have hy : l[m + 1] = y := by
      have h : (l.drop (m + 1))[0]? = l[m + 1]? := by rw [List.getElem?_drop]
      rw [hd', List.getElem?_eq_getElem hm1] at h
      exact (Option.some.inj h).symm
    have c1 : -100000 ≤ (m : Int) + 1 + 1 ∧ (m : Int) + 1 + 1 ≤ 100000 := by omega
    have c4 : -100000 ≤ (m : Int) ∧ (m : Int) ≤ 100000 := by omega
    have g1 : (m : Int) + 1 < (l.length : Int) := by omega
    have g0 : 0 ≤ (m : Int) + 1 := by omega
    have g2 : (m : Int) + 1 ≤ (l.length : Int) := by omega
    by_cases hyp : y = p
    · subst hyp
      have e : goC y (y :: r) = goC y r := by simp [goC]
      obtain ⟨t, A, L, c, T', ht, htc, hA, hR, hRl, k1, j1⟩ := loopIn (m + 1) r 0 (m + 1) ((m : Int) + 1) 1 y l (l.drop (m + 1)) (l.take (m + 1)) 0 [0] 1 (by omega) (by omega) hl rfl (by rw [List.length_take]; omega) (by omega) (by omega) (by simpa using hd') rfl (by simp) (by omega)
      rw [← e, ← hc] at hR hRl k1
      right
      have hcl : (cmpc l).length ≤ l.length := cmpc_len l
      have q1 : ((cmpc l).length : Int) ≤ (A.length : Int) := by omega
      have q2 : (cmpc l).length ≤ A.length := by omega
      have q3 : 0 < A.length - (cmpc l).length := by omega
      generalize cmpc l = R at *
      have m3 : List.take (l.length - (m + 1)) (List.drop (m + 1) (List.map encT l)) = List.map encT (List.drop (m + 1) l) := by
        rw [← List.map_drop]
        exact List.take_of_length_le (by simp)
      rw [← m3] at j1
      have g2' : m + 1 ≤ l.length := by omega
      have t1 : ∀ (rs rows : List (List F)), (turnRows (rowsU R.length rs) 0 rows).take R.length = rows.take R.length := fun rs rows => turn_take _ rs rows 0 _ (by omega)
      have t2 : (List.map encT A).take R.length = List.map encT R := by rw [← List.map_take, hR]
      have q4 : ¬ A.length - R.length = 0 := by omega
      have q5 : R.length < A.length := by omega
      refine ⟨c, _, _, _, ?_, ?_, (by
        rw [x_iter]
        simp [beqB_eq, u38_1, hm0, hm1, hp, hy, encT, g1, g0, g2', wz _ c4, wz _ c1, j1, k1, ht, q2, q3, q4, q5]
        exact ⟨rfl, rfl, rfl⟩)⟩
      · simp
      · simp [Tm.at, t1, t2]
    · have goal := ih (m + 1) ((m : Int) + 1 + 1) y P (by omega) hd' (by
        rw [hc, List.take_add_one (i := m + 1), List.getElem?_eq_getElem hm1, hy]
        simp [goC, hyp])
      rw [x_iter]
      simp [beqB_eq, u38_1, hm0, hm1, hp, hy, hyp, encT, g1, g0, wz _ c4, wz _ c1]
      exact goal
theorem oCompact (l : List (List UInt8)) (hl : l.length ≤ 1000) : ownI Try.prog prims dx tbl 38 [.ow 1 (l.map encT)] = some (.ow 1 ((cmpc l).map encT)) := by
  rw [ownI_of (rfl : tbl 38 = some c38)]
  cases l with
  | nil =>
    simp [beqB_eq, c38, x_own, ownK, ownK_ite, takeO, takeL, giveO, giveL, O.cnt, O.cntL, newL, aliveMv, St.back, callOwn, orC, cmpc]
  | cons p r =>
    cases r with
    | nil =>
      simp [beqB_eq, c38, x_own, ownK, ownK_ite, takeO, takeL, giveO, giveL, O.cnt, O.cntL, newL, aliveMv, St.back, callOwn, orC, cmpc, goC]
    | cons y r =>
      have hlen : ¬ ((p :: y :: r).length : Int) < 2 := by simp; omega
      have hlen2 : ¬ (r.length : Int) + 1 + 1 < 2 := by omega
      have g := loopOut (p :: y :: r) hl (y :: r) 0 1 p [] (by omega) rfl rfl
      generalize hX : p :: y :: r = X at *
      rcases g with ⟨T', k0, k1, j1⟩ | ⟨t, L, c, T', ht, k1, j1⟩
      · simp [beqB_eq, c38, x_own, ownK, ownK_ite, takeO, takeL, giveO, giveL, O.cnt, O.cntL, newL, aliveMv, St.back, callOwn, orC, hlen, j1, k1, k0]
      · simp [beqB_eq, c38, x_own, ownK, ownK_ite, takeO, takeL, giveO, giveL, O.cnt, O.cntL, newL, aliveMv, St.back, callOwn, orC, hlen, j1, k1, ht]
theorem rCompact (ds : List D) (st : Dv.St) : callI Try.prog prims dx tbl 38 ds st = orC (callOwn (ownI Try.prog prims dx tbl 38) ds st) (callI0 Try.prog prims dx tbl 38 ds st) := callRwO rfl rfl (rfl : tbl 38 = some c38) rfl ds st
end Go.Proofs.Ytiloimenibbeoaa.Pl
