/-
  What is proved here: each thing is held once, the last of what came, in whichever order they came.
  Conditions: none.
-/
import Derived.Test.YtmbboljcgpccfaaHkH
set_option linter.unusedVariables false
set_option linter.unusedSimpArgs false
set_option maxRecDepth 100000
set_option maxHeartbeats 8000000
namespace Go.Proofs.Ytmbboljcgpccfaa.Pl
open Go Go.Proofs Go.Proofs.Ev Go.Proofs.Dv Cd
attribute [local simp] x_pure x_skip x_reg x_drw x_seq x_cond x_block x_loop' Tm.keep_nil x_exit x_ret k_seq k_seq_ret k_seq_exit k_seq_none k_seq_ite k_cond k_block k_block_ret k_block_exit k_block_none k_block_ite k_iter k_iter_ret k_iter_exit k_iter_none k_iter_ite k_reg k_reg_none k_reg_ite x_is_nil x_is x_is_g k_ins k_ins_none k_ins_ite k_grd x_ord_nil x_ord x_ord_g k_ord k_ord_none k_ord_ite k_ogrd k_out_ret k_out k_out_none k_out_ite k_pure k_pure_none k_pure_ite startD dI dA deo Tm.at Tm.dst Tm.set Tm.put Tm.keep dW dRes oneOfD mkTup mkAgg mkFn allF frL fr vD vD1 vF vFL dBin dEq dNil isNilD dScal F.cv eBin sameKind eInt eStr cellsD oneD F.one dFill putAtD chunk dbnd dSrc St.own St.drop St.still St.fresh chkQ stillQ freshQ lOf rdOf rdOK undefD F.full F.fullL List.mapIdx_cons strip allOne_nil allOne_cons allOne_append allLen_nil allLen_cons allLen_append roomOK_small filterT y_mv y_pick y_new y_box y_build y_bslice y_ld1 y_ldn y_nilchk y_bin y_not y_conv y_bytes y_string y_ifc y_fn y_cut y_cuts y_fa y_fld y_ia y_idx y_idxs y_ext y_len y_lenstr y_app y_grow y_mks y_slow y_call y_callv y_inv y_extc x_it_st x_it_clr x_it_cpy k_addT k_addT_none k_addT_ite k_orU k_orU_none dU D.turn turnL Tm.turn turnS St.turn turnRows_length

theorem mapI {α : Type} (S : List α) : List.mapIdx (fun _ p => p) S = S := by
  apply List.ext_getElem?
  intro i
  simp
theorem mapI2 {α : Type} (S : List α) : List.mapIdx (fun _ => (fun p : α => p) ∘ fun p => p) S = S := mapI S
theorem st_eq (x y : Int × Int × Int) : (x.1 == y.1 && (x.2.1 == y.2.1 && x.2.2 == y.2.2)) = decide (x = y) := by
  obtain ⟨a, b, c⟩ := x
  obtain ⟨a', b', c'⟩ := y
  rw [Bool.eq_iff_iff]
  simp
theorem eHo : eqOStamp (operAt Try.prog 4 30) = some (true, 36, 41) := by kernel_rfl
def PostE0 (l : List Ver) (tn : Int) (i : Nat) (st : Dv.St) (r : Option DSt) : Prop := (∃ T' st', r = some (.ret, T', st') ∧ T'.at 4 = .fz (.bool true)) ∨
  (∃ T', r = some (.exit 2, T', st) ∧ T'.keep [1, 5, 6] = [(1, .fz (.int .u8 tn)), (5, .fz (.list (l.map encV))), (6, .fz (.int .i64 i))] ∧ ∀ (j : Nat) (x y : Ver), j < i → l[j]? = some x → l[i]? = some y → x.s ≠ y.s)
theorem loopE0 (l : List Ver) (hl : l.length ≤ 1000) (tn : Int) (i : Nat) (hi : i < l.length) (st : Dv.St) : ∀ (m k : Nat) (kz iz : Int), k + m = i → kz = k → iz = i → (∀ (j : Nat) (x y : Ver), j < k → l[j]? = some x → l[i]? = some y → x.s ≠ y.s) →
    PostE0 l tn i st (iterI (dCw Try.prog (callI Try.prog prims dx tbl) l4_0) [1, 5, 6, 7] [(1, .fz (.int .u8 tn)), (5, .fz (.list (l.map encV))), (6, .fz (.int .i64 iz)), (7, .fz (.int .i64 kz))] st) := by
  intro m
  induction m with
  | zero =>
    intro k kz iz hk hkz hiz hne
    obtain rfl : k = i := by omega
    subst hkz hiz
    rw [x_iter]
    simp [u4_0]
    exact .inr ⟨_, rfl, by simp [Tm.keep], hne⟩
  | succ m ih =>
    intro k kz iz hk hkz hiz hne
    subst hkz hiz
    have hki : k < i := by omega
    have hkl : k < l.length := by omega
    obtain ⟨x, hx⟩ : ∃ x, l[k] = x := ⟨_, rfl⟩
    obtain ⟨y, hy⟩ : ∃ y, l[i] = y := ⟨_, rfl⟩
    have hx' : l[k]? = some x := by rw [List.getElem?_eq_getElem hkl, hx]
    have hy' : l[i]? = some y := by rw [List.getElem?_eq_getElem hi, hy]
    have he := st_eq y.s x.s
    have he' : (y.a == x.a && (y.b == x.b && y.c == x.c)) = decide (y.s = x.s) := he
    have hk1 : ((k : Int) + 1) = ((k + 1 : Nat) : Int) := by omega
    have hm1 : (k + 1) + m = i := by omega
    have hw : wrapF .i64 ((k : Int) + 1) = (k : Int) + 1 := wrap_id _ (by omega) (by omega)
    rw [x_iter]
    by_cases hs : y.s = x.s
    · rw [decide_eq_true hs] at he'
      simp [u4_0, hki, hkl, hi, encV, hx, hy, slow_eqStamp eHo, eqDStamp, he']
      exact .inl ⟨_, _, rfl, by simp [Tm.at]⟩
    · rw [decide_eq_false hs] at he'
      simp [u4_0, hki, hkl, hi, encV, hx, hy, slow_eqStamp eHo, eqDStamp, he', hw]
      refine ih (k + 1) _ _ hm1 hk1 rfl fun j x' y' hj hx2 hy2 => ?_
      by_cases hjk : j = k
      · subst hjk
        rw [hx'] at hx2
        rw [hy'] at hy2
        cases hx2; cases hy2
        exact fun e => hs e.symm
      · exact hne j x' y' (by omega) hx2 hy2
def PostE1 (l : List Ver) (tn : Int) (r : Option DSt) : Prop := (∃ T' st', r = some (.ret, T', st') ∧ T'.at 4 = .fz (.bool true)) ∨
  (∃ T' st', r = some (.exit 0, T', st') ∧ T'.keep [1, 5] = [(1, .fz (.int .u8 tn)), (5, .fz (.list (l.map encV)))] ∧ ∀ (i j : Nat) (x y : Ver), j < i → l[j]? = some x → l[i]? = some y → x.s ≠ y.s)
theorem loopE1 (l : List Ver) (hl : l.length ≤ 1000) (tn : Int) (st : Dv.St) : ∀ (m i : Nat) (iz : Int), i + m = l.length → iz = i → (∀ (i' j : Nat) (x y : Ver), i' < i → j < i' → l[j]? = some x → l[i']? = some y → x.s ≠ y.s) →
    PostE1 l tn (iterI (dCw Try.prog (callI Try.prog prims dx tbl) l4_1) [1, 5, 6] [(1, .fz (.int .u8 tn)), (5, .fz (.list (l.map encV))), (6, .fz (.int .i64 iz))] st) := by
  intro m
  induction m with
  | zero =>
    intro i iz hm hz hne
    obtain rfl : i = l.length := by omega
    subst hz
    rw [x_iter]
    simp [u4_1]
    refine .inr ⟨_, _, rfl, by simp [Tm.keep], fun i' j x y hj hx hy => ?_⟩
    have hil : i' < l.length := (List.getElem?_eq_some_iff.1 hy).1
    exact hne i' j x y hil hj hx hy
  | succ m ih =>
    intro i iz hm hz hne
    subst hz
    have hil : i < l.length := by omega
    have hi1 : ((i : Int) + 1) = ((i + 1 : Nat) : Int) := by omega
    have hm1 : (i + 1) + m = l.length := by omega
    have hw : wrapF .i64 ((i : Int) + 1) = (i : Int) + 1 := wrap_id _ (by omega) (by omega)
    rw [x_iter]
    rcases loopE0 l hl tn i hil st i 0 0 i (by omega) rfl rfl (fun j x y hj => by omega) with ⟨T', st', h1, h2⟩ | ⟨T', h1, h2, h3⟩
    · simp [u4_1, hil, h1]
      exact .inl ⟨_, _, rfl, h2⟩
    · simp [u4_1, hil, h1, h2, hw]
      refine ih (i + 1) _ hm1 hi1 fun i' j x y hi' hj hx hy => ?_
      by_cases he : i' = i
      · subst he
        exact h3 j x y hj hx hy
      · exact hne i' j x y (by omega) hj hx hy

/-- Of the first so many, from a place on, round and round. -/
def rotV (rows : List Ver) (tn : Nat) (n : Nat) : List Ver := (List.range n).filterMap fun k => rows[(k + tn) % rows.length]?
theorem rotV_succ (rows : List Ver) (tn n : Nat) (h : Ver) (hh : rows[(n + tn) % rows.length]? = some h) : rotV rows tn (n + 1) = rotV rows tn n ++ [h] := by
  unfold rotV
  rw [List.range_succ, List.filterMap_append]
  simp [hh]
theorem rotV_mem (rows : List Ver) (tn : Nat) (h : Ver) : h ∈ rotV rows tn rows.length ↔ h ∈ rows := by
  unfold rotV
  rw [List.mem_filterMap]
  constructor
  · rintro ⟨k, _, hk⟩
    exact List.mem_of_getElem? hk
  · intro hm
    obtain ⟨j, hj⟩ := List.mem_iff_getElem?.1 hm
    have hjl : j < rows.length := (List.getElem?_eq_some_iff.1 hj).1
    have h0 : 0 < rows.length := by omega
    have ht := Nat.mod_lt tn h0
    refine ⟨(j + (rows.length - tn % rows.length)) % rows.length, by simp; exact Nat.mod_lt _ h0, ?_⟩
    have e : ((j + (rows.length - tn % rows.length)) % rows.length + tn) % rows.length = j := by
      rw [Nat.mod_add_mod, ← Nat.add_mod_mod, Nat.add_assoc, Nat.sub_add_cancel (Nat.le_of_lt ht), Nat.add_mod_right, Nat.mod_eq_of_lt hjl]
    rw [e]
    exact hj
theorem rot_w (k tn j n : Nat) (hk : k < n) (hn : n ≤ 1000) (ht : tn < 256) (hj : j = (k + tn) % n) : ((k : Int) + (tn : Int)).tmod (n : Int) = (j : Int) ∧ wrapF .i64 (tn : Int) = tn ∧ wrapF .i64 ((k : Int) + (tn : Int)) = (k : Int) + tn ∧ wrapF .i64 (j : Int) = j ∧ wrapF .i64 ((k : Int) + 1) = (k : Int) + 1 := by
  have hjn : j < n := by rw [hj]; exact Nat.mod_lt _ (by omega)
  have hjz : ((k : Int) + (tn : Int)).tmod (n : Int) = (j : Int) := by
    rw [Int.tmod_eq_emod_of_nonneg (by omega), hj]
    simp
  exact ⟨hjz, wrap_id _ (by omega) (by omega), wrap_id _ (by omega) (by omega), wrap_id _ (by omega) (by omega), wrap_id _ (by omega) (by omega)⟩
def PostE2 (rows : List Ver) (tn : Nat) (r : Option DSt) : Prop := ∃ (d e : D) (T' : Tm) (st' : Dv.St), FrzD ((heldV rows).map encV) d ∧ FrzD ((heldV (rotV rows tn rows.length)).map encV) e ∧ T'.keep [5, 8, 9] = [(5, .fz (.list (rows.map encV))), (8, d), (9, e)] ∧ r = some (.exit 4, T', st')
theorem loopE2 (rows : List Ver) (hr : rows.length ≤ 1000) (ho : OkVs rows) (tn : Nat) (htn : tn < 256) : ∀ (m k : Nat) (kz : Int) (d e : D) (st : Dv.St), k + m = rows.length → kz = k → FrzD ((heldV (rows.take k)).map encV) d → FrzD ((heldV (rotV rows tn k)).map encV) e →
    PostE2 rows tn (iterI (dCw Try.prog (callI Try.prog prims dx tbl) l4_2) [1, 5, 8, 9, 10] [(1, .fz (.int .u8 tn)), (5, .fz (.list (rows.map encV))), (8, d), (9, e), (10, .fz (.int .i64 kz))] st) := by
  intro m
  induction m with
  | zero =>
    intro k kz d e st hk hz hd he
    obtain rfl : k = rows.length := by omega
    rw [x_iter]
    simp [u4_2, hz]
    rw [List.take_of_length_le (Nat.le_refl _)] at hd
    exact ⟨d, e, _, _, hd, he, by simp [Tm.keep], rfl⟩
  | succ m ih =>
    intro k kz d e st hk hz hd he
    subst hz
    have hkl : k < rows.length := by omega
    obtain ⟨a, ha⟩ : ∃ a, rows[k] = a := ⟨_, rfl⟩
    have hak : rows[k]? = some a := by rw [List.getElem?_eq_getElem hkl, ha]
    obtain ⟨j, hj⟩ : ∃ j, j = (k + tn) % rows.length := ⟨_, rfl⟩
    have hjl : j < rows.length := by rw [hj]; exact Nat.mod_lt _ (by omega)
    obtain ⟨b, hb⟩ : ∃ b, rows[j] = b := ⟨_, rfl⟩
    have hbj : rows[j]? = some b := by rw [List.getElem?_eq_getElem hjl, hb]
    have oa : a.ok := ho a (List.mem_of_getElem? hak)
    have ob : b.ok := ho b (List.mem_of_getElem? hbj)
    have sk := held_rise (rows.take k)
    have srk := held_rise (rotV rows tn k)
    have ok : OkVs (heldV (rows.take k)) := fun z hz => ho z (List.mem_of_mem_take (held_mem z hz))
    have ork : OkVs (heldV (rotV rows tn k)) := fun z hz => by
      have := held_mem z hz
      unfold rotV at this
      obtain ⟨q, _, hq⟩ := List.mem_filterMap.1 this
      exact ho z (List.mem_of_getElem? hq)
    have nk := held_len sk ok
    have nrk := held_len srk ork
    have p1 := pPutV (heldV (rows.take k)) (by omega) sk ok.ats a (by have := oa.ats; omega)
    have p2 := pPutV (heldV (rotV rows tn k)) (by omega) srk ork.ats b (by have := ob.ats; omega)
    have e1 : heldV (rows.take (k + 1)) = putV (heldV (rows.take k)) a := by
      rw [List.take_add_one, hak]
      exact heldV_snoc _ _
    have e2 : heldV (rotV rows tn (k + 1)) = putV (heldV (rotV rows tn k)) b := by
      rw [rotV_succ rows tn k b (by rw [← hj]; exact hbj)]
      exact heldV_snoc _ _
    simp only [encV] at p1 p2
    have hk1 : (k : Int) + 1 = ((k + 1 : Nat) : Int) := by omega
    have hkm : (k + 1) + m = rows.length := by omega
    have hn0 : ¬ rows = [] := fun e => by rw [e] at hkl; simp at hkl
    obtain ⟨hjz, w0, w1, w2, w3⟩ := rot_w k tn j rows.length hkl hr htn hj
    have goal := fun st => ih (k + 1) _ (.fz (.list ((putV (heldV (rows.take k)) a).map encV))) (.fz (.list ((putV (heldV (rotV rows tn k)) b).map encV))) st hkm rfl (by rw [e1]; exact .inr rfl) (by rw [e2]; exact .inr rfl)
    simp only [← hk1] at goal
    generalize putV (heldV (rows.take k)) a = A at p1 goal
    generalize putV (heldV (rotV rows tn k)) b = B at p2 goal
    rw [x_iter]
    rcases hd with ⟨h5, rfl⟩ | rfl <;> rcases he with ⟨h6, rfl⟩ | rfl
    · rw [h5] at p1
      rw [h6] at p2
      simp [u4_2, hkl, hjl, ha, hb, encV_len, encV_take, rPutV, callR, p1, p2, w0, w1, w2, w3, hjz, hn0]
      exact goal _
    · rw [h5] at p1
      simp [u4_2, hkl, hjl, ha, hb, encV_len, encV_take, rPutV, callR, p1, p2, w0, w1, w2, w3, hjz, hn0]
      exact goal _
    · rw [h6] at p2
      simp [u4_2, hkl, hjl, ha, hb, encV_len, encV_take, rPutV, callR, p1, p2, w0, w1, w2, w3, hjz, hn0]
      exact goal _
    · simp [u4_2, hkl, hjl, ha, hb, encV_len, encV_take, rPutV, callR, p1, p2, w0, w1, w2, w3, hjz, hn0]
      exact goal _
def PostE3 (r : Option DSt) : Prop := ∃ (T' : Tm) (st' : Dv.St), r = some (.exit 6, T', st')
theorem loopE3 (rows acc : List Ver) (hr : rows.length ≤ 1000) (hs : Rise Ver.item acc) (hn : acc.length ≤ 1000) (ha : ∀ v ∈ acc, v.ats.length < 100000) (hf : ∀ v ∈ rows, ∃ x, lookV acc v.item = some x ∧ ¬ cmpS x.s v.s < 0) (d : D) (hd : FrzD (acc.map encV) d) : ∀ (r : List Ver) (i : Nat) (iz : Int) (S : List (Bool × List D)) (L : List Nat) (c : Nat), iz = i → rows.drop i = r → i ≤ rows.length →
    PostE3 (iterI (dCw Try.prog (callI Try.prog prims dx tbl) l4_3) [5, 8, 11] [(5, .fz (.list (rows.map encV))), (8, d), (11, .fz (.int .i64 iz))] ⟨S, L, c⟩) := by
  intro r
  induction r with
  | nil =>
    intro i iz S L c hz hdr hi
    have hi' := drop_nil hdr hi
    subst hi' hz
    rw [x_iter]
    simp [u4_3]
    exact ⟨_, _, rfl⟩
  | cons a r ih =>
    intro i iz S L c hz hdr hi
    subst hz
    obtain ⟨hlt, hli, hd'⟩ := drop_cons hdr
    have hm : a ∈ rows := by rw [← hli]; exact List.getElem_mem hlt
    obtain ⟨x, hx, hc⟩ := hf a hm
    have f1 := pFind acc (by omega) hs ha a.item
    rw [find_look, hx] at f1
    simp only [encV] at f1
    have hcm := pRCmp x.a x.b x.c a.a a.b a.c
    have ee : cmpS (x.a, x.b, x.c) (a.a, a.b, a.c) = cmpS x.s a.s := rfl
    rw [ee] at hcm
    have hc' : 0 ≤ cmpS x.s a.s := by omega
    have hi1 : ((i : Int) + 1) = ((i + 1 : Nat) : Int) := by omega
    have hw : wrapF .i64 ((i : Int) + 1) = (i : Int) + 1 := wrap_id _ (by omega) (by omega)
    have get1 : (S ++ [(true, [D.fz (.int .i64 x.item), .fz (.int .i64 x.a), .fz (.int .i64 x.b), .fz (.int .i64 x.c), .fz (.bool x.dead), .fz (.list (x.ats.map encA)), .fz (.str x.tag), .fz (.str x.body)])])[S.length]? = some (true, [D.fz (.int .i64 x.item), .fz (.int .i64 x.a), .fz (.int .i64 x.b), .fz (.int .i64 x.c), .fz (.bool x.dead), .fz (.list (x.ats.map encA)), .fz (.str x.tag), .fz (.str x.body)]) := by simp
    have set1 : ∀ y z : Bool × List D, (S ++ [y]).set S.length z = S ++ [z] := fun y z => by
      rw [List.set_append_right _ _ (Nat.le_refl _)]
      simp
    rw [x_iter]
    rcases hd with ⟨h5, rfl⟩ | rfl
    · have h6 : acc = [] := by simpa using h5
      subst h6
      cases hx
    · simp [u4_3, hlt, hli, encV_len, encV_take, encV, rFind, callR, f1, set1, rRCmp, hcm, hc, hc', hw]
      exact ih (i + 1) _ _ _ _ hi1 hd' hlt
theorem pHoldOnce (l1 : List Int) (h1 : l1.length ≤ maxLen) (hb1 : ∀ z ∈ l1, 0 ≤ z ∧ z < 256) (tz : Int) (hz : 0 ≤ tz ∧ tz < 256) :
    pureI Try.prog prims dx tbl 4 [.list (l1.map fun z => [.int .u8 z]), .int .u8 tz] = some (.bool true) := by
  rw [pureI_of (rfl : tbl 4 = some c4)]
  by_cases g1 : 80 < l1.length
  · simp [c4, qBegun10, show (80 : Int) < l1.length by omega]
  · obtain ⟨tn, rfl⟩ : ∃ tn : Nat, tz = tn := ⟨tz.toNat, by omega⟩
    obtain ⟨rows, ho, hr, er⟩ := pRows l1 (u8s_of (by omega) hb1)
    rcases loopE1 rows (by omega) tn ⟨[], [], 0⟩ rows.length 0 0 (by omega) rfl (fun i' j x y hi => by omega) with ⟨T1, st1, h2, h3⟩ | ⟨T1, st1, h2, h3, h4⟩
    · simp [c4, qBegun10, show ¬ (80 : Int) < l1.length by omega, rRows, callR, er, h2, h3]
    · have inj : ∀ x y, x ∈ rows → y ∈ rows → x.s = y.s → x = y := by
        intro x y hx hy he
        obtain ⟨i, hi⟩ := List.mem_iff_getElem?.1 hx
        obtain ⟨j, hj⟩ := List.mem_iff_getElem?.1 hy
        rcases Nat.lt_trichotomy i j with hlt | heq | hgt
        · exact absurd he (h4 j i x y hlt hi hj)
        · subst heq
          rw [hi] at hj
          exact Option.some.inj hj
        · exact absurd he.symm (h4 i j y x hgt hj hi)
      obtain ⟨d, e, T2, st2, hd, he, hk2, hT2⟩ := loopE2 rows (by omega) ho tn (by omega) rows.length 0 0 .nils .nils st1 (by omega) rfl (.inl ⟨rfl, rfl⟩) (.inl ⟨rfl, rfl⟩)
      rw [← held_same (X := rows) inj (rotV_mem rows tn)] at he
      have hs := held_rise rows
      have ok : OkVs (heldV rows) := fun z hz => ho z (held_mem z hz)
      have nk := held_len hs ok
      have s1 := pSameAll (heldV rows) (by omega) ok.ats
      have d1 := pHeadsV (heldV rows) (by omega)
      have d2 := pRMayH ((heldV rows).map hdV) (by simp; omega)
      rw [(hdVs_ok ok).may (hdV_srt hs)] at d2
      have hf : ∀ v ∈ rows, ∃ x, lookV (heldV rows) v.item = some x ∧ ¬ cmpS x.s v.s < 0 := by
        intro v hv
        have hb := held_best rows v.item
        cases hl : lookV (heldV rows) v.item with
        | none =>
          rw [hl] at hb
          exact absurd rfl (hb v hv)
        | some x =>
          rw [hl] at hb
          refine ⟨x, rfl, ?_⟩
          have := hb.2.2 v hv rfl
          rw [ltS_iff, Classical.not_not]
          exact this
      have eS : (⟨st2.S, st2.L, st2.c⟩ : Dv.St) = st2 := rfl
      obtain ⟨T3, st3, hT3⟩ := loopE3 rows (heldV rows) (by omega) hs (by omega) ok.ats hf d hd rows 0 0 st2.S st2.L st2.c rfl rfl (Nat.zero_le _)
      generalize heldV rows = acc at hd he s1 d1 d2 hT3
      generalize acc.map hdV = hh at d1 d2
      rcases hd with ⟨h5, rfl⟩ | rfl <;> rcases he with ⟨h6, rfl⟩ | rfl
      · rw [h5] at s1 d1
        simp [c4, qBegun10, show ¬ (80 : Int) < l1.length by omega, rRows, callR, er, h2, h3, hT2, hk2, rSameAll, s1, rHeadsV, d1, rRMayH, d2, hT3, mapI, mapI2, eS]
      · rw [h5] at s1 d1
        simp [c4, qBegun10, show ¬ (80 : Int) < l1.length by omega, rRows, callR, er, h2, h3, hT2, hk2, rSameAll, s1, rHeadsV, d1, rRMayH, d2, hT3, mapI, mapI2, eS, h5]
      · rw [h6] at s1 d1 hT3 hk2
        simp [c4, qBegun10, show ¬ (80 : Int) < l1.length by omega, rRows, callR, er, h2, h3, hT2, hk2, rSameAll, s1, rHeadsV, d1, rRMayH, d2, hT3, mapI, mapI2, eS, h6]
      · simp [c4, qBegun10, show ¬ (80 : Int) < l1.length by omega, rRows, callR, er, h2, h3, hT2, hk2, rSameAll, s1, rHeadsV, d1, rRMayH, d2, hT3, mapI, mapI2, eS]
end Go.Proofs.Ytmbboljcgpccfaa.Pl
