/-
  What is proved here: heads by the document's own: a thing's stamp, what is put; whether two are alike; what is of both; what is within.
  Conditions: none.
-/
import Derived.Test.YtmbboljcgpccfaaSoH
import Derived.Test.YtmbboljcgpccfaaEqH
set_option linter.unusedVariables false
set_option linter.unusedSimpArgs false
set_option maxRecDepth 100000
set_option maxHeartbeats 4000000
namespace Go.Proofs.Ytmbboljcgpccfaa.Pl
open Go Go.Proofs Go.Proofs.Ev Go.Proofs.Dv Cd
attribute [local simp] x_pure x_skip x_reg x_drw x_seq x_cond x_block x_loop' Tm.keep_nil x_exit x_ret k_seq k_seq_ret k_seq_exit k_seq_none k_seq_ite k_cond k_block k_block_ret k_block_exit k_block_none k_block_ite k_iter k_iter_ret k_iter_exit k_iter_none k_iter_ite k_reg k_reg_none k_reg_ite x_is_nil x_is x_is_g k_ins k_ins_none k_ins_ite k_grd x_ord_nil x_ord x_ord_g k_ord k_ord_none k_ord_ite k_ogrd k_out_ret k_out k_out_none k_out_ite k_pure k_pure_none k_pure_ite startD dI dA deo Tm.at Tm.dst Tm.set Tm.put Tm.keep dW dRes oneOfD mkTup mkAgg mkFn allF frL fr vD vD1 vF vFL dBin dEq dNil isNilD dScal F.cv eBin sameKind eInt eStr cellsD oneD F.one dFill putAtD chunk dbnd dSrc St.own St.drop St.still St.fresh chkQ stillQ freshQ lOf rdOf rdOK undefD F.full F.fullL List.mapIdx_cons strip allOne_nil allOne_cons allOne_append allLen_nil allLen_cons allLen_append roomOK_small filterT y_mv y_pick y_new y_box y_build y_bslice y_ld1 y_ldn y_nilchk y_bin y_not y_conv y_bytes y_string y_ifc y_fn y_cut y_cuts y_fa y_fld y_ia y_idx y_idxs y_ext y_len y_lenstr y_app y_grow y_mks y_slow y_call y_callv y_inv y_extc x_it_st x_it_clr x_it_cpy k_addT k_addT_none k_addT_ite k_orU k_orU_none dU D.turn turnL Tm.turn turnS St.turn turnRows_length

theorem setC {α : Type} (S : List α) (x y : α) : (S ++ [x]).set S.length y = S ++ [y] := by
  rw [List.set_append_right _ _ (Nat.le_refl _)]
  simp

/-! ### ref1.At -/
def PostRAt (s : Int × Int × Int) (r : Option DSt) : Prop := (∃ T' st', r = some (.ret, T', st') ∧ T'.keep [4] = [(4, .ptr 0 0)] ∧ T'.at 4 = .ptr 0 0 ∧ st' = ⟨[(true, [.fz (.int .i64 s.1), .fz (.int .i64 s.2.1), .fz (.int .i64 s.2.2)])], [], 0⟩) ∨
  (s = (0, 0, 0) ∧ ∃ T'', r = some (.exit 0, T'', ⟨[(true, [.fz (.int .i64 0), .fz (.int .i64 0), .fz (.int .i64 0)])], [], 0⟩) ∧ T''.keep [4] = [(4, .ptr 0 0)])
theorem loopRAt (l : List Hd) (hl : l.length < 1000000) (t : Int) : ∀ (r : List Hd) (i : Nat) (iz : Int), iz = i → l.drop i = r → i ≤ l.length →
    PostRAt (atS r t) (iterI (dCw Try.prog (callI Try.prog prims dx tbl) l43_0) [0, 1, 4, 5] [(0, .fz (.list (l.map encH))), (1, .fz (.int .i64 t)), (4, .ptr 0 0), (5, .fz (.int .i64 iz))] ⟨[(true, [.fz (.int .i64 0), .fz (.int .i64 0), .fz (.int .i64 0)])], [], 0⟩) := by
  intro r
  induction r with
  | nil =>
    intro i iz hz hd hi
    have hi' := drop_nil hd hi
    subst hi' hz
    rw [x_iter]
    simp [u43_0]
    exact .inr ⟨rfl, _, rfl, by simp [Tm.keep]⟩
  | cons a r ih =>
    intro i iz hz hd hi
    subst hz
    obtain ⟨hlt, hli, hd'⟩ := drop_cons hd
    have hw : wrapF .i64 ((i : Int) + 1) = (i : Int) + 1 := wrap_id _ (by omega) (by omega)
    rw [x_iter]
    by_cases hk : a.item = t
    · simp [u43_0, hlt, encH, hli, hk, atS]
      exact .inl ⟨_, _, rfl, by simp [Tm.keep], by simp [Tm.at], rfl⟩
    · simp [u43_0, hlt, encH, hli, hk, atS, hw]
      exact ih (i + 1) _ (by omega) hd' hlt
theorem pRAt (l : List Hd) (hl : l.length < 1000000) (t : Int) : pureI Try.prog prims dx tbl 43 [.list (l.map encH), .int .i64 t] = some (encS (atS l t)) := by
  rw [pureI_of (rfl : tbl 43 = some c43)]
  rcases loopRAt l hl t l 0 0 rfl rfl (Nat.zero_le _) with ⟨T', st', h1, h2, h3, rfl⟩ | ⟨h0, T', h1, h2⟩
  · simp [c43, h1, h3, encS]
  · simp [c43, h1, h2, h0, encS]
theorem rRAt (ds : List D) (st : Dv.St) : callI Try.prog prims dx tbl 43 ds st = callR Try.prog prims dx tbl 43 ds st (frL (fr st 6) ds) := callRw rfl rfl (rfl : tbl 43 = some c43) rfl ds st

/-! ### ref1.SameHeads -/
theorem eSame : eqOHead (operAt Try.prog 27 20) = some (false, 20, 24) := by kernel_rfl
def PostSame (b : Bool) (r : Option DSt) : Prop := ∃ T', r = some (if b = true then .exit 0 else .ret, T', ⟨[], [], 0⟩) ∧ (b = false → T'.at 4 = .fz (.bool false))
theorem hd_eq (x y : Hd) : (x.item == y.item && (x.a == y.a && (x.b == y.b && x.c == y.c))) = decide (x = y) := by
  obtain ⟨a, b, c, d⟩ := x
  obtain ⟨a', b', c', d'⟩ := y
  rw [Bool.eq_iff_iff]
  simp
theorem loopSame (l m : List Hd) (hl : l.length < 1000000) (hlm : l.length = m.length) : ∀ (r : List Hd) (i : Nat) (iz : Int), iz = i → l.drop i = r → i ≤ l.length →
    PostSame (decide (r = m.drop i)) (iterI (dCw Try.prog (callI Try.prog prims dx tbl) l27_0) [0, 1, 5] [(0, .fz (.list (l.map encH))), (1, .fz (.list (m.map encH))), (5, .fz (.int .i64 iz))] ⟨[], [], 0⟩) := by
  intro r
  induction r with
  | nil =>
    intro i iz hz hd hi
    have hi' := drop_nil hd hi
    subst hi' hz
    rw [x_iter]
    simp [u27_0, hlm]
    exact ⟨_, rfl, fun h => by cases h⟩
  | cons a r ih =>
    intro i iz hz hd hi
    subst hz
    obtain ⟨hlt, hli, hd'⟩ := drop_cons hd
    have hlt2 : i < m.length := by omega
    have hm : m.drop i = m[i] :: m.drop (i + 1) := List.drop_eq_getElem_cons hlt2
    have hw : wrapF .i64 ((i : Int) + 1) = (i : Int) + 1 := wrap_id _ (by omega) (by omega)
    have he := hd_eq a m[i]
    rw [x_iter]
    by_cases hk : a = m[i]
    · simp only [← hk, decide_true] at he
      have := ih (i + 1) _ rfl hd' hlt
      simp only [hm, hk, List.cons.injEq, true_and]
      simp [u27_0, hlt, hlt2, encH, hli, hk, slow_eqHead eSame, eqDHead, hw]
      simpa using this
    · rw [decide_eq_false hk] at he
      simp only [hm, List.cons.injEq, hk, false_and, decide_false]
      simp [u27_0, hlt, hlt2, encH, hli, slow_eqHead eSame, eqDHead, he]
      exact ⟨_, rfl, fun _ => rfl⟩
theorem pSame (l m : List Hd) (hl : l.length < 1000000) (hm : m.length < 1000000) : pureI Try.prog prims dx tbl 27 [.list (l.map encH), .list (m.map encH)] = some (.bool (decide (l = m))) := by
  rw [pureI_of (rfl : tbl 27 = some c27)]
  by_cases hlm : l.length = m.length
  · obtain ⟨T', h1, h2⟩ := loopSame l m hl hlm l 0 0 rfl rfl (Nat.zero_le _)
    simp only [List.drop_zero] at h1 h2
    by_cases hk : l = m
    · subst hk
      simp at h1
      simp [c27, h1]
    · simp [hk] at h1 h2
      simp [c27, hlm, h1, h2, hk]
  · have : ¬ l = m := fun e => hlm (by rw [e])
    simp [c27, hlm, this, show ¬ (l.length : Int) = m.length by omega]
theorem rSame (ds : List D) (st : Dv.St) : callI Try.prog prims dx tbl 27 ds st = callR Try.prog prims dx tbl 27 ds st (frL (fr st 6) ds) := callRw rfl rfl (rfl : tbl 27 = some c27) rfl ds st

/-! ### ref1.PutHead -/
def goP (h : Hd) : List Hd → Bool → List Hd
  | [], put => if put = true then [] else [h]
  | x :: r, put => (if put = false ∧ h.item ≤ x.item then [h] else []) ++ (if x.item = h.item then [] else [x]) ++ goP h r (put || decide (h.item ≤ x.item))
theorem goP_true (h : Hd) : ∀ (l : List Hd), (∀ x ∈ l, h.item < x.item) → goP h l true = l
  | [], _ => rfl
  | x :: r, hx => by
    have h1 := hx x (by simp)
    simp only [goP, Bool.true_or]
    rw [goP_true h r fun y hy => hx y (List.mem_cons_of_mem _ hy)]
    simp [show ¬ x.item = h.item by omega]
theorem goP_ins (h : Hd) : ∀ {l : List Hd}, Srt l → goP h l false = insH l h
  | [], _ => rfl
  | x :: r, hs => by
    obtain ⟨h1, h2⟩ := List.pairwise_cons.1 hs
    simp only [goP, insH, Bool.false_or, true_and]
    by_cases hlt : x.item < h.item
    · have e1 : ¬ h.item ≤ x.item := by omega
      have e2 : ¬ x.item = h.item := by omega
      simp [hlt, e1, e2, goP_ins h h2]
    · have e1 : h.item ≤ x.item := by omega
      have hr := goP_true h r fun y hy => by have := h1 y hy; omega
      by_cases he : x.item = h.item
      · simp [hlt, e1, he]
        exact hr
      · simp [hlt, e1, he, hr]
def sH (h : Hd) : List (Bool × List D) := [(true, [.fz (.int .i64 h.item), .fz (.int .i64 h.a), .fz (.int .i64 h.b), .fz (.int .i64 h.c)])]
def PostP (h : Hd) (res : List Hd) (r : Option DSt) : Prop := ∃ (rows : List Hd) (put : Bool) (d : D) (L : List Nat) (c : Nat) (T' : Tm), OwnD 4 (rows.map encH) L d ∧ rows.length ≤ 200000 ∧ rows ++ (if put = true then [] else [h]) = res ∧ T'.keep [3, 5, 6] = [(3, .ptr 0 0), (5, d), (6, .fz (.bool put))] ∧
  r = some (.exit 0, T', ⟨[(true, [.fz (.int .i64 h.item), .fz (.int .i64 h.a), .fz (.int .i64 h.b), .fz (.int .i64 h.c)])], L, c⟩)
theorem loopP (l : List Hd) (hl : l.length < 100000) (h : Hd) : ∀ (r : List Hd) (i : Nat) (iz : Int) (rows : List Hd) (R : List (List F)) (put : Bool) (d : D) (L : List Nat) (c : Nat), iz = i → l.drop i = r → i ≤ l.length → R = rows.map encH → OwnD 4 R L d → rows.length ≤ 2 * i →
    PostP h (rows ++ goP h r put) (iterI (dCw Try.prog (callI Try.prog prims dx tbl) l46_0) [0, 3, 5, 6, 7] [(0, .fz (.list (l.map encH))), (3, .ptr 0 0), (5, d), (6, .fz (.bool put)), (7, .fz (.int .i64 iz))] ⟨[(true, [.fz (.int .i64 h.item), .fz (.int .i64 h.a), .fz (.int .i64 h.b), .fz (.int .i64 h.c)])], L, c⟩) := by
  intro r
  induction r with
  | nil =>
    intro i iz rows R put d L c hz hd hi hR ho hrl
    have hi' := drop_nil hd hi
    subst hi' hz hR
    refine ⟨rows, put, d, L, c, _, ho, by omega, rfl, ?_, (by
      rw [x_iter]
      simp [u46_0]; rfl)⟩
    simp [Tm.keep]
  | cons a r ih =>
    intro i iz rows R put d L c hz hd hi hR ho hrl
    subst hz hR
    obtain ⟨hlt, hli, hd'⟩ := drop_cons hd
    have o1 := (encH_ok rows).1
    have r1 : roomOK 32 (rows.length + 1) := roomOK_small (by omega) (by omega)
    have r2 : roomOK 32 (rows.length + 1 + 1) := roomOK_small (by omega) (by omega)
    have n1 : (rows ++ [h]).length ≤ 2 * (i + 1) := by simp; omega
    have n2 : (rows ++ [a]).length ≤ 2 * (i + 1) := by simp; omega
    have n3 : ((rows ++ [h]) ++ [a]).length ≤ 2 * (i + 1) := by simp; omega
    have n4 : rows.length ≤ 2 * (i + 1) := by omega
    have hi1 : ((i : Int) + 1) = ((i + 1 : Nat) : Int) := by omega
    have hw : wrapF .i64 ((i : Int) + 1) = (i : Int) + 1 := wrap_id _ (by omega) (by omega)
    rcases Int.lt_trichotomy a.item h.item with hc | hc | hc
    · have c1 : ¬ h.item ≤ a.item := by omega
      have c2 : ¬ a.item = h.item := by omega
      cases put
      · obtain ⟨res, hres⟩ : ∃ res, (rows ++ [a]) ++ goP h r false = res := ⟨_, rfl⟩
        rw [x_iter, show rows ++ goP h (a :: r) false = res by rw [← hres]; simp [goP, c1, c2]]
        rcases ho with ⟨h5, rfl⟩ | ⟨t, ht, rfl⟩
        · have h6 : rows = [] := by simpa using h5
          subst h6
          simp [u46_0, hlt, hli, encH, c1, c2, hw]
          rw [← hres]
          refine ih (i + 1) _ ([] ++ [a]) _ false _ _ _ hi1 hd' hlt ?_ (.inr ⟨_, ?_, rfl⟩) n2
          · simp [encH]
          · simp
        · simp [u46_0, hlt, hli, encH, c1, c2, hw, ht, o1, r1, r2]
          rw [← hres]
          refine ih (i + 1) _ (rows ++ [a]) _ false _ _ _ hi1 hd' hlt ?_ (.inr ⟨_, ?_, rfl⟩) n2
          · simp [encH]
          · simp
      · obtain ⟨res, hres⟩ : ∃ res, (rows ++ [a]) ++ goP h r true = res := ⟨_, rfl⟩
        rw [x_iter, show rows ++ goP h (a :: r) true = res by rw [← hres]; simp [goP, c1, c2]]
        rcases ho with ⟨h5, rfl⟩ | ⟨t, ht, rfl⟩
        · have h6 : rows = [] := by simpa using h5
          subst h6
          simp [u46_0, hlt, hli, encH, c1, c2, hw]
          rw [← hres]
          refine ih (i + 1) _ ([] ++ [a]) _ true _ _ _ hi1 hd' hlt ?_ (.inr ⟨_, ?_, rfl⟩) n2
          · simp [encH]
          · simp
        · simp [u46_0, hlt, hli, encH, c1, c2, hw, ht, o1, r1, r2]
          rw [← hres]
          refine ih (i + 1) _ (rows ++ [a]) _ true _ _ _ hi1 hd' hlt ?_ (.inr ⟨_, ?_, rfl⟩) n2
          · simp [encH]
          · simp
    · have c1 : h.item ≤ a.item := by omega
      have c2 : a.item = h.item := hc
      cases put
      · obtain ⟨res, hres⟩ : ∃ res, (rows ++ [h]) ++ goP h r true = res := ⟨_, rfl⟩
        rw [x_iter, show rows ++ goP h (a :: r) false = res by rw [← hres]; simp [goP, c1, c2]]
        rcases ho with ⟨h5, rfl⟩ | ⟨t, ht, rfl⟩
        · have h6 : rows = [] := by simpa using h5
          subst h6
          simp [u46_0, hlt, hli, encH, c1, c2, hw]
          rw [← hres]
          refine ih (i + 1) _ ([] ++ [h]) _ true _ _ _ hi1 hd' hlt ?_ (.inr ⟨_, ?_, rfl⟩) n1
          · simp [encH]
          · simp
        · simp [u46_0, hlt, hli, encH, c1, c2, hw, ht, o1, r1, r2]
          rw [← hres]
          refine ih (i + 1) _ (rows ++ [h]) _ true _ _ _ hi1 hd' hlt ?_ (.inr ⟨_, ?_, rfl⟩) n1
          · simp [encH]
          · simp
      · obtain ⟨res, hres⟩ : ∃ res, (rows) ++ goP h r true = res := ⟨_, rfl⟩
        rw [x_iter, show rows ++ goP h (a :: r) true = res by rw [← hres]; simp [goP, c1, c2]]
        rcases ho with ⟨h5, rfl⟩ | ⟨t, ht, rfl⟩
        · have h6 : rows = [] := by simpa using h5
          subst h6
          simp [u46_0, hlt, hli, encH, c1, c2, hw]
          rw [← hres]
          refine ih (i + 1) _ ([]) _ true _ _ _ hi1 hd' hlt ?_ (.inl ⟨rfl, rfl⟩) n4
          · simp [encH]

        · simp [u46_0, hlt, hli, encH, c1, c2, hw, ht, o1, r1, r2]
          rw [← hres]
          refine ih (i + 1) _ (rows) _ true _ _ _ hi1 hd' hlt ?_ (.inr ⟨_, ?_, rfl⟩) n4
          · simp [encH]
          · simp [ht]
    · have c1 : h.item ≤ a.item := by omega
      have c2 : ¬ a.item = h.item := by omega
      cases put
      · obtain ⟨res, hres⟩ : ∃ res, ((rows ++ [h]) ++ [a]) ++ goP h r true = res := ⟨_, rfl⟩
        rw [x_iter, show rows ++ goP h (a :: r) false = res by rw [← hres]; simp [goP, c1, c2]]
        rcases ho with ⟨h5, rfl⟩ | ⟨t, ht, rfl⟩
        · have h6 : rows = [] := by simpa using h5
          subst h6
          simp [u46_0, hlt, hli, encH, c1, c2, hw]
          rw [← hres]
          refine ih (i + 1) _ (([] ++ [h]) ++ [a]) _ true _ _ _ hi1 hd' hlt ?_ (.inr ⟨_, ?_, rfl⟩) n3
          · simp [encH]
          · simp
        · simp [u46_0, hlt, hli, encH, c1, c2, hw, ht, o1, r1, r2]
          rw [← hres]
          refine ih (i + 1) _ ((rows ++ [h]) ++ [a]) _ true _ _ _ hi1 hd' hlt ?_ (.inr ⟨_, ?_, rfl⟩) n3
          · simp [encH]
          · simp
      · obtain ⟨res, hres⟩ : ∃ res, (rows ++ [a]) ++ goP h r true = res := ⟨_, rfl⟩
        rw [x_iter, show rows ++ goP h (a :: r) true = res by rw [← hres]; simp [goP, c1, c2]]
        rcases ho with ⟨h5, rfl⟩ | ⟨t, ht, rfl⟩
        · have h6 : rows = [] := by simpa using h5
          subst h6
          simp [u46_0, hlt, hli, encH, c1, c2, hw]
          rw [← hres]
          refine ih (i + 1) _ ([] ++ [a]) _ true _ _ _ hi1 hd' hlt ?_ (.inr ⟨_, ?_, rfl⟩) n2
          · simp [encH]
          · simp
        · simp [u46_0, hlt, hli, encH, c1, c2, hw, ht, o1, r1, r2]
          rw [← hres]
          refine ih (i + 1) _ (rows ++ [a]) _ true _ _ _ hi1 hd' hlt ?_ (.inr ⟨_, ?_, rfl⟩) n2
          · simp [encH]
          · simp

theorem pPut (l : List Hd) (hl : l.length < 90000) (hs : Srt l) (h : Hd) : pureI Try.prog prims dx tbl 46 [.list (l.map encH), .agg (encH h)] = some (.list ((putH l h).map encH)) := by
  rw [pureI_of (rfl : tbl 46 = some c46)]
  have hat := pRAt l (by omega) h.item
  have o1 := encH_ok l
  have r1 : roomOK 32 l.length := roomOK_small (by omega) (by omega)
  have hc := pRCmp h.a h.b h.c (atS l h.item).1 (atS l h.item).2.1 (atS l h.item).2.2
  rw [encS] at hat
  by_cases hle : cmpS h.s (atS l h.item) ≤ 0
  · have hput : putH l h = l := if_pos hle
    rw [hput]
    have hle' : cmpS (h.a, h.b, h.c) ((atS l h.item).1, (atS l h.item).2.1, (atS l h.item).2.2) ≤ 0 := hle
    simp [c46, encH, o1, r1, rRAt, callR, hat, rRCmp, hc, hle']
  · have hput : putH l h = insH l h := if_neg hle
    rw [hput]
    have hle' : ¬ cmpS (h.a, h.b, h.c) ((atS l h.item).1, (atS l h.item).2.1, (atS l h.item).2.2) ≤ 0 := hle
    obtain ⟨rows, put, d, L, c, T', ho, hr, he, hk, hT⟩ := loopP l (by omega) h l 0 0 [] [] false .nils [] 0 rfl rfl (Nat.zero_le _) rfl (.inl ⟨rfl, rfl⟩) (by simp)
    rw [List.nil_append, goP_ins h hs] at he
    have o2 := (encH_ok rows).1
    have r2 : roomOK 32 (rows.length + 1) := roomOK_small (by omega) (by omega)
    rw [← he]
    cases put
    · rcases ho with ⟨h5, rfl⟩ | ⟨t, ht, rfl⟩
      · have h6 : rows = [] := by simpa using h5
        subst h6
        simp [c46, encH, rRAt, callR, hat, rRCmp, hc, hle', hT, hk]
      · simp [c46, encH, rRAt, callR, hat, rRCmp, hc, hle', hT, hk, ht, o2, r2]
    · rcases ho with ⟨h5, rfl⟩ | ⟨t, ht, rfl⟩
      · have h6 : rows = [] := by simpa using h5
        subst h6
        simp [c46, encH, rRAt, callR, hat, rRCmp, hc, hle', hT, hk]
      · simp [c46, encH, rRAt, callR, hat, rRCmp, hc, hle', hT, hk, ht]
theorem rPut (ds : List D) (st : Dv.St) : callI Try.prog prims dx tbl 46 ds st = callR Try.prog prims dx tbl 46 ds st (frL (fr st 6) ds) := callRw rfl rfl (rfl : tbl 46 = some c46) rfl ds st
end Go.Proofs.Ytmbboljcgpccfaa.Pl
