/-
  What is proved here: what came with another piece, in the document's own words.
  Conditions: none.
-/
import Derived.Test.YtpinhopgeaamdaaKmK
import Derived.Test.YtpinhopgeaamdaaRyK
set_option linter.unusedVariables false
set_option linter.unusedSimpArgs false
set_option maxRecDepth 100000
set_option maxHeartbeats 8000000
namespace Go.Proofs.Ytpinhopgeaamdaa.Pl
open Go Go.Proofs Go.Proofs.Ev Go.Proofs.Dv Cd
attribute [local simp] x_pure x_skip x_reg x_drw x_seq x_cond x_block x_loop' Tm.keep_nil x_exit x_ret k_seq k_seq_ret k_seq_exit k_seq_none k_seq_ite k_cond k_block k_block_ret k_block_exit k_block_none k_block_ite k_iter k_iter_ret k_iter_exit k_iter_none k_iter_ite k_reg k_reg_none k_reg_ite x_is_nil x_is x_is_g k_ins k_ins_none k_ins_ite k_grd x_ord_nil x_ord x_ord_g k_ord k_ord_none k_ord_ite k_ogrd k_out_ret k_out k_out_none k_out_ite k_pure k_pure_none k_pure_ite startD dI dA deo Tm.at Tm.dst Tm.set Tm.put Tm.keep dW dRes oneOfD mkTup mkAgg mkFn allF frL fr vD vD1 vF vFL dBin dEq dNil isNilD dScal F.cv eBin sameKind eInt eStr cellsD oneD F.one dFill putAtD chunk dbnd dSrc St.own St.drop St.still St.fresh chkQ stillQ freshQ lOf rdOf rdOK undefD F.full F.fullL List.mapIdx_cons strip allOne_nil allOne_cons allOne_append allLen_nil allLen_cons allLen_append roomOK_small filterT y_mv y_pick y_new y_box y_build y_bslice y_ld1 y_ldn y_nilchk y_bin y_not y_conv y_bytes y_string y_ifc y_fn y_cut y_cuts y_fa y_fld y_ia y_idx y_idxs y_ext y_len y_lenstr y_app y_grow y_mks y_slow y_call y_callv y_inv y_extc x_it_st x_it_clr x_it_cpy k_addT k_addT_none k_addT_ite k_orU k_orU_none dU D.turn turnL Tm.turn turnS St.turn turnRows_length

def goG (s : Sg) : List Sg → Bool → List Sg
  | [], put => if put = true then [] else [s]
  | x :: r, put => (if put = false ∧ s.num < x.num then [s] else []) ++ x :: goG s r (put || decide (s.num < x.num))
theorem goG_true (s : Sg) : ∀ (l : List Sg), goG s l true = l
  | [] => rfl
  | x :: r => by simp [goG, goG_true s r]
theorem goG_ins (s : Sg) : ∀ {l : List Sg}, Rise Sg.num l → (∀ x ∈ l, x.num ≠ s.num) → goG s l false = insG l s
  | [], _, _ => rfl
  | x :: r, hs, hn => by
    obtain ⟨h1, h2⟩ := List.pairwise_cons.1 hs
    have hx := hn x (by simp)
    by_cases hlt : s.num < x.num
    · have : ¬ x.num < s.num := by omega
      simp [goG, insG, cntK, hlt, this, goG_true]
    · have : x.num < s.num := by omega
      have ih := goG_ins s h2 fun y hy => hn y (by simp [hy])
      simp only [insG] at ih
      simp [goG, insG, cntK, hlt, this, ih]
theorem run_filter (up : Int) : ∀ {l : List Sg}, Rise Sg.num l → runU up l = ((l.filter fun x => decide (x.num ≤ up)).map Sg.b, l.filter fun x => !decide (x.num ≤ up))
  | [], _ => rfl
  | x :: r, hs => by
    obtain ⟨h1, h2⟩ := List.pairwise_cons.1 hs
    by_cases hx : x.num ≤ up
    · simp [runU, hx, run_filter up h2]
    · have e1 : (r.filter fun x => decide (x.num ≤ up)) = [] := by
        rw [List.filter_eq_nil_iff]
        intro y hy
        have := h1 y hy
        simp
        omega
      have e2 : (r.filter fun x => !decide (x.num ≤ up)) = r := by
        rw [List.filter_eq_self]
        intro y hy
        have := h1 y hy
        simp
        omega
      simp [runU, hx, e1]
      exact e2.symm
theorem insG_rise {l : List Sg} {s : Sg} (hs : Rise Sg.num l) (hn : ∀ x ∈ l, x.num ≠ s.num) : Rise Sg.num (insG l s) := by
  induction l with
  | nil => simp [insG, cntK, Rise]
  | cons x r ih =>
    obtain ⟨h1, h2⟩ := List.pairwise_cons.1 hs
    have hx := hn x (by simp)
    have ih := ih h2 fun y hy => hn y (by simp [hy])
    by_cases hlt : x.num < s.num
    · have e : insG (x :: r) s = x :: insG r s := by simp [insG, cntK, hlt]
      rw [e]
      refine List.pairwise_cons.2 ⟨fun y hy => ?_, ih⟩
      simp only [insG, List.mem_append, List.mem_cons] at hy
      rcases hy with hy | rfl | hy
      · exact h1 y (List.mem_of_mem_take hy)
      · exact hlt
      · exact h1 y (List.mem_of_mem_drop hy)
    · have e : insG (x :: r) s = s :: x :: r := by simp [insG, cntK, hlt]
      rw [e]
      refine List.pairwise_cons.2 ⟨fun y hy => ?_, hs⟩
      rcases List.mem_cons.1 hy with rfl | hy
      · omega
      · have := h1 y hy; omega

/-! ### All that is not told -/
def PostR0 (S : List (Bool × List D)) (was : Int) (s : Sg) (res : List Sg) (r : Option DSt) : Prop := ∃ (rows : List Sg) (put : Bool) (t : Nat) (L : List Nat) (c : Nat) (T' : Tm), t ∈ L ∧ t < c ∧ rows.length ≤ 200000 ∧ rows ++ (if put = true then [] else [s]) = res ∧ T'.keep [3, 4, 6, 7, 8, 9] = [(3, .ptr 1 0), (4, .ptr 2 0), (6, .fz (.int .i64 was)), (7, .ptr 3 0), (8, .ow t 0 2 (rows.map encG)), (9, .fz (.bool put))] ∧ r = some (.exit 0, T', ⟨S, L, c⟩)
theorem loopR0 (l : List Sg) (hl : l.length < 90000) (s : Sg) (was : Int) (d0 d1 : D) (x2 x3 : Bool × List D) : ∀ (r : List Sg) (i : Nat) (iz : Int) (rows : List Sg) (R : List (List F)) (put : Bool) (t : Nat) (L : List Nat) (c : Nat), iz = i → l.drop i = r → i ≤ l.length → R = rows.map encG → t ∈ L → t < c → rows.length ≤ 2 * i →
    PostR0 [(true, [d0, d1, .fz (.list (l.map encG))]), (true, [.fz (.int .i64 s.num), .fz (.str s.b)]), x2, x3] was s (rows ++ goG s r put) (iterI (dCw Try.prog (callI Try.prog prims dx tbl) l34_0) [2, 3, 4, 6, 7, 8, 9, 10] [(2, .ptr 0 0), (3, .ptr 1 0), (4, .ptr 2 0), (6, .fz (.int .i64 was)), (7, .ptr 3 0), (8, .ow t 0 2 R), (9, .fz (.bool put)), (10, .fz (.int .i64 iz))] ⟨[(true, [d0, d1, .fz (.list (l.map encG))]), (true, [.fz (.int .i64 s.num), .fz (.str s.b)]), x2, x3], L, c⟩) := by
  intro r
  induction r with
  | nil =>
    intro i iz rows R put t L c hz hd hi hR ht htc hrl
    subst hR
    have hi' := drop_nil hd hi
    subst hi' hz
    rw [x_iter]
    simp [u34_0]
    exact ⟨rows, put, t, L, c, _, ht, htc, by omega, rfl, by simp [Tm.keep], rfl⟩
  | cons a r ih =>
    intro i iz rows R put t L c hz hd hi hR ht htc hrl
    subst hz hR
    obtain ⟨hlt, hli, hd'⟩ := drop_cons hd
    have o1 := (encG_ok rows).1
    have r1 : roomOK 24 (rows.length + 1) := roomOK_small (by omega) (by omega)
    have r2 : roomOK 24 (rows.length + 1 + 1) := roomOK_small (by omega) (by omega)
    have hi1 : ((i : Int) + 1) = ((i + 1 : Nat) : Int) := by omega
    have n1 : (rows ++ [a]).length ≤ 2 * (i + 1) := by simp; omega
    have n2 : ((rows ++ [s]) ++ [a]).length ≤ 2 * (i + 1) := by simp; omega
    have hw : wrapF .i64 ((i : Int) + 1) = (i : Int) + 1 := wrap_id _ (by omega) (by omega)
    have case1 : (put = false ∧ s.num < a.num) ∨ ¬ (put = false ∧ s.num < a.num) := Classical.em _
    rcases case1 with ⟨hp, hc⟩ | hno
    · subst hp
      have hs : rows ++ goG s (a :: r) false = ((rows ++ [s]) ++ [a]) ++ goG s r true := by simp [goG, hc]
      obtain ⟨res, hres⟩ : ∃ res, res = ((rows ++ [s]) ++ [a]) ++ goG s r true := ⟨_, rfl⟩
      rw [hs, ← hres, x_iter]
      simp [u34_0, hlt, hli, encG, ht, o1, r1, r2, hc, hw]
      rw [hres]
      refine ih (i + 1) _ ((rows ++ [s]) ++ [a]) _ true _ _ _ hi1 hd' hlt ?_ ?_ ?_ n2
      · simp [encG]
      · simp
      · omega
    · have hor : (put || decide (s.num < a.num)) = put := by
        cases put
        · have : ¬ s.num < a.num := fun h => hno ⟨rfl, h⟩
          simp [this]
        · rfl
      have hs : rows ++ goG s (a :: r) put = (rows ++ [a]) ++ goG s r put := by
        simp only [goG, if_neg hno, hor]
        simp
      obtain ⟨res, hres⟩ : ∃ res, res = (rows ++ [a]) ++ goG s r put := ⟨_, rfl⟩
      rw [hs, ← hres, x_iter]
      cases put with
      | true =>
        simp [u34_0, hlt, hli, encG, ht, o1, r1, r2, hw]
        rw [hres]
        refine ih (i + 1) _ (rows ++ [a]) _ true _ _ _ hi1 hd' hlt ?_ ?_ ?_ n1
        · simp [encG]
        · simp
        · omega
      | false =>
        have hc : ¬ s.num < a.num := fun h => hno ⟨rfl, h⟩
        simp [u34_0, hlt, hli, encG, ht, o1, r1, r2, hc, hw]
        rw [hres]
        refine ih (i + 1) _ (rows ++ [a]) _ false _ _ _ hi1 hd' hlt ?_ ?_ ?_ n1
        · simp [encG]
        · simp
        · omega

/-! ### What is told, what is left -/
def TwoU (t : Nat) (A B : List (List F)) (L : List Nat) (c : Nat) (d e : D) : Prop := ((A = [] ∧ d = .nils) ∨ ∃ t1, A ≠ [] ∧ t1 ∈ L ∧ t1 < c ∧ t1 ≠ t ∧ d = .ow t1 0 1 A) ∧ ((B = [] ∧ e = .nils) ∨ ∃ t2, B ≠ [] ∧ t2 ∈ L ∧ t2 < c ∧ t2 ≠ t ∧ e = .ow t2 0 2 B) ∧ ∀ t1 t2 R Q, d = .ow t1 0 1 R → e = .ow t2 0 2 Q → t1 ≠ t2
def PostR1 (y0 y1 y2 : Bool × List D) (k0 k1 : D) (t : Nat) (A : List (List UInt8)) (B : List Sg) (r : Option DSt) : Prop := ∃ (d e : D) (L : List Nat) (c : Nat) (T' : Tm), TwoU t (A.map encT) (B.map encG) L c d e ∧ T'.keep [4, 7, 11] = [(4, .ptr 2 0), (7, .ptr 3 0), (11, d)] ∧ r = some (.exit 2, T', ⟨[y0, y1, y2, (true, [k0, k1, e])], L, c⟩)
theorem loopR1 (l : List Sg) (hl : l.length < 90000) (was up : Int) (y0 y1 y2 : Bool × List D) (k1 : D) (t : Nat) : ∀ (r : List Sg) (i : Nat) (iz : Int) (A : List (List UInt8)) (B : List Sg) (RA RB : List (List F)) (d e : D) (L : List Nat) (c : Nat), iz = i → l.drop i = r → i ≤ l.length → A.length ≤ i → B.length ≤ i → RA = A.map encT → RB = B.map encG → t ∈ L → t < c → TwoU t RA RB L c d e →
    PostR1 y0 y1 y2 (.fz (.int .i64 up)) k1 t (A ++ (r.filter fun x => decide (was < x.num ∧ x.num ≤ up)).map Sg.b) (B ++ r.filter fun x => !decide (was < x.num ∧ x.num ≤ up)) (iterI (dCw Try.prog (callI Try.prog prims dx tbl) l34_1) [4, 6, 7, 8, 11, 12] [(4, .ptr 2 0), (6, .fz (.int .i64 was)), (7, .ptr 3 0), (8, .ow t 0 2 (l.map encG)), (11, d), (12, .fz (.int .i64 iz))] ⟨[y0, y1, y2, (true, [.fz (.int .i64 up), k1, e])], L, c⟩) := by
  intro r
  induction r with
  | nil =>
    intro i iz A B RA RB d e L c hz hd hi ha hb hA hB ht htc ho
    subst hA hB
    have hi' := drop_nil hd hi
    subst hi' hz
    rw [x_iter]
    simp [u34_1, ht]
    refine ⟨d, e, L, c, _, by simpa using ho, ?_, rfl⟩
    simp [Tm.keep]
  | cons a r ih =>
    intro i iz A B RA RB d e L c hz hd hi ha hb hA hB ht htc ho
    subst hz hA hB
    obtain ⟨hlt, hli, hd'⟩ := drop_cons hd
    have o1 := (encT_ok A).1
    have o2 := (encG_ok B).1
    have r1 : roomOK 16 (A.length + 1) := roomOK_small (by omega) (by omega)
    have r2 : roomOK 24 (B.length + 1) := roomOK_small (by omega) (by omega)
    have hi1 : ((i : Int) + 1) = ((i + 1 : Nat) : Int) := by omega
    have ha' : (A ++ [a.b]).length ≤ i + 1 := by simp; omega
    have hb' : (B ++ [a]).length ≤ i + 1 := by simp; omega
    have ha2 : A.length ≤ i + 1 := by omega
    have hb2 : B.length ≤ i + 1 := by omega
    have e5 : ¬ t = c := by omega
    have e6 : ¬ t = c + 1 := by omega
    have hw : wrapF .i64 ((i : Int) + 1) = (i : Int) + 1 := wrap_id _ (by omega) (by omega)
    rw [x_iter]
    by_cases hp : was < a.num ∧ a.num ≤ up
    · have hf : A ++ ((a :: r).filter fun x => decide (was < x.num ∧ x.num ≤ up)).map Sg.b = (A ++ [a.b]) ++ (r.filter fun x => decide (was < x.num ∧ x.num ≤ up)).map Sg.b := by simp [hp]
      have hg : (B ++ (a :: r).filter fun x => !decide (was < x.num ∧ x.num ≤ up)) = B ++ r.filter fun x => !decide (was < x.num ∧ x.num ≤ up) := by simp [hp]
      rw [hf, hg]
      obtain ⟨X, hX⟩ : ∃ X, X = (A ++ [a.b]) ++ (r.filter fun x => decide (was < x.num ∧ x.num ≤ up)).map Sg.b := ⟨_, rfl⟩
      obtain ⟨Y, hY⟩ : ∃ Y, Y = B ++ r.filter fun x => !decide (was < x.num ∧ x.num ≤ up) := ⟨_, rfl⟩
      rw [← hX, ← hY]
      rcases ho with ⟨hA | ⟨t1, hn, h1, h1c, h1t, rfl⟩, hB, hne⟩
      · obtain ⟨h5, rfl⟩ := hA
        have h6 : A = [] := by simpa using h5
        subst h6
        simp [u34_1, hlt, hli, encG, ht, hp.1, hp.2, hw]
        rw [hX, hY]
        refine ih (i + 1) _ ([] ++ [a.b]) B _ _ _ _ _ _ hi1 hd' hlt ha' hb2 ?_ rfl ?_ ?_ ⟨.inr ⟨_, ?_, ?_, ?_, ?_, rfl⟩, ?_, ?_⟩
        · simp [encT]
        · simp [ht]
        · omega
        · simp
        · simp
        · omega
        · omega
        · rcases hB with h | ⟨s, q1, q2, q3, q4, q5⟩
          · exact .inl h
          · exact .inr ⟨s, q1, by simp [q2], by omega, q4, q5⟩
        · intro t s R Q f1 f2
          rcases hB with ⟨_, h⟩ | ⟨s', q1, q2, q3, q4, q5⟩
          · rw [h] at f2; cases f2
          · rw [q5] at f2; cases f2; cases f1; omega
      · have hne' : ∀ s Q, e = .ow s 0 2 Q → t1 ≠ s := fun s Q h => hne t1 s _ Q rfl h
        have g1 : ¬ t = t1 := fun h => h1t h.symm
        simp [u34_1, hlt, hli, encG, ht, hp.1, hp.2, hw, h1, o1, r1, g1]
        rw [hX, hY]
        refine ih (i + 1) _ (A ++ [a.b]) B _ _ _ _ _ _ hi1 hd' hlt ha' hb2 ?_ rfl ?_ ?_ ⟨.inr ⟨_, ?_, ?_, ?_, ?_, rfl⟩, ?_, ?_⟩
        · simp [encT]
        · simp [ht, g1, e5]
        · omega
        · simp
        · simp
        · omega
        · omega
        · rcases hB with h | ⟨s, q1, q2, q3, q4, q5⟩
          · exact .inl h
          · have := hne' s _ q5
            exact .inr ⟨s, q1, by simp [q2]; omega, by omega, q4, q5⟩
        · intro t s R Q f1 f2
          rcases hB with ⟨_, h⟩ | ⟨s', q1, q2, q3, q4, q5⟩
          · rw [h] at f2; cases f2
          · rw [q5] at f2; cases f2; cases f1; omega
    · have hf : A ++ ((a :: r).filter fun x => decide (was < x.num ∧ x.num ≤ up)).map Sg.b = A ++ (r.filter fun x => decide (was < x.num ∧ x.num ≤ up)).map Sg.b := by simp [hp]
      have hg : (B ++ (a :: r).filter fun x => !decide (was < x.num ∧ x.num ≤ up)) = (B ++ [a]) ++ r.filter fun x => !decide (was < x.num ∧ x.num ≤ up) := by
        rw [List.filter_cons_of_pos (by simp only [decide_eq_false hp]; rfl)]
        simp
      rw [hf, hg]
      obtain ⟨X, hX⟩ : ∃ X, X = A ++ (r.filter fun x => decide (was < x.num ∧ x.num ≤ up)).map Sg.b := ⟨_, rfl⟩
      obtain ⟨Y, hY⟩ : ∃ Y, Y = (B ++ [a]) ++ r.filter fun x => !decide (was < x.num ∧ x.num ≤ up) := ⟨_, rfl⟩
      rw [← hX, ← hY]
      have hsplit : ¬ was < a.num ∨ (was < a.num ∧ ¬ a.num ≤ up) := by omega
      rcases ho with ⟨hA, hB | ⟨t2, hn, h2, h2c, h2t, rfl⟩, hne⟩
      · obtain ⟨h5, rfl⟩ := hB
        have h6 : B = [] := by simpa using h5
        subst h6
        rcases hsplit with hs1 | ⟨hs1, hs2⟩
        · simp [u34_1, hlt, hli, encG, ht, hs1, hw]
          rw [hX, hY]
          refine ih (i + 1) _ A ([] ++ [a]) _ _ _ _ _ _ hi1 hd' hlt ha2 hb' rfl ?_ ?_ ?_ ⟨?_, .inr ⟨_, ?_, ?_, ?_, ?_, rfl⟩, ?_⟩
          · simp [encG]
          · simp [ht]
          · omega
          · rcases hA with h | ⟨s, q1, q2, q3, q4, q5⟩
            · exact .inl h
            · exact .inr ⟨s, q1, by simp [q2], by omega, q4, q5⟩
          · simp
          · simp
          · omega
          · omega
          · intro t s R Q f1 f2
            rcases hA with ⟨_, h⟩ | ⟨s', q1, q2, q3, q4, q5⟩
            · rw [h] at f1; cases f1
            · rw [q5] at f1; cases f1; cases f2; omega
        · simp [u34_1, hlt, hli, encG, ht, hs1, hs2, hw]
          rw [hX, hY]
          refine ih (i + 1) _ A ([] ++ [a]) _ _ _ _ _ _ hi1 hd' hlt ha2 hb' rfl ?_ ?_ ?_ ⟨?_, .inr ⟨_, ?_, ?_, ?_, ?_, rfl⟩, ?_⟩
          · simp [encG]
          · simp [ht]
          · omega
          · rcases hA with h | ⟨s, q1, q2, q3, q4, q5⟩
            · exact .inl h
            · exact .inr ⟨s, q1, by simp [q2], by omega, q4, q5⟩
          · simp
          · simp
          · omega
          · omega
          · intro t s R Q f1 f2
            rcases hA with ⟨_, h⟩ | ⟨s', q1, q2, q3, q4, q5⟩
            · rw [h] at f1; cases f1
            · rw [q5] at f1; cases f1; cases f2; omega
      · have hne' : ∀ s Q, d = .ow s 0 1 Q → s ≠ t2 := fun s Q h => hne s t2 Q _ h rfl
        have g1 : ¬ t = t2 := fun h => h2t h.symm
        rcases hsplit with hs1 | ⟨hs1, hs2⟩
        · simp [u34_1, hlt, hli, encG, ht, hs1, hw, h2, o2, r2, g1]
          rw [hX, hY]
          refine ih (i + 1) _ A (B ++ [a]) _ _ _ _ _ _ hi1 hd' hlt ha2 hb' rfl ?_ ?_ ?_ ⟨?_, .inr ⟨_, ?_, ?_, ?_, ?_, rfl⟩, ?_⟩
          · simp [encG]
          · simp [ht, g1, e5]
          · omega
          · rcases hA with h | ⟨s, q1, q2, q3, q4, q5⟩
            · exact .inl h
            · have := hne' s _ q5
              exact .inr ⟨s, q1, by simp [q2]; omega, by omega, q4, q5⟩
          · simp
          · simp
          · omega
          · omega
          · intro t s R Q f1 f2
            rcases hA with ⟨_, h⟩ | ⟨s', q1, q2, q3, q4, q5⟩
            · rw [h] at f1; cases f1
            · rw [q5] at f1; cases f1; cases f2; omega
        · simp [u34_1, hlt, hli, encG, ht, hs1, hs2, hw, h2, o2, r2, g1]
          rw [hX, hY]
          refine ih (i + 1) _ A (B ++ [a]) _ _ _ _ _ _ hi1 hd' hlt ha2 hb' rfl ?_ ?_ ?_ ⟨?_, .inr ⟨_, ?_, ?_, ?_, ?_, rfl⟩, ?_⟩
          · simp [encG]
          · simp [ht, g1, e5]
          · omega
          · rcases hA with h | ⟨s, q1, q2, q3, q4, q5⟩
            · exact .inl h
            · have := hne' s _ q5
              exact .inr ⟨s, q1, by simp [q2]; omega, by omega, q4, q5⟩
          · simp
          · simp
          · omega
          · omega
          · intro t s R Q f1 f2
            rcases hA with ⟨_, h⟩ | ⟨s', q1, q2, q3, q4, q5⟩
            · rw [h] at f1; cases f1
            · rw [q5] at f1; cases f1; cases f2; omega
end Go.Proofs.Ytpinhopgeaamdaa.Pl
