/-
  What is proved here: the law of a filter and its opposite, as boxes.
  Conditions: none.
-/
import Derived.Test.YtiloimenibbeoaaNhN
set_option linter.unusedVariables false
set_option linter.unusedSimpArgs false
set_option maxRecDepth 100000
set_option maxHeartbeats 8000000
namespace Go.Proofs.Ytiloimenibbeoaa.Pl
open Go Go.Proofs Go.Proofs.Ev Go.Proofs.Dv Cd
attribute [local simp] x_pure x_skip x_reg x_drw x_seq x_cond x_block x_frz x_loop' Tm.keep_nil x_exit x_ret k_seq k_seq_ret k_seq_exit k_seq_none k_seq_ite k_cond k_block k_block_ret k_block_exit k_block_none k_block_ite k_iter k_iter_ret k_iter_exit k_iter_none k_iter_ite k_reg k_reg_none k_reg_ite x_is_nil x_is x_is_g k_ins k_ins_none k_ins_ite k_grd x_ord_nil x_ord x_ord_g k_ord k_ord_none k_ord_ite k_ogrd k_out_ret k_out k_out_none k_out_ite k_pure k_pure_none k_pure_ite startD dI dA deo Tm.at Tm.dst Tm.set Tm.put Tm.keep dW dRes oneOfD mkTup mkAgg mkFn allF frL fr vD vD1 vF vFL dBin dEq dNil isNilD dScal F.cv eBin sameKind eInt eStr cellsD oneD F.one dFill putAtD chunk dbnd dSrc St.own St.drop St.still St.fresh chkQ stillQ freshQ lOf rdOf rdOK undefD F.full F.fullL List.mapIdx_cons strip allOne_nil allOne_cons allOne_append allLen_nil allLen_cons allLen_append roomOK_small filterT y_mv y_pick y_new y_box y_build y_bslice y_ld1 y_ldn y_nilchk y_bin y_not y_conv y_bytes y_string y_ifc y_fn y_cut y_cuts y_fa y_fld y_ia y_idx y_idxs y_ext y_len y_lenstr y_app y_grow y_mks y_slow y_call y_callv y_inv y_extc x_it_st x_it_clr x_it_cpy k_addT k_addT_none k_addT_ite k_orU k_orU_none dU D.turn turnL Tm.turn turnS St.turn turnRows_length

theorem u8s_of {l : List Int} (h : l.length ≤ 1000) (hb : ∀ z ∈ l, 0 ≤ z ∧ z < 256) : U8s l := ⟨by omega, hb⟩
theorem qBegun7 (st : Dv.St) : callI Try.prog prims dx tbl 9 [] st = some (.fz (.bool true), st, []) := callI_prim (p := .yes) rfl rfl
theorem any_or {α : Type} (f : α → Bool) (a : α) (r : List α) (x : Bool) : (x || (a :: r).any f) = ((x || f a) || r.any f) := by
  rw [List.any_cons, Bool.or_assoc]
def PostX0 (d7 d8 d9 : D) (jv : Nat) (y x : Bool) (st : Dv.St) (r : Option DSt) : Prop := ∃ T' : Tm, T'.keep [7, 8, 9, 10, 11, 12] = [(7, d7), (8, d8), (9, d9), (10, .ptr jv 0), (11, .fz (.bool x)), (12, .fz (.bool y))] ∧ r = some (.exit 0, T', st)
theorem loopX0 (d7 d8 d9 : D) (jv : Nat) (y : Bool) (v : Ver) (hv : v.ats.length < 1000000) (l : List Box) (hl : l.length ≤ 16) (hn : ∀ b ∈ l, b.nots.length ≤ 100) (S : List (Bool × List D)) (L : List Nat) (c : Nat) (hS : S[jv]? = some (varV v)) : ∀ (r : List Box) (i : Nat) (iz : Int) (x : Bool), iz = i → l.drop i = r → i ≤ l.length →
    PostX0 d7 d8 d9 jv y (x || r.any fun b => letsB b v.ats v.tag) ⟨S, L, c⟩ (iterI (dCw Try.prog (callI Try.prog prims dx tbl) l8_0) [6, 7, 8, 9, 10, 11, 12, 13] [(6, .fz (.list (l.map encB))), (7, d7), (8, d8), (9, d9), (10, .ptr jv 0), (11, .fz (.bool x)), (12, .fz (.bool y)), (13, .fz (.int .i64 iz))] ⟨S, L, c⟩) := by
  intro r
  induction r with
  | nil =>
    intro i iz x hz hd hi
    have hi' := drop_nil hd hi
    subst hi' hz
    rw [x_iter]
    simp [u8_0]
    exact ⟨_, by simp [Tm.keep], rfl⟩
  | cons b r ih =>
    intro i iz x hz hd hi
    subst hz
    obtain ⟨hlt, hli, hd'⟩ := drop_cons hd
    have hb := hn b (by rw [← hli]; exact List.getElem_mem hlt)
    have hp := pLetsB b (by omega) v hv
    have c1 : -100000 ≤ (i : Int) + 1 ∧ (i : Int) + 1 ≤ 100000 := by omega
    have goal := ih (i + 1) ((i : Int) + 1) (x || letsB b v.ats v.tag) (by omega) hd' hlt
    rw [any_or]
    generalize letsB b v.ats v.tag = q at *
    simp only [varV, encV, List.map_cons, List.map_nil] at hS
    simp only [encB, encV] at hp
    rw [x_iter]
    cases x with
    | true =>
      simp at goal
      simp [u8_0, hlt, hli, wz _ c1]
      exact goal
    | false =>
      simp at goal
      simp [u8_0, hlt, hli, encB, hS, rLetsB, callR, hp, wz _ c1]
      exact goal
def PostX1 (d7 d9 : D) (x y : Bool) (st : Dv.St) (r : Option DSt) : Prop := ∃ T' : Tm, T'.keep [7, 9, 11, 12] = [(7, d7), (9, d9), (11, .fz (.bool x)), (12, .fz (.bool y))] ∧ r = some (.exit 2, T', st)
theorem loopX1 (d7 d9 : D) (jv : Nat) (x : Bool) (v : Ver) (hv : v.ats.length < 1000000) (l : List Box) (hl : l.length ≤ 16) (hn : ∀ b ∈ l, b.nots.length ≤ 100) (S : List (Bool × List D)) (L : List Nat) (c : Nat) (hS : S[jv]? = some (varV v)) : ∀ (r : List Box) (i : Nat) (iz : Int) (y : Bool), iz = i → l.drop i = r → i ≤ l.length →
    PostX1 d7 d9 x (y || r.any fun b => letsB b v.ats v.tag) ⟨S, L, c⟩ (iterI (dCw Try.prog (callI Try.prog prims dx tbl) l8_1) [7, 8, 9, 10, 11, 12, 14] [(7, d7), (8, .fz (.list (l.map encB))), (9, d9), (10, .ptr jv 0), (11, .fz (.bool x)), (12, .fz (.bool y)), (14, .fz (.int .i64 iz))] ⟨S, L, c⟩) := by
  intro r
  induction r with
  | nil =>
    intro i iz y hz hd hi
    have hi' := drop_nil hd hi
    subst hi' hz
    rw [x_iter]
    simp [u8_1]
    exact ⟨_, by simp [Tm.keep], rfl⟩
  | cons b r ih =>
    intro i iz y hz hd hi
    subst hz
    obtain ⟨hlt, hli, hd'⟩ := drop_cons hd
    have hb := hn b (by rw [← hli]; exact List.getElem_mem hlt)
    have hp := pLetsB b (by omega) v hv
    have c1 : -100000 ≤ (i : Int) + 1 ∧ (i : Int) + 1 ≤ 100000 := by omega
    have goal := ih (i + 1) ((i : Int) + 1) (y || letsB b v.ats v.tag) (by omega) hd' hlt
    rw [any_or]
    generalize letsB b v.ats v.tag = q at *
    simp only [varV, encV, List.map_cons, List.map_nil] at hS
    simp only [encB, encV] at hp
    rw [x_iter]
    cases y with
    | true =>
      simp at goal
      simp [u8_1, hlt, hli, wz _ c1]
      exact goal
    | false =>
      simp at goal
      simp [u8_1, hlt, hli, encB, hS, rLetsB, callR, hp, wz _ c1]
      exact goal
theorem few_getD {f : Flt} (hf : f.ok) (hn : leaves f ≤ 100) (t : Bool) : ((ofB f t).getD []).length ≤ 16 ∧ ∀ x ∈ (ofB f t).getD [], x.nots.length ≤ 100 := by
  cases h : ofB f t with
  | none => simp
  | some l =>
    obtain ⟨h1, h2⟩ := few_of hf h
    exact ⟨h1, fun x hx => by have := h2 x hx; omega⟩
theorem pNormNot (l1 : List Int) (h1 : l1.length ≤ maxLen) (hb1 : ∀ z ∈ l1, 0 ≤ z ∧ z < 256) (l2 : List Int) (h2 : l2.length ≤ maxLen) (hb2 : ∀ z ∈ l2, 0 ≤ z ∧ z < 256) :
    pureI Try.prog prims dx tbl 8 [.list (l1.map fun z => [.int .u8 z]), .list (l2.map fun z => [.int .u8 z])] = some (.bool true) := by
  rw [pureI_of (rfl : tbl 8 = some c8)]
  by_cases g1 : 40 < l1.length
  · simp [c8, qBegun7, show (40 : Int) < l1.length by omega]
  by_cases g2 : 20 < l2.length
  · simp [c8, qBegun7, show ¬ (40 : Int) < l1.length by omega, show (20 : Int) < l2.length by omega]
  have e1' : ¬ (40 : Int) < l1.length := by omega
  have e2' : ¬ (20 : Int) < l2.length := by omega
  have m1 := vMade l1
  have m2 := vMade l2
  obtain ⟨f, i0, _, ⟨hf, hn⟩, e0⟩ := vFilter l1 (u8s_of (by omega) hb1) 3 3 0 rfl (by omega) (Nat.zero_le _)
  obtain ⟨v, i1, b1, hv, e1⟩ := vVersion l2 (u8s_of (by omega) hb2) 0 (Nat.zero_le _)
  have hn' : leaves f ≤ 100 := by have : (2 : Nat) ^ 3 = 8 := rfl; omega
  have hvl : v.ats.length < 1000000 := by have := hv.ats; omega
  have a1 := pOF f hf hn'
  have a2 := pOF (.not f) hf hn'
  have e3 : ofB (.not f) false = ofB f true := rfl
  rw [e3] at a2
  obtain ⟨q1, q2⟩ := few_getD hf hn' false
  obtain ⟨q3, q4⟩ := few_getD hf hn' true
  have hsem : (!(ofB f false).isSome || (!(ofB f true).isSome || (((ofB f false).getD []).any (fun b => letsB b v.ats v.tag) != ((ofB f true).getD []).any (fun b => letsB b v.ats v.tag)))) = true := by
    cases h5 : ofB f false with
    | none => simp
    | some l =>
      cases h6 : ofB f true with
      | none => simp
      | some m =>
        have s1 := (of_sem v.ats hv.vals v.tag f hf false l h5).2.2
        have s2 := (of_sem v.ats hv.vals v.tag f hf true m h6).2.2
        simp only [Option.getD_some, s1, s2]
        cases lets f v.ats v.tag <;> rfl
  simp only [encO] at a1 a2
  generalize (ofB f false).isSome = p at *
  generalize (ofB f true).isSome = q at *
  generalize (ofB f false).getD [] = X at *
  generalize (ofB f true).getD [] = Y at *
  have lx := fun S L c hS => loopX0 (.fz (.bool p)) (.fz (.list (Y.map encB))) (.fz (.bool q)) 3 false v hvl X q1 q2 S L c hS X 0 0 false rfl rfl (Nat.zero_le _)
  simp only [Bool.false_or] at lx
  have ly := fun S L c hS x => loopX1 (.fz (.bool p)) (.fz (.bool q)) 3 x v hvl Y q3 q4 S L c hS Y 0 0 false rfl rfl (Nat.zero_le _)
  simp only [Bool.false_or] at ly
  generalize X.any (fun b => letsB b v.ats v.tag) = x at *
  generalize Y.any (fun b => letsB b v.ats v.tag) = y at *
  obtain ⟨x1, x2, x3, x4, x5, x6, hx⟩ := encF_eq f
  simp only [hx, encF, encV] at e0 e1 a1 a2
  simp at e0 e1
  simp only [varV, encV, List.map_cons, List.map_nil] at lx ly
  simp [c8, x_vars, varsOf, varsK, varsK_ite, finals, callVars, splitV, contents, updV, orC, qBegun7, e1', e2', rMade, m1, m2, rFilter, e0, rVersion, e1, rOF, callR, a1, a2, freshQ]
  obtain ⟨T1, k1, j1⟩ := lx [(true, [D.fz (F.list (List.map (fun z => [F.int IntKind.u8 z]) l1)), D.fz (F.int IntKind.i64 ↑i0)]),
      (true, [D.fz (F.int IntKind.i64 x1), D.fz (F.int IntKind.i64 x2), D.fz (F.int IntKind.i64 x3), D.fz (F.int IntKind.i64 x4), D.fz (F.str x5), D.fz (F.list x6)]),
      (true, [D.fz (F.list (List.map (fun z => [F.int IntKind.u8 z]) l2)), D.fz (F.int IntKind.i64 ↑i1)]),
      (true, [D.fz (F.int IntKind.i64 v.item), D.fz (F.int IntKind.i64 v.a), D.fz (F.int IntKind.i64 v.b), D.fz (F.int IntKind.i64 v.c), D.fz (F.bool v.dead), D.fz (F.list (List.map encA v.ats)), D.fz (F.str v.tag), D.fz (F.str v.body)])] [] 1 rfl
  obtain ⟨T2, k2, j2⟩ := ly [(true, [D.fz (F.list (List.map (fun z => [F.int IntKind.u8 z]) l1)), D.fz (F.int IntKind.i64 ↑i0)]),
      (true, [D.fz (F.int IntKind.i64 x1), D.fz (F.int IntKind.i64 x2), D.fz (F.int IntKind.i64 x3), D.fz (F.int IntKind.i64 x4), D.fz (F.str x5), D.fz (F.list x6)]),
      (true, [D.fz (F.list (List.map (fun z => [F.int IntKind.u8 z]) l2)), D.fz (F.int IntKind.i64 ↑i1)]),
      (true, [D.fz (F.int IntKind.i64 v.item), D.fz (F.int IntKind.i64 v.a), D.fz (F.int IntKind.i64 v.b), D.fz (F.int IntKind.i64 v.c), D.fz (F.bool v.dead), D.fz (F.list (List.map encA v.ats)), D.fz (F.str v.tag), D.fz (F.str v.body)])] [] 1 rfl x
  cases p <;> cases q <;> cases x <;> cases y <;> simp at hsem <;> simp [j1, k1, j2, k2]
end Go.Proofs.Ytiloimenibbeoaa.Pl
