/-
  What is proved here: heads: a thing's stamp, what is put, what is of both, what is within.
  Conditions: none.
-/
import Derived.Test.YtmbboljcgpccfaaSnH
set_option linter.unusedVariables false
set_option linter.unusedSimpArgs false
set_option maxRecDepth 100000
set_option maxHeartbeats 4000000
namespace Go.Proofs.Ytmbboljcgpccfaa.Pl
open Go Go.Proofs Go.Proofs.Ev Go.Proofs.Dv Cd
attribute [local simp] x_pure x_skip x_reg x_drw x_seq x_cond x_block x_loop' Tm.keep_nil x_exit x_ret k_seq k_seq_ret k_seq_exit k_seq_none k_seq_ite k_cond k_block k_block_ret k_block_exit k_block_none k_block_ite k_iter k_iter_ret k_iter_exit k_iter_none k_iter_ite k_reg k_reg_none k_reg_ite x_is_nil x_is x_is_g k_ins k_ins_none k_ins_ite k_grd x_ord_nil x_ord x_ord_g k_ord k_ord_none k_ord_ite k_ogrd k_out_ret k_out k_out_none k_out_ite k_pure k_pure_none k_pure_ite startD dI dA deo Tm.at Tm.dst Tm.set Tm.put Tm.keep dW dRes oneOfD mkTup mkAgg mkFn allF frL fr vD vD1 vF vFL dBin dEq dNil isNilD dScal F.cv eBin sameKind eInt eStr cellsD oneD F.one dFill putAtD chunk dbnd dSrc St.own St.drop St.still St.fresh chkQ stillQ freshQ lOf rdOf rdOK undefD F.full F.fullL List.mapIdx_cons strip allOne_nil allOne_cons allOne_append allLen_nil allLen_cons allLen_append roomOK_small filterT y_mv y_pick y_new y_box y_build y_bslice y_ld1 y_ldn y_nilchk y_bin y_not y_conv y_bytes y_string y_ifc y_fn y_cut y_cuts y_fa y_fld y_ia y_idx y_idxs y_ext y_len y_lenstr y_app y_grow y_mks y_slow y_call y_callv y_inv y_extc x_it_st x_it_clr x_it_cpy k_addT k_addT_none k_addT_ite k_orU k_orU_none dU D.turn turnL Tm.turn turnS St.turn turnRows_length

theorem at_cnt {t : Int} : ∀ {l : List Hd}, Srt l → (isK Hd.item t l = false → atS l t = (0, 0, 0)) ∧ ∀ x, l[cntK Hd.item t l]? = some x → x.item = t → atS l t = x.s
  | [], _ => ⟨fun _ => rfl, fun x h => by simp at h⟩
  | y :: r, hs => by
    obtain ⟨h1, h2⟩ := List.pairwise_cons.1 hs
    obtain ⟨i1, i2⟩ := at_cnt (t := t) h2
    simp only [cntK, isK]
    by_cases hy : y.item < t
    · simp only [hy, if_true, List.getElem?_cons_succ, atS, if_neg (show ¬ y.item = t by omega)]
      exact ⟨i1, i2⟩
    · simp only [hy, if_false, List.getElem?_cons_zero, Option.some.injEq, forall_eq', decide_eq_false_iff_not]
      constructor
      · intro hne
        refine atS_none fun z hz => ?_
        rcases List.mem_cons.1 hz with rfl | hz
        · exact hne
        · have := h1 z hz
          omega
      · intro he
        simp [atS, he]
theorem ins_set {h : Hd} : ∀ {l : List Hd}, Srt l → (∀ x, l[cntK Hd.item h.item l]? = some x → x.item = h.item → insH l h = l.set (cntK Hd.item h.item l) h) ∧ (isK Hd.item h.item l = false → insH l h = l.take (cntK Hd.item h.item l) ++ h :: l.drop (cntK Hd.item h.item l))
  | [], _ => ⟨fun x hx => by simp at hx, fun _ => rfl⟩
  | y :: r, hs => by
    obtain ⟨h1, h2⟩ := List.pairwise_cons.1 hs
    obtain ⟨i1, i2⟩ := ins_set (h := h) h2
    simp only [cntK, isK, insH]
    by_cases hy : y.item < h.item
    · simp only [hy, if_true, List.getElem?_cons_succ, List.set_cons_succ, List.take_succ_cons, List.drop_succ_cons, List.cons_append, List.cons.injEq, true_and]
      exact ⟨i1, i2⟩
    · simp only [hy, if_false, List.getElem?_cons_zero, Option.some.injEq, forall_eq', decide_eq_false_iff_not, List.set_cons_zero, List.take_zero, List.drop_zero, List.nil_append]
      constructor
      · intro he; rw [if_pos he]
      · intro he; rw [if_neg he]

theorem pPlace (l : List Hd) (hl : l.length < 1000000) (hs : Srt l) (t : Int) : pureI Try.prog prims dx tbl 72 [.list (l.map encH), .int .i64 t] = some (.tup [.int .i64 (cntK Hd.item t l : Nat), .bool (isK Hd.item t l)]) := by
  rw [pureI_of (rfl : tbl 72 = some c72)]
  simp [c72, rBSH, callR, pBSH l hl hs t]
theorem rPlace (ds : List D) (st : Dv.St) : callI Try.prog prims dx tbl 72 ds st = callR Try.prog prims dx tbl 72 ds st (frL (fr st 6) ds) := callRw rfl rfl (rfl : tbl 72 = some c72) rfl ds st
def encS (s : Int × Int × Int) : F := .agg [.int .i64 s.1, .int .i64 s.2.1, .int .i64 s.2.2]
theorem pSAt (l : List Hd) (hl : l.length < 1000000) (hs : Srt l) (t : Int) : pureI Try.prog prims dx tbl 42 [.list (l.map encH), .int .i64 t] = some (encS (atS l t)) := by
  rw [pureI_of (rfl : tbl 42 = some c42)]
  have hp := pPlace l hl hs t
  obtain ⟨a1, a2⟩ := at_cnt (t := t) hs
  rcases isK_iff Hd.item t l with ⟨h1, h2⟩ | ⟨hlt, h1, h2⟩
  · rw [h1] at hp
    simp [c42, rPlace, callR, hp, a1 h1, encS]
  · rw [h1] at hp
    have := a2 l[cntK Hd.item t l] (List.getElem?_eq_getElem hlt) h2
    simp [c42, rPlace, callR, hp, this, hlt, encH_len, encH, encS, Hd.s]
theorem rSAt (ds : List D) (st : Dv.St) : callI Try.prog prims dx tbl 42 ds st = callR Try.prog prims dx tbl 42 ds st (frL (fr st 6) ds) := callRw rfl rfl (rfl : tbl 42 = some c42) rfl ds st
theorem rCloneH (ds : List D) (st : Dv.St) : callI Try.prog prims dx tbl 76 ds st = orC (dClone 4 32 ds st) (callI0 Try.prog prims dx tbl 76 ds st) := callRwX rfl rfl ds st
theorem rInsH (ds : List D) (st : Dv.St) : callI Try.prog prims dx tbl 77 ds st = orC (dPrim (.ins 4 32) ds st) (callI0 Try.prog prims dx tbl 77 ds st) := callRwP rfl ds st
theorem encH_ok (l : List Hd) : allOne (l.map encH) = true ∧ allLen 4 (l.map encH) = true := ⟨allOne_map encH (fun a => rfl) _, allLen_map 4 encH (fun a => rfl) _⟩
theorem turn_setH (l : List Hd) (k : Nat) (h : Hd) : turnRows (rowU k 0 [.int .i64 h.item, .int .i64 h.a, .int .i64 h.b, .int .i64 h.c]) 0 (l.map encH) = (l.set k h).map encH := by
  have := turn_set encH h (fun x => rfl) l 0 k
  rw [Nat.zero_add] at this
  exact this
theorem pSPut (l : List Hd) (hl : l.length < 900000) (hs : Srt l) (h : Hd) : pureI Try.prog prims dx tbl 45 [.list (l.map encH), .agg (encH h)] = some (.list ((putH l h).map encH)) := by
  rw [pureI_of (rfl : tbl 45 = some c45)]
  have hat := pSAt l (by omega) hs h.item
  have hp := pPlace l (by omega) hs h.item
  have o1 := encH_ok l
  have r1 : roomOK 32 l.length := roomOK_small (by omega) (by omega)
  have r2 : roomOK 32 (l.length + 1) := roomOK_small (by omega) (by omega)
  have hc := pCmp h.a h.b h.c (atS l h.item).1 (atS l h.item).2.1 (atS l h.item).2.2
  rw [encS] at hat
  by_cases hle : cmpS h.s (atS l h.item) ≤ 0
  · have hput : putH l h = l := if_pos hle
    rw [hput]
    have hle' : cmpS (h.a, h.b, h.c) ((atS l h.item).1, (atS l h.item).2.1, (atS l h.item).2.2) ≤ 0 := hle
    simp [c45, encH, rCloneH, dClone, dSrc, orC, o1, r1, rSAt, callR, hat, rCmp, hc, hle']
  · have hput : putH l h = insH l h := if_neg hle
    rw [hput]
    have hle' : ¬ cmpS (h.a, h.b, h.c) ((atS l h.item).1, (atS l h.item).2.1, (atS l h.item).2.2) ≤ 0 := hle
    obtain ⟨i1, i2⟩ := ins_set (h := h) hs
    rcases isK_iff Hd.item h.item l with ⟨h1, h2⟩ | ⟨hlt, h1, h2⟩
    · rw [h1] at hp
      have hins := i2 h1
      have hcl := cntK_le Hd.item h.item l
      rw [hins]
      simp [c45, encH, rCloneH, dClone, dSrc, orC, o1, r1, rSAt, callR, hat, rCmp, hc, hle', rPlace, hp, rInsH, dPrim, dIns, r2, hcl]
    · rw [h1] at hp
      have hins := i1 l[cntK Hd.item h.item l] (List.getElem?_eq_getElem hlt) h2
      rw [hins]
      simp [c45, encH, rCloneH, dClone, dSrc, orC, o1, r1, rSAt, callR, hat, rCmp, hc, hle', rPlace, hp, hlt, turn_setH]
end Go.Proofs.Ytmbboljcgpccfaa.Pl
