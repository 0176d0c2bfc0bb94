/-
  What is proved here: versions that are held: their heads; those of other things, in the document's own words.
  Conditions: none.
-/
import Derived.Test.YtmbboljcgpccfaaHdH
set_option linter.unusedVariables false
set_option linter.unusedSimpArgs false
set_option maxRecDepth 100000
set_option maxHeartbeats 8000000
namespace Go.Proofs.Ytmbboljcgpccfaa.Pl
open Go Go.Proofs Go.Proofs.Ev Go.Proofs.Dv Cd
attribute [local simp] x_pure x_skip x_reg x_drw x_seq x_cond x_block x_loop' Tm.keep_nil x_exit x_ret k_seq k_seq_ret k_seq_exit k_seq_none k_seq_ite k_cond k_block k_block_ret k_block_exit k_block_none k_block_ite k_iter k_iter_ret k_iter_exit k_iter_none k_iter_ite k_reg k_reg_none k_reg_ite x_is_nil x_is x_is_g k_ins k_ins_none k_ins_ite k_grd x_ord_nil x_ord x_ord_g k_ord k_ord_none k_ord_ite k_ogrd k_out_ret k_out k_out_none k_out_ite k_pure k_pure_none k_pure_ite startD dI dA deo Tm.at Tm.dst Tm.set Tm.put Tm.keep dW dRes oneOfD mkTup mkAgg mkFn allF frL fr vD vD1 vF vFL dBin dEq dNil isNilD dScal F.cv eBin sameKind eInt eStr cellsD oneD F.one dFill putAtD chunk dbnd dSrc St.own St.drop St.still St.fresh chkQ stillQ freshQ lOf rdOf rdOK undefD F.full F.fullL List.mapIdx_cons strip allOne_nil allOne_cons allOne_append allLen_nil allLen_cons allLen_append roomOK_small filterT y_mv y_pick y_new y_box y_build y_bslice y_ld1 y_ldn y_nilchk y_bin y_not y_conv y_bytes y_string y_ifc y_fn y_cut y_cuts y_fa y_fld y_ia y_idx y_idxs y_ext y_len y_lenstr y_app y_grow y_mks y_slow y_call y_callv y_inv y_extc x_it_st x_it_clr x_it_cpy k_addT k_addT_none k_addT_ite k_orU k_orU_none dU D.turn turnL Tm.turn turnS St.turn turnRows_length

def hdV (v : Ver) : Hd := ⟨v.item, v.a, v.b, v.c⟩
def PostHd (k : Nat) (res : List Hd) (r : Option DSt) : Prop := ∃ (d : D) (st' : Dv.St) (T' : Tm), OwnS 4 (res.map encH) st'.L d ∧ T'.keep [k] = [(k, d)] ∧ r = some (.exit 0, T', st')
theorem loopHd (l : List Ver) (hl : l.length < 100000) : ∀ (r : List Ver) (i : Nat) (iz : Int) (rows : List Hd) (R : List (List F)) (d : D) (S : List (Bool × List D)) (L : List Nat) (c : Nat), iz = i → l.drop i = r → i ≤ l.length → rows.length ≤ i → R = rows.map encH → OwnS 4 R L d →
    PostHd 2 (rows ++ r.map hdV) (iterI (dCw Try.prog (callI Try.prog prims dx tbl) l28_0) [2, 5, 6, 7] [(2, d), (5, .fz (.list (l.map encV))), (6, .fz (.int .i64 l.length)), (7, .fz (.int .i64 iz))] ⟨S, L, c⟩) := by
  intro r
  induction r with
  | nil =>
    intro i iz rows R d S L c hz hd hi hrl hR ho
    subst hR
    have hi' := drop_nil hd hi
    subst hi' hz
    rw [x_iter]
    simp [u28_0]
    refine ⟨d, ⟨S, L, c⟩, _, by simpa using ho, ?_, rfl⟩
    simp [Tm.keep]
  | cons a r ih =>
    intro i iz rows R d S L c hz hd hi hrl hR ho
    subst hz hR
    obtain ⟨hlt, hli, hd'⟩ := drop_cons hd
    have o1 := (encH_ok rows).1
    have r1 : roomOK 32 (rows.length + 1) := roomOK_small (by omega) (by omega)
    have hi1 : ((i : Int) + 1) = ((i + 1 : Nat) : Int) := by omega
    have hrl' : (rows ++ [hdV a]).length ≤ i + 1 := by simp; omega
    have hw : wrapF .i64 ((i : Int) + 1) = (i : Int) + 1 := wrap_id _ (by omega) (by omega)
    have hf : rows ++ (a :: r).map hdV = (rows ++ [hdV a]) ++ r.map hdV := by simp
    rw [hf]
    obtain ⟨res, hres⟩ : ∃ res, res = (rows ++ [hdV a]) ++ r.map hdV := ⟨_, rfl⟩
    rw [← hres, x_iter]
    rcases ho with ⟨h5, rfl⟩ | ⟨t, hne, ht, rfl⟩
    · have h6 : rows = [] := by simpa using h5
      subst h6
      simp [u28_0, hlt, encV_len, encV_take, hli, hw, setC]
      rw [hres]
      refine ih (i + 1) _ ([] ++ [hdV a]) [[.int .i64 a.item, .int .i64 a.a, .int .i64 a.b, .int .i64 a.c]] _ _ _ _ hi1 hd' hlt hrl' ?_ ?_
      · rfl
      · exact .inr ⟨_, by simp, by simp, rfl⟩
    · simp [u28_0, hlt, encV_len, encV_take, hli, hw, setC, ht, o1, r1]
      rw [hres]
      refine ih (i + 1) _ (rows ++ [hdV a]) (rows.map encH ++ [[.int .i64 a.item, .int .i64 a.a, .int .i64 a.b, .int .i64 a.c]]) _ _ _ _ hi1 hd' hlt hrl' ?_ ?_
      · simp [encH, hdV]
      · exact .inr ⟨_, by simp, by simp, rfl⟩
theorem pHeadsV (l : List Ver) (hl : l.length < 100000) : pureI Try.prog prims dx tbl 28 [.list (l.map encV)] = some (.list ((l.map hdV).map encH)) := by
  rw [pureI_of (rfl : tbl 28 = some c28)]
  obtain ⟨d, st', T', ho, hk, hT⟩ := loopHd l hl l 0 0 [] [] .nils [] [] 0 rfl rfl (Nat.zero_le _) (Nat.le_refl _) rfl (.inl ⟨rfl, rfl⟩)
  rw [List.nil_append] at ho
  generalize hres : l.map hdV = res at ho ⊢
  rcases ho with ⟨h5, rfl⟩ | ⟨t, hne, ht, rfl⟩
  · have h6 : res = [] := by simpa using h5
    simp [c28, hT, hk, h6]
  · simp [c28, hT, hk, ht]
theorem rHeadsV (ds : List D) (st : Dv.St) : callI Try.prog prims dx tbl 28 ds st = callR Try.prog prims dx tbl 28 ds st (frL (fr st 6) ds) := callRw rfl rfl (rfl : tbl 28 = some c28) rfl ds st
def PostWo (res : List Ver) (r : Option DSt) : Prop := ∃ (d : D) (st' : Dv.St) (T' : Tm), OwnS 8 (res.map encV) st'.L d ∧ T'.keep [5] = [(5, d)] ∧ r = some (.exit 0, T', st')
theorem loopWo (l : List Ver) (hl : l.length < 100000) (t0 : Int) : ∀ (r : List Ver) (i : Nat) (iz : Int) (rows : List Ver) (R : List (List F)) (d : D) (S : List (Bool × List D)) (L : List Nat) (c : Nat), iz = i → l.drop i = r → i ≤ l.length → rows.length ≤ i → R = rows.map encV → OwnS 8 R L d →
    PostWo (rows ++ r.filter fun v => decide (v.item ≠ t0)) (iterI (dCw Try.prog (callI Try.prog prims dx tbl) l26_0) [0, 1, 5, 6] [(0, .fz (.list (l.map encV))), (1, .fz (.int .i64 t0)), (5, d), (6, .fz (.int .i64 iz))] ⟨S, L, c⟩) := by
  intro r
  induction r with
  | nil =>
    intro i iz rows R d S L c hz hd hi hrl hR ho
    subst hR
    have hi' := drop_nil hd hi
    subst hi' hz
    rw [x_iter]
    simp [u26_0]
    refine ⟨d, ⟨S, L, c⟩, _, by simpa using ho, ?_, rfl⟩
    simp [Tm.keep]
  | cons a r ih =>
    intro i iz rows R d S L c hz hd hi hrl hR ho
    subst hz hR
    obtain ⟨hlt, hli, hd'⟩ := drop_cons hd
    have o1 := encV_one rows
    have r1 : roomOK 96 (rows.length + 1) := roomOK_small (by omega) (by omega)
    have hi1 : ((i : Int) + 1) = ((i + 1 : Nat) : Int) := by omega
    have hrl' : (rows ++ [a]).length ≤ i + 1 := by simp; omega
    have hrl2 : rows.length ≤ i + 1 := by omega
    have hw : wrapF .i64 ((i : Int) + 1) = (i : Int) + 1 := wrap_id _ (by omega) (by omega)
    rw [x_iter]
    by_cases hk : a.item = t0
    · have hf : (rows ++ (a :: r).filter fun v => decide (v.item ≠ t0)) = rows ++ r.filter fun v => decide (v.item ≠ t0) := by simp [hk]
      rw [hf]
      obtain ⟨res, hres⟩ : ∃ res, res = rows ++ r.filter fun v => decide (v.item ≠ t0) := ⟨_, rfl⟩
      rw [← hres]
      simp [u26_0, hlt, encV, hli, hk, hw]
      rw [hres]
      exact ih (i + 1) _ rows _ _ _ _ _ hi1 hd' hlt hrl2 rfl ho
    · have hf : (rows ++ (a :: r).filter fun v => decide (v.item ≠ t0)) = (rows ++ [a]) ++ r.filter fun v => decide (v.item ≠ t0) := by simp [hk]
      rw [hf]
      obtain ⟨res, hres⟩ : ∃ res, res = (rows ++ [a]) ++ r.filter fun v => decide (v.item ≠ t0) := ⟨_, rfl⟩
      rw [← hres]
      rcases ho with ⟨h5, rfl⟩ | ⟨t, hne, ht, rfl⟩
      · have h6 : rows = [] := by simpa using h5
        subst h6
        simp [u26_0, hlt, encV, hli, hk, hw]
        rw [hres]
        refine ih (i + 1) _ ([] ++ [a]) [[.int .i64 a.item, .int .i64 a.a, .int .i64 a.b, .int .i64 a.c, .bool a.dead, .list (a.ats.map encA), .str a.tag, .str a.body]] _ _ _ _ hi1 hd' hlt hrl' ?_ ?_
        · rfl
        · exact .inr ⟨_, by simp, by simp, rfl⟩
      · simp [u26_0, hlt, encV, hli, hk, hw, ht, o1, r1]
        rw [hres]
        refine ih (i + 1) _ (rows ++ [a]) (rows.map encV ++ [[.int .i64 a.item, .int .i64 a.a, .int .i64 a.b, .int .i64 a.c, .bool a.dead, .list (a.ats.map encA), .str a.tag, .str a.body]]) _ _ _ _ hi1 hd' hlt hrl' ?_ ?_
        · simp [encV]
        · exact .inr ⟨_, by simp, by simp, rfl⟩
theorem pRWithout (l : List Ver) (hl : l.length < 100000) (t0 : Int) : pureI Try.prog prims dx tbl 26 [.list (l.map encV), .int .i64 t0] = some (.list ((l.filter fun v => decide (v.item ≠ t0)).map encV)) := by
  rw [pureI_of (rfl : tbl 26 = some c26)]
  obtain ⟨d, st', T', ho, hk, hT⟩ := loopWo l hl t0 l 0 0 [] [] .nils [] [] 0 rfl rfl (Nat.zero_le _) (Nat.le_refl _) rfl (.inl ⟨rfl, rfl⟩)
  rw [List.nil_append] at ho
  generalize hres : (l.filter fun v => decide (v.item ≠ t0)) = res at ho ⊢
  rcases ho with ⟨h5, rfl⟩ | ⟨t, hne, ht, rfl⟩
  · have h6 : res = [] := by simpa using h5
    simp [c26, hT, hk, h6]
  · simp [c26, hT, hk, ht]
end Go.Proofs.Ytmbboljcgpccfaa.Pl
