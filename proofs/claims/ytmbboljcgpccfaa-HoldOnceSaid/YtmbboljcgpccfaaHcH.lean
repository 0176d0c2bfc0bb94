/-
  What is proved here: versions that are held: some of them, of their own.
  Conditions: none.
-/
import Derived.Test.YtmbboljcgpccfaaHbH
set_option linter.unusedVariables false
set_option linter.unusedSimpArgs false
set_option maxRecDepth 100000
set_option maxHeartbeats 8000000
namespace Go.Proofs.Ytmbboljcgpccfaa.Pl
open Go Go.Proofs Go.Proofs.Ev Go.Proofs.Dv Cd
attribute [local simp] x_pure x_skip x_reg x_drw x_seq x_cond x_block x_loop' Tm.keep_nil x_exit x_ret k_seq k_seq_ret k_seq_exit k_seq_none k_seq_ite k_cond k_block k_block_ret k_block_exit k_block_none k_block_ite k_iter k_iter_ret k_iter_exit k_iter_none k_iter_ite k_reg k_reg_none k_reg_ite x_is_nil x_is x_is_g k_ins k_ins_none k_ins_ite k_grd x_ord_nil x_ord x_ord_g k_ord k_ord_none k_ord_ite k_ogrd k_out_ret k_out k_out_none k_out_ite k_pure k_pure_none k_pure_ite startD dI dA deo Tm.at Tm.dst Tm.set Tm.put Tm.keep dW dRes oneOfD mkTup mkAgg mkFn allF frL fr vD vD1 vF vFL dBin dEq dNil isNilD dScal F.cv eBin sameKind eInt eStr cellsD oneD F.one dFill putAtD chunk dbnd dSrc St.own St.drop St.still St.fresh chkQ stillQ freshQ lOf rdOf rdOK undefD F.full F.fullL List.mapIdx_cons strip allOne_nil allOne_cons allOne_append allLen_nil allLen_cons allLen_append roomOK_small filterT y_mv y_pick y_new y_box y_build y_bslice y_ld1 y_ldn y_nilchk y_bin y_not y_conv y_bytes y_string y_ifc y_fn y_cut y_cuts y_fa y_fld y_ia y_idx y_idxs y_ext y_len y_lenstr y_app y_grow y_mks y_slow y_call y_callv y_inv y_extc x_it_st x_it_clr x_it_cpy k_addT k_addT_none k_addT_ite k_orU k_orU_none dU D.turn turnL Tm.turn turnS St.turn turnRows_length

theorem encV_one (l : List Ver) : allOne (l.map encV) = true := allOne_map encV (fun a => rfl) _
def OwnS (z : Nat) (rows : List (List F)) (L : List Nat) (d : D) : Prop := (rows = [] ∧ d = .nils) ∨ ∃ t, rows ≠ [] ∧ t ∈ L ∧ d = .ow t 0 z rows
def someO (l : List Ver) : O := if l = [] then .nils else .ow 8 (l.map encV)
def PostSome (g : Nat) (cs : List F) (l res : List Ver) (r : Option DSt) : Prop := ∃ (d : D) (st' : Dv.St) (T' : Tm), OwnS 8 (res.map encV) st'.L d ∧ T'.keep [4] = [(4, d)] ∧ r = some (.exit 0, T', st')
theorem loopSome (p : Ver → Bool) (g : Nat) (cs : List F) (l : List Ver) (hc : ∀ x ∈ l, ∀ st, callI Try.prog prims dx tbl g (.fz (.agg [.int .i64 x.item, .int .i64 x.a, .int .i64 x.b, .int .i64 x.c, .bool x.dead, .list (x.ats.map encA), .str x.tag, .str x.body]) :: cs.map .fz) st = some (.fz (.bool (p x)), st, [])) (hl : l.length < 100000) (hb : ∀ v ∈ l, v.ats.length < 100000) :
    ∀ (r : List Ver) (i : Nat) (iz : Int) (rows : List Ver) (R : List (List F)) (d : D) (S : List (Bool × List D)) (L : List Nat) (c : Nat), iz = i → l.drop i = r → i ≤ l.length → rows.length ≤ i → R = rows.map encV → OwnS 8 R L d →
    PostSome g cs l (rows ++ r.filter p) (iterI (dCw Try.prog (callI Try.prog prims dx tbl) l61_0) [1, 4, 7, 8, 9] [(1, .fz (.fn g cs)), (4, d), (7, .fz (.list (l.map encV))), (8, .fz (.int .i64 l.length)), (9, .fz (.int .i64 iz))] ⟨S, L, c⟩) := by
  intro r
  induction r with
  | nil =>
    intro i iz rows R d S L c hz hd hi hrl hR ho
    subst hR
    have hi' := drop_nil hd hi
    subst hi' hz
    rw [x_iter]
    simp [u61_0]
    refine ⟨d, ⟨S, L, c⟩, _, by simpa using ho, ?_, rfl⟩
    simp [Tm.keep]
  | cons a r ih =>
    intro i iz rows R d S L c hz hd hi hrl hR ho
    subst hz hR
    obtain ⟨hlt, hli, hd'⟩ := drop_cons hd
    have hmem : a ∈ l := by rw [← hli]; exact List.getElem_mem hlt
    have hca := hc a hmem
    have hm := pMine a (hb a hmem)
    simp [encV] at hm
    have o1 := encV_one rows
    have r1 : roomOK 96 (rows.length + 1) := roomOK_small (by omega) (by omega)
    have hi1 : ((i : Int) + 1) = ((i + 1 : Nat) : Int) := by omega
    have hrl' : (rows ++ [a]).length ≤ i + 1 := by simp; omega
    have hrl2 : rows.length ≤ i + 1 := by omega
    have hw : wrapF .i64 ((i : Int) + 1) = (i : Int) + 1 := wrap_id _ (by omega) (by omega)
    rw [x_iter]
    cases hk : p a with
    | false =>
      simp only [hk] at hca
      have hf : rows ++ (a :: r).filter p = rows ++ r.filter p := by simp [hk]
      rw [hf]
      obtain ⟨res, hres⟩ : ∃ res, res = rows ++ r.filter p := ⟨_, rfl⟩
      rw [← hres]
      simp [u61_0, hlt, encV_len, encV_take, hca, hli, hk, hw, setC]
      rw [hres]
      exact ih (i + 1) _ rows _ _ _ _ _ hi1 hd' hlt hrl2 rfl ho
    | true =>
      simp only [hk] at hca
      have hf : rows ++ (a :: r).filter p = (rows ++ [a]) ++ r.filter p := by simp [hk]
      rw [hf]
      obtain ⟨res, hres⟩ : ∃ res, res = (rows ++ [a]) ++ r.filter p := ⟨_, rfl⟩
      rw [← hres]
      rcases ho with ⟨h5, rfl⟩ | ⟨t, hne, ht, rfl⟩
      · have h6 : rows = [] := by simpa using h5
        subst h6
        simp [u61_0, hlt, encV_len, encV_take, hca, hli, hk, hw, setC, rMine, callR, hm]
        rw [hres]
        refine ih (i + 1) _ ([] ++ [a]) [[.int .i64 a.item, .int .i64 a.a, .int .i64 a.b, .int .i64 a.c, .bool a.dead, .list (a.ats.map encA), .str a.tag, .str a.body]] _ _ _ _ hi1 hd' hlt hrl' ?_ ?_
        · rfl
        · exact .inr ⟨_, by simp, by simp, rfl⟩
      · simp [u61_0, hlt, encV_len, encV_take, hca, hli, hk, hw, setC, rMine, callR, hm, ht, o1, r1]
        rw [hres]
        refine ih (i + 1) _ (rows ++ [a]) (rows.map encV ++ [[.int .i64 a.item, .int .i64 a.a, .int .i64 a.b, .int .i64 a.c, .bool a.dead, .list (a.ats.map encA), .str a.tag, .str a.body]]) _ _ _ _ hi1 hd' hlt hrl' ?_ ?_
        · simp [encV]
        · exact .inr ⟨_, by simp, by simp, rfl⟩
theorem oSome (p : Ver → Bool) (g : Nat) (cs : List F) (l : List Ver) (hc : ∀ x ∈ l, ∀ st, callI Try.prog prims dx tbl g (.fz (.agg [.int .i64 x.item, .int .i64 x.a, .int .i64 x.b, .int .i64 x.c, .bool x.dead, .list (x.ats.map encA), .str x.tag, .str x.body]) :: cs.map .fz) st = some (.fz (.bool (p x)), st, [])) (hl : l.length < 100000) (hb : ∀ v ∈ l, v.ats.length < 100000) :
    ownI Try.prog prims dx tbl 61 [.fz (.list (l.map encV)), .fz (.fn g cs)] = some (someO (l.filter p)) := by
  rw [ownI_of (rfl : tbl 61 = some c61)]
  obtain ⟨d, st', T', ho, hk, hT⟩ := loopSome p g cs l hc hl hb l 0 0 [] [] .nils [] [] 0 rfl rfl (Nat.zero_le _) (Nat.le_refl _) rfl (.inl ⟨rfl, rfl⟩)
  rw [List.nil_append] at ho
  try simp only [List.map_nil] at hT
  generalize hres : l.filter p = res at ho ⊢
  rcases ho with ⟨h5, rfl⟩ | ⟨t, hne, ht, rfl⟩
  · have h6 : res = [] := by simpa using h5
    simp [c61, x_own, ownK, ownK_ite, takeO, takeL, giveO, giveL, O.cnt, O.cntL, newL, aliveMv, St.back, callOwn, orC, hT, hk, someO, h6]
  · cases res with
    | nil => exact absurd rfl hne
    | cons y ys => simp [c61, x_own, ownK, ownK_ite, takeO, takeL, giveO, giveL, O.cnt, O.cntL, newL, aliveMv, St.back, callOwn, orC, hT, hk, someO, ht]
end Go.Proofs.Ytmbboljcgpccfaa.Pl
