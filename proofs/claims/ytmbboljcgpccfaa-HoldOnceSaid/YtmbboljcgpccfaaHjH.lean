/-
  What is proved here: versions that are held: with another one, in the document's own words; all of them compared.
  Conditions: none.
-/
import Derived.Test.YtmbboljcgpccfaaHpH
set_option linter.unusedVariables false
set_option linter.unusedSimpArgs false
set_option maxRecDepth 100000
set_option maxHeartbeats 8000000
namespace Go.Proofs.Ytmbboljcgpccfaa.Pl
open Go Go.Proofs Go.Proofs.Ev Go.Proofs.Dv Cd
attribute [local simp] x_pure x_skip x_reg x_drw x_seq x_cond x_block x_loop' Tm.keep_nil x_exit x_ret k_seq k_seq_ret k_seq_exit k_seq_none k_seq_ite k_cond k_block k_block_ret k_block_exit k_block_none k_block_ite k_iter k_iter_ret k_iter_exit k_iter_none k_iter_ite k_reg k_reg_none k_reg_ite x_is_nil x_is x_is_g k_ins k_ins_none k_ins_ite k_grd x_ord_nil x_ord x_ord_g k_ord k_ord_none k_ord_ite k_ogrd k_out_ret k_out k_out_none k_out_ite k_pure k_pure_none k_pure_ite startD dI dA deo Tm.at Tm.dst Tm.set Tm.put Tm.keep dW dRes oneOfD mkTup mkAgg mkFn allF frL fr vD vD1 vF vFL dBin dEq dNil isNilD dScal F.cv eBin sameKind eInt eStr cellsD oneD F.one dFill putAtD chunk dbnd dSrc St.own St.drop St.still St.fresh chkQ stillQ freshQ lOf rdOf rdOK undefD F.full F.fullL List.mapIdx_cons strip allOne_nil allOne_cons allOne_append allLen_nil allLen_cons allLen_append roomOK_small filterT y_mv y_pick y_new y_box y_build y_bslice y_ld1 y_ldn y_nilchk y_bin y_not y_conv y_bytes y_string y_ifc y_fn y_cut y_cuts y_fa y_fld y_ia y_idx y_idxs y_ext y_len y_lenstr y_app y_grow y_mks y_slow y_call y_callv y_inv y_extc x_it_st x_it_clr x_it_cpy k_addT k_addT_none k_addT_ite k_orU k_orU_none dU D.turn turnL Tm.turn turnS St.turn turnRows_length

def PostPV (h : Ver) (w : List D) (res : List Ver) (r : Option DSt) : Prop := ∃ (rows : List Ver) (put : Bool) (d : D) (L : List Nat) (c : Nat) (T' : Tm), OwnS 8 (rows.map encV) L d ∧ rows.length ≤ 200000 ∧ rows ++ (if put = true then [] else [h]) = res ∧ T'.keep [3, 7, 8] = [(3, .ptr 0 0), (7, d), (8, .fz (.bool put))] ∧
  r = some (.exit 0, T', ⟨[(true, [.fz (.int .i64 h.item), .fz (.int .i64 h.a), .fz (.int .i64 h.b), .fz (.int .i64 h.c), .fz (.bool h.dead), .fz (.list (h.ats.map encA)), .fz (.str h.tag), .fz (.str h.body)]), (true, w)], L, c⟩)
theorem loopPV (l : List Ver) (hl : l.length < 100000) (h : Ver) (w : List D) : ∀ (r : List Ver) (i : Nat) (iz : Int) (rows : List Ver) (R : List (List F)) (put : Bool) (d : D) (L : List Nat) (c : Nat), iz = i → l.drop i = r → i ≤ l.length → R = rows.map encV → OwnS 8 R L d → rows.length ≤ 2 * i →
    PostPV h w (rows ++ goV h r put) (iterI (dCw Try.prog (callI Try.prog prims dx tbl) l24_0) [0, 3, 7, 8, 9] [(0, .fz (.list (l.map encV))), (3, .ptr 0 0), (7, d), (8, .fz (.bool put)), (9, .fz (.int .i64 iz))] ⟨[(true, [.fz (.int .i64 h.item), .fz (.int .i64 h.a), .fz (.int .i64 h.b), .fz (.int .i64 h.c), .fz (.bool h.dead), .fz (.list (h.ats.map encA)), .fz (.str h.tag), .fz (.str h.body)]), (true, w)], L, c⟩) := by
  intro r
  induction r with
  | nil =>
    intro i iz rows R put d L c hz hd hi hR ho hrl
    have hi' := drop_nil hd hi
    subst hi' hz hR
    refine ⟨rows, put, d, L, c, _, ho, by omega, rfl, ?_, (by
      rw [x_iter]
      simp [u24_0]; rfl)⟩
    simp [Tm.keep]
  | cons a r ih =>
    intro i iz rows R put d L c hz hd hi hR ho hrl
    subst hz hR
    obtain ⟨hlt, hli, hd'⟩ := drop_cons hd
    have o1 := encV_one rows
    have r1 : roomOK 96 (rows.length + 1) := roomOK_small (by omega) (by omega)
    have r2 : roomOK 96 (rows.length + 1 + 1) := roomOK_small (by omega) (by omega)
    have n1 : (rows ++ [h]).length ≤ 2 * (i + 1) := by simp; omega
    have n2 : (rows ++ [a]).length ≤ 2 * (i + 1) := by simp; omega
    have n3 : ((rows ++ [h]) ++ [a]).length ≤ 2 * (i + 1) := by simp; omega
    have n4 : rows.length ≤ 2 * (i + 1) := by omega
    have hi1 : ((i : Int) + 1) = ((i + 1 : Nat) : Int) := by omega
    have hw : wrapF .i64 ((i : Int) + 1) = (i : Int) + 1 := wrap_id _ (by omega) (by omega)
    rcases Int.lt_trichotomy a.item h.item with hc | hc | hc
    · have c1 : ¬ h.item ≤ a.item := by omega
      have c2 : ¬ a.item = h.item := by omega
      cases put
      · obtain ⟨res, hres⟩ : ∃ res, (rows ++ [a]) ++ goV h r false = res := ⟨_, rfl⟩
        rw [x_iter, show rows ++ goV h (a :: r) false = res by rw [← hres]; simp [goV, c1, c2]]
        rcases ho with ⟨h5, rfl⟩ | ⟨t, hne, ht, rfl⟩
        · have h6 : rows = [] := by simpa using h5
          subst h6
          simp [u24_0, hlt, hli, encV, c1, c2, hw]
          rw [← hres]
          refine ih (i + 1) _ ([] ++ [a]) _ false _ _ _ hi1 hd' hlt ?_ (.inr ⟨_, by simp, ?_, rfl⟩) n2
          · simp [encV]
          · simp
        · simp [u24_0, hlt, hli, encV, c1, c2, hw, ht, o1, r1, r2]
          rw [← hres]
          refine ih (i + 1) _ (rows ++ [a]) _ false _ _ _ hi1 hd' hlt ?_ (.inr ⟨_, by simp, ?_, rfl⟩) n2
          · simp [encV]
          · simp
      · obtain ⟨res, hres⟩ : ∃ res, (rows ++ [a]) ++ goV h r true = res := ⟨_, rfl⟩
        rw [x_iter, show rows ++ goV h (a :: r) true = res by rw [← hres]; simp [goV, c1, c2]]
        rcases ho with ⟨h5, rfl⟩ | ⟨t, hne, ht, rfl⟩
        · have h6 : rows = [] := by simpa using h5
          subst h6
          simp [u24_0, hlt, hli, encV, c1, c2, hw]
          rw [← hres]
          refine ih (i + 1) _ ([] ++ [a]) _ true _ _ _ hi1 hd' hlt ?_ (.inr ⟨_, by simp, ?_, rfl⟩) n2
          · simp [encV]
          · simp
        · simp [u24_0, hlt, hli, encV, c1, c2, hw, ht, o1, r1, r2]
          rw [← hres]
          refine ih (i + 1) _ (rows ++ [a]) _ true _ _ _ hi1 hd' hlt ?_ (.inr ⟨_, by simp, ?_, rfl⟩) n2
          · simp [encV]
          · simp
    · have c1 : h.item ≤ a.item := by omega
      have c2 : a.item = h.item := hc
      cases put
      · obtain ⟨res, hres⟩ : ∃ res, (rows ++ [h]) ++ goV h r true = res := ⟨_, rfl⟩
        rw [x_iter, show rows ++ goV h (a :: r) false = res by rw [← hres]; simp [goV, c1, c2]]
        rcases ho with ⟨h5, rfl⟩ | ⟨t, hne, ht, rfl⟩
        · have h6 : rows = [] := by simpa using h5
          subst h6
          simp [u24_0, hlt, hli, encV, c1, c2, hw]
          rw [← hres]
          refine ih (i + 1) _ ([] ++ [h]) _ true _ _ _ hi1 hd' hlt ?_ (.inr ⟨_, by simp, ?_, rfl⟩) n1
          · simp [encV]
          · simp
        · simp [u24_0, hlt, hli, encV, c1, c2, hw, ht, o1, r1, r2]
          rw [← hres]
          refine ih (i + 1) _ (rows ++ [h]) _ true _ _ _ hi1 hd' hlt ?_ (.inr ⟨_, by simp, ?_, rfl⟩) n1
          · simp [encV]
          · simp
      · obtain ⟨res, hres⟩ : ∃ res, (rows) ++ goV h r true = res := ⟨_, rfl⟩
        rw [x_iter, show rows ++ goV h (a :: r) true = res by rw [← hres]; simp [goV, c1, c2]]
        rcases ho with ⟨h5, rfl⟩ | ⟨t, hne, ht, rfl⟩
        · have h6 : rows = [] := by simpa using h5
          subst h6
          simp [u24_0, hlt, hli, encV, c1, c2, hw]
          rw [← hres]
          refine ih (i + 1) _ ([]) _ true _ _ _ hi1 hd' hlt ?_ (.inl ⟨rfl, rfl⟩) n4
          · simp [encV]

        · simp [u24_0, hlt, hli, encV, c1, c2, hw, ht, o1, r1, r2]
          rw [← hres]
          refine ih (i + 1) _ (rows) _ true _ _ _ hi1 hd' hlt ?_ (.inr ⟨_, hne, ?_, rfl⟩) n4
          · simp [encV]
          · simp [ht]
    · have c1 : h.item ≤ a.item := by omega
      have c2 : ¬ a.item = h.item := by omega
      cases put
      · obtain ⟨res, hres⟩ : ∃ res, ((rows ++ [h]) ++ [a]) ++ goV h r true = res := ⟨_, rfl⟩
        rw [x_iter, show rows ++ goV h (a :: r) false = res by rw [← hres]; simp [goV, c1, c2]]
        rcases ho with ⟨h5, rfl⟩ | ⟨t, hne, ht, rfl⟩
        · have h6 : rows = [] := by simpa using h5
          subst h6
          simp [u24_0, hlt, hli, encV, c1, c2, hw]
          rw [← hres]
          refine ih (i + 1) _ (([] ++ [h]) ++ [a]) _ true _ _ _ hi1 hd' hlt ?_ (.inr ⟨_, by simp, ?_, rfl⟩) n3
          · simp [encV]
          · simp
        · simp [u24_0, hlt, hli, encV, c1, c2, hw, ht, o1, r1, r2]
          rw [← hres]
          refine ih (i + 1) _ ((rows ++ [h]) ++ [a]) _ true _ _ _ hi1 hd' hlt ?_ (.inr ⟨_, by simp, ?_, rfl⟩) n3
          · simp [encV]
          · simp
      · obtain ⟨res, hres⟩ : ∃ res, (rows ++ [a]) ++ goV h r true = res := ⟨_, rfl⟩
        rw [x_iter, show rows ++ goV h (a :: r) true = res by rw [← hres]; simp [goV, c1, c2]]
        rcases ho with ⟨h5, rfl⟩ | ⟨t, hne, ht, rfl⟩
        · have h6 : rows = [] := by simpa using h5
          subst h6
          simp [u24_0, hlt, hli, encV, c1, c2, hw]
          rw [← hres]
          refine ih (i + 1) _ ([] ++ [a]) _ true _ _ _ hi1 hd' hlt ?_ (.inr ⟨_, by simp, ?_, rfl⟩) n2
          · simp [encV]
          · simp
        · simp [u24_0, hlt, hli, encV, c1, c2, hw, ht, o1, r1, r2]
          rw [← hres]
          refine ih (i + 1) _ (rows ++ [a]) _ true _ _ _ hi1 hd' hlt ?_ (.inr ⟨_, by simp, ?_, rfl⟩) n2
          · simp [encV]
          · simp


theorem pRPutV (l : List Ver) (hl : l.length < 90000) (hs : Rise Ver.item l) (h : Ver) : pureI Try.prog prims dx tbl 24 [.list (l.map encV), .agg (encV h)] = some (.list ((putV l h).map encV)) := by
  rw [pureI_of (rfl : tbl 24 = some c24)]
  have hf := pRFind l (by omega) h.item
  have hfl := find_look h.item l
  have hput := put_look hs h
  have o1 := encV_one l
  have o3 : allLen 8 (l.map encV) = true := allLen_map 8 encV (fun a => rfl) _
  have r1 : roomOK 96 l.length := roomOK_small (by omega) (by omega)
  cases hlk : lookV l h.item with
  | some x =>
    rw [hlk] at hfl hput
    simp only [hfl] at hf
    have hc := pRCmp x.a x.b x.c h.a h.b h.c
    have e : cmpS (x.a, x.b, x.c) (h.a, h.b, h.c) = cmpS x.s h.s := rfl
    rw [e] at hc
    by_cases hgt : 0 < cmpS x.s h.s
    · have hp : putV l h = l := by rw [hput, if_pos ⟨x, rfl, hgt⟩]
      rw [hp]
      simp [encV] at hf
      simp [c24, encV, o1, o3, r1, rRFind, callR, hf, rRCmp, hc, hgt]
    · have hp : putV l h = insV l h := by
        rw [hput, if_neg]
        rintro ⟨y, hy, hc'⟩
        cases hy
        exact hgt hc'
      rw [hp]
      obtain ⟨rows, put, d, L, c, T', ho, hr, he, hk, hT⟩ := loopPV l (by omega) h [.fz (.int .i64 x.item), .fz (.int .i64 x.a), .fz (.int .i64 x.b), .fz (.int .i64 x.c), .fz (.bool x.dead), .fz (.list (x.ats.map encA)), .fz (.str x.tag), .fz (.str x.body)] l 0 0 [] [] false .nils [] 0 rfl rfl (Nat.zero_le _) rfl (.inl ⟨rfl, rfl⟩) (by simp)
      rw [List.nil_append, goV_ins h hs] at he
      have o2 := encV_one rows
      have r2 : roomOK 96 (rows.length + 1) := roomOK_small (by omega) (by omega)
      rw [← he]
      simp [encV] at hf
      cases put
      · rcases ho with ⟨h5, rfl⟩ | ⟨t, hne, ht, rfl⟩
        · have h6 : rows = [] := by simpa using h5
          subst h6
          simp [c24, encV, rRFind, callR, hf, rRCmp, hc, hgt, hT, hk]
        · simp [c24, encV, rRFind, callR, hf, rRCmp, hc, hgt, hT, hk, ht, o2, r2]
      · rcases ho with ⟨h5, rfl⟩ | ⟨t, hne, ht, rfl⟩
        · have h6 : rows = [] := by simpa using h5
          subst h6
          simp [c24, encV, rRFind, callR, hf, rRCmp, hc, hgt, hT, hk]
        · simp [c24, encV, rRFind, callR, hf, rRCmp, hc, hgt, hT, hk, ht]
  | none =>
    rw [hlk] at hfl hput
    simp only [hfl] at hf
    have hp : putV l h = insV l h := by
      rw [hput, if_neg]
      rintro ⟨y, hy, hc'⟩
      cases hy
    rw [hp]
    obtain ⟨rows, put, d, L, c, T', ho, hr, he, hk, hT⟩ := loopPV l (by omega) h [.fz (.int .i64 0), .fz (.int .i64 0), .fz (.int .i64 0), .fz (.int .i64 0), .fz (.bool false), .fz (.list []), .fz (.str []), .fz (.str [])] l 0 0 [] [] false .nils [] 0 rfl rfl (Nat.zero_le _) rfl (.inl ⟨rfl, rfl⟩) (by simp)
    rw [List.nil_append, goV_ins h hs] at he
    have o2 := encV_one rows
    have r2 : roomOK 96 (rows.length + 1) := roomOK_small (by omega) (by omega)
    rw [← he]
    simp [encV, zeroVer] at hf
    cases put
    · rcases ho with ⟨h5, rfl⟩ | ⟨t, hne, ht, rfl⟩
      · have h6 : rows = [] := by simpa using h5
        subst h6
        simp [c24, encV, rRFind, callR, hf, hT, hk]
      · simp [c24, encV, rRFind, callR, hf, hT, hk, ht, o2, r2]
    · rcases ho with ⟨h5, rfl⟩ | ⟨t, hne, ht, rfl⟩
      · have h6 : rows = [] := by simpa using h5
        subst h6
        simp [c24, encV, rRFind, callR, hf, hT, hk]
      · simp [c24, encV, rRFind, callR, hf, hT, hk, ht]
theorem rRPutV (ds : List D) (st : Dv.St) : callI Try.prog prims dx tbl 24 ds st = callR Try.prog prims dx tbl 24 ds st (frL (fr st 6) ds) := callRw rfl rfl (rfl : tbl 24 = some c24) rfl ds st

theorem sameF_self (v : Ver) (hl : v.ats.length < 100000) : pureI Try.prog prims dx tbl 21 [.agg (encV v), .agg (encV v)] = some (.bool true) := by
  rw [pSameF v v hl hl]
  simp
def PostSA (r : Option DSt) : Prop := ∃ T' st', r = some (.exit 0, T', st')
theorem loopSA (l : List Ver) (hl : l.length < 100000) (hb : ∀ v ∈ l, v.ats.length < 100000) : ∀ (r : List Ver) (i : Nat) (iz : Int), iz = i → l.drop i = r → i ≤ l.length →
    PostSA (iterI (dCw Try.prog (callI Try.prog prims dx tbl) l22_0) [0, 1, 5] [(0, .fz (.list (l.map encV))), (1, .fz (.list (l.map encV))), (5, .fz (.int .i64 iz))] ⟨[], [], 0⟩) := by
  intro r
  induction r with
  | nil =>
    intro i iz hz hd hi
    have hi' := drop_nil hd hi
    subst hi' hz
    rw [x_iter]
    simp [u22_0]
    exact ⟨_, _, rfl⟩
  | cons a r ih =>
    intro i iz hz hd hi
    subst hz
    obtain ⟨hlt, hli, hd'⟩ := drop_cons hd
    have hm : a ∈ l := by rw [← hli]; exact List.getElem_mem hlt
    have hs := sameF_self a (hb a hm)
    simp [encV] at hs
    have hi1 : ((i : Int) + 1) = ((i + 1 : Nat) : Int) := by omega
    have hw : wrapF .i64 ((i : Int) + 1) = (i : Int) + 1 := wrap_id _ (by omega) (by omega)
    rw [x_iter]
    simp [u22_0, hlt, encV_len, encV_take, hli, rSameF, callR, hs, hw]
    exact ih (i + 1) _ hi1 hd' hlt
theorem pSameAll (l : List Ver) (hl : l.length < 100000) (hb : ∀ v ∈ l, v.ats.length < 100000) : pureI Try.prog prims dx tbl 22 [.list (l.map encV), .list (l.map encV)] = some (.bool true) := by
  rw [pureI_of (rfl : tbl 22 = some c22)]
  obtain ⟨T', st', h⟩ := loopSA l hl hb l 0 0 rfl rfl (Nat.zero_le _)
  simp [c22, h]
theorem rSameAll (ds : List D) (st : Dv.St) : callI Try.prog prims dx tbl 22 ds st = callR Try.prog prims dx tbl 22 ds st (frL (fr st 6) ds) := callRw rfl rfl (rfl : tbl 22 = some c22) rfl ds st
end Go.Proofs.Ytmbboljcgpccfaa.Pl
