/-
  What is proved here: heads: what is of both, what is within, whether they may be; heads by numbers.
  Conditions: none.
-/
import Derived.Test.YtmbboljcgpccfaaSpH
import Derived.Test.YtmbboljcgpccfaaPkH
set_option linter.unusedVariables false
set_option linter.unusedSimpArgs false
set_option maxRecDepth 100000
set_option maxHeartbeats 4000000
namespace Go.Proofs.Ytmbboljcgpccfaa.Pl
open Go Go.Proofs Go.Proofs.Ev Go.Proofs.Dv Cd
attribute [local simp] x_pure x_skip x_reg x_drw x_seq x_cond x_block x_loop' Tm.keep_nil x_exit x_ret k_seq k_seq_ret k_seq_exit k_seq_none k_seq_ite k_cond k_block k_block_ret k_block_exit k_block_none k_block_ite k_iter k_iter_ret k_iter_exit k_iter_none k_iter_ite k_reg k_reg_none k_reg_ite x_is_nil x_is x_is_g k_ins k_ins_none k_ins_ite k_grd x_ord_nil x_ord x_ord_g k_ord k_ord_none k_ord_ite k_ogrd k_out_ret k_out k_out_none k_out_ite k_pure k_pure_none k_pure_ite startD dI dA deo Tm.at Tm.dst Tm.set Tm.put Tm.keep dW dRes oneOfD mkTup mkAgg mkFn allF frL fr vD vD1 vF vFL dBin dEq dNil isNilD dScal F.cv eBin sameKind eInt eStr cellsD oneD F.one dFill putAtD chunk dbnd dSrc St.own St.drop St.still St.fresh chkQ stillQ freshQ lOf rdOf rdOK undefD F.full F.fullL List.mapIdx_cons strip allOne_nil allOne_cons allOne_append allLen_nil allLen_cons allLen_append roomOK_small filterT y_mv y_pick y_new y_box y_build y_bslice y_ld1 y_ldn y_nilchk y_bin y_not y_conv y_bytes y_string y_ifc y_fn y_cut y_cuts y_fa y_fld y_ia y_idx y_idxs y_ext y_len y_lenstr y_app y_grow y_mks y_slow y_call y_callv y_inv y_extc x_it_st x_it_clr x_it_cpy k_addT k_addT_none k_addT_ite k_orU k_orU_none dU D.turn turnL Tm.turn turnS St.turn turnRows_length

def idxH (p : Hd → Bool) : List Hd → Nat → Int
  | [], _ => -1
  | a :: r, n => if p a = true then n else idxH p r (n + 1)
theorem idxH_any (p : Hd → Bool) : ∀ (l : List Hd) (n : Nat), (0 ≤ idxH p l n ↔ l.any p = true)
  | [], n => by simp [idxH]
  | a :: r, n => by
    simp only [idxH, List.any_cons]
    cases h : p a
    · simpa using idxH_any p r (n + 1)
    · simp
theorem rIxH (ds : List D) (st : Dv.St) : callI Try.prog prims dx tbl 101 ds st = callR Try.prog prims dx tbl 101 ds st (frL (fr st 6) ds) := callRw rfl rfl (rfl : tbl 101 = some c101) rfl ds st
def PostIH (n : Int) (r : Option DSt) : Prop := ∃ T', r = some (if n < 0 then .exit 0 else .ret, T', ⟨[], [], 0⟩) ∧ (0 ≤ n → T'.at 4 = .fz (.int .i64 n))
theorem loopIxH (p : Hd → Bool) (g : Nat) (cs : List F) (l : List Hd) (hc : ∀ x ∈ l, ∀ st, callI Try.prog prims dx tbl g (.fz (.agg [.int .i64 x.item, .int .i64 x.a, .int .i64 x.b, .int .i64 x.c]) :: cs.map .fz) st = some (.fz (.bool (p x)), st, [])) (hl : l.length < 1000000) : ∀ (r : List Hd) (i : Nat) (iz : Int), iz = i → l.drop i = r → i ≤ l.length →
    PostIH (idxH p r i) (iterI (dCw Try.prog (callI Try.prog prims dx tbl) l101_0) [0, 1, 7, 8] [(0, .fz (.list (l.map encH))), (1, .fz (.fn g cs)), (7, .fz (.int .i64 l.length)), (8, .fz (.int .i64 iz))] ⟨[], [], 0⟩) := by
  intro r
  induction r with
  | nil =>
    intro i iz hz hd hi
    have hi' := drop_nil hd hi
    subst hi' hz
    rw [x_iter]
    simp [u101_0, idxH]
    exact ⟨_, rfl, fun h => by omega⟩
  | cons a r ih =>
    intro i iz hz hd hi
    subst hz
    obtain ⟨hlt, hli, hd'⟩ := drop_cons hd
    have hw : wrapF .i64 ((i : Int) + 1) = (i : Int) + 1 := wrap_id _ (by omega) (by omega)
    have hca := hc a (by rw [← hli]; exact List.getElem_mem hlt)
    rw [x_iter]
    cases hk : p a with
    | true =>
      simp only [hk] at hca
      simp [u101_0, hlt, encH_len, encH_take, hca, hli, hk, idxH]
      exact ⟨_, by rw [if_neg (by omega)], fun _ => rfl⟩
    | false =>
      simp only [hk] at hca
      simp [u101_0, hlt, encH_len, encH_take, hca, hli, hk, idxH, hw]
      exact ih (i + 1) _ (by omega) hd' hlt
theorem pIxH (p : Hd → Bool) (g : Nat) (cs : List F) (l : List Hd) (hc : ∀ x ∈ l, ∀ st, callI Try.prog prims dx tbl g (.fz (.agg [.int .i64 x.item, .int .i64 x.a, .int .i64 x.b, .int .i64 x.c]) :: cs.map .fz) st = some (.fz (.bool (p x)), st, [])) (hl : l.length < 1000000) : pureI Try.prog prims dx tbl 101 [.list (l.map encH), .fn g cs] = some (.int .i64 (idxH p l 0)) := by
  rw [pureI_of (rfl : tbl 101 = some c101)]
  obtain ⟨T', h1, h2⟩ := loopIxH p g cs l hc hl l 0 0 rfl rfl (Nat.zero_le _)
  by_cases h : idxH p l 0 < 0
  · have h3 : idxH p l 0 = -1 := by
      have : ∀ (l : List Hd) (n : Nat), idxH p l n = -1 ∨ 0 ≤ idxH p l n := by
        intro l
        induction l with
        | nil => intro n; exact .inl rfl
        | cons a r ih => intro n; simp only [idxH]; split; exact .inr (by omega); exact ih _
      have := this l 0
      omega
    rw [if_pos h] at h1
    simp [c101, h1, h3]
  · rw [if_neg h] at h1
    simp [c101, h1, h2 (by omega)]
theorem rCoH (ds : List D) (st : Dv.St) : callI Try.prog prims dx tbl 73 ds st = callR Try.prog prims dx tbl 73 ds st (frL (fr st 6) ds) := callRw rfl rfl (rfl : tbl 73 = some c73) rfl ds st
theorem pCoH (p : Hd → Bool) (g : Nat) (cs : List F) (l : List Hd) (hc : ∀ x ∈ l, ∀ st, callI Try.prog prims dx tbl g (.fz (.agg [.int .i64 x.item, .int .i64 x.a, .int .i64 x.b, .int .i64 x.c]) :: cs.map .fz) st = some (.fz (.bool (p x)), st, [])) (hl : l.length < 1000000) : pureI Try.prog prims dx tbl 73 [.list (l.map encH), .fn g cs] = some (.bool (l.any p)) := by
  rw [pureI_of (rfl : tbl 73 = some c73)]
  have h := pIxH p g cs l hc hl
  have h2 := idxH_any p l 0
  cases hb : l.any p with
  | true =>
    rw [hb] at h2
    have := h2.2 rfl
    simp [c73, rIxH, callR, h, this]
  | false =>
    rw [hb] at h2
    have : ¬ 0 ≤ idxH p l 0 := fun e => by have := h2.1 e; cases this
    simp [c73, rIxH, callR, h, this]

/-! ### seen.Within -/
theorem rWi1 (ds : List D) (st : Dv.St) : callI Try.prog prims dx tbl 74 ds st = callR Try.prog prims dx tbl 74 ds st (frL (fr st 6) ds) := callRw rfl rfl (rfl : tbl 74 = some c74) rfl ds st
theorem pWi1 (m : List Hd) (hm : m.length < 1000000) (hs : Srt m) (h : Hd) : pureI Try.prog prims dx tbl 74 [.agg [.int .i64 h.item, .int .i64 h.a, .int .i64 h.b, .int .i64 h.c], .fp [.list (m.map encH)]] = some (.bool (decide (cmpS (atS m h.item) h.s < 0))) := by
  rw [pureI_of (rfl : tbl 74 = some c74)]
  have hat := pSAt m hm hs h.item
  have hc := pCmp (atS m h.item).1 (atS m h.item).2.1 (atS m h.item).2.2 h.a h.b h.c
  rw [encS] at hat
  have e : cmpS ((atS m h.item).1, (atS m h.item).2.1, (atS m h.item).2.2) (h.a, h.b, h.c) = cmpS (atS m h.item) h.s := rfl
  rw [e] at hc
  simp [c74, rSAt, callR, hat, rCmp, hc]
theorem any_not (l : List Hd) (p : Hd → Bool) : (!l.any p) = l.all fun h => !p h := by
  induction l with
  | nil => rfl
  | cons a r ih =>
    rw [List.any_cons, List.all_cons, ← ih]
    cases p a <;> rfl
theorem pWithin (l m : List Hd) (hl : l.length < 1000000) (hm : m.length < 1000000) (hs : Srt m) : pureI Try.prog prims dx tbl 44 [.list (l.map encH), .list (m.map encH)] = some (.bool (withinH l m)) := by
  rw [pureI_of (rfl : tbl 44 = some c44)]
  have h := pCoH (fun h => decide (cmpS (atS m h.item) h.s < 0)) 74 [.fp [.list (m.map encH)]] l (fun x _ st => by
    simp [rWi1, frL, fr, callR, pWi1 m hm hs x, F.full]) hl
  have e : withinH l m = !l.any fun h => decide (cmpS (atS m h.item) h.s < 0) := by rw [any_not]; rfl
  rw [e]
  simp [c44, rCoH, callR, h]
theorem rWithin (ds : List D) (st : Dv.St) : callI Try.prog prims dx tbl 44 ds st = callR Try.prog prims dx tbl 44 ds st (frL (fr st 6) ds) := callRw rfl rfl (rfl : tbl 44 = some c44) rfl ds st
theorem rSPut (ds : List D) (st : Dv.St) : callI Try.prog prims dx tbl 45 ds st = callR Try.prog prims dx tbl 45 ds st (frL (fr st 6) ds) := callRw rfl rfl (rfl : tbl 45 = some c45) rfl ds st

/-! ### seen.Most -/
def SlD (rows : List (List F)) (L : List Nat) (d : D) : Prop := d = .fz (.list rows) ∨ ∃ t, t ∈ L ∧ d = .ow t 0 4 rows
theorem putH_len {l : List Hd} {h : Hd} : (putH l h).length ≤ l.length + 1 := by
  have ins : ∀ l : List Hd, (insH l h).length ≤ l.length + 1 := by
    intro l
    induction l with
    | nil => simp [insH]
    | cons x r ih =>
      simp only [insH]
      split
      · simpa using ih
      · split <;> simp
  unfold putH
  split
  · omega
  · exact ins l
def PostM (l : List Hd) (r : Option DSt) : Prop := ∃ (d : D) (st' : Dv.St) (T' : Tm), SlD (l.map encH) st'.L d ∧ T'.keep [0] = [(0, d)] ∧ r = some (.exit 0, T', st')
theorem loopM (m : List Hd) (hm : m.length < 10000) : ∀ (r : List Hd) (i : Nat) (iz : Int) (l : List Hd) (d : D) (S : List (Bool × List D)) (L : List Nat) (c : Nat), iz = i → m.drop i = r → i ≤ m.length → Srt l → l.length ≤ 10000 + i → SlD (l.map encH) L d →
    PostM (mostH l r) (iterI (dCw Try.prog (callI Try.prog prims dx tbl) l47_0) [0, 9, 10, 11] [(0, d), (9, .fz (.list (m.map encH))), (10, .fz (.int .i64 m.length)), (11, .fz (.int .i64 iz))] ⟨S, L, c⟩) := by
  intro r
  induction r with
  | nil =>
    intro i iz l d S L c hz hd hi hs hll ho
    have hi' := drop_nil hd hi
    subst hi' hz
    rw [x_iter]
    simp [u47_0]
    exact ⟨d, ⟨S, L, c⟩, _, ho, by simp [Tm.keep], rfl⟩
  | cons a r ih =>
    intro i iz l d S L c hz hd hi hs hll ho
    subst hz
    obtain ⟨hlt, hli, hd'⟩ := drop_cons hd
    have hp := pSPut l (by omega) hs a
    rw [encH] at hp
    have hn := putH_len (l := l) (h := a)
    have hs' : Srt (putH l a) := putH_srt hs
    have hi1 : ((i : Int) + 1) = ((i + 1 : Nat) : Int) := by omega
    have hw : wrapF .i64 ((i : Int) + 1) = (i : Int) + 1 := wrap_id _ (by omega) (by omega)
    rw [x_iter, show mostH l (a :: r) = mostH (putH l a) r from rfl]
    rcases ho with rfl | ⟨t, ht, rfl⟩
    · simp [u47_0, hlt, hli, encH_len, encH_take, setC, rSPut, callR, hp, hw]
      exact ih (i + 1) _ (putH l a) _ _ _ _ hi1 hd' hlt hs' (by omega) (.inl rfl)
    · simp [u47_0, hlt, hli, encH_len, encH_take, setC, rSPut, callR, hp, hw, ht]
      exact ih (i + 1) _ (putH l a) _ _ _ _ hi1 hd' hlt hs' (by omega) (.inl rfl)
theorem pMost (l m : List Hd) (hl : l.length < 10000) (hm : m.length < 10000) (hs : Srt l) : pureI Try.prog prims dx tbl 47 [.list (l.map encH), .list (m.map encH)] = some (.list ((mostH l m).map encH)) := by
  rw [pureI_of (rfl : tbl 47 = some c47)]
  have o1 := encH_ok l
  have r1 : roomOK 32 l.length := roomOK_small (by omega) (by omega)
  obtain ⟨d, st', T', ho, hk, hT⟩ := loopM m hm m 0 0 l (.ow 0 0 4 (l.map encH)) [] [0] 1 rfl rfl (Nat.zero_le _) hs (by omega) (.inr ⟨0, by simp, rfl⟩)
  rcases ho with rfl | ⟨t, ht, rfl⟩
  · simp [c47, rCloneH, dClone, dSrc, orC, o1, r1, hT, hk]
  · simp [c47, rCloneH, dClone, dSrc, orC, o1, r1, hT, hk, ht]
theorem rMost (ds : List D) (st : Dv.St) : callI Try.prog prims dx tbl 47 ds st = callR Try.prog prims dx tbl 47 ds st (frL (fr st 6) ds) := callRw rfl rfl (rfl : tbl 47 = some c47) rfl ds st

/-! ### seen.May -/
def mayHs : Int → List Hd → Bool
  | _, [] => true
  | last, h :: r => if h.item ≤ last ∨ 6 < h.item ∨ mayB h.a h.b h.c = false then false else mayHs h.item r
def badF : F := .ifc 121 (.agg [.ifc 99 (.agg [])])
theorem rSMay' (ds : List D) (st : Dv.St) : callI Try.prog prims dx tbl 98 ds st = callR Try.prog prims dx tbl 98 ds st (frL (fr st 6) ds) := callRw rfl rfl (rfl : tbl 98 = some c98) rfl ds st
def PostY (b : Bool) (r : Option DSt) : Prop := ∃ T' st', r = some (if b = true then .exit 0 else .ret, T', st') ∧ (b = false → T'.at 2 = .fz badF)
theorem loopY (l : List Hd) (hl : l.length < 1000000) : ∀ (r : List Hd) (i : Nat) (iz last : Int) (S : List (Bool × List D)) (L : List Nat) (c : Nat), iz = i → l.drop i = r → i ≤ l.length →
    PostY (mayHs last r) (iterI (dCw Try.prog (callI Try.prog prims dx tbl) l71_0) [3, 6, 7, 8] [(3, .fz (.int .i64 last)), (6, .fz (.list (l.map encH))), (7, .fz (.int .i64 l.length)), (8, .fz (.int .i64 iz))] ⟨S, L, c⟩) := by
  intro r
  induction r with
  | nil =>
    intro i iz last S L c hz hd hi
    have hi' := drop_nil hd hi
    subst hi' hz
    rw [x_iter]
    simp [u71_0, mayHs]
    exact ⟨_, _, rfl, fun h => by cases h⟩
  | cons a r ih =>
    intro i iz last S L c hz hd hi
    subst hz
    obtain ⟨hlt, hli, hd'⟩ := drop_cons hd
    have hm := pSMay a.a a.b a.c
    have hi1 : ((i : Int) + 1) = ((i + 1 : Nat) : Int) := by omega
    have hw : wrapF .i64 ((i : Int) + 1) = (i : Int) + 1 := wrap_id _ (by omega) (by omega)
    rw [x_iter]
    by_cases h1 : a.item ≤ last
    · simp [u71_0, hlt, hli, encH_len, encH_take, setC, h1, mayHs]
      exact ⟨_, _, rfl, fun _ => rfl⟩
    · by_cases h2 : 6 < a.item
      · simp [u71_0, hlt, hli, encH_len, encH_take, setC, h1, h2, mayHs]
        exact ⟨_, _, rfl, fun _ => rfl⟩
      · cases h3 : mayB a.a a.b a.c with
        | false =>
          rw [h3] at hm
          simp [u71_0, hlt, hli, encH_len, encH_take, setC, h1, h2, h3, mayHs, rSMay', callR, hm]
          exact ⟨_, _, rfl, fun _ => rfl⟩
        | true =>
          rw [h3] at hm
          simp [u71_0, hlt, hli, encH_len, encH_take, setC, h1, h2, h3, mayHs, rSMay', callR, hm, hw]
          exact ih (i + 1) _ _ _ _ _ hi1 hd' hlt
theorem pCheckH (l : List Hd) (hl : l.length < 1000000) : pureI Try.prog prims dx tbl 71 [.list (l.map encH)] = some (if mayHs 0 l = true then .nilifc else badF) := by
  rw [pureI_of (rfl : tbl 71 = some c71)]
  obtain ⟨T', st', h1, h2⟩ := loopY l hl l 0 0 0 [] [] 0 rfl rfl (Nat.zero_le _)
  cases h : mayHs 0 l with
  | true =>
    simp [h] at h1
    simp [c71, h1]
  | false =>
    simp [h] at h1 h2
    simp [c71, h1, h2]
theorem rCheckH (ds : List D) (st : Dv.St) : callI Try.prog prims dx tbl 71 ds st = callR Try.prog prims dx tbl 71 ds st (frL (fr st 6) ds) := callRw rfl rfl (rfl : tbl 71 = some c71) rfl ds st
theorem pIsH (b : Bool) : pureI Try.prog prims dx tbl 70 [if b = true then .nilifc else badF, .ifc 99 (.agg [])] = some (.bool (!b)) := by
  refine pureI_spot 60 ?_
  cases b <;> kernel_rfl
theorem rIsH (ds : List D) (st : Dv.St) : callI Try.prog prims dx tbl 70 ds st = callR Try.prog prims dx tbl 70 ds st (frL (fr st 6) ds) := callRw rfl rfl (rfl : tbl 70 = some c70) rfl ds st
theorem pMayH (l : List Hd) (hl : l.length < 1000000) : pureI Try.prog prims dx tbl 41 [.list (l.map encH)] = some (.bool (mayHs 0 l)) := by
  rw [pureI_of (rfl : tbl 41 = some c41)]
  have h1 := pCheckH l hl
  have h2 := pIsH (mayHs 0 l)
  cases h : mayHs 0 l with
  | true =>
    simp [h] at h1 h2
    simp [c41, rCheckH, callR, h1, rIsH, h2]
  | false =>
    simp [h, badF] at h1 h2
    simp [c41, rCheckH, callR, h1, rIsH, h2]
theorem rMayH (ds : List D) (st : Dv.St) : callI Try.prog prims dx tbl 41 ds st = callR Try.prog prims dx tbl 41 ds st (frL (fr st 6) ds) := callRw rfl rfl (rfl : tbl 41 = some c41) rfl ds st
end Go.Proofs.Ytmbboljcgpccfaa.Pl
