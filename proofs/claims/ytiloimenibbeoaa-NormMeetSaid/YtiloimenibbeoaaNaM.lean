/-
  What is proved here: sides, boxes: what they let through.
  Conditions: none.
-/
import Derived.Test.YtiloimenibbeoaaPeM
set_option linter.unusedVariables false
set_option linter.unusedSimpArgs false
set_option maxRecDepth 100000
set_option maxHeartbeats 8000000
namespace Go.Proofs.Ytiloimenibbeoaa.Pl
open Go Go.Proofs Go.Proofs.Ev Go.Proofs.Dv Cd
attribute [local simp] x_pure x_skip x_reg x_drw x_seq x_cond x_block x_frz x_loop' Tm.keep_nil x_exit x_ret k_seq k_seq_ret k_seq_exit k_seq_none k_seq_ite k_cond k_block k_block_ret k_block_exit k_block_none k_block_ite k_iter k_iter_ret k_iter_exit k_iter_none k_iter_ite k_reg k_reg_none k_reg_ite x_is_nil x_is x_is_g k_ins k_ins_none k_ins_ite k_grd x_ord_nil x_ord x_ord_g k_ord k_ord_none k_ord_ite k_ogrd k_out_ret k_out k_out_none k_out_ite k_pure k_pure_none k_pure_ite startD dI dA deo Tm.at Tm.dst Tm.set Tm.put Tm.keep dW dRes oneOfD mkTup mkAgg mkFn allF frL fr vD vD1 vF vFL dBin dEq dNil isNilD dScal F.cv eBin sameKind eInt eStr cellsD oneD F.one dFill putAtD chunk dbnd dSrc St.own St.drop St.still St.fresh chkQ stillQ freshQ lOf rdOf rdOK undefD F.full F.fullL List.mapIdx_cons strip allOne_nil allOne_cons allOne_append allLen_nil allLen_cons allLen_append roomOK_small filterT y_mv y_pick y_new y_box y_build y_bslice y_ld1 y_ldn y_nilchk y_bin y_not y_conv y_bytes y_string y_ifc y_fn y_cut y_cuts y_fa y_fld y_ia y_idx y_idxs y_ext y_len y_lenstr y_app y_grow y_mks y_slow y_call y_callv y_inv y_extc x_it_st x_it_clr x_it_cpy k_addT k_addT_none k_addT_ite k_orU k_orU_none dU D.turn turnL Tm.turn turnS St.turn turnRows_length

theorem wz (x : Int) (h : -100000 ≤ x ∧ x ≤ 100000) : wrapF .i64 x = x := wrap_id _ (by omega) (by omega)
theorem wzp (x p : Int) (h : x = p) (hb : -100000 ≤ p ∧ p ≤ 100000) : wrapF .i64 x = p := by rw [h]; exact wz p hb
structure Side where
  h : Int
  lo : Int
  hi : Int
def encS (s : Side) : List F := [.int .i64 s.h, .int .i64 s.lo, .int .i64 s.hi]
def encT (s : List UInt8) : List F := [.str s]
theorem encT_ok (l : List (List UInt8)) : allOne (l.map encT) = true ∧ allLen 1 (l.map encT) = true := ⟨allOne_map encT (fun a => rfl) _, allLen_map 1 encT (fun a => rfl) _⟩
structure Box where
  k0 : Side
  k1 : Side
  k2 : Side
  k3 : Side
  tag : List UInt8
  nots : List (List UInt8)
def encB (b : Box) : List F := [.int .i64 b.k0.h, .int .i64 b.k0.lo, .int .i64 b.k0.hi, .int .i64 b.k1.h, .int .i64 b.k1.lo, .int .i64 b.k1.hi, .int .i64 b.k2.h, .int .i64 b.k2.lo, .int .i64 b.k2.hi, .int .i64 b.k3.h, .int .i64 b.k3.lo, .int .i64 b.k3.hi, .str b.tag, .list (b.nots.map encT)]
theorem encB_ok (l : List Box) : allOne (l.map encB) = true ∧ allLen 14 (l.map encB) = true := ⟨allOne_map encB (fun a => rfl) _, allLen_map 14 encB (fun a => rfl) _⟩
def encB_at (b : Box) : Nat → Side
  | 0 => b.k0
  | 1 => b.k1
  | 2 => b.k2
  | _ => b.k3

/-! ### Two sides -/
def sideB (a b : Side) : Side × Bool := if a.h = 0 then (b, true) else if b.h = 0 then (a, true) else if ¬ a.h = b.h then (⟨0, 0, 0⟩, false) else
  if a.h = 1 then (⟨a.h, if a.lo < b.lo then b.lo else a.lo, if b.hi < a.hi then b.hi else a.hi⟩, decide ((if a.lo < b.lo then b.lo else a.lo) ≤ (if b.hi < a.hi then b.hi else a.hi))) else (a, decide (a.lo ≤ a.hi))
theorem mmS1 : minmax (operAt Try.prog 35 35) = some (true, 28, 30) := by kernel_rfl
theorem mmS2 : minmax (operAt Try.prog 35 40) = some (false, 33, 35) := by kernel_rfl
theorem pSide (a b : Side) : pureI Try.prog prims dx tbl 35 [.agg (encS a), .agg (encS b)] = some (.tup [.agg (encS (sideB a b).1), .bool (sideB a b).2]) := by
  rw [pureI_of (rfl : tbl 35 = some c35)]
  simp only [encS]
  by_cases h1 : a.h = 0
  · simp [c35, h1, sideB]
  by_cases h2 : b.h = 0
  · simp [c35, h1, h2, sideB]
  by_cases h3 : a.h = b.h
  · by_cases h4 : a.h = 1
    · have h5 : b.h = 1 := by rw [← h3]; exact h4
      simp [c35, h4, h5, sideB, slow_mm mmS1, slow_mm mmS2, mmD]
    · have h5 : ¬ b.h = 1 := by rw [← h3]; exact h4
      simp [c35, h2, h3, h5, sideB]
  · simp [c35, h1, h2, h3, sideB]
theorem rSide (ds : List D) (st : Dv.St) : callI Try.prog prims dx tbl 35 ds st = callR Try.prog prims dx tbl 35 ds st (frL (fr st 6) ds) := callRw rfl rfl (rfl : tbl 35 = some c35) rfl ds st
def letsS (s : Side) (o : Option Int) : Bool := if s.h = 1 then (match o with
  | some n => decide (s.lo ≤ n) && decide (n ≤ s.hi)
  | none => false) else if s.h = 2 then o.isNone else true
theorem pLetsS (s : Side) (v : Ver) (hl : v.ats.length < 1000000) (key : Int) : pureI Try.prog prims dx tbl 30 [.agg (encS s), .agg (encV v), .int .i64 key] = some (.bool (letsS s (attr v.ats key))) := by
  rw [pureI_of (rfl : tbl 30 = some c30)]
  have ha := pAttr v hl key
  simp only [encV] at ha
  simp only [encS, encV]
  generalize attr v.ats key = o at *
  by_cases h1 : s.h = 1
  · cases o with
    | none => simp at ha; simp [c30, rAttr, callR, ha, h1, letsS]
    | some n =>
      simp at ha
      by_cases h2 : s.lo ≤ n <;> simp [c30, rAttr, callR, ha, h1, h2, letsS]
  · by_cases h2 : s.h = 2
    · cases o <;> simp at ha <;> simp [c30, rAttr, callR, ha, h1, h2, letsS]
    · cases o <;> simp at ha <;> simp [c30, rAttr, callR, ha, h1, h2, letsS]
theorem rLetsS (ds : List D) (st : Dv.St) : callI Try.prog prims dx tbl 30 ds st = callR Try.prog prims dx tbl 30 ds st (frL (fr st 6) ds) := callRw rfl rfl (rfl : tbl 30 = some c30) rfl ds st
/-! ### One of some fronts -/
theorem pBg1 (x s : List UInt8) : pureI Try.prog prims dx tbl 49 [.str x, .fp [.str s]] = some (.bool (front x s)) := by
  rw [pureI_of (rfl : tbl 49 = some c49)]
  simp [c49, rPre, callR, pPre]
theorem rBg1 (ds : List D) (st : Dv.St) : callI Try.prog prims dx tbl 49 ds st = callR Try.prog prims dx tbl 49 ds st (frL (fr st 6) ds) := callRw rfl rfl (rfl : tbl 49 = some c49) rfl ds st
def idxPT (p : List UInt8 → Bool) : List (List UInt8) → Nat → Int
  | [], _ => -1
  | a :: r, n => if p a = true then n else idxPT p r (n + 1)
theorem idxP_anyT (p : List UInt8 → Bool) : ∀ (l : List (List UInt8)) (n : Nat), (0 ≤ idxPT p l n ↔ l.any p = true)
  | [], n => by simp [idxPT]
  | a :: r, n => by
    simp only [idxPT, List.any_cons]
    cases h : p a
    · simpa using idxP_anyT p r (n + 1)
    · simp
theorem rIxFT (ds : List D) (st : Dv.St) : callI Try.prog prims dx tbl 61 ds st = callR Try.prog prims dx tbl 61 ds st (frL (fr st 6) ds) := callRw rfl rfl (rfl : tbl 61 = some c61) rfl ds st
def PostIFT (n : Int) (r : Option DSt) : Prop := ∃ T', r = some (if n < 0 then .exit 0 else .ret, T', ⟨[], [], 0⟩) ∧ (0 ≤ n → T'.at 4 = .fz (.int .i64 n))
theorem loopIFT (p : List UInt8 → Bool) (g : Nat) (cs : List F) (l : List (List UInt8)) (hc : ∀ x ∈ l, ∀ st, callI Try.prog prims dx tbl g (.fz (.str x) :: cs.map .fz) st = some (.fz (.bool (p x)), st, [])) (hl : l.length < 1000000) : ∀ (r : List (List UInt8)) (i : Nat) (iz : Int), iz = i → l.drop i = r → i ≤ l.length →
    PostIFT (idxPT p r i) (iterI (dCw Try.prog (callI Try.prog prims dx tbl) l61_0) [0, 1, 7, 8] [(0, .fz (.list (l.map encT))), (1, .fz (.fn g cs)), (7, .fz (.int .i64 l.length)), (8, .fz (.int .i64 iz))] ⟨[], [], 0⟩) := by
  intro r
  induction r with
  | nil =>
    intro i iz hz hd hi
    have hi' := drop_nil hd hi
    subst hi' hz
    rw [x_iter]
    simp [u61_0, idxPT]
    exact ⟨_, rfl, fun h => by omega⟩
  | cons a r ih =>
    intro i iz hz hd hi
    subst hz
    obtain ⟨hlt, hli, hd'⟩ := drop_cons hd
    have hw : wrapF .i64 ((i : Int) + 1) = (i : Int) + 1 := wrap_id _ (by omega) (by omega)
    have hca := hc a (by rw [← hli]; exact List.getElem_mem hlt)
    rw [x_iter]
    cases hk : p a with
    | true =>
      simp only [hk] at hca
      simp [u61_0, hlt, encT, hca, hli, hk, idxPT]
      exact ⟨_, by rw [if_neg (by omega)], fun _ => rfl⟩
    | false =>
      simp only [hk] at hca
      simp [u61_0, hlt, encT, hca, hli, hk, idxPT, hw]
      exact ih (i + 1) _ (by omega) hd' hlt
theorem pIxFT (p : List UInt8 → Bool) (g : Nat) (cs : List F) (l : List (List UInt8)) (hc : ∀ x ∈ l, ∀ st, callI Try.prog prims dx tbl g (.fz (.str x) :: cs.map .fz) st = some (.fz (.bool (p x)), st, [])) (hl : l.length < 1000000) : pureI Try.prog prims dx tbl 61 [.list (l.map encT), .fn g cs] = some (.int .i64 (idxPT p l 0)) := by
  rw [pureI_of (rfl : tbl 61 = some c61)]
  obtain ⟨T', h1, h2⟩ := loopIFT p g cs l hc hl l 0 0 rfl rfl (Nat.zero_le _)
  by_cases h : idxPT p l 0 < 0
  · have h3 : idxPT p l 0 = -1 := by
      have : ∀ (l : List (List UInt8)) (n : Nat), idxPT p l n = -1 ∨ 0 ≤ idxPT p l n := by
        intro l
        induction l with
        | nil => intro n; exact .inl rfl
        | cons a r ih => intro n; simp only [idxPT]; split; exact .inr (by omega); exact ih _
      have := this l 0
      omega
    rw [if_pos h] at h1
    simp [c61, h1, h3]
  · rw [if_neg h] at h1
    simp [c61, h1, h2 (by omega)]
theorem pConFT (p : List UInt8 → Bool) (g : Nat) (cs : List F) (l : List (List UInt8)) (hc : ∀ x ∈ l, ∀ st, callI Try.prog prims dx tbl g (.fz (.str x) :: cs.map .fz) st = some (.fz (.bool (p x)), st, [])) (hl : l.length < 1000000) : pureI Try.prog prims dx tbl 48 [.list (l.map encT), .fn g cs] = some (.bool (l.any p)) := by
  rw [pureI_of (rfl : tbl 48 = some c48)]
  have h1 := pIxFT p g cs l hc hl
  have h2 := idxP_anyT p l 0
  cases h : l.any p with
  | true =>
    rw [h] at h2
    have h3 := h2.2 rfl
    simp [c48, rIxFT, callR, h1, h3]
  | false =>
    rw [h] at h2
    have h3 : ¬ 0 ≤ idxPT p l 0 := fun k => by simpa using h2.1 k
    simp [c48, rIxFT, callR, h1, h3]
theorem rConFT (ds : List D) (st : Dv.St) : callI Try.prog prims dx tbl 48 ds st = callR Try.prog prims dx tbl 48 ds st (frL (fr st 6) ds) := callRw rfl rfl (rfl : tbl 48 = some c48) rfl ds st
theorem pBgN (s : List UInt8) (l : List (List UInt8)) (hl : l.length < 1000000) : pureI Try.prog prims dx tbl 32 [.str s, .list (l.map encT)] = some (.bool (l.any fun x => front x s)) := by
  rw [pureI_of (rfl : tbl 32 = some c32)]
  have hC := pConFT (fun x => front x s) 49 [.fp [.str s]] l (fun x _ st => by
    have := pBg1 x s
    simp [rBg1, callR, this]) hl
  simp [c32, rConFT, callR, hC]
theorem rBgN (ds : List D) (st : Dv.St) : callI Try.prog prims dx tbl 32 ds st = callR Try.prog prims dx tbl 32 ds st (frL (fr st 6) ds) := callRw rfl rfl (rfl : tbl 32 = some c32) rfl ds st
/-! ### A box -/
def letsB (b : Box) (ats : List (Int × Int)) (tag : List UInt8) : Bool := letsS b.k0 (attr ats 0) && (letsS b.k1 (attr ats 1) && (letsS b.k2 (attr ats 2) && (letsS b.k3 (attr ats 3) && (front b.tag tag && !(b.nots.any fun x => front x tag)))))
def varB (b : Box) : Bool × List D := (true, (encB b).map .fz)
def varV (v : Ver) : Bool × List D := (true, (encV v).map .fz)
def aggK (b : Box) : List F := (encB b).take 12
theorem roundL0t (b : Box) (v : Ver) (hl : v.ats.length < 1000000) (h : letsS b.k0 (attr v.ats 0) = true) : ∃ y : Bool × List D, iterI (dCw Try.prog (callI Try.prog prims dx tbl) l17_0) [2, 3, 8, 9] [(2, .ptr 0 0), (3, .ptr 1 0), (8, .fz (.agg (aggK b))), (9, .fz (.int .i64 0))] ⟨[varB b, varV v], [], 0⟩ = iterI (dCw Try.prog (callI Try.prog prims dx tbl) l17_0) [2, 3, 8, 9] [(2, .ptr 0 0), (3, .ptr 1 0), (8, .fz (.agg (aggK b))), (9, .fz (.int .i64 1))] ⟨[varB b, varV v, y], [], 0⟩ := by
  have hp := pLetsS b.k0 v hl 0
  rw [h] at hp
  have w1 : wrapF .i64 1 = 1 := by decide +kernel
  simp only [encS, encV] at hp
  simp only [varB, varV, encB, encV, aggK, List.map_cons, List.map_nil, List.take_succ_cons, List.take_zero]
  refine ⟨_, (by
    rw [x_iter]
    simp [u17_0, rLetsS, callR, hp, w1]; rfl)⟩
theorem roundL0f (b : Box) (v : Ver) (hl : v.ats.length < 1000000) (h : letsS b.k0 (attr v.ats 0) = false) : ∃ (T' : Tm) (st' : Dv.St), T'.at 4 = .fz (.bool false) ∧ iterI (dCw Try.prog (callI Try.prog prims dx tbl) l17_0) [2, 3, 8, 9] [(2, .ptr 0 0), (3, .ptr 1 0), (8, .fz (.agg (aggK b))), (9, .fz (.int .i64 0))] ⟨[varB b, varV v], [], 0⟩ = some (.ret, T', st') := by
  have hp := pLetsS b.k0 v hl 0
  rw [h] at hp
  simp only [encS, encV] at hp
  simp only [varB, varV, encB, encV, aggK, List.map_cons, List.map_nil, List.take_succ_cons, List.take_zero]
  refine ⟨_, _, ?_, (by
    rw [x_iter]
    simp [u17_0, rLetsS, callR, hp]; exact ⟨rfl, rfl⟩)⟩
  simp [Tm.at]
theorem roundL1t (b : Box) (v : Ver) (hl : v.ats.length < 1000000) (x0 : Bool × List D) (h : letsS b.k1 (attr v.ats 1) = true) : ∃ y : Bool × List D, iterI (dCw Try.prog (callI Try.prog prims dx tbl) l17_0) [2, 3, 8, 9] [(2, .ptr 0 0), (3, .ptr 1 0), (8, .fz (.agg (aggK b))), (9, .fz (.int .i64 1))] ⟨[varB b, varV v, x0], [], 0⟩ = iterI (dCw Try.prog (callI Try.prog prims dx tbl) l17_0) [2, 3, 8, 9] [(2, .ptr 0 0), (3, .ptr 1 0), (8, .fz (.agg (aggK b))), (9, .fz (.int .i64 2))] ⟨[varB b, varV v, x0, y], [], 0⟩ := by
  have hp := pLetsS b.k1 v hl 1
  rw [h] at hp
  have w1 : wrapF .i64 2 = 2 := by decide +kernel
  simp only [encS, encV] at hp
  simp only [varB, varV, encB, encV, aggK, List.map_cons, List.map_nil, List.take_succ_cons, List.take_zero]
  refine ⟨_, (by
    rw [x_iter]
    simp [u17_0, rLetsS, callR, hp, w1]; rfl)⟩
theorem roundL1f (b : Box) (v : Ver) (hl : v.ats.length < 1000000) (x0 : Bool × List D) (h : letsS b.k1 (attr v.ats 1) = false) : ∃ (T' : Tm) (st' : Dv.St), T'.at 4 = .fz (.bool false) ∧ iterI (dCw Try.prog (callI Try.prog prims dx tbl) l17_0) [2, 3, 8, 9] [(2, .ptr 0 0), (3, .ptr 1 0), (8, .fz (.agg (aggK b))), (9, .fz (.int .i64 1))] ⟨[varB b, varV v, x0], [], 0⟩ = some (.ret, T', st') := by
  have hp := pLetsS b.k1 v hl 1
  rw [h] at hp
  simp only [encS, encV] at hp
  simp only [varB, varV, encB, encV, aggK, List.map_cons, List.map_nil, List.take_succ_cons, List.take_zero]
  refine ⟨_, _, ?_, (by
    rw [x_iter]
    simp [u17_0, rLetsS, callR, hp]; exact ⟨rfl, rfl⟩)⟩
  simp [Tm.at]
theorem roundL2t (b : Box) (v : Ver) (hl : v.ats.length < 1000000) (x0 x1 : Bool × List D) (h : letsS b.k2 (attr v.ats 2) = true) : ∃ y : Bool × List D, iterI (dCw Try.prog (callI Try.prog prims dx tbl) l17_0) [2, 3, 8, 9] [(2, .ptr 0 0), (3, .ptr 1 0), (8, .fz (.agg (aggK b))), (9, .fz (.int .i64 2))] ⟨[varB b, varV v, x0, x1], [], 0⟩ = iterI (dCw Try.prog (callI Try.prog prims dx tbl) l17_0) [2, 3, 8, 9] [(2, .ptr 0 0), (3, .ptr 1 0), (8, .fz (.agg (aggK b))), (9, .fz (.int .i64 3))] ⟨[varB b, varV v, x0, x1, y], [], 0⟩ := by
  have hp := pLetsS b.k2 v hl 2
  rw [h] at hp
  have w1 : wrapF .i64 3 = 3 := by decide +kernel
  simp only [encS, encV] at hp
  simp only [varB, varV, encB, encV, aggK, List.map_cons, List.map_nil, List.take_succ_cons, List.take_zero]
  refine ⟨_, (by
    rw [x_iter]
    simp [u17_0, rLetsS, callR, hp, w1]; rfl)⟩
theorem roundL2f (b : Box) (v : Ver) (hl : v.ats.length < 1000000) (x0 x1 : Bool × List D) (h : letsS b.k2 (attr v.ats 2) = false) : ∃ (T' : Tm) (st' : Dv.St), T'.at 4 = .fz (.bool false) ∧ iterI (dCw Try.prog (callI Try.prog prims dx tbl) l17_0) [2, 3, 8, 9] [(2, .ptr 0 0), (3, .ptr 1 0), (8, .fz (.agg (aggK b))), (9, .fz (.int .i64 2))] ⟨[varB b, varV v, x0, x1], [], 0⟩ = some (.ret, T', st') := by
  have hp := pLetsS b.k2 v hl 2
  rw [h] at hp
  simp only [encS, encV] at hp
  simp only [varB, varV, encB, encV, aggK, List.map_cons, List.map_nil, List.take_succ_cons, List.take_zero]
  refine ⟨_, _, ?_, (by
    rw [x_iter]
    simp [u17_0, rLetsS, callR, hp]; exact ⟨rfl, rfl⟩)⟩
  simp [Tm.at]
theorem roundL3t (b : Box) (v : Ver) (hl : v.ats.length < 1000000) (x0 x1 x2 : Bool × List D) (h : letsS b.k3 (attr v.ats 3) = true) : ∃ y : Bool × List D, iterI (dCw Try.prog (callI Try.prog prims dx tbl) l17_0) [2, 3, 8, 9] [(2, .ptr 0 0), (3, .ptr 1 0), (8, .fz (.agg (aggK b))), (9, .fz (.int .i64 3))] ⟨[varB b, varV v, x0, x1, x2], [], 0⟩ = iterI (dCw Try.prog (callI Try.prog prims dx tbl) l17_0) [2, 3, 8, 9] [(2, .ptr 0 0), (3, .ptr 1 0), (8, .fz (.agg (aggK b))), (9, .fz (.int .i64 4))] ⟨[varB b, varV v, x0, x1, x2, y], [], 0⟩ := by
  have hp := pLetsS b.k3 v hl 3
  rw [h] at hp
  have w1 : wrapF .i64 4 = 4 := by decide +kernel
  simp only [encS, encV] at hp
  simp only [varB, varV, encB, encV, aggK, List.map_cons, List.map_nil, List.take_succ_cons, List.take_zero]
  refine ⟨_, (by
    rw [x_iter]
    simp [u17_0, rLetsS, callR, hp, w1]; rfl)⟩
theorem roundL3f (b : Box) (v : Ver) (hl : v.ats.length < 1000000) (x0 x1 x2 : Bool × List D) (h : letsS b.k3 (attr v.ats 3) = false) : ∃ (T' : Tm) (st' : Dv.St), T'.at 4 = .fz (.bool false) ∧ iterI (dCw Try.prog (callI Try.prog prims dx tbl) l17_0) [2, 3, 8, 9] [(2, .ptr 0 0), (3, .ptr 1 0), (8, .fz (.agg (aggK b))), (9, .fz (.int .i64 3))] ⟨[varB b, varV v, x0, x1, x2], [], 0⟩ = some (.ret, T', st') := by
  have hp := pLetsS b.k3 v hl 3
  rw [h] at hp
  simp only [encS, encV] at hp
  simp only [varB, varV, encB, encV, aggK, List.map_cons, List.map_nil, List.take_succ_cons, List.take_zero]
  refine ⟨_, _, ?_, (by
    rw [x_iter]
    simp [u17_0, rLetsS, callR, hp]; exact ⟨rfl, rfl⟩)⟩
  simp [Tm.at]
theorem roundL4 (b : Box) (v : Ver) (x0 x1 x2 x3 : Bool × List D) : ∃ T' : Tm, T'.keep [2, 3] = [(2, .ptr 0 0), (3, .ptr 1 0)] ∧ iterI (dCw Try.prog (callI Try.prog prims dx tbl) l17_0) [2, 3, 8, 9] [(2, .ptr 0 0), (3, .ptr 1 0), (8, .fz (.agg (aggK b))), (9, .fz (.int .i64 4))] ⟨[varB b, varV v, x0, x1, x2, x3], [], 0⟩ = some (.exit 0, T', ⟨[varB b, varV v, x0, x1, x2, x3], [], 0⟩) := by
  refine ⟨_, ?_, (by
    rw [x_iter]
    simp [u17_0]; rfl)⟩
  simp [Tm.keep]
theorem pLetsB (b : Box) (hn : b.nots.length < 1000000) (v : Ver) (hl : v.ats.length < 1000000) : pureI Try.prog prims dx tbl 17 [.agg (encB b), .agg (encV v)] = some (.bool (letsB b v.ats v.tag)) := by
  rw [pureI_of (rfl : tbl 17 = some c17)]
  have fin : (∀ (T' : Tm) (st' : Dv.St), T'.at 4 = .fz (.bool false) → iterI (dCw Try.prog (callI Try.prog prims dx tbl) l17_0) [2, 3, 8, 9] [(2, .ptr 0 0), (3, .ptr 1 0), (8, .fz (.agg (aggK b))), (9, .fz (.int .i64 0))] ⟨[varB b, varV v], [], 0⟩ = some (.ret, T', st') → dPureW Try.prog (callI Try.prog prims dx tbl) c17 [.agg (encB b), .agg (encV v)] = some (.bool false)) := by
    intro T' st' h1 h2
    simp only [varB, varV, encB, encV, aggK, List.map_cons, List.map_nil, List.take_succ_cons, List.take_zero] at h2
    simp [c17, encB, encV, h1, h2]
  cases h0 : letsS b.k0 (attr v.ats 0) with
  | false =>
    obtain ⟨T', st', a1, a2⟩ := roundL0f b v hl h0
    rw [fin T' st' a1 a2]
    simp [letsB, h0]
  | true =>
    obtain ⟨y0, e0⟩ := roundL0t b v hl h0
    cases h1 : letsS b.k1 (attr v.ats 1) with
    | false =>
      obtain ⟨T', st', a1, a2⟩ := roundL1f b v hl y0 h1
      rw [fin T' st' a1 (e0.trans a2)]
      simp [letsB, h0, h1]
    | true =>
      obtain ⟨y1, e1⟩ := roundL1t b v hl y0 h1
      cases h2 : letsS b.k2 (attr v.ats 2) with
      | false =>
        obtain ⟨T', st', a1, a2⟩ := roundL2f b v hl y0 y1 h2
        rw [fin T' st' a1 ((e0.trans e1).trans a2)]
        simp [letsB, h0, h1, h2]
      | true =>
        obtain ⟨y2, e2⟩ := roundL2t b v hl y0 y1 h2
        cases h3 : letsS b.k3 (attr v.ats 3) with
        | false =>
          obtain ⟨T', st', a1, a2⟩ := roundL3f b v hl y0 y1 y2 h3
          rw [fin T' st' a1 (((e0.trans e1).trans e2).trans a2)]
          simp [letsB, h0, h1, h2, h3]
        | true =>
          obtain ⟨y3, e3⟩ := roundL3t b v hl y0 y1 y2 h3
          obtain ⟨T', k1, a2⟩ := roundL4 b v y0 y1 y2 y3
          have e := (((e0.trans e1).trans e2).trans e3).trans a2
          have hp := pPre v.tag b.tag
          have hb := pBgN v.tag b.nots hn
          simp only [varB, varV, encB, encV, aggK, List.map_cons, List.map_nil, List.take_succ_cons, List.take_zero] at e
          simp only [letsB, h0, h1, h2, h3, Bool.true_and]
          generalize (b.nots.any fun x => front x v.tag) = q at *
          cases hf : front b.tag v.tag with
          | false =>
            rw [hf] at hp
            simp [c17, encB, encV, e, k1, rPre, callR, hp]
          | true =>
            rw [hf] at hp
            simp [c17, encB, encV, e, k1, rPre, rBgN, callR, hp, hb]
theorem rLetsB (ds : List D) (st : Dv.St) : callI Try.prog prims dx tbl 17 ds st = callR Try.prog prims dx tbl 17 ds st (frL (fr st 6) ds) := callRw rfl rfl (rfl : tbl 17 = some c17) rfl ds st
end Go.Proofs.Ytiloimenibbeoaa.Pl
