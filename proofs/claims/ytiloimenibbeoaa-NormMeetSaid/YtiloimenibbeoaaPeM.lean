/-
  What is proved here: what filters let through, by what is kept, by the program and by the document's own.
  Conditions: none.
-/
import Derived.Test.YtiloimenibbeoaaPvM
set_option linter.unusedVariables false
set_option linter.unusedSimpArgs false
set_option maxRecDepth 100000
set_option maxHeartbeats 4000000
namespace Go.Proofs.Ytiloimenibbeoaa.Pl
open Go Go.Proofs Go.Proofs.Ev Go.Proofs.Dv Cd
attribute [local simp] x_pure x_skip x_reg x_drw x_seq x_cond x_block x_frz x_loop' Tm.keep_nil x_exit x_ret k_seq k_seq_ret k_seq_exit k_seq_none k_seq_ite k_cond k_block k_block_ret k_block_exit k_block_none k_block_ite k_iter k_iter_ret k_iter_exit k_iter_none k_iter_ite k_reg k_reg_none k_reg_ite x_is_nil x_is x_is_g k_ins k_ins_none k_ins_ite k_grd x_ord_nil x_ord x_ord_g k_ord k_ord_none k_ord_ite k_ogrd k_out_ret k_out k_out_none k_out_ite k_pure k_pure_none k_pure_ite startD dI dA deo Tm.at Tm.dst Tm.set Tm.put Tm.keep dW dRes oneOfD mkTup mkAgg mkFn allF frL fr vD vD1 vF vFL dBin dEq dNil isNilD dScal F.cv eBin sameKind eInt eStr cellsD oneD F.one dFill putAtD chunk dbnd dSrc St.own St.drop St.still St.fresh chkQ stillQ freshQ lOf rdOf rdOK undefD F.full F.fullL List.mapIdx_cons strip allOne_nil allOne_cons allOne_append allLen_nil allLen_cons allLen_append roomOK_small filterT y_mv y_pick y_new y_box y_build y_bslice y_ld1 y_ldn y_nilchk y_bin y_not y_conv y_bytes y_string y_ifc y_fn y_cut y_cuts y_fa y_fld y_ia y_idx y_idxs y_ext y_len y_lenstr y_app y_grow y_mks y_slow y_call y_callv y_inv y_extc x_it_st x_it_clr x_it_cpy k_addT k_addT_none k_addT_ite k_orU k_orU_none dU D.turn turnL Tm.turn turnS St.turn turnRows_length

/-- A key's value. -/
def attr : List (Int × Int) → Int → Option Int
  | [], _ => none
  | a :: r, k => if a.1 = k then some a.2 else attr r k
def idxF (p : Int × Int → Bool) : List (Int × Int) → Nat → Int
  | [], _ => -1
  | a :: r, n => if p a = true then n else idxF p r (n + 1)
theorem idxF_ge (p : Int × Int → Bool) : ∀ (l : List (Int × Int)) (n : Nat), idxF p l n = -1 ∨ 0 ≤ idxF p l n
  | [], n => .inl rfl
  | a :: r, n => by
    simp only [idxF]
    split
    · right; omega
    · exact idxF_ge p r (n + 1)

theorem pAttr1 (k v key : Int) : pureI Try.prog prims dx tbl 60 [.agg [.int .i64 k, .int .i64 v], .fp [.int .i64 key]] = some (.bool (decide (k = key))) := by
  rw [pureI_of (rfl : tbl 60 = some c60)]
  simp [c60, encA]
theorem rAttr1 (ds : List D) (st : Dv.St) : callI Try.prog prims dx tbl 60 ds st = callR Try.prog prims dx tbl 60 ds st (frL (fr st 6) ds) := callRw rfl rfl (rfl : tbl 60 = some c60) rfl ds st

def PostI (n : Int) (r : Option DSt) : Prop := ∃ T', r = some (if n < 0 then .exit 0 else .ret, T', ⟨[], [], 0⟩) ∧ (0 ≤ n → T'.at 4 = .fz (.int .i64 n))
theorem loopIdxA (key : Int) (l : List (Int × Int)) (hl : l.length < 1000000) : ∀ (r : List (Int × Int)) (i : Nat) (iz : Int), iz = i → l.drop i = r → i ≤ l.length →
    PostI (idxF (fun a => decide (a.1 = key)) r i) (iterI (dCw Try.prog (callI Try.prog prims dx tbl) l59_0) [0, 1, 7, 8] [(0, .fz (.list (l.map encA))), (1, .fz (.fn 60 [.fp [.int .i64 key]])), (7, .fz (.int .i64 l.length)), (8, .fz (.int .i64 iz))] ⟨[], [], 0⟩) := by
  intro r
  induction r with
  | nil =>
    intro i iz hz hd hi
    have hi' := drop_nil hd hi
    subst hi' hz
    rw [x_iter]
    simp [u59_0, idxF]
    exact ⟨_, rfl, fun h => by omega⟩
  | cons a r ih =>
    intro i iz hz hd hi
    subst hz
    obtain ⟨hlt, hli, hd'⟩ := drop_cons hd
    have hw : wrapF .i64 ((i : Int) + 1) = (i : Int) + 1 := wrap_id _ (by omega) (by omega)
    rw [x_iter]
    by_cases hk : a.1 = key
    · simp [u59_0, hlt, encA_len, encA_take, rAttr1, callR, pAttr1, hli, hk, idxF]
      exact ⟨_, by rw [if_neg (by omega)], fun _ => rfl⟩
    · simp [u59_0, hlt, encA_len, encA_take, rAttr1, callR, pAttr1, hli, hk, idxF, hw]
      exact ih (i + 1) _ (by omega) hd' hlt
theorem pIdxA (key : Int) (l : List (Int × Int)) (hl : l.length < 1000000) : pureI Try.prog prims dx tbl 59 [.list (l.map encA), .fn 60 [.fp [.int .i64 key]]] = some (.int .i64 (idxF (fun a => decide (a.1 = key)) l 0)) := by
  rw [pureI_of (rfl : tbl 59 = some c59)]
  obtain ⟨T', h1, h2⟩ := loopIdxA key l hl l 0 0 rfl rfl (Nat.zero_le _)
  rcases idxF_ge (fun a => decide (a.1 = key)) l 0 with h | h
  · simp [h] at h1
    simp [c59, h1, h]
  · rw [if_neg (by omega)] at h1
    simp [c59, h1, h2 h]
theorem rIdxA (ds : List D) (st : Dv.St) : callI Try.prog prims dx tbl 59 ds st = callR Try.prog prims dx tbl 59 ds st (frL (fr st 6) ds) := callRw rfl rfl (rfl : tbl 59 = some c59) rfl ds st
theorem idx_attr (key : Int) : ∀ (l m : List (Int × Int)) (n : Nat), l.drop n = m → (idxF (fun a => decide (a.1 = key)) m n = -1 ∧ attr m key = none) ∨ ∃ (i : Nat) (a : Int × Int), idxF (fun a => decide (a.1 = key)) m n = i ∧ l[i]? = some a ∧ attr m key = some a.2
  | l, [], n, _ => .inl ⟨rfl, rfl⟩
  | l, a :: m, n, h => by
    obtain ⟨hlt, hli, hd'⟩ := drop_cons h
    by_cases hk : a.1 = key
    · exact .inr ⟨n, a, by simp [idxF, hk], by rw [List.getElem?_eq_getElem hlt, hli], by simp [attr, hk]⟩
    · rcases idx_attr key l m (n + 1) hd' with ⟨h1, h2⟩ | ⟨i, b, h1, h2, h3⟩
      · exact .inl ⟨by simp [idxF, hk, h1], by simp [attr, hk, h2]⟩
      · exact .inr ⟨i, b, by simp [idxF, hk, h1], h2, by simp [attr, hk, h3]⟩
theorem pAttr (v : Ver) (hl : v.ats.length < 1000000) (key : Int) : pureI Try.prog prims dx tbl 46 [.agg (encV v), .int .i64 key] = some (.tup [.int .i64 ((attr v.ats key).getD 0), .bool (attr v.ats key).isSome]) := by
  rw [pureI_of (rfl : tbl 46 = some c46)]
  rcases idx_attr key v.ats v.ats 0 rfl with ⟨h1, h2⟩ | ⟨i, a, h1, h2, h3⟩
  · simp [c46, encV, rIdxA, callR, pIdxA key v.ats hl, h1, h2]
  · have hlt := lt_of h2
    have hli : v.ats[i]'hlt = a := by
      rw [List.getElem?_eq_getElem hlt] at h2
      exact Option.some.inj h2
    simp [c46, encV, rIdxA, callR, pIdxA key v.ats hl, h1, h3, hlt, hli, encA_len, encA]
theorem rAttr (ds : List D) (st : Dv.St) : callI Try.prog prims dx tbl 46 ds st = callR Try.prog prims dx tbl 46 ds st (frL (fr st 6) ds) := callRw rfl rfl (rfl : tbl 46 = some c46) rfl ds st

def PostT (st : Dv.St) (o : Option Int) (r : Option DSt) : Prop := match o with
  | none => ∃ T', r = some (.exit 0, T', st)
  | some n => ∃ T', T'.at 4 = .fz (.int .i64 n) ∧ T'.at 5 = .fz (.bool true) ∧ r = some (.ret, T', st)
theorem loopRAttr (v : Ver) (hl : v.ats.length < 1000000) (key : Int) : ∀ (r : List (Int × Int)) (i : Nat) (iz : Int), iz = i → v.ats.drop i = r → i ≤ v.ats.length →
    PostT ⟨[(true, (encV v).map .fz)], [], 0⟩ (attr r key) (iterI (dCw Try.prog (callI Try.prog prims dx tbl) l33_0) [1, 2, 6] [(1, .fz (.int .i64 key)), (2, .ptr 0 0), (6, .fz (.int .i64 iz))] ⟨[(true, (encV v).map .fz)], [], 0⟩) := by
  intro r
  induction r with
  | nil =>
    intro i iz hz hd hi
    have hi' := drop_nil hd hi
    subst hi' hz
    rw [x_iter]
    simp [u33_0, attr, encV]
    exact ⟨_, rfl⟩
  | cons a r ih =>
    intro i iz hz hd hi
    subst hz
    obtain ⟨hlt, hli, hd'⟩ := drop_cons hd
    have hw : wrapF .i64 ((i : Int) + 1) = (i : Int) + 1 := wrap_id _ (by omega) (by omega)
    rw [x_iter]
    by_cases hk : a.1 = key
    · simp [u33_0, hlt, encA, hli, hk, attr, encV]
      exact ⟨_, rfl, rfl, rfl⟩
    · have := ih (i + 1) _ rfl hd' hlt
      simp [encV, attr, hk] at this
      simp [u33_0, hlt, encA, hli, hk, attr, encV, hw]
      exact this
theorem pRAttr (v : Ver) (hl : v.ats.length < 1000000) (key : Int) : pureI Try.prog prims dx tbl 33 [.agg (encV v), .int .i64 key] = some (.tup [.int .i64 ((attr v.ats key).getD 0), .bool (attr v.ats key).isSome]) := by
  rw [pureI_of (rfl : tbl 33 = some c33)]
  have h := loopRAttr v hl key v.ats 0 0 rfl rfl (Nat.zero_le _)
  cases ha : attr v.ats key with
  | none =>
    rw [ha] at h
    obtain ⟨T', h⟩ := h
    simp [encV] at h
    simp [c33, encV, h]
  | some n =>
    rw [ha] at h
    obtain ⟨T', h1, h2, h⟩ := h
    simp [encV] at h
    simp [c33, encV, h, h1, h2]
theorem rRAttr (ds : List D) (st : Dv.St) : callI Try.prog prims dx tbl 33 ds st = callR Try.prog prims dx tbl 33 ds st (frL (fr st 6) ds) := callRw rfl rfl (rfl : tbl 33 = some c33) rfl ds st

def front (p s : List UInt8) : Bool := decide (p.length ≤ s.length ∧ s.take p.length = p)
theorem pPre0 (s p : List UInt8) : pureI Try.prog prims dx tbl 47 [.str s, .str p] = some (.bool (front p s)) := by
  rw [pureI_of (rfl : tbl 47 = some c47)]
  by_cases h : p.length ≤ s.length
  · simp [c47, h, Int.ofNat_le, front]
    rw [beqB_eq, Bool.eq_iff_iff]
    simp
  · simp [c47, h, Int.ofNat_le, front]
theorem rPre0 (ds : List D) (st : Dv.St) : callI Try.prog prims dx tbl 47 ds st = callR Try.prog prims dx tbl 47 ds st (frL (fr st 6) ds) := callRw rfl rfl (rfl : tbl 47 = some c47) rfl ds st
theorem pPre (s p : List UInt8) : pureI Try.prog prims dx tbl 31 [.str s, .str p] = some (.bool (front p s)) := by
  rw [pureI_of (rfl : tbl 31 = some c31)]
  simp [c31, rPre0, callR, pPre0]
theorem rPre (ds : List D) (st : Dv.St) : callI Try.prog prims dx tbl 31 ds st = callR Try.prog prims dx tbl 31 ds st (frL (fr st 6) ds) := callRw rfl rfl (rfl : tbl 31 = some c31) rfl ds st
theorem pBegins (s p : List UInt8) : pureI Try.prog prims dx tbl 34 [.str s, .str p] = some (.bool (front p s)) := by
  rw [pureI_of (rfl : tbl 34 = some c34)]
  by_cases h : p.length ≤ s.length
  · simp [c34, h, Int.ofNat_le, front]
    rw [beqB_eq, Bool.eq_iff_iff]
    simp
  · simp [c34, h, Int.ofNat_le, front]
theorem rBegins (ds : List D) (st : Dv.St) : callI Try.prog prims dx tbl 34 ds st = callR Try.prog prims dx tbl 34 ds st (frL (fr st 6) ds) := callRw rfl rfl (rfl : tbl 34 = some c34) rfl ds st

/-- What a filter lets through. -/
def lets : Flt → List (Int × Int) → List UInt8 → Bool
  | .leaf op k lo hi ft, ats, tag => if op = 1 then true else if op = 2 ∨ op = 3 then (match attr ats k with
    | some n => decide (lo ≤ n) && decide (n ≤ hi)
    | none => false) else if op = 4 then front ft tag else false
  | .not a, ats, tag => !lets a ats tag
  | .two op a b, ats, tag => if op = 5 then lets a ats tag && lets b ats tag else lets a ats tag || lets b ats tag

theorem pLets (v : Ver) (hl : v.ats.length < 1000000) : ∀ (f : Flt), f.ok → pureI Try.prog prims dx tbl 22 [.agg (encF f), .agg (encV v)] = some (.bool (lets f v.ats v.tag)) := by
  have r0 : ∀ (ds : List D) (st : Dv.St), callI Try.prog prims dx tbl 22 ds st = callR Try.prog prims dx tbl 22 ds st (frL (fr st 6) ds) := fun ds st => callRw rfl rfl (rfl : tbl 22 = some c22) rfl ds st
  intro f
  induction f with
  | leaf op k lo hi ft =>
    intro hf
    have ha := pRAttr v hl k
    rw [encV] at ha
    rw [pureI_of (rfl : tbl 22 = some c22)]
    rcases hf with ⟨rfl, rfl, rfl, rfl, rfl⟩ | ⟨rfl, _⟩ | ⟨rfl, _⟩ | ⟨rfl, rfl, rfl, rfl, _⟩
    · simp [c22, encF, encV, lets]
    · cases h : attr v.ats k with
      | none => simp [h] at ha; simp [c22, encF, encV, lets, rRAttr, callR, ha, h]
      | some n => simp [h] at ha; by_cases h1 : lo ≤ n <;> by_cases h2 : n ≤ hi <;> simp [c22, encF, encV, lets, rRAttr, callR, ha, h, h1, h2]
    · cases h : attr v.ats k with
      | none => simp [h] at ha; simp [c22, encF, encV, lets, rRAttr, callR, ha, h]
      | some n => simp [h] at ha; by_cases h1 : lo ≤ n <;> by_cases h2 : n ≤ hi <;> simp [c22, encF, encV, lets, rRAttr, callR, ha, h, h1, h2]
    · simp [c22, encF, encV, lets, rBegins, callR, pBegins]
  | not a ih =>
    intro hf
    have ih := ih hf
    rw [pureI_of (rfl : tbl 22 = some c22)]
    rw [encV] at ih
    cases h : lets a v.ats v.tag <;> simp [h] at ih <;> simp [c22, encF, encV, lets, r0, callR, ih, encF_len, encF_take, h]
  | two op a b iha ihb =>
    intro hf
    obtain ⟨hop, ha, hb⟩ := hf
    have iha := iha ha
    have ihb := ihb hb
    rw [pureI_of (rfl : tbl 22 = some c22)]
    rw [encV] at iha ihb
    rcases hop with rfl | rfl <;> cases h1 : lets a v.ats v.tag <;> cases h2 : lets b v.ats v.tag <;> simp [h1] at iha <;> simp [h2] at ihb <;> simp [c22, encF, encV, lets, r0, callR, iha, ihb, encF_len, encF_take, h1, h2]
theorem rLets (ds : List D) (st : Dv.St) : callI Try.prog prims dx tbl 22 ds st = callR Try.prog prims dx tbl 22 ds st (frL (fr st 6) ds) := callRw rfl rfl (rfl : tbl 22 = some c22) rfl ds st
end Go.Proofs.Ytiloimenibbeoaa.Pl
