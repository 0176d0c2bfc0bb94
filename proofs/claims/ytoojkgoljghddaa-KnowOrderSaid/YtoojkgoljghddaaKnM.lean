/-
  What is proved here: numbers that are known: asked for, and made whole.
  Conditions: none.
-/
import Derived.Test.YtoojkgoljghddaaCdM
import Derived.Test.YtoojkgoljghddaaCn
import Derived.Test.YtoojkgoljghddaaCs
set_option linter.unusedVariables false
set_option linter.unusedSimpArgs false
set_option maxRecDepth 100000
set_option maxHeartbeats 8000000
namespace Go.Proofs.Ytoojkgoljghddaa.Pl
open Go Go.Proofs Go.Proofs.Ev Go.Proofs.Dv Cd
attribute [local simp] x_pure x_skip x_reg x_drw x_seq x_cond x_block x_frz x_loop' Tm.keep_nil x_exit x_ret k_seq k_seq_ret k_seq_exit k_seq_none k_seq_ite k_cond k_block k_block_ret k_block_exit k_block_none k_block_ite k_iter k_iter_ret k_iter_exit k_iter_none k_iter_ite k_reg k_reg_none k_reg_ite x_is_nil x_is x_is_g k_ins k_ins_none k_ins_ite k_grd x_ord_nil x_ord x_ord_g k_ord k_ord_none k_ord_ite k_ogrd k_out_ret k_out k_out_none k_out_ite k_pure k_pure_none k_pure_ite startD dI dA deo Tm.at Tm.dst Tm.set Tm.put Tm.keep dW dRes oneOfD mkTup mkAgg mkFn allF frL fr vD vD1 vF vFL dBin dEq dNil isNilD dScal F.cv eBin sameKind eInt eStr cellsD oneD F.one dFill putAtD chunk dbnd dSrc St.own St.drop St.still St.fresh chkQ stillQ freshQ lOf rdOf rdOK undefD F.full F.fullL List.mapIdx_cons strip allOne_nil allOne_cons allOne_append allLen_nil allLen_cons allLen_append roomOK_small filterT y_mv y_pick y_new y_box y_build y_bslice y_ld1 y_ldn y_nilchk y_bin y_not y_conv y_bytes y_string y_ifc y_fn y_cut y_cuts y_fa y_fld y_ia y_idx y_idxs y_ext y_len y_lenstr y_app y_grow y_mks y_mget y_mop dM y_slow y_call y_callv y_inv y_extc x_it_st x_it_clr x_it_cpy k_addT k_addT_none k_addT_ite k_orU k_orU_none dU D.turn turnL Tm.turn turnS St.turn turnRows_length

def encI (z : Int) : List F := [.int .i64 z]
theorem encI_ok (l : List Int) : allOne (l.map encI) = true ∧ allLen 1 (l.map encI) = true := ⟨allOne_map encI (fun a => rfl) _, allLen_map 1 encI (fun a => rfl) _⟩
/-! ### slices.Index, slices.Contains -/
def idxI (t : Int) : List Int → Nat → Int
  | [], _ => -1
  | z :: r, n => if t = z then n else idxI t r (n + 1)
theorem idxI_in (t : Int) : ∀ (l : List Int) (n : Nat), (0 ≤ idxI t l n ↔ t ∈ l)
  | [], n => by simp [idxI]
  | z :: r, n => by
    have := idxI_in t r (n + 1)
    simp only [idxI, List.mem_cons]
    split
    · rename_i h
      simp [h]
    · rename_i h
      rw [this]
      simp [h]
def PostX (n : Int) (r : Option DSt) : Prop := ∃ T', r = some (if n < 0 then .exit 0 else .ret, T', ⟨[], [], 0⟩) ∧ (0 ≤ n → T'.at 4 = .fz (.int .i64 n))
theorem loopIx (t : Int) (l : List Int) (hl : l.length < 1000000) : ∀ (r : List Int) (i : Nat) (iz : Int), iz = i → l.drop i = r → i ≤ l.length →
    PostX (idxI t r i) (iterI (dCw Try.prog (callI Try.prog prims dx tbl) l22_0) [0, 1, 7, 8] [(0, .fz (.list (l.map encI))), (1, .fz (.int .i64 t)), (7, .fz (.int .i64 l.length)), (8, .fz (.int .i64 iz))] ⟨[], [], 0⟩) := by
  intro r
  induction r with
  | nil =>
    intro i iz hz hd hi
    have hi' := drop_nil hd hi
    subst hi' hz
    rw [x_iter]
    simp [u22_0, idxI]
    exact ⟨_, rfl, fun h => by omega⟩
  | cons a r ih =>
    intro i iz hz hd hi
    subst hz
    obtain ⟨hlt, hli, hd'⟩ := drop_cons hd
    have hi1 : ((i : Int) + 1) = ((i + 1 : Nat) : Int) := by omega
    have hw : wrapF .i64 ((i : Int) + 1) = (i : Int) + 1 := wrap_id _ (by omega) (by omega)
    rw [x_iter]
    by_cases h : t = a
    · simp [u22_0, hlt, hli, encI, idxI, h]
      exact ⟨_, by simp [show ¬ ((i : Int) < 0) by omega]; rfl, fun _ => rfl⟩
    · have := ih (i + 1) _ hi1 hd' hlt
      simp [u22_0, hlt, hli, encI, idxI, h, hw]
      exact this
theorem pIx (l : List Int) (hl : l.length < 1000000) (t : Int) : pureI Try.prog prims dx tbl 22 [.list (l.map encI), .int .i64 t] = some (.int .i64 (idxI t l 0)) := by
  rw [pureI_of (rfl : tbl 22 = some c22)]
  obtain ⟨T', h1, h2⟩ := loopIx t l hl l 0 0 rfl rfl (Nat.zero_le _)
  by_cases h : idxI t l 0 < 0
  · have hn : idxI t l 0 = -1 := by
      have : ∀ (r : List Int) (n : Nat), idxI t r n < 0 → idxI t r n = -1 := by
        intro r
        induction r with
        | nil => intro n _; rfl
        | cons z r ih =>
          intro n hn
          simp only [idxI] at hn ⊢
          split at hn
          · omega
          · rename_i hne
            rw [if_neg hne]
            exact ih _ hn
      exact this l 0 h
    simp [h] at h1
    simp [c22, h1, hn]
  · simp [h] at h1
    simp [c22, h1, h2 (by omega)]
theorem rIx (ds : List D) (st : Dv.St) : callI Try.prog prims dx tbl 22 ds st = callR Try.prog prims dx tbl 22 ds st (frL (fr st 6) ds) := callRw rfl rfl (rfl : tbl 22 = some c22) rfl ds st
theorem pCon (l : List Int) (hl : l.length < 1000000) (t : Int) : pureI Try.prog prims dx tbl 14 [.list (l.map encI), .int .i64 t] = some (.bool (decide (t ∈ l))) := by
  rw [pureI_of (rfl : tbl 14 = some c14)]
  have h1 := pIx l hl t
  have h2 := idxI_in t l 0
  simp [c14, rIx, callR, h1, h2]
theorem rCon (ds : List D) (st : Dv.St) : callI Try.prog prims dx tbl 14 ds st = callR Try.prog prims dx tbl 14 ds st (frL (fr st 6) ds) := callRw rfl rfl (rfl : tbl 14 = some c14) rfl ds st
/-! ### know.Has -/
structure Kn where
  up : Int
  more : List Int
def encK (k : Kn) : List F := [.int .i64 k.up, .list (k.more.map encI)]
def hasK (k : Kn) (n : Int) : Bool := decide (1 ≤ n ∧ n ≤ k.up) || decide (n ∈ k.more)
theorem pHas (k : Kn) (hl : k.more.length < 1000000) (n : Int) : pureI Try.prog prims dx tbl 6 [.agg (encK k), .int .i64 n] = some (.bool (hasK k n)) := by
  rw [pureI_of (rfl : tbl 6 = some c6)]
  have h1 := pCon k.more hl n
  by_cases a1 : 1 ≤ n
  · by_cases a2 : n ≤ k.up
    · simp [c6, encK, hasK, rCon, callR, h1, a1, a2]
    · simp [c6, encK, hasK, rCon, callR, h1, a1, a2]
  · simp [c6, encK, hasK, rCon, callR, h1, a1]
theorem rHas (ds : List D) (st : Dv.St) : callI Try.prog prims dx tbl 6 ds st = callR Try.prog prims dx tbl 6 ds st (frL (fr st 6) ds) := callRw rfl rfl (rfl : tbl 6 = some c6) rfl ds st
/-! ### know.whole -/
def wholeK (up : Int) : List Int → Kn
  | [] => ⟨up, []⟩
  | m :: r => if m ≤ up + 1 then wholeK (if up < m then m else up) r else ⟨up, m :: r⟩
theorem rCloneI (ds : List D) (st : Dv.St) : callI Try.prog prims dx tbl 10 ds st = orC (dClone 1 8 ds st) (callI0 Try.prog prims dx tbl 10 ds st) := callRwX rfl rfl ds st
theorem rInsI (ds : List D) (st : Dv.St) : callI Try.prog prims dx tbl 12 ds st = orC (dPrim (.ins 1 8) ds st) (callI0 Try.prog prims dx tbl 12 ds st) := callRwP rfl ds st
end Go.Proofs.Ytoojkgoljghddaa.Pl
