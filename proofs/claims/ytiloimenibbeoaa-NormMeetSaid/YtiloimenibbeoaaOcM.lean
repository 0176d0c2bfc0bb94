/-
  What is proved here: what two boxes both let through, as the document has it: the whole.
  Conditions: none.
-/
import Derived.Test.YtiloimenibbeoaaObM
set_option linter.unusedVariables false
set_option linter.unusedSimpArgs false
set_option maxRecDepth 100000
set_option maxHeartbeats 8000000
namespace Go.Proofs.Ytiloimenibbeoaa.Pl
open Go Go.Proofs Go.Proofs.Ev Go.Proofs.Dv Cd
attribute [local simp] x_pure x_skip x_reg x_drw x_seq x_cond x_block x_frz x_loop' Tm.keep_nil x_exit x_ret k_seq k_seq_ret k_seq_exit k_seq_none k_seq_ite k_cond k_block k_block_ret k_block_exit k_block_none k_block_ite k_iter k_iter_ret k_iter_exit k_iter_none k_iter_ite k_reg k_reg_none k_reg_ite x_is_nil x_is x_is_g k_ins k_ins_none k_ins_ite k_grd x_ord_nil x_ord x_ord_g k_ord k_ord_none k_ord_ite k_ogrd k_out_ret k_out k_out_none k_out_ite k_pure k_pure_none k_pure_ite startD dI dA deo Tm.at Tm.dst Tm.set Tm.put Tm.keep dW dRes oneOfD mkTup mkAgg mkFn allF frL fr vD vD1 vF vFL dBin dEq dNil isNilD dScal F.cv eBin sameKind eInt eStr cellsD oneD F.one dFill putAtD chunk dbnd dSrc St.own St.drop St.still St.fresh chkQ stillQ freshQ lOf rdOf rdOK undefD F.full F.fullL List.mapIdx_cons strip allOne_nil allOne_cons allOne_append allLen_nil allLen_cons allLen_append roomOK_small filterT y_mv y_pick y_new y_box y_build y_bslice y_ld1 y_ldn y_nilchk y_bin y_not y_conv y_bytes y_string y_ifc y_fn y_cut y_cuts y_fa y_fld y_ia y_idx y_idxs y_ext y_len y_lenstr y_app y_grow y_mks y_slow y_call y_callv y_inv y_extc x_it_st x_it_clr x_it_cpy k_addT k_addT_none k_addT_ite k_orU k_orU_none dU D.turn turnL Tm.turn turnS St.turn turnRows_length

def longer (a b : Box) : Tx := if a.tag.length < b.tag.length then b.tag else a.tag
def meetX (s0 s1 s2 s3 : Side) (a b : Box) : Option Box := if front a.tag (longer a b) = true ∧ front b.tag (longer a b) = true ∧ ((riseB (a.nots ++ b.nots)).any fun x => front x (longer a b)) = false then some ⟨s0, s1, s2, s3, longer a b, riseB (a.nots ++ b.nots)⟩ else none
theorem front_self (p : Tx) : front p p = true := (front_iff p p).2 (List.prefix_refl p)
theorem meetX_eq (s0 s1 s2 s3 : Side) (a b : Box) : meetX s0 s1 s2 s3 a b = if a.tag.length < b.tag.length then meetT s0 s1 s2 s3 b a else meetT s0 s1 s2 s3 a b := by
  unfold meetX longer meetT
  split
  · have e : cmpc (sortB leS (b.nots ++ a.nots)) = riseB (a.nots ++ b.nots) := rise_comm b.nots a.nots
    rw [e]
    simp [front_self]
  · have e : cmpc (sortB leS (a.nots ++ b.nots)) = riseB (a.nots ++ b.nots) := rfl
    rw [e]
    simp [front_self]
def xvar (s0 s1 s2 s3 : Side) (tg : Tx) (N : List Tx) : Bool × List D := (true, [.fz (.int .i64 s0.h), .fz (.int .i64 s0.lo), .fz (.int .i64 s0.hi), .fz (.int .i64 s1.h), .fz (.int .i64 s1.lo), .fz (.int .i64 s1.hi), .fz (.int .i64 s2.h), .fz (.int .i64 s2.lo), .fz (.int .i64 s2.hi), .fz (.int .i64 s3.h), .fz (.int .i64 s3.lo), .fz (.int .i64 s3.hi), .fz (.str tg), .fz (.list (N.map encT))])
def PostX1 (st : Dv.St) (b : Bool) (r : Option DSt) : Prop := if b = true then ∃ T' : Tm, T'.at 4 = .ptr 2 0 ∧ T'.at 5 = .fz (.bool false) ∧ r = some (.ret, T', st) else ∃ T' : Tm, T'.keep [4, 6] = [(4, .ptr 2 0), (6, .ptr 3 0)] ∧ r = some (.exit 3, T', st)
theorem loopX1 (v0 v1 : Bool × List D) (s0 s1 s2 s3 : Side) (tg : Tx) (N : List Tx) (hN : N.length ≤ 1000) (R : List (Bool × List D)) (L : List Nat) (c : Nat) : ∀ (r : List Tx) (i : Nat) (iz : Int), iz = i → N.drop i = r → i ≤ N.length →
    PostX1 ⟨v0 :: v1 :: varZ :: xvar s0 s1 s2 s3 tg N :: R, L, c⟩ (r.any fun x => front x tg) (iterI (dCw Try.prog (callI Try.prog prims dx tbl) l20_1) [4, 6, 11] [(4, .ptr 2 0), (6, .ptr 3 0), (11, .fz (.int .i64 iz))] ⟨v0 :: v1 :: varZ :: xvar s0 s1 s2 s3 tg N :: R, L, c⟩) := by
  intro r
  induction r with
  | nil =>
    intro i iz hz hd hi
    have hi' := drop_nil hd hi
    subst hi' hz
    simp only [xvar, varZ]
    rw [x_iter]
    simp [u20_1]
    simp only [PostX1, Bool.false_eq_true, if_false]
    exact ⟨_, by simp [Tm.keep], rfl⟩
  | cons x r ih =>
    intro i iz hz hd hi
    subst hz
    obtain ⟨hlt, hli, hd'⟩ := drop_cons hd
    have c1 : -100000 ≤ (i : Int) + 1 ∧ (i : Int) + 1 ≤ 100000 := by omega
    have goal := ih (i + 1) ((i : Int) + 1) (by omega) hd' hlt
    have hp := pBegins tg x
    rw [List.any_cons]
    simp only [xvar, varZ] at goal ⊢
    rw [x_iter]
    cases hf : front x tg with
    | true =>
      rw [hf] at hp
      simp only [Bool.true_or, PostX1, if_true]
      refine ⟨_, ?_, ?_, (by
        simp [u20_1, hlt, hli, encT, rBegins, callR, hp]; rfl)⟩
      · simp [Tm.at]
      · simp [Tm.at]
    | false =>
      rw [hf] at hp
      rw [Bool.false_or]
      simp [u20_1, hlt, hli, encT, rBegins, callR, hp, wz _ c1]
      exact goal
theorem rmeetNone (a b : Box) {T' : Tm} {st' : Dv.St} (h1 : T'.at 4 = .ptr 2 0) (h2 : T'.at 5 = .fz (.bool false)) (h3 : st'.S[2]? = some varZ) (e : iterI (dCw Try.prog (callI Try.prog prims dx tbl) l20_0) [2, 3, 4, 6, 7] [(2, .ptr 0 0), (3, .ptr 1 0), (4, .ptr 2 0), (6, .ptr 3 0), (7, .fz (.int .i64 0))] ⟨varB a :: varB b :: varZ :: (true, [.fz (.int .i64 0), .fz (.int .i64 0), .fz (.int .i64 0), .fz (.int .i64 0), .fz (.int .i64 0), .fz (.int .i64 0), .fz (.int .i64 0), .fz (.int .i64 0), .fz (.int .i64 0), .fz (.int .i64 0), .fz (.int .i64 0), .fz (.int .i64 0), .fz (.str a.tag), .nils]) :: [], [], 0⟩ = some (.ret, T', st')) :
    dPureW Try.prog (callI Try.prog prims dx tbl) c20 [.agg (encB a), .agg (encB b)] = some (.tup [.agg (encB box0), .bool false]) := by
  simp only [varB, varZ, encB, List.map_cons, List.map_nil] at e h3
  simp [c20, encB, box0, side0, e, h1, h2, h3]
theorem rmeetSome (a b : Box) (ha : a.nots.length ≤ 100) (hb : b.nots.length ≤ 100) (s0 s1 s2 s3 : Side) (R : List (Bool × List D)) {T' : Tm} (k1 : T'.keep [2, 3, 4, 6] = [(2, .ptr 0 0), (3, .ptr 1 0), (4, .ptr 2 0), (6, .ptr 3 0)]) (e : iterI (dCw Try.prog (callI Try.prog prims dx tbl) l20_0) [2, 3, 4, 6, 7] [(2, .ptr 0 0), (3, .ptr 1 0), (4, .ptr 2 0), (6, .ptr 3 0), (7, .fz (.int .i64 0))] ⟨varB a :: varB b :: varZ :: (true, [.fz (.int .i64 0), .fz (.int .i64 0), .fz (.int .i64 0), .fz (.int .i64 0), .fz (.int .i64 0), .fz (.int .i64 0), .fz (.int .i64 0), .fz (.int .i64 0), .fz (.int .i64 0), .fz (.int .i64 0), .fz (.int .i64 0), .fz (.int .i64 0), .fz (.str a.tag), .nils]) :: [], [], 0⟩ = some (.exit 0, T', ⟨varB a :: varB b :: varZ :: (true, [.fz (.int .i64 s0.h), .fz (.int .i64 s0.lo), .fz (.int .i64 s0.hi), .fz (.int .i64 s1.h), .fz (.int .i64 s1.lo), .fz (.int .i64 s1.hi), .fz (.int .i64 s2.h), .fz (.int .i64 s2.lo), .fz (.int .i64 s2.hi), .fz (.int .i64 s3.h), .fz (.int .i64 s3.lo), .fz (.int .i64 s3.hi), .fz (.str a.tag), .nils]) :: R, [], 0⟩)) :
    dPureW Try.prog (callI Try.prog prims dx tbl) c20 [.agg (encB a), .agg (encB b)] = some (.tup [.agg (encB ((meetX s0 s1 s2 s3 a b).getD box0)), .bool (meetX s0 s1 s2 s3 a b).isSome]) := by
  have p1 := pBegins (longer a b) a.tag
  have p2 := pBegins (longer a b) b.tag
  have hR := pRise (a.nots ++ b.nots) (by rw [List.length_append]; omega)
  have hl := fun R L c => loopX1 (varB a) (varB b) s0 s1 s2 s3 (longer a b) (riseB (a.nots ++ b.nots)) (by have := rise_len (a.nots ++ b.nots); rw [List.length_append] at this; omega) R L c (riseB (a.nots ++ b.nots)) 0 0 rfl rfl (Nat.zero_le _)
  unfold meetX
  simp only [xvar] at hl
  generalize riseB (a.nots ++ b.nots) = N at *
  have hll : longer a b = if a.tag.length < b.tag.length then b.tag else a.tag := rfl
  generalize longer a b = X at *
  generalize (N.any fun x => front x X) = w at *
  generalize front a.tag X = f at *
  generalize front b.tag X = g at *
  simp only [varB, varZ, encB, List.map_cons, List.map_nil] at e hl ⊢
  rw [List.map_append] at hR
  obtain ⟨o1, o2⟩ := encT_ok a.nots
  obtain ⟨o3, o4⟩ := encT_ok b.nots
  have la : (a.nots.map encT).length = a.nots.length := List.length_map _
  have lb : (b.nots.map encT).length = b.nots.length := List.length_map _
  generalize a.nots.map encT = A at *
  generalize b.nots.map encT = B at *
  have r1 : roomOK 16 A.length := roomOK_small (by omega) (by omega)
  have r2 : roomOK 16 (A.length + B.length) := roomOK_small (by omega) (by omega)
  have hm := @mapI (Bool × List D)
  by_cases hlt : a.tag.length < b.tag.length
  · rw [if_pos hlt] at hll
    subst hll
    have hlt' : (a.tag.length : Int) < b.tag.length := by omega
    cases f
    · simp [c20, bsQ, onceQ, encB, box0, side0, e, k1, hlt, hlt', rBegins, callR, p1, p2]
    cases g
    · simp [c20, bsQ, onceQ, encB, box0, side0, e, k1, hlt, hlt', rBegins, callR, p1, p2]
    have hl := hl R [] 3
    cases w
    · simp only [PostX1, Bool.false_eq_true, if_false] at hl
      obtain ⟨T2, k2, j2⟩ := hl
      simp [c20, bsQ, onceQ, encB, e, k1, hlt, hlt', rBegins, callR, p1, p2, rRise, hR, o1, o2, o3, o4, r1, r2, mapI, mapI2, k2, j2]
    · simp only [PostX1, if_true] at hl
      obtain ⟨T2, k2, k3, j2⟩ := hl
      simp [c20, bsQ, onceQ, encB, box0, side0, e, k1, hlt, hlt', rBegins, callR, p1, p2, rRise, hR, o1, o2, o3, o4, r1, r2, mapI, mapI2, k2, k3, j2]
  · rw [if_neg hlt] at hll
    subst hll
    have hlt' : ¬ (a.tag.length : Int) < b.tag.length := by omega
    cases f
    · simp [c20, bsQ, onceQ, encB, box0, side0, e, k1, hlt, hlt', rBegins, callR, p1, p2]
    cases g
    · simp [c20, bsQ, onceQ, encB, box0, side0, e, k1, hlt, hlt', rBegins, callR, p1, p2]
    have hl := hl R [] 3
    cases w
    · simp only [PostX1, Bool.false_eq_true, if_false] at hl
      obtain ⟨T2, k2, j2⟩ := hl
      simp [c20, bsQ, onceQ, encB, e, k1, hlt, hlt', rBegins, callR, p1, p2, rRise, hR, o1, o2, o3, o4, r1, r2, mapI, mapI2, k2, j2]
    · simp only [PostX1, if_true] at hl
      obtain ⟨T2, k2, k3, j2⟩ := hl
      simp [c20, bsQ, onceQ, encB, box0, side0, e, k1, hlt, hlt', rBegins, callR, p1, p2, rRise, hR, o1, o2, o3, o4, r1, r2, mapI, mapI2, k2, k3, j2]
theorem pRMeet (a b : Box) {n m : Nat} (ha : BOk a n) (hb : BOk b m) (hn : n ≤ 100) (hm : m ≤ 100) : pureI Try.prog prims dx tbl 20 [.agg (encB a), .agg (encB b)] = some (.tup [.agg (encB ((meetB a b).getD box0)), .bool (meetB a b).isSome]) := by
  rw [pureI_of (rfl : tbl 20 = some c20)]
  unfold meetB
  cases h0 : (sideB a.k0 b.k0).2 with
  | false =>
    obtain ⟨T', st', a1, a2, a3, e⟩ := roundR0f a b a.tag [] ha.k0 hb.k0 h0
    rw [if_neg (by simp)]
    exact rmeetNone a b a1 a2 a3 e
  | true =>
    obtain ⟨R0, e0⟩ := roundR0t a b a.tag [] ha.k0 hb.k0 h0
    cases h1 : (sideB a.k1 b.k1).2 with
    | false =>
      obtain ⟨T', st', a1, a2, a3, e⟩ := roundR1f a b a.tag (sideB a.k0 b.k0).1 R0 ha.k1 hb.k1 h1
      rw [if_neg (by simp)]
      exact rmeetNone a b a1 a2 a3 (e0.trans e)
    | true =>
      obtain ⟨R1, e1⟩ := roundR1t a b a.tag (sideB a.k0 b.k0).1 R0 ha.k1 hb.k1 h1
      cases h2 : (sideB a.k2 b.k2).2 with
      | false =>
        obtain ⟨T', st', a1, a2, a3, e⟩ := roundR2f a b a.tag (sideB a.k0 b.k0).1 (sideB a.k1 b.k1).1 R1 ha.k2 hb.k2 h2
        rw [if_neg (by simp)]
        exact rmeetNone a b a1 a2 a3 (e0.trans (e1.trans e))
      | true =>
        obtain ⟨R2, e2⟩ := roundR2t a b a.tag (sideB a.k0 b.k0).1 (sideB a.k1 b.k1).1 R1 ha.k2 hb.k2 h2
        cases h3 : (sideB a.k3 b.k3).2 with
        | false =>
          obtain ⟨T', st', a1, a2, a3, e⟩ := roundR3f a b a.tag (sideB a.k0 b.k0).1 (sideB a.k1 b.k1).1 (sideB a.k2 b.k2).1 R2 ha.k3 hb.k3 h3
          rw [if_neg (by simp)]
          exact rmeetNone a b a1 a2 a3 (e0.trans (e1.trans (e2.trans e)))
        | true =>
          obtain ⟨R3, e3⟩ := roundR3t a b a.tag (sideB a.k0 b.k0).1 (sideB a.k1 b.k1).1 (sideB a.k2 b.k2).1 R2 ha.k3 hb.k3 h3
          obtain ⟨T', k1, e4⟩ := roundR4 a b a.tag (sideB a.k0 b.k0).1 (sideB a.k1 b.k1).1 (sideB a.k2 b.k2).1 (sideB a.k3 b.k3).1 R3
          have := rmeetSome a b (by have := ha.nots; omega) (by have := hb.nots; omega) _ _ _ _ R3 k1 (e0.trans (e1.trans (e2.trans (e3.trans e4))))
          rw [meetX_eq] at this
          rw [if_pos ⟨rfl, rfl, rfl, rfl⟩]
          exact this
theorem rRMeet (ds : List D) (st : Dv.St) : callI Try.prog prims dx tbl 20 ds st = callR Try.prog prims dx tbl 20 ds st (frL (fr st 6) ds) := callRw rfl rfl (rfl : tbl 20 = some c20) rfl ds st
end Go.Proofs.Ytiloimenibbeoaa.Pl
