/-
  What is proved here: the law of the order in which numbers come.
  Conditions: none.
-/
import Derived.Test.YtoojkgoljghddaaObM
set_option linter.unusedVariables false
set_option linter.unusedSimpArgs false
set_option maxRecDepth 100000
set_option maxHeartbeats 8000000
namespace Go.Proofs.Ytoojkgoljghddaa.Pl
open Go Go.Proofs Go.Proofs.Ev Go.Proofs.Dv Cd
attribute [local simp] x_pure x_skip x_reg x_drw x_seq x_cond x_block x_frz x_loop' Tm.keep_nil x_exit x_ret k_seq k_seq_ret k_seq_exit k_seq_none k_seq_ite k_cond k_block k_block_ret k_block_exit k_block_none k_block_ite k_iter k_iter_ret k_iter_exit k_iter_none k_iter_ite k_reg k_reg_none k_reg_ite x_is_nil x_is x_is_g k_ins k_ins_none k_ins_ite k_grd x_ord_nil x_ord x_ord_g k_ord k_ord_none k_ord_ite k_ogrd k_out_ret k_out k_out_none k_out_ite k_pure k_pure_none k_pure_ite startD dI dA deo Tm.at Tm.dst Tm.set Tm.put Tm.keep dW dRes oneOfD mkTup mkAgg mkFn allF frL fr vD vD1 vF vFL dBin dEq dNil isNilD dScal F.cv eBin sameKind eInt eStr cellsD oneD F.one dFill putAtD chunk dbnd dSrc St.own St.drop St.still St.fresh chkQ stillQ freshQ lOf rdOf rdOK undefD F.full F.fullL List.mapIdx_cons strip allOne_nil allOne_cons allOne_append allLen_nil allLen_cons allLen_append roomOK_small filterT y_mv y_pick y_new y_box y_build y_bslice y_ld1 y_ldn y_nilchk y_bin y_not y_conv y_bytes y_string y_ifc y_fn y_cut y_cuts y_fa y_fld y_ia y_idx y_idxs y_ext y_len y_lenstr y_app y_grow y_mks y_mget y_mop dM y_slow y_call y_callv y_inv y_extc x_it_st x_it_clr x_it_cpy k_addT k_addT_none k_addT_ite k_orU k_orU_none dU D.turn turnL Tm.turn turnS St.turn turnRows_length

theorem qBegun2 (st : Dv.St) : callI Try.prog prims dx tbl 4 [] st = some (.fz (.bool true), st, []) := callI_prim (p := .yes) rfl rfl
theorem pHas5 (k : Kn) (h : K50 k) (n : Int) : pureI Try.prog prims dx tbl 6 [.agg (encK k), .int .i64 n] = some (.bool (hasK k n)) := pHas k (by have := h.len; omega) n
theorem pAdd5 (k : Kn) (h : K50 k) (z : Int) (hz : 0 ≤ z ∧ z < 256) : pureI Try.prog prims dx tbl 5 [.agg (encK k), .int .i64 (z % 50 + 1)] = some (.agg (encK (addK k (pk z)))) := by
  have hu := h.up
  have hl := h.len
  exact pAdd k hu.1 (by omega) (fun m hm => by have := (h.more m hm).2; omega) (by omega) h.ok.rise (pk z)
def encU (z : Int) : List F := [.int .u8 z]
def MoreD (k : Kn) (d : D) : Prop := (k.more = [] ∧ d = .nils) ∨ d = .fz (.list (k.more.map encI))
/-! ### The first loop -/
def PostA (l : List Int) (K B : Kn) (r : Option DSt) : Prop := ∃ (d e : D) (T' : Tm), MoreD K d ∧ MoreD B e ∧ T'.keep [0, 5, 6] = [(0, .fz (.list (l.map encU))), (5, .ptr 0 0), (6, .ptr 1 0)] ∧ r = some (.exit 0, T', ⟨[(true, [.fz (.int .i64 K.up), d]), (true, [.fz (.int .i64 B.up), e])], [], 0⟩)
theorem loopA (l : List Int) (hl : l.length ≤ 30) (hb : U8 l) (t : Nat) (ht : t < 256) : ∀ (r : List Int) (i : Nat) (iz : Int) (A B : Kn) (d e : D), iz = i → l.drop i = r → i ≤ l.length → K50 A → K50 B → MoreD A d → MoreD B e →
    PostA l (madeF A r) (madeF B ((rot l t).drop i)) (iterI (dCw Try.prog (callI Try.prog prims dx tbl) l3_0) [0, 1, 5, 6, 7] [(0, .fz (.list (l.map encU))), (1, .fz (.int .u8 t)), (5, .ptr 0 0), (6, .ptr 1 0), (7, .fz (.int .i64 iz))] ⟨[(true, [.fz (.int .i64 A.up), d]), (true, [.fz (.int .i64 B.up), e])], [], 0⟩) := by
  intro r
  induction r with
  | nil =>
    intro i iz A B d e hz hd hi hA hB mA mB
    have hi' := drop_nil hd hi
    subst hi' hz
    have hrd : (rot l t).drop l.length = [] := List.drop_eq_nil_of_le (by simp [rot])
    rw [hrd, x_iter]
    simp [u3_0, madeF]
    exact ⟨d, e, _, mA, mB, by simp [Tm.keep], rfl⟩
  | cons a r ih =>
    intro i iz A B d e hz hd hi hA hB mA mB
    subst hz
    obtain ⟨hlt, hli, hd'⟩ := drop_cons hd
    have ha := hb a (by rw [← hli]; exact List.getElem_mem hlt)
    have hm : (i + t) % l.length < l.length := Nat.mod_lt _ (by omega)
    obtain ⟨b, hbb⟩ : ∃ b, b = l[(i + t) % l.length] := ⟨_, rfl⟩
    have hb2 := hb b (by rw [hbb]; exact List.getElem_mem hm)
    have hrd := rot_drop l t i hlt
    rw [show l.getD ((i + t) % l.length) 0 = b by rw [hbb, List.getD_eq_getElem?_getD, List.getElem?_eq_getElem hm]; rfl] at hrd
    rw [hrd]
    have pa := pk_in ha
    have pb := pk_in hb2
    have goal := fun d e m1 m2 => ih (i + 1) ((i : Int) + 1) (addK A (pk a)) (addK B (pk b)) d e (by omega) hd' hlt (hA.add pa.1 pa.2) (hB.add pb.1 pb.2) m1 m2
    have h1 := pAdd5 A hA a ha
    have h2 := pAdd5 B hB b hb2
    have ta : a.tmod 50 = a % 50 := Int.tmod_eq_emod_of_nonneg ha.1
    have tb : b.tmod 50 = b % 50 := Int.tmod_eq_emod_of_nonneg hb2.1
    have tn : ((i : Int) + t).tmod l.length = (((i + t) % l.length : Nat) : Int) := by
      rw [Int.tmod_eq_emod_of_nonneg (by omega)]
      simp
    have c1 : -100000 ≤ (i : Int) + 1 ∧ (i : Int) + 1 ≤ 100000 := by omega
    have c2 : -100000 ≤ (i : Int) + t ∧ (i : Int) + t ≤ 100000 := by omega
    have c3 : -100000 ≤ (t : Int) ∧ (t : Int) ≤ 100000 := by omega
    have ca : -100000 ≤ a % 50 ∧ a % 50 ≤ 100000 := by omega
    have cb : -100000 ≤ b % 50 ∧ b % 50 ≤ 100000 := by omega
    have ca1 : -100000 ≤ a % 50 + 1 ∧ a % 50 + 1 ≤ 100000 := by omega
    have cb1 : -100000 ≤ b % 50 + 1 ∧ b % 50 + 1 ≤ 100000 := by omega
    have oa : (1 : Int) + a % 50 = a % 50 + 1 := by omega
    have ob : (1 : Int) + b % 50 = b % 50 + 1 := by omega
    have hl0 : ¬ l = [] := fun e => by rw [e] at hlt; simp at hlt
    have hl0' : ¬ (l.length : Int) = 0 := by omega
    have hm' : l[(i + t) % l.length] = b := hbb.symm
    show PostA l (madeF (addK A (pk a)) r) (madeF (addK B (pk b)) _) _
    generalize addK A (pk a) = A2 at *
    generalize addK B (pk b) = B2 at *
    generalize hqa : a % 50 = qa at *
    generalize hqb : b % 50 = qb at *
    generalize hj : (i + t) % l.length = j at *
    rw [x_iter]
    simp only [encK] at h1 h2
    rcases mA with ⟨h0, rfl⟩ | rfl <;> rcases mB with ⟨h3, rfl⟩ | rfl
    · rw [h0] at h1
      rw [h3] at h2
      simp at h1 h2
      simp [u3_0, hlt, hli, encU, ta, tb, tn, hl0, hl0', hm, hm', oa, ob, wz _ c1, wz _ c2, wz _ c3, wz _ ca, wz _ cb, wz _ ca1, wz _ cb1, rAdd, callR, h1, h2]
      exact goal _ _ (.inr rfl) (.inr rfl)
    · rw [h0] at h1
      simp at h1
      simp [u3_0, hlt, hli, encU, ta, tb, tn, hl0, hl0', hm, hm', oa, ob, wz _ c1, wz _ c2, wz _ c3, wz _ ca, wz _ cb, wz _ ca1, wz _ cb1, rAdd, callR, h1, h2]
      exact goal _ _ (.inr rfl) (.inr rfl)
    · rw [h3] at h2
      simp at h2
      simp [u3_0, hlt, hli, encU, ta, tb, tn, hl0, hl0', hm, hm', oa, ob, wz _ c1, wz _ c2, wz _ c3, wz _ ca, wz _ cb, wz _ ca1, wz _ cb1, rAdd, callR, h1, h2]
      exact goal _ _ (.inr rfl) (.inr rfl)
    · simp [u3_0, hlt, hli, encU, ta, tb, tn, hl0, hl0', hm, hm', oa, ob, wz _ c1, wz _ c2, wz _ c3, wz _ ca, wz _ cb, wz _ ca1, wz _ cb1, rAdd, callR, h1, h2]
      exact goal _ _ (.inr rfl) (.inr rfl)
/-! ### The second loop -/
def PostB (l : List Int) (cA : List D) (B : Kn) (r : Option DSt) : Prop := ∃ (e : D) (T' : Tm), MoreD B e ∧ T'.keep [0, 5, 6] = [(0, .fz (.list (l.map encU))), (5, .ptr 0 0), (6, .ptr 1 0)] ∧ r = some (.exit 2, T', ⟨[(true, cA), (true, [.fz (.int .i64 B.up), e])], [], 0⟩)
theorem loopB (l : List Int) (hl : l.length ≤ 30) (hb : U8 l) (cA : List D) : ∀ (i : Nat) (iz : Int) (B : Kn) (e : D), iz = (i : Int) - 1 → i ≤ l.length → K50 B → MoreD B e →
    PostB l cA (madeF B (l.take i).reverse) (iterI (dCw Try.prog (callI Try.prog prims dx tbl) l3_1) [0, 5, 6, 8] [(0, .fz (.list (l.map encU))), (5, .ptr 0 0), (6, .ptr 1 0), (8, .fz (.int .i64 iz))] ⟨[(true, cA), (true, [.fz (.int .i64 B.up), e])], [], 0⟩) := by
  intro i
  induction i with
  | zero =>
    intro iz B e hz hi hB mB
    have hz' : iz = -1 := by omega
    subst hz'
    rw [x_iter]
    simp [u3_1, madeF]
    exact ⟨e, _, mB, by simp [Tm.keep], rfl⟩
  | succ i ih =>
    intro iz B e hz hi hB mB
    have hz' : iz = (i : Int) := by omega
    subst hz'
    have hlt : i < l.length := by omega
    obtain ⟨a, haa⟩ : ∃ a, a = l[i] := ⟨_, rfl⟩
    have ha := hb a (by rw [haa]; exact List.getElem_mem hlt)
    have ht : (l.take (i + 1)).reverse = a :: (l.take i).reverse := by
      rw [List.take_succ_eq_append_getElem hlt, ← haa]
      simp
    rw [ht]
    have pa := pk_in ha
    have goal := fun e m1 => ih ((i : Int) - 1) (addK B (pk a)) e rfl (by omega) (hB.add pa.1 pa.2) m1
    have h1 := pAdd5 B hB a ha
    have ta : a.tmod 50 = a % 50 := Int.tmod_eq_emod_of_nonneg ha.1
    have c1 : -100000 ≤ (i : Int) - 1 ∧ (i : Int) - 1 ≤ 100000 := by omega
    have ca : -100000 ≤ a % 50 ∧ a % 50 ≤ 100000 := by omega
    have ca1 : -100000 ≤ a % 50 + 1 ∧ a % 50 + 1 ≤ 100000 := by omega
    have oa : (1 : Int) + a % 50 = a % 50 + 1 := by omega
    have hli : l[i] = a := haa.symm
    show PostB l cA (madeF (addK B (pk a)) _) _
    generalize addK B (pk a) = B2 at *
    generalize hqa : a % 50 = qa at *
    rw [x_iter]
    simp only [encK] at h1
    rcases mB with ⟨h0, rfl⟩ | rfl
    · rw [h0] at h1
      simp at h1
      simp [u3_1, hlt, hli, encU, ta, oa, wz _ c1, wz _ ca, wz _ ca1, rAdd, callR, h1]
      exact goal _ (.inr rfl)
    · simp [u3_1, hlt, hli, encU, ta, oa, wz _ c1, wz _ ca, wz _ ca1, rAdd, callR, h1]
      exact goal _ (.inr rfl)
/-! ### The third loop -/
def PostC (cA cB : List D) (ks : List Int) (r : Option DSt) : Prop := ∃ T' : Tm, T'.keep [5, 6, 9] = [(5, .ptr 0 0), (6, .ptr 1 0), (9, .mp 2)] ∧ r = some (.exit 4, T', ⟨[(true, cA), (true, cB), (true, ks.map ent)], [], 0⟩)
theorem loopC (l : List Int) (hl : l.length ≤ 30) (hb : U8 l) (cA cB : List D) : ∀ (r : List Int) (i : Nat) (iz : Int) (ks : List Int), iz = i → l.drop i = r → i ≤ l.length →
    PostC cA cB (seenF ks r) (iterI (dCw Try.prog (callI Try.prog prims dx tbl) l3_2) [0, 5, 6, 9, 10] [(0, .fz (.list (l.map encU))), (5, .ptr 0 0), (6, .ptr 1 0), (9, .mp 2), (10, .fz (.int .i64 iz))] ⟨[(true, cA), (true, cB), (true, ks.map ent)], [], 0⟩) := by
  intro r
  induction r with
  | nil =>
    intro i iz ks hz hd hi
    have hi' := drop_nil hd hi
    subst hi' hz
    rw [x_iter]
    simp [u3_2, seenF]
    exact ⟨_, by simp [Tm.keep], rfl⟩
  | cons a r ih =>
    intro i iz ks hz hd hi
    subst hz
    obtain ⟨hlt, hli, hd'⟩ := drop_cons hd
    have ha := hb a (by rw [← hli]; exact List.getElem_mem hlt)
    have goal := ih (i + 1) ((i : Int) + 1) (insS ks (pk a)) (by omega) hd' hlt
    have ta : a.tmod 50 = a % 50 := Int.tmod_eq_emod_of_nonneg ha.1
    have c1 : -100000 ≤ (i : Int) + 1 ∧ (i : Int) + 1 ≤ 100000 := by omega
    have ca : -100000 ≤ a % 50 ∧ a % 50 ≤ 100000 := by omega
    have ca1 : -100000 ≤ pk a ∧ pk a ≤ 100000 := by unfold pk; omega
    have oa : (1 : Int) + a % 50 = pk a := by unfold pk; omega
    show PostC cA cB (seenF (insS ks (pk a)) r) _
    generalize pk a = p at *
    generalize a % 50 = q at *
    rw [x_iter]
    by_cases hk : p ∈ ks
    · obtain ⟨j, f1, f2⟩ := find_some ks p 0 hk
      rw [Nat.zero_add] at f1
      have hs : insS ks p = ks := if_pos hk
      rw [hs] at goal ⊢
      simp only [ent] at f2
      generalize hE : ks.map ent = E at *
      simp [u3_2, hlt, hli, encU, ta, oa, wz _ c1, wz _ ca, wz _ ca1, f1, f2]
      exact goal
    · have f1 := find_none ks p 0 hk
      have hs : insS ks p = ks ++ [p] := if_neg hk
      rw [hs] at goal ⊢
      rw [List.map_append, List.map_cons, List.map_nil] at goal
      simp only [ent] at goal
      simp [u3_2, hlt, hli, encU, ta, oa, wz _ c1, wz _ ca, wz _ ca1, f1]
      exact goal
/-! ### The fourth loop -/
def varK (k : Kn) : Bool × List D := (true, [.fz (.int .i64 k.up), .fz (.list (k.more.map encI))])
def PostE (S : List (Bool × List D)) (r : Option DSt) : Prop := ∃ T' : Tm, T'.keep [5, 6, 9] = [(5, .ptr 0 0), (6, .ptr 1 0), (9, .mp 2)] ∧ r = some (.exit 6, T', ⟨S, [], 0⟩)
theorem loopE (A : Kn) (hA : K50 A) (dA : D) (mA : MoreD A dA) (cB : List D) (ks : List Int) (hks : ∀ n, hasK A n = true ↔ n ∈ ks) : ∀ (q : Nat) (n : Int), n + q = 60 → 0 ≤ n →
    PostE [(true, [.fz (.int .i64 A.up), dA]), (true, cB), (true, ks.map ent)] (iterI (dCw Try.prog (callI Try.prog prims dx tbl) l3_3) [5, 6, 9, 11] [(5, .ptr 0 0), (6, .ptr 1 0), (9, .mp 2), (11, .fz (.int .i64 n))] ⟨[(true, [.fz (.int .i64 A.up), dA]), (true, cB), (true, ks.map ent)], [], 0⟩) := by
  intro q
  induction q with
  | zero =>
    intro n hn h0
    have hn' : n = 60 := by omega
    subst hn'
    rw [x_iter]
    simp [u3_3]
    exact ⟨_, by simp [Tm.keep], rfl⟩
  | succ q ih =>
    intro n hn h0
    have goal := ih (n + 1) (by omega) (by omega)
    have h1 := pHas5 A hA n
    have hlt : n < 60 := by omega
    have c1 : -100000 ≤ n + 1 ∧ n + 1 ≤ 100000 := by omega
    simp only [encK] at h1
    rw [x_iter]
    by_cases hk : n ∈ ks
    · have hh : hasK A n = true := (hks n).2 hk
      obtain ⟨j, f1, _⟩ := find_some ks n 0 hk
      rw [hh] at h1
      rcases mA with ⟨h2, rfl⟩ | rfl
      · rw [h2] at h1
        simp at h1
        simp [u3_3, hlt, rHas, callR, h1, f1, wz _ c1]
        exact goal
      · simp [u3_3, hlt, rHas, callR, h1, f1, wz _ c1]
        exact goal
    · have hh : hasK A n = false := by
        cases hx : hasK A n with
        | true => exact absurd ((hks n).1 hx) hk
        | false => rfl
      have f1 := find_none ks n 0 hk
      rw [hh] at h1
      rcases mA with ⟨h2, rfl⟩ | rfl
      · rw [h2] at h1
        simp at h1
        simp [u3_3, hlt, rHas, callR, h1, f1, wz _ c1]
        exact goal
      · simp [u3_3, hlt, rHas, callR, h1, f1, wz _ c1]
        exact goal
theorem pSameE (k m : Kn) (hk : K50 k) (hm : K50 m) (h : k = m) : pureI Try.prog prims dx tbl 7 [.agg (encK k), .agg (encK m)] = some (.bool true) := by
  have := pSameK k m (by have := hk.len; omega) (by have := hm.len; omega)
  rw [this, h]
  simp
theorem pKnowOrder (l : List Int) (h1 : l.length ≤ maxLen) (hb : ∀ z ∈ l, 0 ≤ z ∧ z < 256) (t : Int) (ht : 0 ≤ t ∧ t < 256) :
    pureI Try.prog prims dx tbl 3 [.list (l.map fun z => [.int .u8 z]), .int .u8 t] = some (.bool true) := by
  rw [pureI_of (rfl : tbl 3 = some c3)]
  by_cases g1 : 30 < l.length
  · simp [c3, qBegun2, show (30 : Int) < l.length by omega]
  have e1 : ¬ (30 : Int) < l.length := by omega
  have hl : l.length ≤ 30 := by omega
  obtain ⟨tn, rfl⟩ : ∃ tn : Nat, t = tn := ⟨t.toNat, by omega⟩
  have hU : U8 l := hb
  have hz := K50.zero
  have hR : U8 (rot l tn) := fun z hz => hb z (rot_mem l tn z hz)
  have kA := madeF_ok l _ hz hU
  have kB := madeF_ok (rot l tn) _ hz hR
  have kB2 := madeF_ok l.reverse _ kB (fun z hz => hb z (by simpa using hz))
  have sam := same_rows l tn hU
  obtain ⟨d, e, T1, m1, m2, k1, j1⟩ := loopA l hl hU tn (by omega) l 0 0 ⟨0, []⟩ ⟨0, []⟩ .nils .nils rfl rfl (Nat.zero_le _) hz hz (.inl ⟨rfl, rfl⟩) (.inl ⟨rfl, rfl⟩)
  rw [List.drop_zero] at j1 m2
  obtain ⟨e', T2, m3, k2, j2⟩ := loopB l hl hU [.fz (.int .i64 (madeF ⟨0, []⟩ l).up), d] l.length ((l.length : Int) - 1) (madeF ⟨0, []⟩ (rot l tn)) e rfl (Nat.le_refl _) kB m2
  rw [List.take_length] at j2 m3
  obtain ⟨T3, k3, j3⟩ := loopC l hl hU [.fz (.int .i64 (madeF ⟨0, []⟩ l).up), d] [.fz (.int .i64 (madeF (madeF ⟨0, []⟩ (rot l tn)) l.reverse).up), e'] l 0 0 [] rfl rfl (Nat.zero_le _)
  obtain ⟨T4, k4, j4⟩ := loopE (madeF ⟨0, []⟩ l) kA d m1 [.fz (.int .i64 (madeF (madeF ⟨0, []⟩ (rot l tn)) l.reverse).up), e'] (seenF [] l) (has_seen l hU) 60 0 (by omega) (Int.le_refl _)
  have cnt := count_is kA.ok (seenF_nodup l [] List.nodup_nil) (has_seen l hU)
  have s1 := pSameE _ _ kA kB2 sam.symm
  have s2 := pMay _ kA
  have s3 := pCount _ kA
  rw [cnt] at s3
  have c1 : -100000 ≤ (l.length : Int) - 1 ∧ (l.length : Int) - 1 ≤ 100000 := by omega
  generalize seenF [] l = ks at *
  generalize madeF (madeF ⟨0, []⟩ (rot l tn)) l.reverse = B2 at *
  generalize madeF ⟨0, []⟩ (rot l tn) = B at *
  generalize madeF ⟨0, []⟩ l = A at *
  have hl2 : (fun z : Int => [F.int .u8 z]) = encU := rfl
  rw [hl2]
  simp only [encK] at s1 s2 s3
  simp at j1 j2 j3 j4
  rcases m1 with ⟨h2, rfl⟩ | rfl <;> rcases m3 with ⟨h3, rfl⟩ | rfl
  · rw [h2] at s1 s2 s3
    rw [h3] at s1
    simp at s1 s2 s3
    simp [c3, qBegun2, e1, j1, k1, j2, k2, j3, k3, j4, k4, wz _ c1, rSameK, rMay, rCount, callR, s1, s2, s3]
  · rw [h2] at s1 s2 s3
    simp at s1 s2 s3
    simp [c3, qBegun2, e1, j1, k1, j2, k2, j3, k3, j4, k4, wz _ c1, rSameK, rMay, rCount, callR, s1, s2, s3]
  · rw [h3] at s1
    simp at s1
    simp [c3, qBegun2, e1, j1, k1, j2, k2, j3, k3, j4, k4, wz _ c1, rSameK, rMay, rCount, callR, s1, s2, s3]
  · simp [c3, qBegun2, e1, j1, k1, j2, k2, j3, k3, j4, k4, wz _ c1, rSameK, rMay, rCount, callR, s1, s2, s3]
end Go.Proofs.Ytoojkgoljghddaa.Pl
