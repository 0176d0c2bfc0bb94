/-
  What is proved here: the boxes of what is not from one number to another one; of what each of two rows lets through.
  Conditions: none.
-/
import Derived.Test.YtiloimenibbeoaaNfM
set_option linter.unusedVariables false
set_option linter.unusedSimpArgs false
set_option maxRecDepth 100000
set_option maxHeartbeats 8000000
namespace Go.Proofs.Ytiloimenibbeoaa.Pl
open Go Go.Proofs Go.Proofs.Ev Go.Proofs.Dv Cd
attribute [local simp] x_pure x_skip x_reg x_drw x_seq x_cond x_block x_frz x_loop' Tm.keep_nil x_exit x_ret k_seq k_seq_ret k_seq_exit k_seq_none k_seq_ite k_cond k_block k_block_ret k_block_exit k_block_none k_block_ite k_iter k_iter_ret k_iter_exit k_iter_none k_iter_ite k_reg k_reg_none k_reg_ite x_is_nil x_is x_is_g k_ins k_ins_none k_ins_ite k_grd x_ord_nil x_ord x_ord_g k_ord k_ord_none k_ord_ite k_ogrd k_out_ret k_out k_out_none k_out_ite k_pure k_pure_none k_pure_ite startD dI dA deo Tm.at Tm.dst Tm.set Tm.put Tm.keep dW dRes oneOfD mkTup mkAgg mkFn allF frL fr vD vD1 vF vFL dBin dEq dNil isNilD dScal F.cv eBin sameKind eInt eStr cellsD oneD F.one dFill putAtD chunk dbnd dSrc St.own St.drop St.still St.fresh chkQ stillQ freshQ lOf rdOf rdOK undefD F.full F.fullL List.mapIdx_cons strip allOne_nil allOne_cons allOne_append allLen_nil allLen_cons allLen_append roomOK_small filterT y_mv y_pick y_new y_box y_build y_bslice y_ld1 y_ldn y_nilchk y_bin y_not y_conv y_bytes y_string y_ifc y_fn y_cut y_cuts y_fa y_fld y_ia y_idx y_idxs y_ext y_len y_lenstr y_app y_grow y_mks y_slow y_call y_callv y_inv y_extc x_it_st x_it_clr x_it_cpy k_addT k_addT_none k_addT_ite k_orU k_orU_none dU D.turn turnL Tm.turn turnS St.turn turnRows_length

def apartB (k lo hi : Int) : List Box := putB box0 k ⟨2, 0, 0⟩ :: ((if 0 < lo then [putB box0 k ⟨1, 0, lo - 1⟩] else []) ++ (if hi < 99 then [putB box0 k ⟨1, hi + 1, 99⟩] else []))
theorem pApart (op k lo hi : Int) (hk : 0 ≤ k ∧ k < 4) (hl : 0 ≤ lo ∧ lo ≤ 99) (hh : 0 ≤ hi ∧ hi ≤ 99) : pureI Try.prog prims dx tbl 56 [.agg [.int .i64 op, .int .i64 k, .int .i64 lo, .int .i64 hi, .str [], .list []]] = some (.list ((apartB k lo hi).map encB)) := by
  rw [pureI_of (rfl : tbl 56 = some c56)]
  have q1 := pKey k 2 0 0 hk
  have q2 := pKey k 1 0 (lo - 1) hk
  have q3 := pKey k 1 (hi + 1) 99 hk
  have c1 : -100000 ≤ lo - 1 ∧ lo - 1 ≤ 100000 := by omega
  have c2 : -100000 ≤ hi + 1 ∧ hi + 1 ≤ 100000 := by omega
  have r1 : roomOK 136 1 := roomOK_small (by omega) (by omega)
  have r2 : roomOK 136 2 := roomOK_small (by omega) (by omega)
  have r3 : roomOK 136 3 := roomOK_small (by omega) (by omega)
  unfold apartB
  generalize putB box0 k ⟨2, 0, 0⟩ = X1 at *
  generalize putB box0 k ⟨1, 0, lo - 1⟩ = X2 at *
  generalize putB box0 k ⟨1, hi + 1, 99⟩ = X3 at *
  simp only [encB] at q1 q2 q3
  by_cases h1 : 0 < lo
  · by_cases h2 : hi < 99
    · simp [c56, rKey, callR, q1, q2, q3, h1, h2, wz _ c1, wz _ c2, r1, r2, r3, encB]
    · simp [c56, rKey, callR, q1, q2, q3, h1, h2, wz _ c1, wz _ c2, r1, r2, r3, encB]
  · by_cases h2 : hi < 99
    · simp [c56, rKey, callR, q1, q2, q3, h1, h2, wz _ c1, wz _ c2, r1, r2, r3, encB]
    · simp [c56, rKey, callR, q1, q2, q3, h1, h2, wz _ c1, wz _ c2, r1, r2, r3, encB]
theorem rApart (ds : List D) (st : Dv.St) : callI Try.prog prims dx tbl 56 ds st = callR Try.prog prims dx tbl 56 ds st (frL (fr st 6) ds) := callRw rfl rfl (rfl : tbl 56 = some c56) rfl ds st
/-! ### Each of one row with each of another one -/
theorem mapI {α : Type} (S : List α) : List.mapIdx (fun _ p => p) S = S := by
  apply List.ext_getElem?
  intro i
  simp
theorem mapI2 {α : Type} (S : List α) : List.mapIdx (fun _ => (fun p : α => p) ∘ fun p => p) S = S := mapI S
theorem g1a {α : Type} (S : List α) (a : α) : (S ++ [a])[S.length]? = some a := by simp
theorem g2a {α : Type} (S : List α) (a b : α) : (S ++ [a, b])[S.length]? = some a := by
  rw [List.getElem?_append_right (Nat.le_refl _)]; simp
theorem g2b {α : Type} (S : List α) (a b : α) : (S ++ [a, b])[S.length + 1]? = some b := by
  rw [List.getElem?_append_right (by omega)]; simp
theorem s1a {α : Type} (S : List α) (a x : α) : (S ++ [a]).set S.length x = S ++ [x] := by
  rw [List.set_append_right _ _ (Nat.le_refl _)]; simp
theorem s2b {α : Type} (S : List α) (a b x : α) : (S ++ [a, b]).set (S.length + 1) x = S ++ [a, x] := by
  rw [List.set_append_right _ _ (by omega)]; simp
def rowM (a : Box) (m : List Box) : List Box := m.filterMap fun b => meetB a b
def meetsB (l m : List Box) : List Box := l.flatMap fun a => rowM a m
def OwnB (rows : List Box) (L : List Nat) (d : D) : Prop := (rows = [] ∧ d = .nils) ∨ ∃ t, t ∈ L ∧ d = .ow t 0 14 (rows.map encB)
theorem ownB_of {rows : List Box} {L : List Nat} {t : Nat} {R : List (List F)} (h2 : R = rows.map encB) (h3 : t ∈ L) : OwnB rows L (.ow t 0 14 R) := .inr ⟨t, h3, by rw [h2]⟩
def PostMi (m l : List Box) (ja : Nat) (i : Int) (rows : List Box) (r : Option DSt) : Prop := ∃ (d : D) (L : List Nat) (c : Nat) (S : List (Bool × List D)) (T' : Tm), OwnB rows L d ∧ T'.keep [1, 4, 11, 12, 13] = [(1, .fz (.list (m.map encB))), (4, d), (11, .fz (.list (l.map encB))), (12, .fz (.int .i64 l.length)), (13, .fz (.int .i64 i))] ∧ r = some (.exit 2, T', ⟨S, L, c⟩)
theorem loopMi (m l : List Box) (hm : m.length ≤ 20) (hn : ∀ b ∈ m, b.nots.length ≤ 100) (a : Box) (ha : a.nots.length ≤ 100) (ja : Nat) (i : Int) : ∀ (r : List Box) (j : Nat) (jz : Int) (rows : List Box) (d : D) (L : List Nat) (c : Nat) (S : List (Bool × List D)), jz = j → m.drop j = r → j ≤ m.length → OwnB rows L d → rows.length + r.length ≤ 5000 → S[ja]? = some (varB a) →
    PostMi m l ja i (rows ++ rowM a r) (iterI (dCw Try.prog (callI Try.prog prims dx tbl) l77_0) [1, 4, 6, 11, 12, 13, 17, 18, 19] [(1, .fz (.list (m.map encB))), (4, d), (6, .ptr ja 0), (11, .fz (.list (l.map encB))), (12, .fz (.int .i64 l.length)), (13, .fz (.int .i64 i)), (17, .fz (.list (m.map encB))), (18, .fz (.int .i64 m.length)), (19, .fz (.int .i64 jz))] ⟨S, L, c⟩) := by
  intro r
  induction r with
  | nil =>
    intro j jz rows d L c S hz hd hj hw hr hS
    have hj' := drop_nil hd hj
    subst hj' hz
    rw [x_iter]
    simp [u77_0, rowM]
    exact ⟨d, L, c, S, _, hw, by simp [Tm.keep], rfl⟩
  | cons b r ih =>
    intro j jz rows d L c S hz hd hj hw hr hS
    subst hz
    obtain ⟨hlt, hli, hd'⟩ := drop_cons hd
    have hb := hn b (by rw [← hli]; exact List.getElem_mem hlt)
    have hp := pMeet a b ha hb
    have c1 : -100000 ≤ (j : Int) + 1 ∧ (j : Int) + 1 ≤ 100000 := by omega
    have hja : ja < S.length := by
      rcases Nat.lt_or_ge ja S.length with h | h
      · exact h
      · rw [List.getElem?_eq_none h] at hS; cases hS
    have hS' : ∀ R : List (Bool × List D), (S ++ R)[ja]? = some (varB a) := fun R => by rw [List.getElem?_append_left hja]; exact hS
    have e : rowM a (b :: r) = (match meetB a b with | some x => [x] | none => []) ++ rowM a r := by
      simp only [rowM, List.filterMap_cons]
      cases meetB a b <;> rfl
    rw [List.length_cons] at hr
    rw [e]
    have goal := fun rows d L c S hw hr hS => ih (j + 1) ((j : Int) + 1) rows d L c S (by omega) hd' hlt hw hr hS
    simp only [varB, encB, List.map_cons, List.map_nil] at hS'
    simp only [varB, encB, List.map_cons, List.map_nil] at goal
    cases hx : meetB a b with
    | none =>
      rw [hx] at hp
      simp only [encB, Option.getD_none, Option.isSome_none] at hp
      simp only [List.nil_append]
      rw [x_iter]
      simp [u77_0, hlt, hli, encB, hS', g1a, g2a, g2b, s1a, s2b, mapI, mapI2, rMeet, callR, hp, wz _ c1]
      exact goal _ _ _ _ _ hw (by omega) (hS' _)
    | some x =>
      rw [hx] at hp
      simp only [encB, Option.getD_some, Option.isSome_some] at hp
      have o1 := (encB_ok rows).1
      have r1 : roomOK 136 1 := roomOK_small (by omega) (by omega)
      have r2 : roomOK 136 (rows.length + 1) := roomOK_small (by omega) (by omega)
      rw [x_iter]
      rcases hw with ⟨rfl, rfl⟩ | ⟨t, ht, rfl⟩
      · simp [u77_0, hlt, hli, encB, hS', g1a, g2a, g2b, s1a, s2b, mapI, mapI2, rMeet, callR, hp, wz _ c1, r1]
        exact goal [x] _ _ _ _ (ownB_of (by simp [encB]) (by simp)) (by simp; omega) (hS' _)
      · simp [u77_0, hlt, hli, encB, hS', g1a, g2a, g2b, s1a, s2b, mapI, mapI2, rMeet, callR, hp, wz _ c1, ht, o1, r1, r2]
        rw [show rows ++ x :: rowM a r = (rows ++ [x]) ++ rowM a r by simp]
        exact goal (rows ++ [x]) _ _ _ _ (ownB_of (by simp [encB]) (by simp)) (by simp; omega) (hS' _)
theorem rowM_len (a : Box) (m : List Box) : (rowM a m).length ≤ m.length := List.length_filterMap_le _ _
def PostMo (rows : List Box) (r : Option DSt) : Prop := ∃ (d : D) (L : List Nat) (c : Nat) (S : List (Bool × List D)) (T' : Tm), OwnB rows L d ∧ T'.keep [4] = [(4, d)] ∧ r = some (.exit 0, T', ⟨S, L, c⟩)
theorem loopMo (m l : List Box) (hm : m.length ≤ 20) (hn : ∀ b ∈ m, b.nots.length ≤ 100) (hl : l.length ≤ 20) (hnl : ∀ b ∈ l, b.nots.length ≤ 100) : ∀ (r : List Box) (i : Nat) (iz : Int) (rows : List Box) (d : D) (L : List Nat) (c : Nat) (S : List (Bool × List D)), iz = i → l.drop i = r → i ≤ l.length → OwnB rows L d → rows.length ≤ 20 * i →
    PostMo (rows ++ meetsB r m) (iterI (dCw Try.prog (callI Try.prog prims dx tbl) l77_1) [1, 4, 11, 12, 13] [(1, .fz (.list (m.map encB))), (4, d), (11, .fz (.list (l.map encB))), (12, .fz (.int .i64 l.length)), (13, .fz (.int .i64 iz))] ⟨S, L, c⟩) := by
  intro r
  induction r with
  | nil =>
    intro i iz rows d L c S hz hd hi hw hr
    have hi' := drop_nil hd hi
    subst hi' hz
    rw [x_iter]
    simp [u77_1, meetsB]
    exact ⟨d, L, c, S, _, hw, by simp [Tm.keep], rfl⟩
  | cons a r ih =>
    intro i iz rows d L c S hz hd hi hw hr
    subst hz
    obtain ⟨hlt, hli, hd'⟩ := drop_cons hd
    have ha := hnl a (by rw [← hli]; exact List.getElem_mem hlt)
    have c1 : -100000 ≤ (i : Int) + 1 ∧ (i : Int) + 1 ≤ 100000 := by omega
    have hlM := rowM_len a m
    have e : meetsB (a :: r) m = rowM a m ++ meetsB r m := by simp [meetsB]
    rw [e]
    obtain ⟨d1, L1, c1', S1, T1, hw1, k1, j1⟩ := loopMi m l hm hn a ha S.length (i : Int) m 0 0 rows d L c (S ++ [varB a]) rfl rfl (Nat.zero_le _) hw (by omega) (g1a S _)
    have goal := ih (i + 1) ((i : Int) + 1) (rows ++ rowM a m) d1 L1 c1' S1 (by omega) hd' hlt hw1 (by rw [List.length_append]; omega)
    simp only [varB, encB, List.map_cons, List.map_nil] at j1
    rw [List.append_assoc] at goal
    rw [x_iter]
    simp [u77_1, hlt, hli, encB, g1a, s1a, j1, k1, wz _ c1]
    exact goal
theorem pMeets (l m : List Box) (hl : l.length ≤ 20) (hm : m.length ≤ 20) (hnl : ∀ b ∈ l, b.nots.length ≤ 100) (hn : ∀ b ∈ m, b.nots.length ≤ 100) : pureI Try.prog prims dx tbl 77 [.list (l.map encB), .list (m.map encB)] = some (.list ((meetsB l m).map encB)) := by
  rw [pureI_of (rfl : tbl 77 = some c77)]
  obtain ⟨d, L, c, S, T', hw, k1, j1⟩ := loopMo m l hm hn hl hnl l 0 0 [] .nils [] 0 [] rfl rfl (Nat.zero_le _) (.inl ⟨rfl, rfl⟩) (Nat.zero_le _)
  rw [List.nil_append] at hw
  generalize meetsB l m = X at *
  rcases hw with ⟨h0, rfl⟩ | ⟨t, ht, rfl⟩
  · subst h0
    simp [c77, k1, j1]
  · simp [c77, k1, j1, ht]
theorem rMeets (ds : List D) (st : Dv.St) : callI Try.prog prims dx tbl 77 ds st = callR Try.prog prims dx tbl 77 ds st (frL (fr st 6) ds) := callRw rfl rfl (rfl : tbl 77 = some c77) rfl ds st
end Go.Proofs.Ytiloimenibbeoaa.Pl
