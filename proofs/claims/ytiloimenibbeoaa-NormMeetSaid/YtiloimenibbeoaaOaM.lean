/-
  What is proved here: texts that rise, each once: the walk.
  Conditions: none.
-/
import Derived.Test.YtiloimenibbeoaaNrM
set_option linter.unusedVariables false
set_option linter.unusedSimpArgs false
set_option maxRecDepth 100000
set_option maxHeartbeats 8000000
namespace Go.Proofs.Ytiloimenibbeoaa.Pl
open Go Go.Proofs Go.Proofs.Ev Go.Proofs.Dv Cd
attribute [local simp] x_pure x_skip x_reg x_drw x_seq x_cond x_block x_frz x_loop' Tm.keep_nil x_exit x_ret k_seq k_seq_ret k_seq_exit k_seq_none k_seq_ite k_cond k_block k_block_ret k_block_exit k_block_none k_block_ite k_iter k_iter_ret k_iter_exit k_iter_none k_iter_ite k_reg k_reg_none k_reg_ite x_is_nil x_is x_is_g k_ins k_ins_none k_ins_ite k_grd x_ord_nil x_ord x_ord_g k_ord k_ord_none k_ord_ite k_ogrd k_out_ret k_out k_out_none k_out_ite k_pure k_pure_none k_pure_ite startD dI dA deo Tm.at Tm.dst Tm.set Tm.put Tm.keep dW dRes oneOfD mkTup mkAgg mkFn allF frL fr vD vD1 vF vFL dBin dEq dNil isNilD dScal F.cv eBin sameKind eInt eStr cellsD oneD F.one dFill putAtD chunk dbnd dSrc St.own St.drop St.still St.fresh chkQ stillQ freshQ lOf rdOf rdOK undefD F.full F.fullL List.mapIdx_cons strip allOne_nil allOne_cons allOne_append allLen_nil allLen_cons allLen_append roomOK_small filterT y_mv y_pick y_new y_box y_build y_bslice y_ld1 y_ldn y_nilchk y_bin y_not y_conv y_bytes y_string y_ifc y_fn y_cut y_cuts y_fa y_fld y_ia y_idx y_idxs y_ext y_len y_lenstr y_app y_grow y_mks y_slow y_call y_callv y_inv y_extc x_it_st x_it_clr x_it_cpy k_addT k_addT_none k_addT_ite k_orU k_orU_none dU D.turn turnL Tm.turn turnS St.turn turnRows_length

theorem less_leS : ∀ (a b : Tx), Op.bytesLess a b = !leS b a
  | a, [] => by cases a <;> simp [Op.bytesLess, leS]
  | [], b :: y => by simp [Op.bytesLess, leS]
  | a :: x, b :: y => by
    simp only [Op.bytesLess, leS, less_leS x y]
    rw [Bool.eq_iff_iff]
    rcases Nat.lt_trichotomy a.toNat b.toNat with h | h | h
    · have h1 : a < b := UInt8.lt_iff_toNat_lt.2 h
      have h2 : Nat.blt b.toNat a.toNat = false := by rw [← Bool.not_eq_true]; simp [Nat.blt_eq]; omega
      have h3 : Nat.beq b.toNat a.toNat = false := by rw [← Bool.not_eq_true]; simp; omega
      simp [h1, h2, h3]
    · have h0 : a = b := UInt8.toNat_inj.1 h
      subst h0
      have h2 : Nat.blt a.toNat a.toNat = false := by rw [← Bool.not_eq_true]; simp [Nat.blt_eq]
      have h3 : Nat.beq a.toNat a.toNat = true := by simp
      simp [h2, h3]
    · have h1 : ¬ a < b := fun k => by have := UInt8.lt_iff_toNat_lt.1 k; omega
      have h0 : ¬ a = b := fun k => by subst k; omega
      have h2 : Nat.blt b.toNat a.toNat = true := by simp [Nat.blt_eq]; omega
      simp [h1, h0, h2]
theorem gtr_leS (a b : Tx) : (!(Op.bytesLess a b || a == b)) = !leS a b := by
  rw [less_leS]
  cases h : leS b a with
  | false =>
    have : leS a b = true := (leS_total a b).elim id fun k => by rw [h] at k; cases k
    simp [this]
  | true =>
    by_cases he : a = b
    · subst he
      simp [h]
    · have : leS a b = false := by
        cases k : leS a b with
        | false => rfl
        | true => exact absurd (leS_anti a b k h) he
      simp [this, he]
def gtrO (o : Oper) : Option (Nat × Nat) := match o.op with
  | .binOp .gtr _ (.tmp i) (.tmp j) _ => some (i, j)
  | _ => none
def gtrD (d e : D) (r : Option D) : Option D := match d, e with
  | .fz (.str a), .fz (.str b) => some (.fz (.bool (!leS a b)))
  | _, _ => r
theorem slow_gtr {P : Program} {o : Oper} {i j : Nat} (h : gtrO o = some (i, j)) (T : Tm) : dSlowX P T o = gtrD (T.at i) (T.at j) (mmRest P T o) := by
  unfold gtrD
  split
  · rename_i a b hi hj
    unfold gtrO at h
    split at h
    · rename_i t i' j' tt hc
      cases h
      have hop : o.op.operands = #[.tmp i, .tmp j] := by rw [hc]; rfl
      have hb : pureRun P (binOp .gtr t (.string ⟨a.toArray⟩) (.string ⟨b.toArray⟩)) = some (.bool (!leS a b)) := by
        rw [← gtr_leS]
        simp [binOp, Op.stringOp]
        rfl
      have hg : ∀ u v, pureRun P (eqGuard .gtr t u v (.string ⟨a.toArray⟩) (.string ⟨b.toArray⟩)) = some () := fun u v => rfl
      have hrun : pureRun P (execOp (fun x => (concO (dEnv T) x).getD undef) o) = some (.value (.bool (!leS a b))) := by
        simp [execOp, hc, concO, dEnv, hi, hj, D.full, F.full, conc, Dv.pureRun_bind, Dv.pureRun_map, hb, hg]
      have hp : pureOp P (dEnv T) o = some (.bool (!leS a b)) := by
        simp only [pureOp, hop, hrun]
        simp [hc, isSelect, concO, dEnv, hi, hj, D.full, F.full, conc, absN]
      have he : evA P (dEnv T) o [] = some (.bool (!leS a b), []) := by
        simp only [evA, hc, hp]
      simp only [dSlowX, dSlow, hop, he]
      simp [dEnv, hi, hj, D.full, F.full, toD, vF]
    · cases h
  · rfl
theorem gR23 : gtrO (operAt Try.prog 39 23) = some (20, 26) := by kernel_rfl
def PostR0 (l : List Tx) (d : D) (o : Option Tx) (st : Dv.St) (r : Option DSt) : Prop := ∃ T' : Tm, T'.keep [0, 3, 4, 5] = [(0, .fz (.list (l.map encT))), (3, d), (4, .fz (.str (o.getD []))), (5, .fz (.bool o.isSome))] ∧ r = some (.exit 2, T', st)
theorem loopR0n (l : List Tx) (hl : l.length ≤ 1000) (st : Dv.St) : ∀ (r : List Tx) (i : Nat) (iz : Int) (o : Option Tx), iz = i → l.drop i = r → i ≤ l.length →
    PostR0 l .nils (foldR [] o r) st (iterI (dCw Try.prog (callI Try.prog prims dx tbl) l39_0) [0, 3, 4, 5, 6] [(0, .fz (.list (l.map encT))), (3, .nils), (4, .fz (.str (o.getD []))), (5, .fz (.bool o.isSome)), (6, .fz (.int .i64 iz))] st) := by
  intro r
  induction r with
  | nil =>
    intro i iz o hz hd hi
    have hi' := drop_nil hd hi
    subst hi' hz
    rw [x_iter]
    simp [u39_0, foldR]
    exact ⟨_, by simp [Tm.keep], rfl⟩
  | cons x r ih =>
    intro i iz o hz hd hi
    subst hz
    obtain ⟨hlt, hli, hd'⟩ := drop_cons hd
    have c1 : -100000 ≤ (i : Int) + 1 ∧ (i : Int) + 1 ≤ 100000 := by omega
    have goal := ih (i + 1) ((i : Int) + 1) (stepR [] o x) (by omega) hd' hlt
    have e : foldR [] o (x :: r) = foldR [] (stepR [] o x) r := rfl
    rw [e]
    rw [x_iter]
    cases o with
    | none =>
      simp only [stepR, upR, List.getLast?_nil, if_true] at goal ⊢
      simp at goal
      simp [u39_0, hlt, hli, encT, wz _ c1]
      exact goal
    | some y =>
      simp only [stepR, upR, List.getLast?_nil, if_true] at goal ⊢
      cases hq : leS y x with
      | true =>
        simp [hq] at goal
        simp [u39_0, hlt, hli, encT, hq, less_leS, wz _ c1]
        exact goal
      | false =>
        simp [hq] at goal
        simp [u39_0, hlt, hli, encT, hq, less_leS, wz _ c1]
        exact goal
theorem loopR0o (l : List Tx) (hl : l.length ≤ 1000) (pre : List Tx) (p : Tx) (hpl : pre.length ≤ 1000) (t : Nat) (S : List (Bool × List D)) (L : List Nat) (ht : t ∈ L) (c : Nat) : ∀ (r : List Tx) (i : Nat) (iz : Int) (o : Option Tx), iz = i → l.drop i = r → i ≤ l.length →
    PostR0 l (.ow t 0 1 ((pre ++ [p]).map encT)) (foldR (pre ++ [p]) o r) ⟨S, L, c⟩ (iterI (dCw Try.prog (callI Try.prog prims dx tbl) l39_0) [0, 3, 4, 5, 6] [(0, .fz (.list (l.map encT))), (3, .ow t 0 1 ((pre ++ [p]).map encT)), (4, .fz (.str (o.getD []))), (5, .fz (.bool o.isSome)), (6, .fz (.int .i64 iz))] ⟨S, L, c⟩) := by
  intro r
  induction r with
  | nil =>
    intro i iz o hz hd hi
    have hi' := drop_nil hd hi
    subst hi' hz
    rw [x_iter]
    simp [u39_0, foldR]
    exact ⟨_, by simp [Tm.keep], rfl⟩
  | cons x r ih =>
    intro i iz o hz hd hi
    subst hz
    obtain ⟨hlt, hli, hd'⟩ := drop_cons hd
    have c1 : -100000 ≤ (i : Int) + 1 ∧ (i : Int) + 1 ≤ 100000 := by omega
    have c2 : -100000 ≤ (pre.length : Int) ∧ (pre.length : Int) ≤ 100000 := by omega
    have c3 : ¬ ((pre.length : Int) + 1 = 0) := by omega
    have goal := ih (i + 1) ((i : Int) + 1) (stepR (pre ++ [p]) o x) (by omega) hd' hlt
    have e : foldR (pre ++ [p]) o (x :: r) = foldR (pre ++ [p]) (stepR (pre ++ [p]) o x) r := rfl
    rw [e]
    have hg : (pre.map encT ++ [[F.str p]])[pre.length]? = some [.str p] := by
      rw [List.getElem?_append_right (by simp)]; simp
    have hL : (pre ++ [p]).getLast? = some p := by simp
    rw [x_iter]
    simp only [stepR, upR, hL] at goal ⊢
    cases hu : leS x p with
    | true =>
      simp [hu, encT] at goal
      simp [u39_0, hlt, hli, encT, hu, c3, hg, slow_gtr gR23, gtrD, less_leS, wz _ c2, wz _ c1, ht]
      exact goal
    | false =>
      cases o with
      | none =>
        simp [hu, encT] at goal
        simp [u39_0, hlt, hli, encT, hu, c3, hg, slow_gtr gR23, gtrD, less_leS, wz _ c2, wz _ c1, ht]
        exact goal
      | some y =>
        cases hq : leS y x with
        | true =>
          simp [hu, hq, encT] at goal
          simp [u39_0, hlt, hli, encT, hu, hq, c3, hg, slow_gtr gR23, gtrD, less_leS, wz _ c2, wz _ c1, ht]
          exact goal
        | false =>
          simp [hu, hq, encT] at goal
          simp [u39_0, hlt, hli, encT, hu, hq, c3, hg, slow_gtr gR23, gtrD, less_leS, wz _ c2, wz _ c1, ht]
          exact goal
def OwnT (out : List Tx) (L : List Nat) (d : D) : Prop := (out = [] ∧ d = .nils) ∨ ∃ t, t ∈ L ∧ out ≠ [] ∧ d = .ow t 0 1 (out.map encT)
theorem loopR0 (l : List Tx) (hl : l.length ≤ 1000) (out : List Tx) (hol : out.length ≤ 1000) (d : D) (S : List (Bool × List D)) (L : List Nat) (c : Nat) (hd : OwnT out L d) :
    PostR0 l d (foldR out none l) ⟨S, L, c⟩ (iterI (dCw Try.prog (callI Try.prog prims dx tbl) l39_0) [0, 3, 4, 5, 6] [(0, .fz (.list (l.map encT))), (3, d), (4, .fz (.str [])), (5, .fz (.bool false)), (6, .fz (.int .i64 0))] ⟨S, L, c⟩) := by
  rcases hd with ⟨rfl, rfl⟩ | ⟨t, ht, hne, rfl⟩
  · exact loopR0n l hl _ l 0 0 none rfl rfl (Nat.zero_le _)
  · rcases List.eq_nil_or_concat out with rfl | ⟨pre, p, rfl⟩
    · exact absurd rfl hne
    · rw [List.concat_eq_append] at *
      exact loopR0o l hl pre p (by rw [List.length_append] at hol; omega) t S L ht c l 0 0 none rfl rfl (Nat.zero_le _)
theorem ownT_of {out : List Tx} {L : List Nat} {t : Nat} {R : List (List F)} (h2 : R = out.map encT) (h3 : t ∈ L) (h4 : out ≠ []) : OwnT out L (.ow t 0 1 R) := .inr ⟨t, h3, h4, by rw [h2]⟩
def PostR1 (T : List Tx) (r : Option DSt) : Prop := ∃ (d : D) (L : List Nat) (c : Nat) (T' : Tm), OwnT T L d ∧ T'.at 2 = d ∧ r = some (.ret, T', ⟨[], L, c⟩)
theorem loopR1 (l : List Tx) (hl : l.length ≤ 1000) : ∀ (m n : Nat) (d : D) (L : List Nat) (c : Nat), n + m = (riseB l).length → OwnT ((riseB l).take n) L d →
    PostR1 (riseB l) (iterI (dCw Try.prog (callI Try.prog prims dx tbl) l39_1) [0, 3] [(0, .fz (.list (l.map encT))), (3, d)] ⟨[], L, c⟩) := by
  intro m
  induction m with
  | zero =>
    intro n d L c hn hd
    obtain rfl : n = (riseB l).length := by omega
    have hr := rise_len l
    have hx := foldR_next l _ (Nat.le_refl _)
    rw [List.take_length] at hd hx
    rw [List.getElem?_eq_none (Nat.le_refl _)] at hx
    obtain ⟨T1, k1, j1⟩ := loopR0 l hl (riseB l) (by omega) d [] L c hd
    rw [hx] at k1
    simp only [Option.getD_none, Option.isSome_none] at k1
    rw [x_iter]
    simp [u39_1, j1, k1]
    exact ⟨d, L, c, _, hd, by simp [Tm.at], rfl⟩
  | succ m ih =>
    intro n d L c hn hd
    have hr := rise_len l
    have hx := foldR_next l n (by omega)
    rw [List.getElem?_eq_getElem (by omega)] at hx
    obtain ⟨T1, k1, j1⟩ := loopR0 l hl ((riseB l).take n) (by rw [List.length_take]; omega) d [] L c hd
    rw [hx] at k1
    simp only [Option.getD_some, Option.isSome_some] at k1
    have e : (riseB l).take (n + 1) = (riseB l).take n ++ [(riseB l)[n]] := by rw [List.take_succ_eq_append_getElem]
    have goal := fun d L c h => ih (n + 1) d L c (by omega) h
    rw [e] at goal
    have hln : ((riseB l).take n).length = n := by rw [List.length_take]; omega
    generalize (riseB l)[n] = x at *
    generalize (riseB l).take n = out at *
    have r1 : roomOK 16 1 := roomOK_small (by omega) (by omega)
    have r2 : roomOK 16 (out.length + 1) := roomOK_small (by omega) (by omega)
    have o1 := (encT_ok out).1
    rw [x_iter]
    rcases hd with ⟨rfl, rfl⟩ | ⟨t, ht, hne, rfl⟩
    · simp [u39_1, j1, k1, r1]
      exact goal _ _ _ (ownT_of (by simp [encT]) (by simp) (by simp))
    · simp [u39_1, j1, k1, r2, ht, o1]
      exact goal _ _ _ (ownT_of (by simp [encT]) (by simp) (by simp))
theorem pRise (l : List Tx) (hl : l.length ≤ 1000) : pureI Try.prog prims dx tbl 39 [.list (l.map encT)] = some (.list ((riseB l).map encT)) := by
  rw [pureI_of (rfl : tbl 39 = some c39)]
  obtain ⟨d, L, c, T', hw, k1, j1⟩ := loopR1 l hl (riseB l).length 0 .nils [] 0 (by omega) (.inl ⟨rfl, rfl⟩)
  generalize riseB l = X at *
  rcases hw with ⟨rfl, rfl⟩ | ⟨t, ht, hne, rfl⟩
  · simp [c39, k1, j1]
  · simp [c39, k1, j1, ht]
theorem rRise (ds : List D) (st : Dv.St) : callI Try.prog prims dx tbl 39 ds st = callR Try.prog prims dx tbl 39 ds st (frL (fr st 6) ds) := callRw rfl rfl (rfl : tbl 39 = some c39) rfl ds st
end Go.Proofs.Ytiloimenibbeoaa.Pl
