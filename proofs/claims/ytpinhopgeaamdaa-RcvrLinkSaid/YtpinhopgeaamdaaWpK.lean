/-
  What is proved here: pieces that are sent, and those that are told: rows of them, by the program's text.
  Conditions: none.
-/
import Derived.Test.YtpinhopgeaamdaaCdK
import Derived.Test.YtpinhopgeaamdaaCn
set_option linter.unusedVariables false
set_option linter.unusedSimpArgs false
set_option maxRecDepth 100000
set_option maxHeartbeats 4000000
namespace Go.Proofs.Ytpinhopgeaamdaa.Pl
open Go Go.Proofs Go.Proofs.Ev Go.Proofs.Dv Cd
attribute [local simp] x_pure x_skip x_reg x_drw x_seq x_cond x_block x_loop' Tm.keep_nil x_exit x_ret k_seq k_seq_ret k_seq_exit k_seq_none k_seq_ite k_cond k_block k_block_ret k_block_exit k_block_none k_block_ite k_iter k_iter_ret k_iter_exit k_iter_none k_iter_ite k_reg k_reg_none k_reg_ite x_is_nil x_is x_is_g k_ins k_ins_none k_ins_ite k_grd x_ord_nil x_ord x_ord_g k_ord k_ord_none k_ord_ite k_ogrd k_out_ret k_out k_out_none k_out_ite k_pure k_pure_none k_pure_ite startD dI dA deo Tm.at Tm.dst Tm.set Tm.put Tm.keep dW dRes oneOfD mkTup mkAgg mkFn allF frL fr vD vD1 vF vFL dBin dEq dNil isNilD dScal F.cv eBin sameKind eInt eStr cellsD oneD F.one dFill putAtD chunk dbnd dSrc St.own St.drop St.still St.fresh chkQ stillQ freshQ lOf rdOf rdOK undefD F.full F.fullL List.mapIdx_cons strip allOne_nil allOne_cons allOne_append allLen_nil allLen_cons allLen_append roomOK_small filterT y_mv y_pick y_new y_box y_build y_bslice y_ld1 y_ldn y_nilchk y_bin y_not y_conv y_bytes y_string y_ifc y_fn y_cut y_cuts y_fa y_fld y_ia y_idx y_idxs y_ext y_len y_lenstr y_app y_grow y_mks y_slow y_call y_callv y_inv y_extc x_it_st x_it_clr x_it_cpy k_addT k_addT_none k_addT_ite k_orU k_orU_none dU D.turn turnL Tm.turn turnS St.turn turnRows_length

/-- A piece: its number, its text. -/
structure Sg where
  num : Int
  b : List UInt8
  deriving DecidableEq
def encG (s : Sg) : List F := [.int .i64 s.num, .str s.b]
theorem encG_len (s : Sg) : (encG s).length = 2 := rfl
theorem encG_take (s : Sg) : (encG s).take 2 = [.int .i64 s.num, .str s.b] := rfl
def encT (s : List UInt8) : List F := [.str s]
theorem encT_len (s : List UInt8) : (encT s).length = 1 := rfl
theorem encG_ok (l : List Sg) : allOne (l.map encG) = true ∧ allLen 2 (l.map encG) = true := ⟨allOne_map encG (fun a => rfl) _, allLen_map 2 encG (fun a => rfl) _⟩
theorem encT_ok (l : List (List UInt8)) : allOne (l.map encT) = true ∧ allLen 1 (l.map encT) = true := ⟨allOne_map encT (fun a => rfl) _, allLen_map 1 encT (fun a => rfl) _⟩
theorem turn_setG (l : List Sg) (k : Nat) (s : Sg) : turnRows (rowU k 0 [.int .i64 s.num, .str s.b]) 0 (l.map encG) = (l.set k s).map encG := by
  have := turn_set encG s (fun x => rfl) l 0 k
  rw [Nat.zero_add] at this
  exact this
theorem setC {α : Type} (S : List α) (x y : α) : (S ++ [x]).set S.length y = S ++ [y] := by
  rw [List.set_append_right _ _ (Nat.le_refl _)]
  simp
theorem turnS_app (t t' : Nat) (u : RowTurn) : ∀ (S S' : List (Bool × List D)), turnS t t' u (S ++ S') = turnS t t' u S ++ turnS t t' u S'
  | [], S' => rfl
  | (w, ds) :: r, S' => by simp [turnS, turnS_app t t' u r S']

def idxG (p : Sg → Bool) : List Sg → Nat → Int
  | [], _ => -1
  | a :: r, n => if p a = true then n else idxG p r (n + 1)
theorem idxG_any (p : Sg → Bool) : ∀ (l : List Sg) (n : Nat), (0 ≤ idxG p l n ↔ l.any p = true)
  | [], n => by simp [idxG]
  | a :: r, n => by
    simp only [idxG, List.any_cons]
    cases h : p a
    · simpa using idxG_any p r (n + 1)
    · simp
theorem rIxG (ds : List D) (st : Dv.St) : callI Try.prog prims dx tbl 85 ds st = callR Try.prog prims dx tbl 85 ds st (frL (fr st 6) ds) := callRw rfl rfl (rfl : tbl 85 = some c85) rfl ds st
def PostIG (n : Int) (r : Option DSt) : Prop := ∃ T', r = some (if n < 0 then .exit 0 else .ret, T', ⟨[], [], 0⟩) ∧ (0 ≤ n → T'.at 4 = .fz (.int .i64 n))
theorem loopIxG (p : Sg → Bool) (g : Nat) (cs : List F) (l : List Sg) (hc : ∀ x ∈ l, ∀ st, callI Try.prog prims dx tbl g (.fz (.agg [.int .i64 x.num, .str x.b]) :: cs.map .fz) st = some (.fz (.bool (p x)), st, [])) (hl : l.length < 1000000) : ∀ (r : List Sg) (i : Nat) (iz : Int), iz = i → l.drop i = r → i ≤ l.length →
    PostIG (idxG p r i) (iterI (dCw Try.prog (callI Try.prog prims dx tbl) l85_0) [0, 1, 7, 8] [(0, .fz (.list (l.map encG))), (1, .fz (.fn g cs)), (7, .fz (.int .i64 l.length)), (8, .fz (.int .i64 iz))] ⟨[], [], 0⟩) := by
  intro r
  induction r with
  | nil =>
    intro i iz hz hd hi
    have hi' := drop_nil hd hi
    subst hi' hz
    rw [x_iter]
    simp [u85_0, idxG]
    exact ⟨_, rfl, fun h => by omega⟩
  | cons a r ih =>
    intro i iz hz hd hi
    subst hz
    obtain ⟨hlt, hli, hd'⟩ := drop_cons hd
    have hw : wrapF .i64 ((i : Int) + 1) = (i : Int) + 1 := wrap_id _ (by omega) (by omega)
    have hca := hc a (by rw [← hli]; exact List.getElem_mem hlt)
    rw [x_iter]
    cases hk : p a with
    | true =>
      simp only [hk] at hca
      simp [u85_0, hlt, encG_len, encG_take, hca, hli, hk, idxG]
      exact ⟨_, by rw [if_neg (by omega)], fun _ => rfl⟩
    | false =>
      simp only [hk] at hca
      simp [u85_0, hlt, encG_len, encG_take, hca, hli, hk, idxG, hw]
      exact ih (i + 1) _ (by omega) hd' hlt
theorem pIxG (p : Sg → Bool) (g : Nat) (cs : List F) (l : List Sg) (hc : ∀ x ∈ l, ∀ st, callI Try.prog prims dx tbl g (.fz (.agg [.int .i64 x.num, .str x.b]) :: cs.map .fz) st = some (.fz (.bool (p x)), st, [])) (hl : l.length < 1000000) : pureI Try.prog prims dx tbl 85 [.list (l.map encG), .fn g cs] = some (.int .i64 (idxG p l 0)) := by
  rw [pureI_of (rfl : tbl 85 = some c85)]
  obtain ⟨T', h1, h2⟩ := loopIxG p g cs l hc hl l 0 0 rfl rfl (Nat.zero_le _)
  by_cases h : idxG p l 0 < 0
  · have h3 : idxG p l 0 = -1 := by
      have : ∀ (l : List Sg) (n : Nat), idxG p l n = -1 ∨ 0 ≤ idxG p l n := by
        intro l
        induction l with
        | nil => intro n; exact .inl rfl
        | cons a r ih => intro n; simp only [idxG]; split; exact .inr (by omega); exact ih _
      have := this l 0
      omega
    rw [if_pos h] at h1
    simp [c85, h1, h3]
  · rw [if_neg h] at h1
    simp [c85, h1, h2 (by omega)]

/-! ### slices.DeleteFunc -/
def keepP (p : Sg → Bool) (l : List Sg) : List Sg := l.filter fun s => !p s
theorem keepP_idx (p : Sg → Bool) : ∀ (l : List Sg) (n : Nat), (idxG p l n = -1 ∧ keepP p l = l) ∨ ∃ i : Nat, idxG p l n = ((n + i : Nat) : Int) ∧ i < l.length ∧ keepP p l = l.take i ++ keepP p (l.drop (i + 1))
  | [], n => .inl ⟨rfl, rfl⟩
  | a :: r, n => by
    cases h : p a with
    | true => exact .inr ⟨0, by simp [idxG, h], by simp, by simp [keepP, h]⟩
    | false =>
      rcases keepP_idx p r (n + 1) with ⟨h1, h2⟩ | ⟨i, h1, h2, h3⟩
      · refine .inl ⟨by simp [idxG, h, h1], ?_⟩
        unfold keepP at h2 ⊢
        simp [h]
        simpa using h2
      · refine .inr ⟨i + 1, by simp [idxG, h, h1]; omega, by simpa using h2, ?_⟩
        unfold keepP at h3 ⊢
        simp [h]
        simpa using h3
/-- Rows of which the first so many are what is kept, the last so many as they were. -/
structure Mid (p : Sg → Bool) (l rows : List Sg) (i j : Nat) : Prop where
  len : rows.length = l.length
  ij : i < j
  jl : j ≤ l.length
  front : rows.take i = keepP p (l.take j)
  back : rows.drop j = l.drop j
theorem Mid.skip {p : Sg → Bool} {l rows : List Sg} {i j : Nat} (h : Mid p l rows i j) {x : Sg} (hx : l[j]? = some x) (hp : p x = true) : Mid p l rows i (j + 1) := by
  have hl := lt_of hx
  refine ⟨h.len, by have := h.ij; omega, hl, ?_, ?_⟩
  · rw [h.front, List.take_add_one, hx]
    simp [keepP, hp]
  · have := congrArg (List.drop 1) h.back
    simpa [List.drop_drop, Nat.add_comm] using this
theorem Mid.put {p : Sg → Bool} {l rows : List Sg} {i j : Nat} (h : Mid p l rows i j) {x : Sg} (hx : l[j]? = some x) (hp : p x = false) : Mid p l (rows.set i x) (i + 1) (j + 1) := by
  have hl := lt_of hx
  have hij := h.ij
  have hlen := h.len
  refine ⟨by simp [h.len], by omega, hl, ?_, ?_⟩
  · rw [List.take_add_one, List.getElem?_set_self (by omega), List.take_set_of_le (Nat.le_refl _), h.front, List.take_add_one, hx]
    simp [keepP, hp]
  · rw [List.drop_set_of_lt (by omega)]
    have := congrArg (List.drop 1) h.back
    simpa [List.drop_drop, Nat.add_comm] using this
theorem Mid.get {p : Sg → Bool} {l rows : List Sg} {i j : Nat} (h : Mid p l rows i j) : rows[j]? = l[j]? := by
  have := congrArg (·[0]?) h.back
  simpa [List.getElem?_drop] using this
end Go.Proofs.Ytpinhopgeaamdaa.Pl
