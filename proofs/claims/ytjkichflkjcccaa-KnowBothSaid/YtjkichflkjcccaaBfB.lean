/-
  What is proved here: which numbers may be; numbers made of numbers.
  Conditions: none.
-/
import Derived.Test.YtjkichflkjcccaaBeB
set_option linter.unusedVariables false
set_option linter.unusedSimpArgs false
set_option maxRecDepth 100000
set_option maxHeartbeats 8000000
namespace Go.Proofs.Ytjkichflkjcccaa.Pl
open Go Go.Proofs Go.Proofs.Ev Go.Proofs.Dv Cd
attribute [local simp] x_pure x_skip x_reg x_drw x_seq x_cond x_block x_frz x_loop' Tm.keep_nil x_exit x_ret k_seq k_seq_ret k_seq_exit k_seq_none k_seq_ite k_cond k_block k_block_ret k_block_exit k_block_none k_block_ite k_iter k_iter_ret k_iter_exit k_iter_none k_iter_ite k_reg k_reg_none k_reg_ite x_is_nil x_is x_is_g k_ins k_ins_none k_ins_ite k_grd x_ord_nil x_ord x_ord_g k_ord k_ord_none k_ord_ite k_ogrd k_out_ret k_out k_out_none k_out_ite k_pure k_pure_none k_pure_ite startD dI dA deo Tm.at Tm.dst Tm.set Tm.put Tm.keep dW dRes oneOfD mkTup mkAgg mkFn allF frL fr vD vD1 vF vFL dBin dEq dNil isNilD dScal F.cv eBin sameKind eInt eStr cellsD oneD F.one dFill putAtD chunk dbnd dSrc St.own St.drop St.still St.fresh chkQ stillQ freshQ lOf rdOf rdOK undefD F.full F.fullL List.mapIdx_cons strip allOne_nil allOne_cons allOne_append allLen_nil allLen_cons allLen_append roomOK_small filterT y_mv y_pick y_new y_box y_build y_bslice y_ld1 y_ldn y_nilchk y_bin y_not y_conv y_bytes y_string y_ifc y_fn y_cut y_cuts y_fa y_fld y_ia y_idx y_idxs y_ext y_len y_lenstr y_app y_grow y_mks y_slow y_call y_callv y_inv y_extc x_it_st x_it_clr x_it_cpy k_addT k_addT_none k_addT_ite k_orU k_orU_none dU D.turn turnL Tm.turn turnS St.turn turnRows_length

def PostCk (st : Dv.St) (r : Option DSt) : Prop := ∃ T' : Tm, r = some (.exit 0, T', st)
theorem loopCk (l : List Int) (hl : l.length ≤ 60) (st : Dv.St) : ∀ (r : List Int) (i : Nat) (iz last : Int), iz = i → l.drop i = r → i ≤ l.length → Rise idI (last :: r) → (∀ x ∈ r, x ≤ 50) →
    PostCk st (iterI (dCw Try.prog (callI Try.prog prims dx tbl) l20_0) [3, 26, 27, 28] [(3, .fz (.int .i64 last)), (26, .fz (.list (l.map encI))), (27, .fz (.int .i64 l.length)), (28, .fz (.int .i64 iz))] st) := by
  intro r
  induction r with
  | nil =>
    intro i iz last hz hd hi hs hm
    have hi' := drop_nil hd hi
    subst hi' hz
    rw [x_iter]
    simp [u20_0]
    exact ⟨_, rfl⟩
  | cons a r ih =>
    intro i iz last hz hd hi hs hm
    subst hz
    obtain ⟨hlt, hli, hd'⟩ := drop_cons hd
    obtain ⟨s1, s2⟩ := List.pairwise_cons.1 hs
    have h1 : last < a := s1 a (by simp)
    have h2 : ¬ a ≤ last := by omega
    have h3 := hm a (by simp)
    have h4 : ¬ 1000000 < a := by omega
    have c1 : -100000 ≤ (i : Int) + 1 ∧ (i : Int) + 1 ≤ 100000 := by omega
    have goal := ih (i + 1) ((i : Int) + 1) a (by omega) hd' hlt s2 fun x hx => hm x (by simp [hx])
    rw [x_iter]
    simp [u20_0, hlt, hli, encI, h2, h4, wz _ c1]
    exact goal
theorem pCheck (k : Kn) (h : K50 k) : pureI Try.prog prims dx tbl 20 [.agg (encK k)] = some .nilifc := by
  rw [pureI_of (rfl : tbl 20 = some c20)]
  have hu := h.up
  have hl := h.len
  have g1 : ¬ k.up < 0 := by omega
  have g2 : ¬ 1000000 < k.up := by omega
  have g3 : ¬ (60 : Int) < k.more.length := by omega
  have c1 : -100000 ≤ k.up + 1 ∧ k.up + 1 ≤ 100000 := by omega
  obtain ⟨T', j1⟩ := loopCk k.more (by omega) ⟨[(true, [.fz (.int .i64 k.up), .fz (.list (k.more.map encI))])], [], 0⟩ k.more 0 0 (k.up + 1) rfl rfl (Nat.zero_le _) (List.pairwise_cons.2 ⟨fun x hx => (h.more x hx).1, h.ok.rise⟩) fun x hx => (h.more x hx).2
  simp only [encK]
  simp [c20, g1, g2, g3, wz _ c1, j1]
theorem rCheck (ds : List D) (st : Dv.St) : callI Try.prog prims dx tbl 20 ds st = callR Try.prog prims dx tbl 20 ds st (frL (fr st 6) ds) := callRw rfl rfl (rfl : tbl 20 = some c20) rfl ds st
theorem pIs : pureI Try.prog prims dx tbl 19 [.nilifc, .ifc 45 (.agg [])] = some (.bool false) := by
  refine pureI_spot 60 ?_
  kernel_rfl
theorem rIs (ds : List D) (st : Dv.St) : callI Try.prog prims dx tbl 19 ds st = callR Try.prog prims dx tbl 19 ds st (frL (fr st 6) ds) := callRw rfl rfl (rfl : tbl 19 = some c19) rfl ds st
theorem pMay (k : Kn) (h : K50 k) : pureI Try.prog prims dx tbl 8 [.agg (encK k)] = some (.bool true) := by
  rw [pureI_of (rfl : tbl 8 = some c8)]
  have h1 := pCheck k h
  have h2 := pIs
  simp only [encK] at h1 ⊢
  simp [c8, rCheck, rIs, callR, h1, h2]
theorem rMay (ds : List D) (st : Dv.St) : callI Try.prog prims dx tbl 8 ds st = callR Try.prog prims dx tbl 8 ds st (frL (fr st 6) ds) := callRw rfl rfl (rfl : tbl 8 = some c8) rfl ds st
/-! ### Made -/
def madeF (k : Kn) : List Int → Kn
  | [] => k
  | z :: r => madeF (addK k (z % 50 + 1)) r
def MoreD (k : Kn) (d : D) : Prop := (k.more = [] ∧ d = .nils) ∨ d = .fz (.list (k.more.map encI))
def PostMd (d0 : D) (k : Kn) (r : Option DSt) : Prop := ∃ (d : D) (T' : Tm), MoreD k d ∧ T'.keep [2, 3] = [(2, .ptr 0 0), (3, .ptr 1 0)] ∧ r = some (.exit 0, T', ⟨[(true, [.fz (.int .i64 0), d0]), (true, [.fz (.int .i64 k.up), d])], [], 0⟩)
theorem madeF_ok : ∀ (l : List Int) (k : Kn), K50 k → (∀ z ∈ l, 0 ≤ z ∧ z < 256) → K50 (madeF k l)
  | [], k, h, _ => h
  | z :: r, k, h, hl => madeF_ok r _ (h.add (by have := hl z (by simp); omega) (by have := hl z (by simp); omega)) fun x hx => hl x (by simp [hx])
theorem loopMd (d0 : D) (l : List Int) (hl : l.length ≤ 20) (hb : ∀ z ∈ l, 0 ≤ z ∧ z < 256) : ∀ (r : List Int) (i : Nat) (iz : Int) (k : Kn) (d : D), iz = i → l.drop i = r → i ≤ l.length → K50 k → MoreD k d →
    PostMd d0 (madeF k r) (iterI (dCw Try.prog (callI Try.prog prims dx tbl) l5_0) [0, 2, 3, 4] [(0, .fz (.list (l.map fun z => [.int .u8 z]))), (2, .ptr 0 0), (3, .ptr 1 0), (4, .fz (.int .i64 iz))] ⟨[(true, [.fz (.int .i64 0), d0]), (true, [.fz (.int .i64 k.up), d])], [], 0⟩) := by
  intro r
  induction r with
  | nil =>
    intro i iz k d hz hd hi hk hm
    have hi' := drop_nil hd hi
    subst hi' hz
    rw [x_iter]
    simp [u5_0]
    exact ⟨d, _, hm, by simp [Tm.keep], rfl⟩
  | cons a r ih =>
    intro i iz k d hz hd hi hk hm
    subst hz
    obtain ⟨hlt, hli, hd'⟩ := drop_cons hd
    have ha := hb a (by rw [← hli]; exact List.getElem_mem hlt)
    have ht : a.tmod 50 = a % 50 := Int.tmod_eq_emod_of_nonneg ha.1
    have hu := hk.up
    have hkl := hk.len
    have hp := pAddNum k hk.ok (by omega) (by omega) (fun x hx => by have := (hk.more x hx).2; omega) (a % 50 + 1) (by omega) (by omega)
    have hk' : K50 (addK k (a % 50 + 1)) := hk.add (by omega) (by omega)
    have hcm : (1 : Int) + a % 50 = a % 50 + 1 := by omega
    have c1 : -100000 ≤ (i : Int) + 1 ∧ (i : Int) + 1 ≤ 100000 := by omega
    have c2 : -100000 ≤ a % 50 ∧ a % 50 ≤ 100000 := by omega
    have c3 : -100000 ≤ a % 50 + 1 ∧ a % 50 + 1 ≤ 100000 := by omega
    have e : madeF k (a :: r) = madeF (addK k (a % 50 + 1)) r := rfl
    have goal := fun d hm => ih (i + 1) ((i : Int) + 1) (addK k (a % 50 + 1)) d (by omega) hd' hlt hk' hm
    rw [e]
    generalize hK : addK k (a % 50 + 1) = K at *
    generalize hq : a % 50 = q at *
    rw [x_iter]
    simp only [encK] at hp
    rcases hm with ⟨h0, rfl⟩ | rfl
    · rw [h0] at hp
      simp at hp
      simp [u5_0, hlt, hli, ht, hcm, wz _ c1, wz _ c2, wz _ c3, rAddNum, callR, hp]
      exact goal _ (.inr rfl)
    · simp [u5_0, hlt, hli, ht, hcm, wz _ c1, wz _ c2, wz _ c3, rAddNum, callR, hp]
      exact goal _ (.inr rfl)
theorem pMade2 (l : List Int) (hl : l.length ≤ 20) (hb : ∀ z ∈ l, 0 ≤ z ∧ z < 256) : pureI Try.prog prims dx tbl 5 [.list (l.map fun z => [.int .u8 z])] = some (.agg (encK (madeF ⟨0, []⟩ l))) := by
  rw [pureI_of (rfl : tbl 5 = some c5)]
  obtain ⟨d, T', hm, k1, j1⟩ := loopMd .nils l hl hb l 0 0 ⟨0, []⟩ .nils rfl rfl (Nat.zero_le _) K50.zero (.inl ⟨rfl, rfl⟩)
  generalize madeF ⟨0, []⟩ l = K at *
  simp only [encK]
  simp at j1
  rcases hm with ⟨h0, rfl⟩ | rfl
  · simp [c5, j1, k1, h0]
  · simp [c5, j1, k1]
theorem rMade2 (ds : List D) (st : Dv.St) : callI Try.prog prims dx tbl 5 ds st = callR Try.prog prims dx tbl 5 ds st (frL (fr st 6) ds) := callRw rfl rfl (rfl : tbl 5 = some c5) rfl ds st
end Go.Proofs.Ytjkichflkjcccaa.Pl
