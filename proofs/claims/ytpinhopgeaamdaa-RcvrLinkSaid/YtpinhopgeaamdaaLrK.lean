/-
  What is proved here: over a way on which pieces are lost, come twice, late: the fates.
  Conditions: none.
-/
import Derived.Test.YtpinhopgeaamdaaLqK
set_option linter.unusedVariables false
set_option linter.unusedSimpArgs false
set_option maxRecDepth 100000
set_option maxHeartbeats 8000000
namespace Go.Proofs.Ytpinhopgeaamdaa.Pl
open Go Go.Proofs Go.Proofs.Ev Go.Proofs.Dv Cd
attribute [local simp] x_pure x_skip x_reg x_drw x_seq x_cond x_block x_loop' Tm.keep_nil x_exit x_ret k_seq k_seq_ret k_seq_exit k_seq_none k_seq_ite k_cond k_block k_block_ret k_block_exit k_block_none k_block_ite k_iter k_iter_ret k_iter_exit k_iter_none k_iter_ite k_reg k_reg_none k_reg_ite x_is_nil x_is x_is_g k_ins k_ins_none k_ins_ite k_grd x_ord_nil x_ord x_ord_g k_ord k_ord_none k_ord_ite k_ogrd k_out_ret k_out k_out_none k_out_ite k_pure k_pure_none k_pure_ite startD dI dA deo Tm.at Tm.dst Tm.set Tm.put Tm.keep dW dRes oneOfD mkTup mkAgg mkFn allF frL fr vD vD1 vF vFL dBin dEq dNil isNilD dScal F.cv eBin sameKind eInt eStr cellsD oneD F.one dFill putAtD chunk dbnd dSrc St.own St.drop St.still St.fresh chkQ stillQ freshQ lOf rdOf rdOK undefD F.full F.fullL List.mapIdx_cons strip allOne_nil allOne_cons allOne_append allLen_nil allLen_cons allLen_append roomOK_small filterT y_mv y_pick y_new y_box y_build y_bslice y_ld1 y_ldn y_nilchk y_bin y_not y_conv y_bytes y_string y_ifc y_fn y_cut y_cuts y_fa y_fld y_ia y_idx y_idxs y_ext y_len y_lenstr y_app y_grow y_mks y_slow y_call y_callv y_inv y_extc x_it_st x_it_clr x_it_cpy k_addT k_addT_none k_addT_ite k_orU k_orU_none dU D.turn turnL Tm.turn turnS St.turn turnRows_length

/-! ### The fates -/
theorem wn (n : Nat) (h : n < 100000) : wrapF .i64 (n : Int) = n := wrap_id _ (by omega) (by omega)
theorem wn1 (n : Nat) (h : n < 100000) : wrapF .i64 ((n : Int) + 1) = (n : Int) + 1 := wrap_id _ (by omega) (by omega)
def FlyD (fly : List Sg) (L : List Nat) (c : Nat) (d : D) : Prop := (fly = [] ∧ d = .nils) ∨ ∃ t, t ∈ L ∧ t < c ∧ d = .ow t 0 2 (fly.map encG)
theorem Lnk.mono {all : List (List UInt8)} {B N : Nat} {r : Rv} {n m : Nat} {got : List UInt8} (h : Lnk all B N r n got) (hm : n ≤ m) : Lnk all B N r m got :=
  ⟨⟨h.ok.k, by have := h.ok.up; omega, h.ok.four, h.ok.nums⟩, h.lo, h.hi, h.more, h.segs, h.got⟩
theorem Lnk.told {all : List (List UInt8)} {B N U N' : Nat} {r : Rv} {n : Nat} {got : List UInt8} (h : Lnk all B N r n got) (hU : r.k.up = U) (hN : N ≤ N') : Lnk all U N' r n got :=
  ⟨h.ok, by omega, by have := h.hi; omega, fun m hm => by have := h.more m hm; omega, fun x hx => (h.segs x hx).mono hN, h.got⟩
def PostK2 (k : Nat) (r0 : Option DSt) : Prop := ∃ (w : Wd) (B N : Nat) (r : Rv) (n : Nat) (g : List UInt8) (dm dl : D) (rest : List (Bool × List D)) (L : List Nat) (c : Nat) (T' : Tm), Good w (lets k) B N ∧ Lnk (lets k) B N r n g ∧ n ≤ 1000 ∧ StR r dm dl ∧ T'.keep [5, 6, 8, 9] = [(5, .fz (.int .i64 k)), (6, .ptr 0 0), (8, .ptr 1 0), (9, .fz (.str g))] ∧
  r0 = some (.exit 2, T', ⟨(true, [.fz (.int .i64 w.base), .fz (.int .i64 w.next), .fz (.list (w.L.map encG)), .fz (.list (w.wait.map encT))]) :: (true, [.fz (.int .i64 r.k.up), dm, dl]) :: rest, L, c⟩)
theorem loopK2 (k : Nat) (hk : k ≤ 100) (l : List Int) (hl : l.length ≤ 150) (hb : ∀ z ∈ l, 0 ≤ z ∧ z < 256) : ∀ (q : List Int) (i : Nat) (iz : Int) (w : Wd) (B N : Nat) (r : Rv) (g : List UInt8) (fly : List Sg) (d10 dm dl : D) (rest : List (Bool × List D)) (L : List Nat) (c : Nat), iz = i → l.drop i = q → i ≤ l.length →
    Good w (lets k) B N → Lnk (lets k) B N r (4 * i) g → (∀ x ∈ fly, Sent (lets k) N x) → fly.length ≤ i → FlyD fly L c d10 → StR r dm dl →
    PostK2 k (iterI (dCw Try.prog (callI Try.prog prims dx tbl) l13_2) [1, 5, 6, 8, 9, 10, 11] [(1, .fz (.list (l.map fun z => [.int .u8 z]))), (5, .fz (.int .i64 k)), (6, .ptr 0 0), (8, .ptr 1 0), (9, .fz (.str g)), (10, d10), (11, .fz (.int .i64 iz))] ⟨(true, [.fz (.int .i64 w.base), .fz (.int .i64 w.next), .fz (.list (w.L.map encG)), .fz (.list (w.wait.map encT))]) :: (true, [.fz (.int .i64 r.k.up), dm, dl]) :: rest, L, c⟩) := by
  intro q
  induction q with
  | nil =>
    intro i iz w B N r g fly d10 dm dl rest L c hz hd hi gw hr hf hfl ho hs
    have hi' := drop_nil hd hi
    subst hi' hz
    rw [x_iter]
    simp [u13_2]
    exact ⟨w, B, N, r, _, g, dm, dl, rest, L, c, _, gw, hr, by omega, hs, by simp [Tm.keep], rfl⟩
  | cons a q ih =>
    intro i iz w B N r g fly d10 dm dl rest L c hz hd hi gw hr hf hfl ho hs
    subst hz
    obtain ⟨hlt, hli, hd'⟩ := drop_cons hd
    have ha := hb a (by rw [← hli]; exact List.getElem_mem hlt)
    obtain ⟨z, rfl⟩ : ∃ z : Nat, a = z := ⟨a.toNat, by omega⟩
    have hi1 : ((i : Int) + 1) = ((i + 1 : Nat) : Int) := by omega
    have hall : (lets k).length = k := lets_len k
    have hrm := hr.mono (m := 4 * (i + 1)) (by omega)
    have hwok := gw.ok (n := 200) (by omega) (by omega)
    obtain ⟨q4, hq4⟩ : ∃ q4, q4 = z / 4 := ⟨_, rfl⟩
    have hm4 : (z : Int).tmod 4 = ((z % 4 : Nat) : Int) := by rw [Int.tmod_eq_emod_of_nonneg (by omega)]; omega
    have hqd : (z : Int).tdiv 4 = (q4 : Int) := by rw [Int.tdiv_eq_ediv_of_nonneg (by omega)]; omega
    have hcases : z % 4 = 0 ∨ z % 4 = 1 ∨ z % 4 = 2 ∨ z % 4 = 3 := by omega
    -- a place, round and round
    have place : ∀ n : Nat, 0 < n → n ≤ 1000 → ∃ j : Nat, j < n ∧ (q4 : Int).tmod (n : Int) = (j : Int) := fun n hn hn2 => by
      refine ⟨q4 % n, Nat.mod_lt _ hn, ?_⟩
      rw [Int.tmod_eq_emod_of_nonneg (by omega)]
      omega
    have hz9 : z < 100000 := by omega
    have hq9 : q4 < 100000 := by omega
    have hi9 : i < 100000 := by omega
    rcases hcases with h4 | h4 | h4 | h4
    · -- one is sent again
      rw [h4] at hm4
      by_cases hn : w.L = []
      · have goal := ih (i + 1) _ w B N r g fly d10 dm dl rest L c hi1 hd' hlt gw hrm hf (by omega) ho hs
        rw [x_iter]
        simp [u13_2, hlt, hli, wn z hz9, hm4, hn]
        simp [hn] at goal
        simp [wn1 i hi9]
        exact goal
      · have hpos : 0 < w.L.length := List.length_pos_iff.2 hn
        have hl4 : w.L.length ≤ 200 := hwok.len
        obtain ⟨j, hj, hr1⟩ := place w.L.length hpos (by omega)
        have hj9 : j < 100000 := by omega
        obtain ⟨x, hx⟩ : ∃ x, w.L[j] = x := ⟨_, rfl⟩
        have hxs : Sent (lets k) N x := by
          have hm : x ∈ w.L := by rw [← hx]; exact List.getElem_mem hj
          rw [gw.L] at hm
          have hbn := gw.bn
          have := mkL_sent x hm
          rw [show B + (N - B) = N by omega] at this
          exact this
        have hf' : ∀ y ∈ fly ++ [x], Sent (lets k) N y := fun y hy => by
          rcases List.mem_append.1 hy with hy | hy
          · exact hf y hy
          · simp at hy; subst hy; exact hxs
        have goal := fun d10 rest L c ho => ih (i + 1) _ w B N r g (fly ++ [x]) d10 dm dl rest L c hi1 hd' hlt gw hrm hf' (by simp; omega) ho hs
        have o1 := (encG_ok fly).1
        have r1 : roomOK 24 (fly.length + 1) := roomOK_small (by omega) (by omega)
        rw [x_iter]
        rcases ho with ⟨rfl, rfl⟩ | ⟨t, ht, htc, rfl⟩
        · simp [u13_2, hlt, hli, wn z hz9, hm4, hn, hpos, hqd, wn q4 hq9, hr1, wn j hj9, hj, hx, encG, wn1 i hi9]
          refine goal _ _ _ _ (.inr ⟨c + 1, ?_, ?_, ?_⟩)
          · simp
          · omega
          · simp [encG]
        · simp [u13_2, hlt, hli, wn z hz9, hm4, hn, hpos, hqd, wn q4 hq9, hr1, wn j hj9, hj, hx, encG, ht, o1, r1, wn1 i hi9]
          refine goal _ _ _ _ (.inr ⟨c + 1, ?_, ?_, ?_⟩)
          · simp
          · omega
          · simp [encG]
    · -- one comes, and is gone
      rw [h4] at hm4
      by_cases hn : fly = []
      · have goal := ih (i + 1) _ w B N r g fly d10 dm dl rest L c hi1 hd' hlt gw hrm hf (by omega) ho hs
        rw [x_iter]
        subst hn
        rcases ho with ⟨_, rfl⟩ | ⟨t, ht, htc, rfl⟩
        · simp [u13_2, hlt, hli, wn z hz9, hm4, wn1 i hi9]
          exact goal
        · simp [u13_2, hlt, hli, wn z hz9, hm4, ht, wn1 i hi9]
          exact goal
      · have hpos : 0 < fly.length := List.length_pos_iff.2 hn
        obtain ⟨j, hj, hr1⟩ := place fly.length hpos (by omega)
        have hj9 : j < 100000 := by omega
        obtain ⟨x, hx⟩ : ∃ x, fly[j] = x := ⟨_, rfl⟩
        have hxs : Sent (lets k) N x := hf x (by rw [← hx]; exact List.getElem_mem hj)
        have hp := pComes r (hr.ok.rv (by omega)) x
        have htl := told_len r (4 * i) hr.ok x
        have hna := gw.na
        have hr' := hr.comes (by omega) (by omega) hxs
        have hgl : (g ++ (comesR r x).2.flatten).length ≤ k := by rw [hr'.got]; exact take_flat k _
        rw [List.length_append] at hgl
        rw [show 4 * i + 4 = 4 * (i + 1) by omega] at hr'
        have hf' : ∀ y ∈ fly.take j ++ fly.drop (j + 1), Sent (lets k) N y := fun y hy => by
          rcases List.mem_append.1 hy with hy | hy
          · exact hf y (List.mem_of_mem_take hy)
          · exact hf y (List.mem_of_mem_drop hy)
        have goal := fun d10 rest L c ho => ih (i + 1) _ w B N (comesR r x).1 (g ++ (comesR r x).2.flatten) (fly.take j ++ fly.drop (j + 1)) d10 _ _ rest L c hi1 hd' hlt gw hr' hf' (by simp; omega) ho (.inr ⟨rfl, rfl⟩)
        generalize (comesR r x).1 = r' at hp goal
        generalize (comesR r x).2 = X at hp goal htl hgl
        have inner := fun d10 st => loopK1 (.fz (.list (l.map fun z => [.int .u8 z]))) (.fz (.int .i64 k)) d10 (.fz (.int .i64 (i : Int))) (.fz (.int .i64 (z : Int))) (.fz (.int .i64 (j : Int))) X (by omega) st X 0 0 g rfl rfl (Nat.zero_le _) (by omega)
        simp only [encR, encG] at hp
        have o1 : allOne ((fly.map encG).take j) = true := by rw [← List.map_take]; exact (encG_ok _).1
        have o2 : allOne ((fly.map encG).drop (j + 1)) = true ∧ allLen 2 ((fly.map encG).drop (j + 1)) = true := by rw [← List.map_drop]; exact encG_ok _
        have o3 : allLen 2 ((fly.map encG).take j) = true := by rw [← List.map_take]; exact (encG_ok _).2
        have r1 : roomOK 24 j := roomOK_small (by omega) (by omega)
        have r2 : roomOK 24 (j + (fly.length - (j + 1))) := roomOK_small (by omega) (by omega)
        have hj1 : (j : Int) + 1 = ((j + 1 : Nat) : Int) := by omega
        have hjle : j ≤ fly.length := by omega
        have hj0 : (0 : Int) ≤ (j : Int) + 1 := by omega
        have tk : List.take (fly.length - (j + 1)) (List.drop (j + 1) (fly.map encG)) = List.drop (j + 1) (fly.map encG) := List.take_of_length_le (by simp)
        have hjm : min j fly.length = j := by omega
        have hj1le : j + 1 ≤ fly.length := hj
        have hjz : (j : Int) ≤ (fly.length : Int) := by omega
        have hj1z : (j : Int) + 1 ≤ (fly.length : Int) := by omega
        rcases ho with ⟨rfl, rfl⟩ | ⟨t, ht, htc, rfl⟩
        · exact absurd rfl hn
        · have ec : ¬ t = c := by omega
          have ec1 : ¬ t = c + 1 := by omega
          rw [x_iter]
          rcases hs with ⟨rfl, rfl, rfl⟩ | ⟨rfl, rfl⟩
          · simp at hp
            obtain ⟨T1, j1, j2⟩ := inner (.ow t 0 2 (fly.map encG)) ⟨(true, [.fz (.int .i64 w.base), .fz (.int .i64 w.next), .fz (.list (w.L.map encG)), .fz (.list (w.wait.map encT))]) :: (true, [.fz (.int .i64 r'.k.up), .fz (.list (r'.k.more.map encI)), .fz (.list (r'.l.map encG))]) :: (rest ++ [(true, [.fz (.int .i64 r'.k.up), .fz (.list (r'.k.more.map encI)), .fz (.list (r'.l.map encG))])]), L, c⟩
            simp [u13_2, hlt, hli, wn z hz9, hm4, hn, hpos, hqd, wn q4 hq9, hr1, wn j hj9, hj, hx, encG, ht, rComes, callR, hp, mapI, mapI2, g1a, s1a, j1, j2, wn1 j hj9, hjle, hj1le, hjz, hj1z, hjm, hj0, tk, ec, ec1, o1, o2, o3, r1, r2, wn1 i hi9]
            refine goal _ _ _ _ (.inr ⟨c + 1 + 1, ?_, ?_, ?_⟩)
            · simp
            · omega
            · simp
          · obtain ⟨T1, j1, j2⟩ := inner (.ow t 0 2 (fly.map encG)) ⟨(true, [.fz (.int .i64 w.base), .fz (.int .i64 w.next), .fz (.list (w.L.map encG)), .fz (.list (w.wait.map encT))]) :: (true, [.fz (.int .i64 r'.k.up), .fz (.list (r'.k.more.map encI)), .fz (.list (r'.l.map encG))]) :: (rest ++ [(true, [.fz (.int .i64 r'.k.up), .fz (.list (r'.k.more.map encI)), .fz (.list (r'.l.map encG))])]), L, c⟩
            simp [u13_2, hlt, hli, wn z hz9, hm4, hn, hpos, hqd, wn q4 hq9, hr1, wn j hj9, hj, hx, encG, ht, rComes, callR, hp, mapI, mapI2, g1a, s1a, j1, j2, wn1 j hj9, hjle, hj1le, hjz, hj1z, hjm, hj0, tk, ec, ec1, o1, o2, o3, r1, r2, wn1 i hi9]
            refine goal _ _ _ _ (.inr ⟨c + 1 + 1, ?_, ?_, ?_⟩)
            · simp
            · omega
            · simp
    · -- one comes, and may come again
      rw [h4] at hm4
      by_cases hn : fly = []
      · have goal := ih (i + 1) _ w B N r g fly d10 dm dl rest L c hi1 hd' hlt gw hrm hf (by omega) ho hs
        rw [x_iter]
        subst hn
        rcases ho with ⟨_, rfl⟩ | ⟨t, ht, htc, rfl⟩
        · simp [u13_2, hlt, hli, wn z hz9, hm4, wn1 i hi9]
          exact goal
        · simp [u13_2, hlt, hli, wn z hz9, hm4, ht, wn1 i hi9]
          exact goal
      · have hpos : 0 < fly.length := List.length_pos_iff.2 hn
        obtain ⟨j, hj, hr1⟩ := place fly.length hpos (by omega)
        have hj9 : j < 100000 := by omega
        obtain ⟨x, hx⟩ : ∃ x, fly[j] = x := ⟨_, rfl⟩
        have hxs : Sent (lets k) N x := hf x (by rw [← hx]; exact List.getElem_mem hj)
        have hp := pComes r (hr.ok.rv (by omega)) x
        have htl := told_len r (4 * i) hr.ok x
        have hna := gw.na
        have hr' := hr.comes (by omega) (by omega) hxs
        have hgl : (g ++ (comesR r x).2.flatten).length ≤ k := by rw [hr'.got]; exact take_flat k _
        rw [List.length_append] at hgl
        rw [show 4 * i + 4 = 4 * (i + 1) by omega] at hr'
        have goal := fun rest L c ho => ih (i + 1) _ w B N (comesR r x).1 (g ++ (comesR r x).2.flatten) fly d10 _ _ rest L c hi1 hd' hlt gw hr' hf (by omega) ho (.inr ⟨rfl, rfl⟩)
        generalize (comesR r x).1 = r' at hp goal
        generalize (comesR r x).2 = X at hp goal htl hgl
        have inner := fun d10 st => loopK1 (.fz (.list (l.map fun z => [.int .u8 z]))) (.fz (.int .i64 k)) d10 (.fz (.int .i64 (i : Int))) (.fz (.int .i64 (z : Int))) (.fz (.int .i64 (j : Int))) X (by omega) st X 0 0 g rfl rfl (Nat.zero_le _) (by omega)
        simp only [encR, encG] at hp
        rcases ho with ⟨rfl, rfl⟩ | ⟨t, ht, htc, rfl⟩
        · exact absurd rfl hn
        · rw [x_iter]
          rcases hs with ⟨rfl, rfl, rfl⟩ | ⟨rfl, rfl⟩
          · simp at hp
            obtain ⟨T1, j1, j2⟩ := inner (.ow t 0 2 (fly.map encG)) ⟨(true, [.fz (.int .i64 w.base), .fz (.int .i64 w.next), .fz (.list (w.L.map encG)), .fz (.list (w.wait.map encT))]) :: (true, [.fz (.int .i64 r'.k.up), .fz (.list (r'.k.more.map encI)), .fz (.list (r'.l.map encG))]) :: (rest ++ [(true, [.fz (.int .i64 r'.k.up), .fz (.list (r'.k.more.map encI)), .fz (.list (r'.l.map encG))])]), L, c⟩
            simp [u13_2, hlt, hli, wn z hz9, hm4, hn, hpos, hqd, wn q4 hq9, hr1, wn j hj9, hj, hx, encG, ht, rComes, callR, hp, mapI, mapI2, g1a, s1a, j1, j2, wn1 i hi9]
            exact goal _ _ _ (.inr ⟨t, ht, htc, rfl⟩)
          · obtain ⟨T1, j1, j2⟩ := inner (.ow t 0 2 (fly.map encG)) ⟨(true, [.fz (.int .i64 w.base), .fz (.int .i64 w.next), .fz (.list (w.L.map encG)), .fz (.list (w.wait.map encT))]) :: (true, [.fz (.int .i64 r'.k.up), .fz (.list (r'.k.more.map encI)), .fz (.list (r'.l.map encG))]) :: (rest ++ [(true, [.fz (.int .i64 r'.k.up), .fz (.list (r'.k.more.map encI)), .fz (.list (r'.l.map encG))])]), L, c⟩
            simp [u13_2, hlt, hli, wn z hz9, hm4, hn, hpos, hqd, wn q4 hq9, hr1, wn j hj9, hj, hx, encG, ht, rComes, callR, hp, mapI, mapI2, g1a, s1a, j1, j2, wn1 i hi9]
            exact goal _ _ _ (.inr ⟨t, ht, htc, rfl⟩)
    · -- it is told
      rw [h4] at hm4
      have hu0 := hr.ok.k.up
      have hlo := hr.lo
      have hhi := hr.hi
      obtain ⟨U, hU⟩ : ∃ U : Nat, r.k.up = U := ⟨r.k.up.toNat, by omega⟩
      have hp := pTold w 200 (by omega) hwok r.k.up
      obtain ⟨N', hN', g'⟩ := gw.told2 U (by omega) (by omega)
      have goal := fun L c ho => ih (i + 1) _ (toldW w (U : Int)) U N' r g fly d10 dm dl rest L c hi1 hd' hlt g' (hrm.told hU hN') (fun y hy => (hf y hy).mono hN') (by omega) ho hs
      rw [← hU] at goal
      generalize toldW w r.k.up = v at hp goal
      simp only [encW] at hp
      rw [x_iter]
      rcases hs with ⟨rfl, rfl, rfl⟩ | ⟨rfl, rfl⟩
      · simp at hp
        rcases ho with ⟨rfl, rfl⟩ | ⟨t, ht, htc, rfl⟩
        · simp [u13_2, hlt, hli, wn z hz9, hm4, rTold, callR, hp, mapI, mapI2, wn1 i hi9]
          exact goal _ _ (.inl ⟨rfl, rfl⟩)
        · simp [u13_2, hlt, hli, wn z hz9, hm4, rTold, callR, hp, mapI, mapI2, wn1 i hi9]
          exact goal _ _ (.inr ⟨t, ht, htc, rfl⟩)
      · rcases ho with ⟨rfl, rfl⟩ | ⟨t, ht, htc, rfl⟩
        · simp [u13_2, hlt, hli, wn z hz9, hm4, rTold, callR, hp, mapI, mapI2, wn1 i hi9]
          exact goal _ _ (.inl ⟨rfl, rfl⟩)
        · simp [u13_2, hlt, hli, wn z hz9, hm4, rTold, callR, hp, mapI, mapI2, wn1 i hi9]
          exact goal _ _ (.inr ⟨t, ht, htc, rfl⟩)
end Go.Proofs.Ytpinhopgeaamdaa.Pl
