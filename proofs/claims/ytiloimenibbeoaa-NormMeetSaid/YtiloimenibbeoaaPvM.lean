/-
  What is proved here: versions and filters by numbers, read one by one.
  Conditions: none.
-/
import Derived.Test.YtiloimenibbeoaaPkM
set_option linter.unusedVariables false
set_option linter.unusedSimpArgs false
set_option maxRecDepth 100000
set_option maxHeartbeats 4000000
namespace Go.Proofs.Ytiloimenibbeoaa.Pl
open Go Go.Proofs Go.Proofs.Ev Go.Proofs.Dv Cd
attribute [local simp] x_pure x_skip x_reg x_drw x_seq x_cond x_block x_frz x_loop' Tm.keep_nil x_exit x_ret k_seq k_seq_ret k_seq_exit k_seq_none k_seq_ite k_cond k_block k_block_ret k_block_exit k_block_none k_block_ite k_iter k_iter_ret k_iter_exit k_iter_none k_iter_ite k_reg k_reg_none k_reg_ite x_is_nil x_is x_is_g k_ins k_ins_none k_ins_ite k_grd x_ord_nil x_ord x_ord_g k_ord k_ord_none k_ord_ite k_ogrd k_out_ret k_out k_out_none k_out_ite k_pure k_pure_none k_pure_ite startD dI dA deo Tm.at Tm.dst Tm.set Tm.put Tm.keep dW dRes oneOfD mkTup mkAgg mkFn allF frL fr vD vD1 vF vFL dBin dEq dNil isNilD dScal F.cv eBin sameKind eInt eStr cellsD oneD F.one dFill putAtD chunk dbnd dSrc St.own St.drop St.still St.fresh chkQ stillQ freshQ lOf rdOf rdOK undefD F.full F.fullL List.mapIdx_cons strip allOne_nil allOne_cons allOne_append allLen_nil allLen_cons allLen_append roomOK_small filterT y_mv y_pick y_new y_box y_build y_bslice y_ld1 y_ldn y_nilchk y_bin y_not y_conv y_bytes y_string y_ifc y_fn y_cut y_cuts y_fa y_fld y_ia y_idx y_idxs y_ext y_len y_lenstr y_app y_grow y_mks y_slow y_call y_callv y_inv y_extc x_it_st x_it_clr x_it_cpy k_addT k_addT_none k_addT_ite k_orU k_orU_none dU D.turn turnL Tm.turn turnS St.turn turnRows_length

theorem vTag (l : List Int) (hl : U8s l) (i : Nat) (hi : i ≤ l.length) : ∃ (s : List UInt8) (i' : Nat), i' ≤ l.length ∧ s ∈ [[], [97], [97, 98], [97, 98, 99], [98], [98, 97]] ∧
    varsI Try.prog prims dx tbl 29 [.ptr 0 0] [[.list (l.map fun z => [.int .u8 z]), .int .i64 i]] = some (.val (.str s), [[.list (l.map fun z => [.int .u8 z]), .int .i64 i']]) := by
  obtain ⟨n1, i1, b1, m1, _, e1⟩ := vNum l hl i hi 6
  have m1 := m1 (by omega)
  rcases (by omega : n1 = 0 ∨ n1 = 1 ∨ n1 = 2 ∨ n1 = 3 ∨ n1 = 4 ∨ n1 = 5) with rfl | rfl | rfl | rfl | rfl | rfl
  · refine ⟨[], i1, b1, by simp, ?_⟩
    rw [varsI_of (rfl : tbl 29 = some c29)]
    simp [c29, x_vars, varsOf, varsK, varsK_ite, finals, callVars, splitV, contents, updV, orC, rNum, e1]
  · refine ⟨[97], i1, b1, by simp, ?_⟩
    rw [varsI_of (rfl : tbl 29 = some c29)]
    simp [c29, x_vars, varsOf, varsK, varsK_ite, finals, callVars, splitV, contents, updV, orC, rNum, e1]
  · refine ⟨[97, 98], i1, b1, by simp, ?_⟩
    rw [varsI_of (rfl : tbl 29 = some c29)]
    simp [c29, x_vars, varsOf, varsK, varsK_ite, finals, callVars, splitV, contents, updV, orC, rNum, e1]
  · refine ⟨[97, 98, 99], i1, b1, by simp, ?_⟩
    rw [varsI_of (rfl : tbl 29 = some c29)]
    simp [c29, x_vars, varsOf, varsK, varsK_ite, finals, callVars, splitV, contents, updV, orC, rNum, e1]
  · refine ⟨[98], i1, b1, by simp, ?_⟩
    rw [varsI_of (rfl : tbl 29 = some c29)]
    simp [c29, x_vars, varsOf, varsK, varsK_ite, finals, callVars, splitV, contents, updV, orC, rNum, e1]
  · refine ⟨[98, 97], i1, b1, by simp, ?_⟩
    rw [varsI_of (rfl : tbl 29 = some c29)]
    simp [c29, x_vars, varsOf, varsK, varsK_ite, finals, callVars, splitV, contents, updV, orC, rNum, e1]
theorem rTag (ds : List D) (st : Dv.St) : callI Try.prog prims dx tbl 29 ds st = orC (callVars (varsI Try.prog prims dx tbl 29) ds st) (callI0 Try.prog prims dx tbl 29 ds st) := callRwV rfl rfl (rfl : tbl 29 = some c29) rfl ds st

def encA (a : Int × Int) : List F := [.int .i64 a.1, .int .i64 a.2]
theorem encA_len (a : Int × Int) : (encA a).length = 2 := rfl
theorem encA_take (a : Int × Int) : List.take 2 (encA a) = [.int .i64 a.1, .int .i64 a.2] := rfl

/-- Attributes so far: none, or a slice of one's own. -/
def AtD (rows : List (List F)) (L : List Nat) (c : Nat) (d : D) : Prop := (rows = [] ∧ d = .nils) ∨ ∃ t, t ∈ L ∧ d = .ow t 0 2 rows
def AtOK (rows : List (List F)) : Prop := ∃ ats : List (Int × Int), rows = ats.map encA ∧ ∀ a ∈ ats, 0 ≤ a.2 ∧ a.2 ≤ 99
theorem AtOK.one {rows : List (List F)} (h : AtOK rows) : allOne rows = true ∧ allLen 2 rows = true := by
  obtain ⟨ats, rfl, _⟩ := h
  exact ⟨allOne_map _ (fun a => rfl) _, allLen_map 2 encA (fun a => rfl) _⟩
theorem AtOK.add {rows : List (List F)} (h : AtOK rows) (a b : Int) (hb : 0 ≤ b ∧ b ≤ 99) : AtOK (rows ++ [[.int .i64 a, .int .i64 b]]) := by
  obtain ⟨ats, rfl, hh⟩ := h
  refine ⟨ats ++ [(a, b)], by simp [encA], fun x hx => ?_⟩
  rcases List.mem_append.1 hx with hx | hx
  · exact hh x hx
  · simp at hx; subst hx; exact hb
def PostA (l : List Int) (r : Option DSt) : Prop := ∃ (rows' : List (List F)) (i' : Nat) (d' : D) (L' : List Nat) (c' : Nat) (T' : Tm), rows'.length ≤ 4 ∧ AtOK rows' ∧ i' ≤ l.length ∧ AtD rows' L' c' d' ∧ T'.keep [3] = [(3, d')] ∧
    r = some (.exit 0, T', ⟨[(true, [.fz (.list (l.map fun z => [.int .u8 z])), .fz (.int .i64 i')])], L', c'⟩)
theorem loopAttrs (l : List Int) (hl : U8s l) : ∀ (m k : Nat) (kz : Int) (rows : List (List F)) (i : Nat) (d : D) (L : List Nat) (c : Nat), k + m = 4 → kz = k → AtOK rows → rows.length ≤ k → i ≤ l.length → AtD rows L c d →
    PostA l (iterI (dCw Try.prog (callI Try.prog prims dx tbl) l28_0) [0, 3, 4] [(0, .ptr 0 0), (3, d), (4, .fz (.int .i64 kz))] ⟨[(true, [.fz (.list (l.map fun z => [.int .u8 z])), .fz (.int .i64 i)])], L, c⟩) := by
  intro m
  induction m with
  | zero =>
    intro k kz rows i d L c hk hkz ho ha hi hd
    obtain rfl : k = 4 := by omega
    refine ⟨rows, i, d, L, c, _, by omega, ho, hi, hd, ?_, (by
      rw [x_iter]
      simp [u28_0, hkz]; rfl)⟩
    simp [Tm.keep]
  | succ m ih =>
    intro k kz rows i d L c hk hkz ho ha hi hd
    obtain ⟨n1, i1, b1, m1, _, e1⟩ := vNum l hl i hi 2
    have m1 := m1 (by omega)
    have hk4 : kz < 4 := by omega
    have wk : wrapF .i64 (kz + 1) = kz + 1 := wrap_id _ (by omega) (by omega)
    by_cases hlen : rows.length < 3
    · have hlen' : (rows.length : Int) < 3 := by omega
      by_cases h0 : n1 = 0
      · subst h0
        obtain ⟨n2, i2, b2, m2, _, e2⟩ := vNum l hl i1 b1 6
        have m2 := m2 (by omega)
        rw [x_iter]
        have hr : roomOK 16 (rows.length + 1) := roomOK_small (by omega) (by omega)
        have h1 := ho.one.1
        rcases hd with ⟨rfl, rfl⟩ | ⟨t, ht, rfl⟩
        · rcases (by omega : n2 = 0 ∨ n2 = 1 ∨ n2 = 2 ∨ n2 = 3 ∨ n2 = 4 ∨ n2 = 5) with rfl | rfl | rfl | rfl | rfl | rfl <;>
            (simp [u28_0, x_vars, varsOf, varsK, varsK_ite, finals, callVars, splitV, contents, updV, orC, rNum, e1, e2, hk4, wk]
             refine ih (k + 1) _ _ _ _ _ _ ?_ ?_ (AtOK.add ho _ _ (by decide)) ?_ b2 (.inr ⟨_, ?_, rfl⟩)
             · omega
             · omega
             · simp; try omega
             · simp)
        · have hne : ∀ c' ∈ L, True := fun _ _ => trivial
          rcases (by omega : n2 = 0 ∨ n2 = 1 ∨ n2 = 2 ∨ n2 = 3 ∨ n2 = 4 ∨ n2 = 5) with rfl | rfl | rfl | rfl | rfl | rfl <;>
            (simp [u28_0, x_vars, varsOf, varsK, varsK_ite, finals, callVars, splitV, contents, updV, orC, rNum, e1, e2, hk4, wk, ht, hlen', hr, h1]
             refine ih (k + 1) _ _ _ _ _ _ ?_ ?_ (AtOK.add ho _ _ (by decide)) ?_ b2 (.inr ⟨_, ?_, rfl⟩)
             · omega
             · omega
             · simp; try omega
             · simp)
      · rw [x_iter]
        rcases hd with ⟨rfl, rfl⟩ | ⟨t, ht, rfl⟩
        · simp [u28_0, x_vars, varsOf, varsK, varsK_ite, finals, callVars, splitV, contents, updV, orC, rNum, e1, h0, hk4, wk]
          refine ih (k + 1) _ _ _ _ _ _ ?_ ?_ ho ?_ b1 (.inl ⟨rfl, rfl⟩)
          · omega
          · omega
          · simp
        · simp [u28_0, x_vars, varsOf, varsK, varsK_ite, finals, callVars, splitV, contents, updV, orC, rNum, e1, h0, hk4, wk, ht, hlen']
          refine ih (k + 1) _ _ _ _ _ _ ?_ ?_ ho ?_ b1 (.inr ⟨t, ht, rfl⟩)
          · omega
          · omega
          · omega
    · have hlen' : ¬ (rows.length : Int) < 3 := by omega
      rcases hd with ⟨rfl, rfl⟩ | ⟨t, ht, rfl⟩
      · simp at hlen
      refine ⟨rows, i, _, L, c, _, by omega, ho, hi, .inr ⟨t, ht, rfl⟩, ?_, (by
        rw [x_iter]
        simp [u28_0, ht, hlen', hk4]; rfl)⟩
      simp [Tm.keep]
theorem vAttrs (l : List Int) (hl : U8s l) (i : Nat) (hi : i ≤ l.length) : ∃ (ats : List (Int × Int)) (i' : Nat), i' ≤ l.length ∧ ats.length ≤ 4 ∧ (∀ a ∈ ats, 0 ≤ a.2 ∧ a.2 ≤ 99) ∧
    varsI Try.prog prims dx tbl 28 [.ptr 0 0] [[.list (l.map fun z => [.int .u8 z]), .int .i64 i]] = some (.val (.list (ats.map encA)), [[.list (l.map fun z => [.int .u8 z]), .int .i64 i']]) := by
  obtain ⟨rows, i', d', L', c', T', h1, ⟨ats, rfl, hv⟩, h2, h3, h4, h5⟩ := loopAttrs l hl 4 0 0 [] i .nils [] 0 rfl rfl ⟨[], rfl, by simp⟩ (Nat.le_refl _) hi (.inl ⟨rfl, rfl⟩)
  refine ⟨ats, i', h2, by simpa using h1, hv, ?_⟩
  rw [varsI_of (rfl : tbl 28 = some c28)]
  rcases h3 with ⟨h6, rfl⟩ | ⟨t, ht, rfl⟩
  · have : ats = [] := by simpa using h6
    subst this
    simp [c28, x_vars, varsOf, varsK, varsK_ite, finals, callVars, splitV, contents, updV, orC, h4, h5]
  · simp [c28, x_vars, varsOf, varsK, varsK_ite, finals, callVars, splitV, contents, updV, orC, h4, h5, ht]
theorem rAttrs (ds : List D) (st : Dv.St) : callI Try.prog prims dx tbl 28 ds st = orC (callVars (varsI Try.prog prims dx tbl 28) ds st) (callI0 Try.prog prims dx tbl 28 ds st) := callRwV rfl rfl (rfl : tbl 28 = some c28) rfl ds st

/-- A version: its thing, its stamp, dead, its attributes, tag, body. -/
structure Ver where
  item : Int
  a : Int
  b : Int
  c : Int
  dead : Bool
  ats : List (Int × Int)
  tag : List UInt8
  body : List UInt8
def encV (v : Ver) : List F := [.int .i64 v.item, .int .i64 v.a, .int .i64 v.b, .int .i64 v.c, .bool v.dead, .list (v.ats.map encA), .str v.tag, .str v.body]
/-- .. that may be. -/
structure Ver.ok (v : Ver) : Prop where
  item : 1 ≤ v.item ∧ v.item ≤ 6
  stamp : 1 ≤ v.a ∧ v.a ≤ 9 ∧ 1 ≤ v.b ∧ v.b ≤ 3 ∧ 1 ≤ v.c ∧ v.c ≤ v.a
  ats : v.ats.length ≤ 4
  vals : ∀ a ∈ v.ats, 0 ≤ a.2 ∧ a.2 ≤ 99
theorem vVersion (l : List Int) (hl : U8s l) (i : Nat) (hi : i ≤ l.length) : ∃ (v : Ver) (i' : Nat), i' ≤ l.length ∧ v.ok ∧
    varsI Try.prog prims dx tbl 16 [.ptr 0 0] [[.list (l.map fun z => [.int .u8 z]), .int .i64 i]] = some (.val (.agg (encV v)), [[.list (l.map fun z => [.int .u8 z]), .int .i64 i']]) := by
  obtain ⟨n1, i1, b1, m1, _, e1⟩ := vNum l hl i hi 6
  have m1 := m1 (by omega)
  obtain ⟨a, b, c, i2, b2, hs, e2⟩ := vStamp l hl i1 b1
  obtain ⟨ats, i3, b3, ha, hav, e3⟩ := vAttrs l hl i2 b2
  obtain ⟨tag, i4, b4, ht, e4⟩ := vTag l hl i3 b3
  obtain ⟨n5, i5, b5, m5, _, e5⟩ := vNum l hl i4 b4 6
  have m5 := m5 (by omega)
  have w1 : wrapF .i64 (1 + n1) = 1 + n1 := wrap_id _ (by omega) (by omega)
  by_cases h5 : n5 = 1
  · refine ⟨⟨1 + n1, a, b, c, true, ats, tag, []⟩, i5, b5, ⟨by simp; omega, hs, ha, hav⟩, ?_⟩
    rw [varsI_of (rfl : tbl 16 = some c16)]
    simp [c16, x_vars, varsOf, varsK, varsK_ite, finals, callVars, splitV, contents, updV, orC, rNum, rStamp, rAttrs, rTag, e1, e2, e3, e4, e5, w1, h5, encV]
  · obtain ⟨n6, i6, b6, m6, _, e6⟩ := vNum l hl i5 b5 4
    have m6 := m6 (by omega)
    have fin : ∀ (body : List UInt8), (∃ j : Nat, n6 = j ∧ ([[F.str []], [.str [120]], [.str [98, 111, 100, 121]], [.str [97, 32, 98, 111, 100, 121, 32, 111, 102, 32, 49, 50]]] : List (List F))[j]? = some [.str body]) →
        varsI Try.prog prims dx tbl 16 [.ptr 0 0] [[.list (l.map fun z => [.int .u8 z]), .int .i64 i]] = some (.val (.agg (encV ⟨1 + n1, a, b, c, false, ats, tag, body⟩)), [[.list (l.map fun z => [.int .u8 z]), .int .i64 i6]]) := by
      rintro body ⟨j, rfl, hj⟩
      rw [varsI_of (rfl : tbl 16 = some c16)]
      simp [c16, x_vars, varsOf, varsK, varsK_ite, finals, callVars, splitV, contents, updV, orC, rNum, rStamp, rAttrs, rTag, e1, e2, e3, e4, e5, e6, w1, h5, encV, hj]
    rcases (by omega : n6 = 0 ∨ n6 = 1 ∨ n6 = 2 ∨ n6 = 3) with rfl | rfl | rfl | rfl
    · exact ⟨⟨1 + n1, a, b, c, false, ats, tag, _⟩, i6, b6, ⟨by simp; omega, hs, ha, hav⟩, fin _ ⟨0, rfl, rfl⟩⟩
    · exact ⟨⟨1 + n1, a, b, c, false, ats, tag, _⟩, i6, b6, ⟨by simp; omega, hs, ha, hav⟩, fin _ ⟨1, rfl, rfl⟩⟩
    · exact ⟨⟨1 + n1, a, b, c, false, ats, tag, _⟩, i6, b6, ⟨by simp; omega, hs, ha, hav⟩, fin _ ⟨2, rfl, rfl⟩⟩
    · exact ⟨⟨1 + n1, a, b, c, false, ats, tag, _⟩, i6, b6, ⟨by simp; omega, hs, ha, hav⟩, fin _ ⟨3, rfl, rfl⟩⟩
theorem rVersion (ds : List D) (st : Dv.St) : callI Try.prog prims dx tbl 16 ds st = orC (callVars (varsI Try.prog prims dx tbl 16) ds st) (callI0 Try.prog prims dx tbl 16 ds st) := callRwV rfl rfl (rfl : tbl 16 = some c16) rfl ds st

/-- A filter. -/
inductive Flt where
  | leaf (op key lo hi : Int) (tag : List UInt8)
  | not (a : Flt)
  | two (op : Int) (a b : Flt)
def encF : Flt → List F
  | .leaf op k lo hi tag => [.int .i64 op, .int .i64 k, .int .i64 lo, .int .i64 hi, .str tag, .list []]
  | .not a => [.int .i64 7, .int .i64 0, .int .i64 0, .int .i64 0, .str [], .list [encF a]]
  | .two op a b => [.int .i64 op, .int .i64 0, .int .i64 0, .int .i64 0, .str [], .list [encF a, encF b]]
theorem encF_len (f : Flt) : (encF f).length = 6 := by cases f <;> rfl
theorem encF_take (f : Flt) : (encF f).take 6 = encF f := by cases f <;> rfl
theorem encF_one (f : Flt) : (encF f).all F.one = true := by cases f <;> rfl
def Flt.ok : Flt → Prop
  | .leaf op k lo hi tag => (op = 1 ∧ k = 0 ∧ lo = 0 ∧ hi = 0 ∧ tag = []) ∨ (op = 2 ∧ 0 ≤ k ∧ k < 4 ∧ 0 ≤ lo ∧ lo ≤ 99 ∧ hi = lo ∧ tag = []) ∨ (op = 3 ∧ 0 ≤ k ∧ k < 4 ∧ 0 ≤ lo ∧ lo ≤ hi ∧ hi ≤ 99 ∧ tag = []) ∨ (op = 4 ∧ k = 0 ∧ lo = 0 ∧ hi = 0 ∧ tag ∈ [[97], [97, 98], [98]])
  | .not a => a.ok
  | .two op a b => (op = 5 ∨ op = 6) ∧ a.ok ∧ b.ok
def leaves : Flt → Nat
  | .leaf _ _ _ _ _ => 1
  | .not a => leaves a
  | .two _ a b => leaves a + leaves b
theorem encF_eq (f : Flt) : ∃ (a b c d : Int) (e : List UInt8) (g : List (List F)), encF f = [.int .i64 a, .int .i64 b, .int .i64 c, .int .i64 d, .str e, .list g] := by cases f <;> exact ⟨_, _, _, _, _, _, rfl⟩
theorem rFilter (ds : List D) (st : Dv.St) : callI Try.prog prims dx tbl 11 ds st = orC (callVars (varsI Try.prog prims dx tbl 11) ds st) (callI0 Try.prog prims dx tbl 11 ds st) := callRwV rfl rfl (rfl : tbl 11 = some c11) rfl ds st
theorem vFilter (l : List Int) (hl : U8s l) : ∀ (n : Nat) (deep : Int) (i : Nat), deep = n → n ≤ 9 → i ≤ l.length → ∃ (f : Flt) (i' : Nat), i' ≤ l.length ∧ (f.ok ∧ leaves f ≤ 2 ^ n) ∧
    varsI Try.prog prims dx tbl 11 [.ptr 0 0, .fz (.int .i64 deep)] [[.list (l.map fun z => [.int .u8 z]), .int .i64 i]] = some (.val (.agg (encF f)), [[.list (l.map fun z => [.int .u8 z]), .int .i64 i']]) := by
  intro n
  induction n with
  | zero =>
    intro deep i hd hn hi
    have h0 : deep ≤ 1 := by omega
    obtain ⟨n1, j1, b1, m1, _, e1⟩ := vNum l hl i hi 6
    have m1 := m1 (by omega)
    rcases (by omega : n1 = 0 ∨ n1 = 1 ∨ n1 = 2 ∨ n1 = 3 ∨ n1 = 4 ∨ n1 = 5) with rfl | rfl | rfl | rfl | rfl | rfl
    · refine ⟨.leaf 1 0 0 0 [], j1, b1, ⟨.inl (by simp), Nat.one_le_two_pow⟩, ?_⟩
      rw [varsI_of (rfl : tbl 11 = some c11)]
      simp [c11, x_vars, varsOf, varsK, varsK_ite, finals, callVars, splitV, contents, updV, orC, rNum, h0, e1, encF]
    · obtain ⟨n2, j2, b2, m2, _, e2⟩ := vNum l hl j1 b1 4
      have m2 := m2 (by omega)
      obtain ⟨n3, j3, b3, m3, _, e3⟩ := vNum l hl j2 b2 4
      have m3 := m3 (by omega)
      rcases (by omega : n2 = 0 ∨ n2 = 1 ∨ n2 = 2 ∨ n2 = 3) with rfl | rfl | rfl | rfl
      · refine ⟨.leaf 2 n3 0 0 [], j3, b3, ⟨.inr (.inl (by simp; omega)), Nat.one_le_two_pow⟩, ?_⟩
        rw [varsI_of (rfl : tbl 11 = some c11)]
        simp [c11, x_vars, varsOf, varsK, varsK_ite, finals, callVars, splitV, contents, updV, orC, rNum, h0, e1, e2, e3, encF]
      · refine ⟨.leaf 2 n3 1 1 [], j3, b3, ⟨.inr (.inl (by simp; omega)), Nat.one_le_two_pow⟩, ?_⟩
        rw [varsI_of (rfl : tbl 11 = some c11)]
        simp [c11, x_vars, varsOf, varsK, varsK_ite, finals, callVars, splitV, contents, updV, orC, rNum, h0, e1, e2, e3, encF]
      · refine ⟨.leaf 2 n3 5 5 [], j3, b3, ⟨.inr (.inl (by simp; omega)), Nat.one_le_two_pow⟩, ?_⟩
        rw [varsI_of (rfl : tbl 11 = some c11)]
        simp [c11, x_vars, varsOf, varsK, varsK_ite, finals, callVars, splitV, contents, updV, orC, rNum, h0, e1, e2, e3, encF]
      · refine ⟨.leaf 2 n3 99 99 [], j3, b3, ⟨.inr (.inl (by simp; omega)), Nat.one_le_two_pow⟩, ?_⟩
        rw [varsI_of (rfl : tbl 11 = some c11)]
        simp [c11, x_vars, varsOf, varsK, varsK_ite, finals, callVars, splitV, contents, updV, orC, rNum, h0, e1, e2, e3, encF]
    · obtain ⟨n2, j2, b2, m2, _, e2⟩ := vNum l hl j1 b1 4
      have m2 := m2 (by omega)
      obtain ⟨n3, j3, b3, m3, _, e3⟩ := vNum l hl j2 b2 4
      have m3 := m3 (by omega)
      rcases (by omega : n2 = 0 ∨ n2 = 1 ∨ n2 = 2 ∨ n2 = 3) with rfl | rfl | rfl | rfl
      · refine ⟨.leaf 2 n3 0 0 [], j3, b3, ⟨.inr (.inl (by simp; omega)), Nat.one_le_two_pow⟩, ?_⟩
        rw [varsI_of (rfl : tbl 11 = some c11)]
        simp [c11, x_vars, varsOf, varsK, varsK_ite, finals, callVars, splitV, contents, updV, orC, rNum, h0, e1, e2, e3, encF]
      · refine ⟨.leaf 2 n3 1 1 [], j3, b3, ⟨.inr (.inl (by simp; omega)), Nat.one_le_two_pow⟩, ?_⟩
        rw [varsI_of (rfl : tbl 11 = some c11)]
        simp [c11, x_vars, varsOf, varsK, varsK_ite, finals, callVars, splitV, contents, updV, orC, rNum, h0, e1, e2, e3, encF]
      · refine ⟨.leaf 2 n3 5 5 [], j3, b3, ⟨.inr (.inl (by simp; omega)), Nat.one_le_two_pow⟩, ?_⟩
        rw [varsI_of (rfl : tbl 11 = some c11)]
        simp [c11, x_vars, varsOf, varsK, varsK_ite, finals, callVars, splitV, contents, updV, orC, rNum, h0, e1, e2, e3, encF]
      · refine ⟨.leaf 2 n3 99 99 [], j3, b3, ⟨.inr (.inl (by simp; omega)), Nat.one_le_two_pow⟩, ?_⟩
        rw [varsI_of (rfl : tbl 11 = some c11)]
        simp [c11, x_vars, varsOf, varsK, varsK_ite, finals, callVars, splitV, contents, updV, orC, rNum, h0, e1, e2, e3, encF]
    · obtain ⟨n2, j2, b2, m2, _, e2⟩ := vNum l hl j1 b1 4
      have m2 := m2 (by omega)
      obtain ⟨n3, j3, b3, m3, _, e3⟩ := vNum l hl j2 b2 60
      have m3 := m3 (by omega)
      obtain ⟨n4, j4, b4, m4, _, e4⟩ := vNum l hl j3 b3 40
      have m4 := m4 (by omega)
      have w4 : wrapF .i64 (n3 + n4) = n3 + n4 := wrap_id _ (by omega) (by omega)
      refine ⟨.leaf 3 n2 n3 (n3 + n4) [], j4, b4, ⟨.inr (.inr (.inl (by simp; omega))), Nat.one_le_two_pow⟩, ?_⟩
      rw [varsI_of (rfl : tbl 11 = some c11)]
      simp [c11, x_vars, varsOf, varsK, varsK_ite, finals, callVars, splitV, contents, updV, orC, rNum, h0, e1, e2, e3, e4, w4, encF]
    · obtain ⟨n2, j2, b2, m2, _, e2⟩ := vNum l hl j1 b1 4
      have m2 := m2 (by omega)
      obtain ⟨n3, j3, b3, m3, _, e3⟩ := vNum l hl j2 b2 60
      have m3 := m3 (by omega)
      obtain ⟨n4, j4, b4, m4, _, e4⟩ := vNum l hl j3 b3 40
      have m4 := m4 (by omega)
      have w4 : wrapF .i64 (n3 + n4) = n3 + n4 := wrap_id _ (by omega) (by omega)
      refine ⟨.leaf 3 n2 n3 (n3 + n4) [], j4, b4, ⟨.inr (.inr (.inl (by simp; omega))), Nat.one_le_two_pow⟩, ?_⟩
      rw [varsI_of (rfl : tbl 11 = some c11)]
      simp [c11, x_vars, varsOf, varsK, varsK_ite, finals, callVars, splitV, contents, updV, orC, rNum, h0, e1, e2, e3, e4, w4, encF]
    · obtain ⟨n2, j2, b2, m2, _, e2⟩ := vNum l hl j1 b1 3
      have m2 := m2 (by omega)
      rcases (by omega : n2 = 0 ∨ n2 = 1 ∨ n2 = 2) with rfl | rfl | rfl
      · refine ⟨.leaf 4 0 0 0 [97], j2, b2, ⟨.inr (.inr (.inr (by simp))), Nat.one_le_two_pow⟩, ?_⟩
        rw [varsI_of (rfl : tbl 11 = some c11)]
        simp [c11, x_vars, varsOf, varsK, varsK_ite, finals, callVars, splitV, contents, updV, orC, rNum, h0, e1, e2, encF]
      · refine ⟨.leaf 4 0 0 0 [97, 98], j2, b2, ⟨.inr (.inr (.inr (by simp))), Nat.one_le_two_pow⟩, ?_⟩
        rw [varsI_of (rfl : tbl 11 = some c11)]
        simp [c11, x_vars, varsOf, varsK, varsK_ite, finals, callVars, splitV, contents, updV, orC, rNum, h0, e1, e2, encF]
      · refine ⟨.leaf 4 0 0 0 [98], j2, b2, ⟨.inr (.inr (.inr (by simp))), Nat.one_le_two_pow⟩, ?_⟩
        rw [varsI_of (rfl : tbl 11 = some c11)]
        simp [c11, x_vars, varsOf, varsK, varsK_ite, finals, callVars, splitV, contents, updV, orC, rNum, h0, e1, e2, encF]
  | succ n ih =>
    intro deep i hd hn hi
    by_cases h0 : deep ≤ 1
    · obtain ⟨n1, j1, b1, m1, _, e1⟩ := vNum l hl i hi 6
      have m1 := m1 (by omega)
      rcases (by omega : n1 = 0 ∨ n1 = 1 ∨ n1 = 2 ∨ n1 = 3 ∨ n1 = 4 ∨ n1 = 5) with rfl | rfl | rfl | rfl | rfl | rfl
      · refine ⟨.leaf 1 0 0 0 [], j1, b1, ⟨.inl (by simp), Nat.one_le_two_pow⟩, ?_⟩
        rw [varsI_of (rfl : tbl 11 = some c11)]
        simp [c11, x_vars, varsOf, varsK, varsK_ite, finals, callVars, splitV, contents, updV, orC, rNum, h0, e1, encF]
      · obtain ⟨n2, j2, b2, m2, _, e2⟩ := vNum l hl j1 b1 4
        have m2 := m2 (by omega)
        obtain ⟨n3, j3, b3, m3, _, e3⟩ := vNum l hl j2 b2 4
        have m3 := m3 (by omega)
        rcases (by omega : n2 = 0 ∨ n2 = 1 ∨ n2 = 2 ∨ n2 = 3) with rfl | rfl | rfl | rfl
        · refine ⟨.leaf 2 n3 0 0 [], j3, b3, ⟨.inr (.inl (by simp; omega)), Nat.one_le_two_pow⟩, ?_⟩
          rw [varsI_of (rfl : tbl 11 = some c11)]
          simp [c11, x_vars, varsOf, varsK, varsK_ite, finals, callVars, splitV, contents, updV, orC, rNum, h0, e1, e2, e3, encF]
        · refine ⟨.leaf 2 n3 1 1 [], j3, b3, ⟨.inr (.inl (by simp; omega)), Nat.one_le_two_pow⟩, ?_⟩
          rw [varsI_of (rfl : tbl 11 = some c11)]
          simp [c11, x_vars, varsOf, varsK, varsK_ite, finals, callVars, splitV, contents, updV, orC, rNum, h0, e1, e2, e3, encF]
        · refine ⟨.leaf 2 n3 5 5 [], j3, b3, ⟨.inr (.inl (by simp; omega)), Nat.one_le_two_pow⟩, ?_⟩
          rw [varsI_of (rfl : tbl 11 = some c11)]
          simp [c11, x_vars, varsOf, varsK, varsK_ite, finals, callVars, splitV, contents, updV, orC, rNum, h0, e1, e2, e3, encF]
        · refine ⟨.leaf 2 n3 99 99 [], j3, b3, ⟨.inr (.inl (by simp; omega)), Nat.one_le_two_pow⟩, ?_⟩
          rw [varsI_of (rfl : tbl 11 = some c11)]
          simp [c11, x_vars, varsOf, varsK, varsK_ite, finals, callVars, splitV, contents, updV, orC, rNum, h0, e1, e2, e3, encF]
      · obtain ⟨n2, j2, b2, m2, _, e2⟩ := vNum l hl j1 b1 4
        have m2 := m2 (by omega)
        obtain ⟨n3, j3, b3, m3, _, e3⟩ := vNum l hl j2 b2 4
        have m3 := m3 (by omega)
        rcases (by omega : n2 = 0 ∨ n2 = 1 ∨ n2 = 2 ∨ n2 = 3) with rfl | rfl | rfl | rfl
        · refine ⟨.leaf 2 n3 0 0 [], j3, b3, ⟨.inr (.inl (by simp; omega)), Nat.one_le_two_pow⟩, ?_⟩
          rw [varsI_of (rfl : tbl 11 = some c11)]
          simp [c11, x_vars, varsOf, varsK, varsK_ite, finals, callVars, splitV, contents, updV, orC, rNum, h0, e1, e2, e3, encF]
        · refine ⟨.leaf 2 n3 1 1 [], j3, b3, ⟨.inr (.inl (by simp; omega)), Nat.one_le_two_pow⟩, ?_⟩
          rw [varsI_of (rfl : tbl 11 = some c11)]
          simp [c11, x_vars, varsOf, varsK, varsK_ite, finals, callVars, splitV, contents, updV, orC, rNum, h0, e1, e2, e3, encF]
        · refine ⟨.leaf 2 n3 5 5 [], j3, b3, ⟨.inr (.inl (by simp; omega)), Nat.one_le_two_pow⟩, ?_⟩
          rw [varsI_of (rfl : tbl 11 = some c11)]
          simp [c11, x_vars, varsOf, varsK, varsK_ite, finals, callVars, splitV, contents, updV, orC, rNum, h0, e1, e2, e3, encF]
        · refine ⟨.leaf 2 n3 99 99 [], j3, b3, ⟨.inr (.inl (by simp; omega)), Nat.one_le_two_pow⟩, ?_⟩
          rw [varsI_of (rfl : tbl 11 = some c11)]
          simp [c11, x_vars, varsOf, varsK, varsK_ite, finals, callVars, splitV, contents, updV, orC, rNum, h0, e1, e2, e3, encF]
      · obtain ⟨n2, j2, b2, m2, _, e2⟩ := vNum l hl j1 b1 4
        have m2 := m2 (by omega)
        obtain ⟨n3, j3, b3, m3, _, e3⟩ := vNum l hl j2 b2 60
        have m3 := m3 (by omega)
        obtain ⟨n4, j4, b4, m4, _, e4⟩ := vNum l hl j3 b3 40
        have m4 := m4 (by omega)
        have w4 : wrapF .i64 (n3 + n4) = n3 + n4 := wrap_id _ (by omega) (by omega)
        refine ⟨.leaf 3 n2 n3 (n3 + n4) [], j4, b4, ⟨.inr (.inr (.inl (by simp; omega))), Nat.one_le_two_pow⟩, ?_⟩
        rw [varsI_of (rfl : tbl 11 = some c11)]
        simp [c11, x_vars, varsOf, varsK, varsK_ite, finals, callVars, splitV, contents, updV, orC, rNum, h0, e1, e2, e3, e4, w4, encF]
      · obtain ⟨n2, j2, b2, m2, _, e2⟩ := vNum l hl j1 b1 4
        have m2 := m2 (by omega)
        obtain ⟨n3, j3, b3, m3, _, e3⟩ := vNum l hl j2 b2 60
        have m3 := m3 (by omega)
        obtain ⟨n4, j4, b4, m4, _, e4⟩ := vNum l hl j3 b3 40
        have m4 := m4 (by omega)
        have w4 : wrapF .i64 (n3 + n4) = n3 + n4 := wrap_id _ (by omega) (by omega)
        refine ⟨.leaf 3 n2 n3 (n3 + n4) [], j4, b4, ⟨.inr (.inr (.inl (by simp; omega))), Nat.one_le_two_pow⟩, ?_⟩
        rw [varsI_of (rfl : tbl 11 = some c11)]
        simp [c11, x_vars, varsOf, varsK, varsK_ite, finals, callVars, splitV, contents, updV, orC, rNum, h0, e1, e2, e3, e4, w4, encF]
      · obtain ⟨n2, j2, b2, m2, _, e2⟩ := vNum l hl j1 b1 3
        have m2 := m2 (by omega)
        rcases (by omega : n2 = 0 ∨ n2 = 1 ∨ n2 = 2) with rfl | rfl | rfl
        · refine ⟨.leaf 4 0 0 0 [97], j2, b2, ⟨.inr (.inr (.inr (by simp))), Nat.one_le_two_pow⟩, ?_⟩
          rw [varsI_of (rfl : tbl 11 = some c11)]
          simp [c11, x_vars, varsOf, varsK, varsK_ite, finals, callVars, splitV, contents, updV, orC, rNum, h0, e1, e2, encF]
        · refine ⟨.leaf 4 0 0 0 [97, 98], j2, b2, ⟨.inr (.inr (.inr (by simp))), Nat.one_le_two_pow⟩, ?_⟩
          rw [varsI_of (rfl : tbl 11 = some c11)]
          simp [c11, x_vars, varsOf, varsK, varsK_ite, finals, callVars, splitV, contents, updV, orC, rNum, h0, e1, e2, encF]
        · refine ⟨.leaf 4 0 0 0 [98], j2, b2, ⟨.inr (.inr (.inr (by simp))), Nat.one_le_two_pow⟩, ?_⟩
          rw [varsI_of (rfl : tbl 11 = some c11)]
          simp [c11, x_vars, varsOf, varsK, varsK_ite, finals, callVars, splitV, contents, updV, orC, rNum, h0, e1, e2, encF]
    · obtain ⟨n0, i0, b0, m0, _, e0⟩ := vNum l hl i hi 3
      have m0 := m0 (by omega)
      by_cases h1 : n0 = 0
      · subst h1
        obtain ⟨n1, j1, b1, m1, _, e1⟩ := vNum l hl i0 b0 6
        have m1 := m1 (by omega)
        rcases (by omega : n1 = 0 ∨ n1 = 1 ∨ n1 = 2 ∨ n1 = 3 ∨ n1 = 4 ∨ n1 = 5) with rfl | rfl | rfl | rfl | rfl | rfl
        · refine ⟨.leaf 1 0 0 0 [], j1, b1, ⟨.inl (by simp), Nat.one_le_two_pow⟩, ?_⟩
          rw [varsI_of (rfl : tbl 11 = some c11)]
          simp [c11, x_vars, varsOf, varsK, varsK_ite, finals, callVars, splitV, contents, updV, orC, rNum, h0, e0, e1, encF]
        · obtain ⟨n2, j2, b2, m2, _, e2⟩ := vNum l hl j1 b1 4
          have m2 := m2 (by omega)
          obtain ⟨n3, j3, b3, m3, _, e3⟩ := vNum l hl j2 b2 4
          have m3 := m3 (by omega)
          rcases (by omega : n2 = 0 ∨ n2 = 1 ∨ n2 = 2 ∨ n2 = 3) with rfl | rfl | rfl | rfl
          · refine ⟨.leaf 2 n3 0 0 [], j3, b3, ⟨.inr (.inl (by simp; omega)), Nat.one_le_two_pow⟩, ?_⟩
            rw [varsI_of (rfl : tbl 11 = some c11)]
            simp [c11, x_vars, varsOf, varsK, varsK_ite, finals, callVars, splitV, contents, updV, orC, rNum, h0, e0, e1, e2, e3, encF]
          · refine ⟨.leaf 2 n3 1 1 [], j3, b3, ⟨.inr (.inl (by simp; omega)), Nat.one_le_two_pow⟩, ?_⟩
            rw [varsI_of (rfl : tbl 11 = some c11)]
            simp [c11, x_vars, varsOf, varsK, varsK_ite, finals, callVars, splitV, contents, updV, orC, rNum, h0, e0, e1, e2, e3, encF]
          · refine ⟨.leaf 2 n3 5 5 [], j3, b3, ⟨.inr (.inl (by simp; omega)), Nat.one_le_two_pow⟩, ?_⟩
            rw [varsI_of (rfl : tbl 11 = some c11)]
            simp [c11, x_vars, varsOf, varsK, varsK_ite, finals, callVars, splitV, contents, updV, orC, rNum, h0, e0, e1, e2, e3, encF]
          · refine ⟨.leaf 2 n3 99 99 [], j3, b3, ⟨.inr (.inl (by simp; omega)), Nat.one_le_two_pow⟩, ?_⟩
            rw [varsI_of (rfl : tbl 11 = some c11)]
            simp [c11, x_vars, varsOf, varsK, varsK_ite, finals, callVars, splitV, contents, updV, orC, rNum, h0, e0, e1, e2, e3, encF]
        · obtain ⟨n2, j2, b2, m2, _, e2⟩ := vNum l hl j1 b1 4
          have m2 := m2 (by omega)
          obtain ⟨n3, j3, b3, m3, _, e3⟩ := vNum l hl j2 b2 4
          have m3 := m3 (by omega)
          rcases (by omega : n2 = 0 ∨ n2 = 1 ∨ n2 = 2 ∨ n2 = 3) with rfl | rfl | rfl | rfl
          · refine ⟨.leaf 2 n3 0 0 [], j3, b3, ⟨.inr (.inl (by simp; omega)), Nat.one_le_two_pow⟩, ?_⟩
            rw [varsI_of (rfl : tbl 11 = some c11)]
            simp [c11, x_vars, varsOf, varsK, varsK_ite, finals, callVars, splitV, contents, updV, orC, rNum, h0, e0, e1, e2, e3, encF]
          · refine ⟨.leaf 2 n3 1 1 [], j3, b3, ⟨.inr (.inl (by simp; omega)), Nat.one_le_two_pow⟩, ?_⟩
            rw [varsI_of (rfl : tbl 11 = some c11)]
            simp [c11, x_vars, varsOf, varsK, varsK_ite, finals, callVars, splitV, contents, updV, orC, rNum, h0, e0, e1, e2, e3, encF]
          · refine ⟨.leaf 2 n3 5 5 [], j3, b3, ⟨.inr (.inl (by simp; omega)), Nat.one_le_two_pow⟩, ?_⟩
            rw [varsI_of (rfl : tbl 11 = some c11)]
            simp [c11, x_vars, varsOf, varsK, varsK_ite, finals, callVars, splitV, contents, updV, orC, rNum, h0, e0, e1, e2, e3, encF]
          · refine ⟨.leaf 2 n3 99 99 [], j3, b3, ⟨.inr (.inl (by simp; omega)), Nat.one_le_two_pow⟩, ?_⟩
            rw [varsI_of (rfl : tbl 11 = some c11)]
            simp [c11, x_vars, varsOf, varsK, varsK_ite, finals, callVars, splitV, contents, updV, orC, rNum, h0, e0, e1, e2, e3, encF]
        · obtain ⟨n2, j2, b2, m2, _, e2⟩ := vNum l hl j1 b1 4
          have m2 := m2 (by omega)
          obtain ⟨n3, j3, b3, m3, _, e3⟩ := vNum l hl j2 b2 60
          have m3 := m3 (by omega)
          obtain ⟨n4, j4, b4, m4, _, e4⟩ := vNum l hl j3 b3 40
          have m4 := m4 (by omega)
          have w4 : wrapF .i64 (n3 + n4) = n3 + n4 := wrap_id _ (by omega) (by omega)
          refine ⟨.leaf 3 n2 n3 (n3 + n4) [], j4, b4, ⟨.inr (.inr (.inl (by simp; omega))), Nat.one_le_two_pow⟩, ?_⟩
          rw [varsI_of (rfl : tbl 11 = some c11)]
          simp [c11, x_vars, varsOf, varsK, varsK_ite, finals, callVars, splitV, contents, updV, orC, rNum, h0, e0, e1, e2, e3, e4, w4, encF]
        · obtain ⟨n2, j2, b2, m2, _, e2⟩ := vNum l hl j1 b1 4
          have m2 := m2 (by omega)
          obtain ⟨n3, j3, b3, m3, _, e3⟩ := vNum l hl j2 b2 60
          have m3 := m3 (by omega)
          obtain ⟨n4, j4, b4, m4, _, e4⟩ := vNum l hl j3 b3 40
          have m4 := m4 (by omega)
          have w4 : wrapF .i64 (n3 + n4) = n3 + n4 := wrap_id _ (by omega) (by omega)
          refine ⟨.leaf 3 n2 n3 (n3 + n4) [], j4, b4, ⟨.inr (.inr (.inl (by simp; omega))), Nat.one_le_two_pow⟩, ?_⟩
          rw [varsI_of (rfl : tbl 11 = some c11)]
          simp [c11, x_vars, varsOf, varsK, varsK_ite, finals, callVars, splitV, contents, updV, orC, rNum, h0, e0, e1, e2, e3, e4, w4, encF]
        · obtain ⟨n2, j2, b2, m2, _, e2⟩ := vNum l hl j1 b1 3
          have m2 := m2 (by omega)
          rcases (by omega : n2 = 0 ∨ n2 = 1 ∨ n2 = 2) with rfl | rfl | rfl
          · refine ⟨.leaf 4 0 0 0 [97], j2, b2, ⟨.inr (.inr (.inr (by simp))), Nat.one_le_two_pow⟩, ?_⟩
            rw [varsI_of (rfl : tbl 11 = some c11)]
            simp [c11, x_vars, varsOf, varsK, varsK_ite, finals, callVars, splitV, contents, updV, orC, rNum, h0, e0, e1, e2, encF]
          · refine ⟨.leaf 4 0 0 0 [97, 98], j2, b2, ⟨.inr (.inr (.inr (by simp))), Nat.one_le_two_pow⟩, ?_⟩
            rw [varsI_of (rfl : tbl 11 = some c11)]
            simp [c11, x_vars, varsOf, varsK, varsK_ite, finals, callVars, splitV, contents, updV, orC, rNum, h0, e0, e1, e2, encF]
          · refine ⟨.leaf 4 0 0 0 [98], j2, b2, ⟨.inr (.inr (.inr (by simp))), Nat.one_le_two_pow⟩, ?_⟩
            rw [varsI_of (rfl : tbl 11 = some c11)]
            simp [c11, x_vars, varsOf, varsK, varsK_ite, finals, callVars, splitV, contents, updV, orC, rNum, h0, e0, e1, e2, encF]
      · obtain ⟨n1, i1, b1, m1, _, e1⟩ := vNum l hl i0 b0 3
        have m1 := m1 (by omega)
        have wd : wrapF .i64 (deep - 1) = deep - 1 := wrap_id _ (by omega) (by omega)
        by_cases h2 : n1 = 0
        · subst h2
          obtain ⟨f, i2, b2, hf, e2⟩ := ih (deep - 1) i1 (by omega) (by omega) b1
          refine ⟨.not f, i2, b2, ⟨hf.1, Nat.le_trans hf.2 (Nat.pow_le_pow_right (by omega) (by omega))⟩, ?_⟩
          obtain ⟨x1, x2, x3, x4, x5, x6, hx⟩ := encF_eq f
          rw [hx] at e2
          rw [varsI_of (rfl : tbl 11 = some c11)]
          simp [c11, x_vars, varsOf, varsK, varsK_ite, finals, callVars, splitV, contents, updV, orC, rNum, rFilter, h0, h1, e0, e1, e2, wd, encF, hx]
        · obtain ⟨n3, i3, b3, m3, _, e3⟩ := vNum l hl i1 b1 2
          have m3 := m3 (by omega)
          have w3 : wrapF .i64 (5 + n3) = 5 + n3 := wrap_id _ (by omega) (by omega)
          obtain ⟨f, i4, b4, hf, e4⟩ := ih (deep - 1) i3 (by omega) (by omega) b3
          obtain ⟨g, i5, b5, hg, e5⟩ := ih (deep - 1) i4 (by omega) (by omega) b4
          refine ⟨.two (5 + n3) f g, i5, b5, ⟨⟨by omega, hf.1, hg.1⟩, by have := hf.2; have := hg.2; simp only [leaves, Nat.pow_succ]; omega⟩, ?_⟩
          obtain ⟨x1, x2, x3, x4, x5, x6, hx⟩ := encF_eq f
          obtain ⟨y1, y2, y3, y4, y5, y6, hy⟩ := encF_eq g
          rw [hx] at e4
          rw [hy] at e5
          rw [varsI_of (rfl : tbl 11 = some c11)]
          simp [c11, x_vars, varsOf, varsK, varsK_ite, finals, callVars, splitV, contents, updV, orC, rNum, rFilter, h0, h1, h2, e0, e1, e3, e4, e5, wd, w3, encF, hx, hy]
end Go.Proofs.Ytiloimenibbeoaa.Pl
