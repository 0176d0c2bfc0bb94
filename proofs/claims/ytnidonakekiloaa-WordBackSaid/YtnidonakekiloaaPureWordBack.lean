import Derived.Test.YtnidonakekiloaaPAllx37
import Derived.Test.YtnidonakekiloaaWordRead
namespace Go.Proofs.Ytnidonakekiloaa.Pure
open Go.RowKit Go.Proofs.Ytnidonakekiloaa.PAll Go.Proofs.YtnidonakekiloaaW.PrintWords Go.Proofs.YtnidonakekiloaaW.PrintLast Go.Proofs.YtnidonakekiloaaW.PrintMore

theorem u16w {n : Int} (h0 : 0 ≤ n) (h1 : n ≤ 65535) : IntKind.u16.wrap n = n := by
  simp [IntKind.wrap, IntKind.bits, IntKind.signed]
  omega
theorem gap_all : ∀ g : Fin 4, bytesOf ((⟨#[32, 32, 32]⟩ : ByteArray).extract 0 g.val) = List.replicate g.val 32 := by decide +kernel
theorem gap_at (g : Nat) (h : g ≤ 3) : bytesOf ((⟨#[32, 32, 32]⟩ : ByteArray).extract 0 g) = List.replicate g 32 := gap_all ⟨g, by omega⟩
theorem flatW_append (g : Nat) (a b : List Int) : flatW g (a ++ b) = flatW g a ++ flatW g b := by
  induction a with
  | nil => rfl
  | cons v r ih => simp only [List.cons_append, flatW, ih, List.append_assoc]
theorem wordsW_append (g : Nat) (a b : List Int) : ∀ p, wordsW g (a ++ b) p = wordsW g a p ++ wordsW g b (p + (flatW g a).length) := by
  induction a with
  | nil => intro p; simp [wordsW, flatW]
  | cons v r ih =>
    intro p
    simp only [List.cons_append, wordsW, ih, flatW, List.length_append, List.length_replicate]
    congr 3
    omega
theorem flatW_length (g : Nat) (hg : g ≤ 3) (vs : List Int) (h : ∀ v ∈ vs, 0 ≤ v ∧ v ≤ 65535) : (flatW g vs).length ≤ 5 * vs.length := by
  induction vs with
  | nil => simp [flatW]
  | cons v r ih =>
    have := ih (fun x hx => h x (by simp [hx]))
    have := pb_in v (h v (by simp))
    simp only [flatW, List.length_append, List.length_replicate, List.length_cons]
    omega
theorem wordsW_length (g : Nat) (vs : List Int) : ∀ p, (wordsW g vs p).length = vs.length := by
  induction vs with
  | nil => intro p; rfl
  | cons v r ih => intro p; simp only [wordsW, List.length_cons, ih]

theorem eq_l1 (W : List S46) (hW : W.length ≤ 100) (d : Nat) : ∀ (i k : Nat), i + d = W.length → 2 * d + 1 ≤ k → cardamomlaw4_WordBack.l1 k W W (i : Int) = some true := by
  induction d with
  | zero =>
    intro i k hi hk
    obtain ⟨k, rfl⟩ : ∃ m, k = m + 1 := ⟨k - 1, by omega⟩
    rw [cardamomlaw4_WordBack.l1, if_neg (by omega)]
  | succ d ih =>
    intro i k hi hk
    obtain ⟨k, rfl⟩ : ∃ m, k = m + 1 + 1 := ⟨k - 2, by omega⟩
    rw [cardamomlaw4_WordBack.l1, if_pos (by omega), if_pos (by omega), if_pos (by omega)]
    simp only [if_true, bne_self_eq_false]
    rw [cardamomlaw4_WordBack.j3, if_neg (by decide), w64w (by omega) (by omega)]
    exact ih (i + 1) k (by omega) (by omega)

theorem wb_end (g : Nat) (hg : 1 ≤ g ∧ g ≤ 3) (l : List Int) (hl : l.length ≤ 15) (hu : ∀ v ∈ l, 0 ≤ v ∧ v ≤ 65535) (a : Int) (t : ByteArray) (ht : bytesOf t = flatW g l) (k : Nat) (hk : 300 ≤ k) :
    cardamomlaw4_WordBack.l0 (k + 1) l a t (wordsW g l 0) (l.length : Int) = some true := by
  have hz := wb_size t _ ht
  have hf := flatW_length g hg.2 l hu
  have hw := wordsW_length g l 0
  have hm : (g + 1) * l.length ≤ 4 * 15 := Nat.mul_le_mul (by omega) hl
  have hr := words_tell g hg.1 t (by omega) l [] [] hu (by rw [ht]; rfl) (by simp; omega) k (by omega)
  have hr' : word_All.f k t = some (wordsW g l 0, 0, true) := by
    unfold word_All.f
    rw [if_neg (by omega)]
    exact hr
  obtain ⟨k, rfl⟩ : ∃ m, k = m + 1 := ⟨k - 1, by omega⟩
  rw [cardamomlaw4_WordBack.l0, if_neg (by omega), hr']
  simp only [Option.bind_some, if_true, bne_self_eq_false]
  rw [cardamomlaw4_WordBack.j1, if_neg (by decide)]
  exact eq_l1 _ (by omega) l.length 0 k (by omega) (by omega)

theorem rd_at_take (l : List Int) (i : Nat) (hi : i < l.length) : l.take (i + 1) = l.take i ++ [rd l (i : Int)] := by
  unfold rd
  rw [Int.toNat_natCast, List.getD_eq_getElem?_getD, List.getElem?_eq_getElem hi, List.take_add_one, List.getElem?_eq_getElem hi]
  rfl

theorem wb_step (g : Nat) (hg : 1 ≤ g ∧ g ≤ 3) (v : Int) (hv : 0 ≤ v ∧ v ≤ 65535) (l : List Int) (a : Int) (ha : (1 + Int.tmod a 3) % 256 = (g : Int)) (i : Nat) (hi : i < l.length) (hl : l.length ≤ 15) (hr : rd l (i : Int) = v) (t : ByteArray) (ht : t.size ≤ 80) (L : List S46) (hL : L.length ≤ 60) (k : Nat) :
    cardamomlaw4_WordBack.l0 (k + 1) l a t L (i : Int) = cardamomlaw4_WordBack.l0 k l a ((t ++ strOfNums (pb v)) ++ (⟨#[32, 32, 32]⟩ : ByteArray).extract 0 g) (L ++ [pw v (t.size : Int)]) ((i + 1 : Nat) : Int) := by
  have hp := pb_in v hv
  have z1 : (strOfNums (pb v)).size ≤ 2 := by
    rw [wb_size _ _ (wb_nums _ hp.2)]
    exact hp.1.2
  have z2 : (t ++ strOfNums (pb v)).size ≤ 82 := by rw [ByteArray.size_append]; omega
  have z3 : ((⟨#[32, 32, 32]⟩ : ByteArray).extract 0 g).size ≤ 3 := by
    rw [wb_size _ _ (gap_at g hg.2), List.length_replicate]
    exact hg.2
  have e3 : Int.tmod v 3 = v % 3 := Int.tmod_eq_emod_of_nonneg hv.1
  have q3 : IntKind.u16.wrap (Int.tdiv v 3) = v / 3 := by rw [Int.tdiv_eq_ediv_of_nonneg hv.1]; exact u16w (by omega) (by omega)
  have q80 : IntKind.u16.wrap (Int.tdiv v 80) = v / 80 := by rw [Int.tdiv_eq_ediv_of_nonneg hv.1]; exact u16w (by omega) (by omega)
  have q30 : IntKind.u16.wrap (Int.tdiv v 30) = v / 30 := by rw [Int.tdiv_eq_ediv_of_nonneg hv.1]; exact u16w (by omega) (by omega)
  have m26 : ∀ x : Int, 0 ≤ x → Int.tmod x 26 = x % 26 := fun x hx => Int.tmod_eq_emod_of_nonneg hx
  have m10 : ∀ x : Int, 0 ≤ x → Int.tmod x 10 = x % 10 := fun x hx => Int.tmod_eq_emod_of_nonneg hx
  have m11 : ∀ x : Int, 0 ≤ x → Int.tmod x 11 = x % 11 := fun x hx => Int.tmod_eq_emod_of_nonneg hx
  rw [cardamomlaw4_WordBack.l0, hr, e3, q3, q80, q30, ha, if_pos (by omega), if_pos (by omega), m26 _ (by omega), m26 _ (by omega), m10 _ (by omega), m10 _ (by omega), m11 _ (by omega), Int.toNat_natCast, w64w (i := (i : Int) + 1) (by omega) (by omega), show (i : Int) + 1 = ((i + 1 : Nat) : Int) from by omega]
  by_cases h0 : v % 3 = 0
  · have hpb : pb v = [97 + v / 3 % 26, 97 + v / 80 % 26] := by unfold pb; rw [if_pos h0]
    have hpw : pw v (t.size : Int) = ⟨1, strOfNums (pb v), 0, (t.size : Int)⟩ := by unfold pw; rw [if_pos h0]
    rw [if_pos h0, u16w (n := 97 + v / 3 % 26) (by omega) (by omega), u16w (n := 97 + v / 80 % 26) (by omega) (by omega), show (97 + v / 3 % 26) % 256 = 97 + v / 3 % 26 from by omega, show (97 + v / 80 % 26) % 256 = 97 + v / 80 % 26 from by omega, ← hpb, hpw]
    simp only [Option.bind_some]
    rw [if_pos (by omega), if_pos (by omega), if_pos (by omega), if_pos (by omega), if_pos (by omega)]
  · rw [if_neg h0]
    by_cases h1 : v % 3 = 1
    · have hpb : pb v = [48 + v / 3 % 10, 48 + v / 30 % 10] := by unfold pb; rw [if_neg h0, if_pos h1]
      have hpw : pw v (t.size : Int) = ⟨2, ⟨#[]⟩, v / 3 % 10 * 10 + v / 30 % 10, (t.size : Int)⟩ := by unfold pw; rw [if_neg h0, if_pos h1]
      rw [if_pos h1, u16w (n := 48 + v / 3 % 10) (by omega) (by omega), u16w (n := 48 + v / 30 % 10) (by omega) (by omega), show (48 + v / 3 % 10) % 256 = 48 + v / 3 % 10 from by omega, show (48 + v / 30 % 10) % 256 = 48 + v / 30 % 10 from by omega, ← hpb, hpw, w64w (i := v / 3 % 10) (by omega) (by omega), w64w (i := v / 30 % 10) (by omega) (by omega), w64w (i := v / 3 % 10 * 10) (by omega) (by omega), w64w (i := v / 3 % 10 * 10 + v / 30 % 10) (by omega) (by omega)]
      simp only [Option.bind_some]
      rw [if_pos (by omega), if_pos (by omega), if_pos (by omega), if_pos (by omega), if_pos (by omega)]
    · have hpb : pb v = [bt marksB (v / 3 % 11)] := by unfold pb; rw [if_neg h0, if_neg h1]
      have hpw : pw v (t.size : Int) = ⟨3, strOfNums (pb v), 0, (t.size : Int)⟩ := by unfold pw; rw [if_neg h0, if_neg h1]
      have hm := (mark_at (v / 3 % 11) (by omega) (by omega)).2
      have hmk : (⟨#[40, 41, 33, 38, 124, 42, 61, 58, 45, 64, 94]⟩ : ByteArray).extract (v / 3 % 11).toNat (v / 3 % 11 + 1).toNat = strOfNums (pb v) := by
        rw [hpb, show (v / 3 % 11 + 1).toNat = (v / 3 % 11).toNat + 1 from by omega]
        exact hm
      rw [if_neg h1, u16w (n := v / 3 % 11 + 1) (by omega) (by omega), hmk, hpw, if_pos (by omega), if_pos (by omega), if_pos (by omega), if_pos (by omega), if_pos (by omega), if_pos (by omega), if_pos (by omega), if_pos (by omega)]

theorem wb_loop (g : Nat) (hg : 1 ≤ g ∧ g ≤ 3) (l : List Int) (hl : l.length ≤ 15) (hu : ∀ v ∈ l, 0 ≤ v ∧ v ≤ 65535) (a : Int) (ha : (1 + Int.tmod a 3) % 256 = (g : Int)) (d : Nat) : ∀ (i : Nat) (t : ByteArray), i + d = l.length → bytesOf t = flatW g (l.take i) → ∀ k, d + 301 ≤ k →
    cardamomlaw4_WordBack.l0 k l a t (wordsW g (l.take i) 0) (i : Int) = some true := by
  induction d with
  | zero =>
    intro i t hi ht k hk
    obtain ⟨k, rfl⟩ : ∃ m, k = m + 1 := ⟨k - 1, by omega⟩
    rw [List.take_of_length_le (by omega)] at ht ⊢
    rw [show i = l.length from by omega]
    exact wb_end g hg l hl hu a t ht k (by omega)
  | succ d ih =>
    intro i t hi ht k hk
    obtain ⟨k, rfl⟩ : ∃ m, k = m + 1 := ⟨k - 1, by omega⟩
    have hti : ∀ v ∈ l.take i, 0 ≤ v ∧ v ≤ 65535 := fun v hv => hu v (List.mem_of_mem_take hv)
    have hz := wb_size t _ ht
    have hf := flatW_length g hg.2 (l.take i) hti
    have hw := wordsW_length g (l.take i) 0
    rw [List.length_take] at hf hw
    have hv : 0 ≤ rd l (i : Int) ∧ rd l (i : Int) ≤ 65535 := by
      unfold rd
      rw [Int.toNat_natCast, List.getD_eq_getElem?_getD, List.getElem?_eq_getElem (by omega)]
      exact hu _ (List.getElem_mem _)
    have hp := pb_in _ hv
    rw [wb_step g hg (rd l (i : Int)) hv l a ha i (by omega) hl rfl t (by omega) _ (by omega) k]
    have hts := rd_at_take l i (by omega)
    have hI := ih (i + 1) ((t ++ strOfNums (pb (rd l (i : Int)))) ++ (⟨#[32, 32, 32]⟩ : ByteArray).extract 0 g) (by omega)
      (by rw [wb_append, wb_append, wb_nums _ hp.2, gap_at g hg.2, ht, hts, flatW_append]; simp [flatW]) k (by omega)
    rw [hts, wordsW_append] at hI
    have e : wordsW g [rd l (i : Int)] (0 + (flatW g (l.take i)).length) = [pw (rd l (i : Int)) (t.size : Int)] := by
      rw [← hz, Nat.zero_add]
      rfl
    rw [e] at hI
    exact hI

theorem u16_in {x : Int} (h : (Lit.int .u16 x).wf = true) : 0 ≤ x ∧ x ≤ 65535 := by
  simp [Lit.wf, IntKind.min, IntKind.max, IntKind.bits, IntKind.signed] at h
  omega
theorem u8_in {x : Int} (h : (Lit.int .u8 x).wf = true) : 0 ≤ x ∧ x ≤ 255 := by
  simp [Lit.wf, IntKind.min, IntKind.max, IntKind.bits, IntKind.signed] at h
  omega
theorem word_begun_back : cardamomlaw4_begun.f 100 = some true := by decide +kernel
theorem WordBack : cardamomlaw4_WordBack.Pure := by
  intro l a _ _ hu ha
  refine ⟨400, ?_⟩
  have ha' := u8_in ha
  unfold cardamomlaw4_WordBack.f
  rw [at_rounds cardamomlaw4_begun.mono (by omega : 100 ≤ 400) word_begun_back]
  simp only [Option.bind_some, if_true]
  by_cases h1 : (l.length : Int) > 15
  · rw [if_pos h1]
  · rw [if_neg h1]
    have em : Int.tmod a 3 = a % 3 := Int.tmod_eq_emod_of_nonneg ha'.1
    exact wb_loop (1 + a % 3).toNat (by omega) l (by omega) (fun x hx => u16_in (hu x hx)) a (by rw [em]; omega) l.length 0 (⟨#[]⟩ : ByteArray) (by omega) rfl 400 (by omega)

end Go.Proofs.Ytnidonakekiloaa.Pure
