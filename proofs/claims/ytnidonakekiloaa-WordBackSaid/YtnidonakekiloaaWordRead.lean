import Derived.Test.YtnidonakekiloaaPAllx28
import Derived.Test.YtnidonakekiloaaWordPlain
namespace Go.Proofs.Ytnidonakekiloaa.Pure
open Go.RowKit Go.Proofs.Ytnidonakekiloaa.PAll Go.Proofs.YtnidonakekiloaaW.PrintWords Go.Proofs.YtnidonakekiloaaW.PrintLast Go.Proofs.YtnidonakekiloaaW.PrintMore

theorem bt_bytes (s : ByteArray) (i : Int) : bt s i = rd (bytesOf s) i := (rd_bytesOf s i).symm
theorem wb_str (t : ByteArray) : strOfNums (bytesOf t) = t := by
  unfold strOfNums bytesOf
  rw [List.map_map]
  have : ((fun n : Int => UInt8.ofNat n.toNat) ∘ fun b : UInt8 => (b.toNat : Int)) = id := by
    funext b
    simp
  rw [this, List.map_id]
theorem wb_append (a b : ByteArray) : bytesOf (a ++ b) = bytesOf a ++ bytesOf b := by
  unfold bytesOf
  rw [ByteArray.data_append, Array.toList_append, List.map_append]
theorem wb_extract (s : ByteArray) (i j : Nat) : bytesOf (s.extract i j) = ((bytesOf s).drop i).take (j - i) := by
  unfold bytesOf
  rw [ByteArray.data_extract, Array.toList_extract, List.extract_eq_take_drop, ← List.map_drop, ← List.map_take]
theorem wb_nums (l : List Int) (hb : ∀ x ∈ l, 0 ≤ x ∧ x ≤ 255) : bytesOf (strOfNums l) = l := by
  unfold strOfNums bytesOf
  rw [List.toList_toArray, List.map_map]
  conv => rhs; rw [← List.map_id l]
  apply List.map_congr_left
  intro x hx
  have := hb x hx
  simp only [Function.comp, id]
  rw [UInt8.toNat_ofNat_of_lt' (by simp [UInt8.size]; omega)]
  omega
theorem wb_size (s : ByteArray) (l : List Int) (h : bytesOf s = l) : s.size = l.length := by
  rw [← h, bytesOf_length]

/-- The bytes of a word, and the word. -/
def pb (v : Int) : List Int := if v % 3 = 0 then [97 + v / 3 % 26, 97 + v / 80 % 26] else if v % 3 = 1 then [48 + v / 3 % 10, 48 + v / 30 % 10] else [bt marksB (v / 3 % 11)]
def pw (v p : Int) : S46 := if v % 3 = 0 then ⟨1, strOfNums (pb v), 0, p⟩ else if v % 3 = 1 then ⟨2, ⟨#[]⟩, v / 3 % 10 * 10 + v / 30 % 10, p⟩ else ⟨3, strOfNums (pb v), 0, p⟩
theorem mark_all : ∀ c : Fin 11, K (bt marksB (c.val : Int)) = 3 ∧ marksB.extract c.val (c.val + 1) = strOfNums [bt marksB (c.val : Int)] := by decide +kernel
theorem mark_at (j : Int) (h0 : 0 ≤ j) (h1 : j < 11) : K (bt marksB j) = 3 ∧ marksB.extract j.toNat (j.toNat + 1) = strOfNums [bt marksB j] := by
  obtain ⟨n, rfl⟩ := Int.eq_ofNat_of_zero_le h0
  exact mark_all ⟨n, by omega⟩
theorem pb_in (v : Int) (_h : 0 ≤ v ∧ v ≤ 65535) : (1 ≤ (pb v).length ∧ (pb v).length ≤ 2) ∧ ∀ x ∈ pb v, 0 ≤ x ∧ x ≤ 255 := by
  unfold pb
  split
  · exact ⟨by simp, fun x hx => by simp at hx; omega⟩
  · split
    · exact ⟨by simp, fun x hx => by simp at hx; omega⟩
    · exact ⟨by simp, fun x hx => by simp at hx; have := bt_range marksB (v / 3 % 11); omega⟩

theorem front_str (s : ByteArray) (l r : List Int) (h : bytesOf s = l ++ r) : s.extract 0 l.length = strOfNums l := by
  rw [← wb_str (s.extract 0 l.length), wb_extract, h]
  simp

theorem K_letter (c : Int) (h : 97 ≤ c ∧ c ≤ 122) : K c = 1 := by unfold K; rw [if_pos h]
theorem K_digit (c : Int) (h : 48 ≤ c ∧ c ≤ 57) : K c = 2 := by unfold K; rw [if_neg (by omega), if_pos h]
theorem K_blank : K 32 = 0 := by decide

theorem span_two (s : ByteArray) (hs : s.size ≤ 100) (c0 c1 q : Int) (r : List Int) (h : bytesOf s = c0 :: c1 :: 32 :: r) (h0 : K c0 = q) (h1 : K c1 = q) (hq : q ≠ 0) (k : Nat) (hk : 110 ≤ k) : word_span.f k s q = some 2 := by
  have hz := wb_size s _ h
  have b0 : bt s 0 = c0 := by rw [bt_bytes, h]; rfl
  have b1 : bt s 1 = c1 := by rw [bt_bytes, h]; rfl
  have b2 : bt s 2 = 32 := by rw [bt_bytes, h]; rfl
  simp only [List.length_cons] at hz
  have := span_tells s (by omega) q s.size 0 k (by omega) (by omega)
  have e : spn (fun c => K c == q) s s.size 0 = 2 := by
    rw [hz, spn, if_pos (by rw [show ((0 : Nat) : Int) = 0 from rfl, b0, h0]; simp), spn, if_pos (by rw [show ((0 + 1 : Nat) : Int) = 1 from rfl, b1, h1]; simp), spn, if_neg (by rw [show ((0 + 1 + 1 : Nat) : Int) = 2 from rfl, b2, K_blank]; simp; omega)]
  rw [e] at this
  exact this

theorem one_word (v : Int) (_hv : 0 ≤ v ∧ v ≤ 65535) (s : ByteArray) (hs : s.size ≤ 100) (r : List Int) (h : bytesOf s = pb v ++ 32 :: r) (p : Int) (k : Nat) (hk : 111 ≤ k) :
    word_one.f k s = some ((pw v p).f0, (pw v p).f1, (pw v p).f2, 0, ((pb v).length : Int), true) ∧ (pw v p).f3 = p ∧ bt s 0 ≠ 32 := by
  have hz := wb_size s _ h
  have hfr := front_str s _ _ h
  have hb := bt_range s 0
  unfold pw
  by_cases h0 : v % 3 = 0
  · have hp : pb v = [97 + v / 3 % 26, 97 + v / 80 % 26] := by unfold pb; rw [if_pos h0]
    rw [hp] at h hz hfr ⊢
    rw [if_pos h0]
    have b0 : bt s 0 = 97 + v / 3 % 26 := by rw [bt_bytes, h]; rfl
    have hK := K_letter (bt s 0) (by omega)
    have hsp := span_two s hs _ _ 1 r h (K_letter _ (by omega)) (K_letter _ (by omega)) (by decide) k (by omega)
    simp only [List.length_cons, List.length_append, List.length_nil] at hz hfr
    refine ⟨?_, rfl, by omega⟩
    unfold word_one.f
    rw [if_pos (by omega), kind_K _ hb.1 hb.2 k (by omega), hK]
    simp only [Option.bind_some]
    rw [hsp]
    simp only [Option.bind_some]
    rw [if_neg (by decide), if_pos trivial, if_pos (by omega), if_pos (by omega), show (2 : Int).toNat = 0 + 1 + 1 from rfl, hfr]
    rfl
  · by_cases h1 : v % 3 = 1
    · have hp : pb v = [48 + v / 3 % 10, 48 + v / 30 % 10] := by unfold pb; rw [if_neg h0, if_pos h1]
      rw [hp] at h hz hfr ⊢
      rw [if_neg h0, if_pos h1]
      have b0 : bt s 0 = 48 + v / 3 % 10 := by rw [bt_bytes, h]; rfl
      have b1 : bt s 1 = 48 + v / 30 % 10 := by rw [bt_bytes, h]; rfl
      have hK := K_digit (bt s 0) (by omega)
      have hsp := span_two s hs _ _ 2 r h (K_digit _ (by omega)) (K_digit _ (by omega)) (by decide) k (by omega)
      simp only [List.length_cons, List.length_append, List.length_nil] at hz
      have f0 : bt (s.extract 0 2) 0 = bt s 0 := bt_front s 2 0 (by omega) (by omega)
      have f1 : bt (s.extract 0 2) 1 = bt s 1 := bt_front s 2 1 (by omega) (by omega)
      have hval := value_two (s.extract 0 2) (size_front s 2 (by omega)) (by omega) (by omega) k (by omega)
      refine ⟨?_, rfl, by omega⟩
      unfold word_one.f
      rw [if_pos (by omega), kind_K _ hb.1 hb.2 k (by omega), hK]
      simp only [Option.bind_some]
      rw [hsp]
      simp only [Option.bind_some]
      rw [if_neg (by decide), if_neg (by decide), if_pos trivial, if_pos (by omega), if_pos (by omega), if_pos (by omega), show (2 : Int).toNat = 2 from rfl, hval]
      simp only [Option.bind_some, Option.some.injEq, Prod.mk.injEq, true_and]
      refine ⟨by omega, rfl, by decide⟩
    · have hp : pb v = [bt marksB (v / 3 % 11)] := by unfold pb; rw [if_neg h0, if_neg h1]
      rw [hp] at h hz hfr ⊢
      rw [if_neg h0, if_neg h1]
      have hm := mark_at (v / 3 % 11) (by omega) (by omega)
      have b0 : bt s 0 = bt marksB (v / 3 % 11) := by rw [bt_bytes, h]; rfl
      have hK : K (bt s 0) = 3 := by rw [b0]; exact hm.1
      simp only [List.length_cons, List.length_append, List.length_nil] at hz hfr
      have hsp := span_tells s (by omega) 3 s.size 0 k (by omega) (by omega)
      refine ⟨?_, rfl, fun h32 => by rw [h32, K_blank] at hK; omega⟩
      unfold word_one.f
      rw [if_pos (by omega), kind_K _ hb.1 hb.2 k (by omega), hK]
      simp only [Option.bind_some]
      have hsp' : word_span.f k s 3 = some _ := hsp
      rw [hsp']
      simp only [Option.bind_some]
      rw [if_pos trivial, if_pos (by omega), if_pos (by omega), show s.extract 0 1 = strOfNums [bt marksB (v / 3 % 11)] from hfr]
      rfl

theorem s46_eta (W : S46) (q : Int) (h : W.f3 = q) : (⟨W.f0, W.f1, W.f2, q⟩ : S46) = W := by
  subst h
  rfl
/-- The words of a list, each with g blanks behind it. -/
def flatW (g : Nat) : List Int → List Int
  | [] => []
  | v :: r => pb v ++ (List.replicate g 32 ++ flatW g r)
def wordsW (g : Nat) : List Int → Nat → List S46
  | [], _ => []
  | v :: r, p => pw v (p : Int) :: wordsW g r (p + (pb v).length + g)

theorem bt_past (s : ByteArray) (pre X : List Int) (h : bytesOf s = pre ++ X) (i : Nat) : bt s ((pre.length + i : Nat) : Int) = X.getD i 0 := by
  rw [bt_bytes, h]
  unfold rd
  rw [Int.toNat_natCast, List.getD_eq_getElem?_getD, List.getD_eq_getElem?_getD, List.getElem?_append_right (by omega), Nat.add_sub_cancel_left]

theorem blanks_tell (s : ByteArray) (hs : s.size ≤ 80) (L : List S46) (g : Nat) : ∀ (pre X : List Int), bytesOf s = pre ++ (List.replicate g 32 ++ X) → ∀ k, word_All.l0 (k + g) s L (pre.length : Int) = word_All.l0 k s L ((pre.length + g : Nat) : Int) := by
  induction g with
  | zero => intro pre X _ k; rfl
  | succ g ih =>
    intro pre X h k
    have hz := wb_size s _ h
    simp only [List.length_append, List.length_replicate] at hz
    have hb := bt_past s pre _ h 0
    rw [List.replicate_succ] at hb h
    have hb' : bt s (pre.length : Int) = 32 := hb
    have h' : bytesOf s = (pre ++ [32]) ++ (List.replicate g 32 ++ X) := by rw [h]; simp
    have := ih (pre ++ [32]) X h' k
    rw [show k + (g + 1) = (k + g) + 1 from rfl, word_All.l0, if_pos (by omega), if_pos (by omega), if_pos hb', w64w (by omega) (by omega)]
    rw [List.length_append, List.length_singleton] at this
    rw [show ((pre.length : Int) + 1) = ((pre.length + 1 : Nat) : Int) from by omega, this]
    congr 1
    omega

theorem words_tell (g : Nat) (hg : 1 ≤ g) (s : ByteArray) (hs : s.size ≤ 80) : ∀ (vs pre : List Int) (L : List S46), (∀ v ∈ vs, 0 ≤ v ∧ v ≤ 65535) → bytesOf s = pre ++ flatW g vs → L.length + vs.length ≤ 60 → ∀ k, (g + 1) * vs.length + 150 ≤ k → word_All.l0 k s L (pre.length : Int) = some (L ++ wordsW g vs pre.length, 0, true) := by
  intro vs
  induction vs with
  | nil =>
    intro pre L _ h _ k hk
    have hz := wb_size s _ h
    simp only [flatW, List.append_nil] at hz
    obtain ⟨k, rfl⟩ : ∃ m, k = m + 1 := ⟨k - 1, by omega⟩
    rw [word_All.l0, if_neg (by omega), wordsW, List.append_nil]
  | cons v r ih =>
    intro pre L hv h hL k hk
    have hz := wb_size s _ h
    have hp := pb_in v (hv v (by simp))
    simp only [flatW, List.length_append, List.length_replicate] at hz h
    simp only [List.length_cons, Nat.mul_add, Nat.mul_one] at hL hk
    obtain ⟨k, rfl⟩ : ∃ m, k = m + g + 1 := ⟨k - g - 1, by omega⟩
    have hx : bytesOf (s.extract pre.length s.size) = pb v ++ 32 :: (List.replicate (g - 1) 32 ++ flatW g r) := by
      rw [wb_extract, h, List.drop_left, List.take_of_length_le (by simp only [List.length_append, List.length_replicate]; omega)]
      obtain ⟨g', rfl⟩ : ∃ m, g = m + 1 := ⟨g - 1, by omega⟩
      rw [List.replicate_succ, Nat.add_sub_cancel, List.cons_append]
    have hrs : (s.extract pre.length s.size).size ≤ 100 := by rw [ByteArray.size_extract]; omega
    obtain ⟨h1, h2, h3⟩ := one_word v (hv v (by simp)) _ hrs _ hx (pre.length : Int) (k + g) (by omega)
    have hbt : bt s (pre.length : Int) = bt (s.extract pre.length s.size) 0 := by
      have := bt_past s pre _ h 0
      rw [Nat.add_zero] at this
      rw [this, bt_bytes, hx]
      cases hpb : pb v with
      | nil => rw [hpb] at hp; simp at hp
      | cons c t => rfl
    rw [word_All.l0, if_pos (by omega), if_pos (by omega), if_neg (by rw [hbt]; exact h3), if_pos (by omega), Int.toNat_natCast, h1]
    simp only [Option.bind_some, if_true]
    rw [if_neg (by omega), if_pos (by omega), w64w (by omega) (by omega)]
    have h' : bytesOf s = (pre ++ pb v) ++ (List.replicate g 32 ++ flatW g r) := by rw [h, List.append_assoc]
    have hbl := blanks_tell s hs (L ++ [pw v (pre.length : Int)]) g (pre ++ pb v) (flatW g r) h' k
    have hI := ih (pre ++ pb v ++ List.replicate g 32) (L ++ [pw v (pre.length : Int)]) (fun x hx => hv x (by simp [hx])) (by rw [h']; simp) (by simp; omega) k (by omega)
    have ep := s46_eta (pw v (pre.length : Int)) (pre.length : Int) h2
    simp only [List.length_append, List.length_replicate] at hbl hI
    rw [show (pre.length : Int) + ((pb v).length : Int) = ((pre.length + (pb v).length : Nat) : Int) from by omega]
    have ep' : L ++ [(⟨(pw v (pre.length : Int)).f0, (pw v (pre.length : Int)).f1, (pw v (pre.length : Int)).f2, (pre.length : Int)⟩ : S46)] = L ++ [pw v (pre.length : Int)] := by rw [ep]
    rw [ep', hbl, hI, wordsW, List.append_assoc]
    rfl
end Go.Proofs.Ytnidonakekiloaa.Pure
