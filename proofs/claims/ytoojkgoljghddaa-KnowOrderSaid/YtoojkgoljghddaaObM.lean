/-
  What is proved here: numbers in two orders, and which there are: lists alone.
  Conditions: none.
-/
import Derived.Test.YtoojkgoljghddaaOaM
set_option linter.unusedVariables false
set_option linter.unusedSimpArgs false
set_option maxRecDepth 100000
set_option maxHeartbeats 8000000
namespace Go.Proofs.Ytoojkgoljghddaa.Pl
open Go Go.Proofs Go.Proofs.Ev Go.Proofs.Dv Cd

def pk (z : Int) : Int := z % 50 + 1
def madeF (k : Kn) : List Int → Kn
  | [] => k
  | z :: r => madeF (addK k (pk z)) r
def U8 (l : List Int) : Prop := ∀ z ∈ l, 0 ≤ z ∧ z < 256
theorem pk_in {z : Int} (h : 0 ≤ z ∧ z < 256) : 1 ≤ pk z ∧ pk z ≤ 50 := by unfold pk; omega
theorem madeF_ok : ∀ (l : List Int) (k : Kn), K50 k → U8 l → K50 (madeF k l)
  | [], k, h, _ => h
  | z :: r, k, h, hl => madeF_ok r _ (h.add (pk_in (hl z (by simp))).1 (pk_in (hl z (by simp))).2) fun x hx => hl x (by simp [hx])
theorem madeF_has : ∀ (l : List Int) (k : Kn), K50 k → U8 l → ∀ n, (hasK (madeF k l) n = true ↔ hasK k n = true ∨ ∃ z ∈ l, n = pk z)
  | [], k, h, _, n => by simp [madeF]
  | z :: r, k, h, hl, n => by
    have hz := pk_in (hl z (by simp))
    rw [madeF, madeF_has r _ (h.add hz.1 hz.2) (fun x hx => hl x (by simp [hx])) n, has_add h.ok hz.1 (by omega) n]
    simp only [Bool.or_eq_true, decide_eq_true_eq, List.mem_cons, exists_eq_or_imp]
    constructor
    · rintro ((h | h) | h)
      · exact .inr (.inl h)
      · exact .inl h
      · exact .inr (.inr h)
    · rintro (h | h | h)
      · exact .inl (.inr h)
      · exact .inl (.inl h)
      · exact .inr h
/-- The keys, each once. -/
def insS (ks : List Int) (k : Int) : List Int := if k ∈ ks then ks else ks ++ [k]
def seenF (ks : List Int) : List Int → List Int
  | [] => ks
  | z :: r => seenF (insS ks (pk z)) r
theorem insS_mem {ks : List Int} {k x : Int} : x ∈ insS ks k ↔ x ∈ ks ∨ x = k := by
  unfold insS
  split
  · rename_i h
    constructor
    · exact .inl
    · rintro (h' | rfl)
      · exact h'
      · exact h
  · simp
theorem insS_nodup {ks : List Int} {k : Int} (h : ks.Nodup) : (insS ks k).Nodup := by
  unfold insS
  split
  · exact h
  · rename_i hk
    rw [List.nodup_append]
    exact ⟨h, by simp, fun a ha b hb => by simp at hb; subst hb; exact fun e => hk (e ▸ ha)⟩
theorem seenF_mem : ∀ (l ks : List Int) (x : Int), x ∈ seenF ks l ↔ x ∈ ks ∨ ∃ z ∈ l, x = pk z
  | [], ks, x => by simp [seenF]
  | z :: r, ks, x => by
    rw [seenF, seenF_mem r, insS_mem]
    simp only [List.mem_cons, exists_eq_or_imp, or_assoc]
theorem seenF_nodup : ∀ (l ks : List Int), ks.Nodup → (seenF ks l).Nodup
  | [], ks, h => h
  | z :: r, ks, h => seenF_nodup r _ (insS_nodup h)
theorem seenF_len : ∀ (l ks : List Int), (seenF ks l).length ≤ ks.length + l.length
  | [], ks => by simp [seenF]
  | z :: r, ks => by
    have := seenF_len r (insS ks (pk z))
    have h2 : (insS ks (pk z)).length ≤ ks.length + 1 := by unfold insS; split <;> simp
    rw [seenF]
    simp only [List.length_cons]
    omega
theorem sub_len : ∀ (l m : List Int), l.Nodup → (∀ x ∈ l, x ∈ m) → l.length ≤ m.length
  | [], m, _, _ => by simp
  | a :: r, m, hn, hs => by
    obtain ⟨h1, h2⟩ := List.nodup_cons.1 hn
    have ha := hs a (by simp)
    have := sub_len r (m.erase a) h2 fun x hx => (List.mem_erase_of_ne (show x ≠ a from fun e => h1 (by rw [← e]; exact hx))).2 (hs x (by simp [hx]))
    rw [List.length_erase_of_mem ha] at this
    have hp : 0 < m.length := List.length_pos_of_mem ha
    simp only [List.length_cons]
    omega
/-- All numbers that are known. -/
def allK (k : Kn) : List Int := ((List.range k.up.toNat).map fun i : Nat => (i : Int) + 1) ++ k.more
theorem allK_mem {k : Kn} (h : KOk k) (n : Int) : n ∈ allK k ↔ hasK k n = true := by
  rw [hasK_iff]
  simp only [allK, List.mem_append, List.mem_map, List.mem_range]
  have := h.up
  constructor
  · rintro (⟨i, hi, rfl⟩ | h')
    · exact .inl (by omega)
    · exact .inr h'
  · rintro (⟨h1, h2⟩ | h')
    · exact .inl ⟨(n - 1).toNat, by omega, by omega⟩
    · exact .inr h'
theorem allK_nodup {k : Kn} (h : KOk k) : (allK k).Nodup := by
  have h2 : k.more.Nodup := (h.rise : k.more.Pairwise _).imp fun {a b} hab => by
    have : a < b := hab
    omega
  unfold allK
  rw [List.nodup_append]
  refine ⟨?_, h2, ?_⟩
  · refine List.Pairwise.map _ (R := fun a b : Nat => a ≠ b) (fun a b hab => by omega) ?_
    exact List.nodup_range
  · intro a ha b hb
    obtain ⟨i, hi, rfl⟩ := List.mem_map.1 ha
    rw [List.mem_range] at hi
    have := h.more b hb
    omega
theorem count_is {k : Kn} (h : KOk k) {ks : List Int} (hn : ks.Nodup) (hm : ∀ n, hasK k n = true ↔ n ∈ ks) : k.up + k.more.length = ks.length := by
  have h1 := sub_len (allK k) ks (allK_nodup h) fun x hx => (hm x).1 ((allK_mem h x).1 hx)
  have h2 := sub_len ks (allK k) hn fun x hx => (allK_mem h x).2 ((hm x).2 hx)
  have h3 : (allK k).length = k.up.toNat + k.more.length := by simp [allK]
  have := h.up
  omega
/-- Turned. -/
def rot (l : List Int) (t : Nat) : List Int := (List.range l.length).map fun j => l.getD ((j + t) % l.length) 0
theorem rot_mem (l : List Int) (t : Nat) (x : Int) (h : x ∈ rot l t) : x ∈ l := by
  obtain ⟨j, hj, rfl⟩ := List.mem_map.1 h
  rw [List.mem_range] at hj
  have hlt : (j + t) % l.length < l.length := Nat.mod_lt _ (by omega)
  rw [List.getD_eq_getElem?_getD, List.getElem?_eq_getElem hlt]
  exact List.getElem_mem hlt
theorem rot_drop (l : List Int) (t i : Nat) (h : i < l.length) : (rot l t).drop i = l.getD ((i + t) % l.length) 0 :: (rot l t).drop (i + 1) := by
  have hl : (rot l t).length = l.length := by simp [rot]
  rw [List.drop_eq_getElem_cons (by omega)]
  congr 1
  simp [rot]
/-- One row and the other one. -/
theorem same_rows (l : List Int) (t : Nat) (hb : U8 l) : madeF (madeF ⟨0, []⟩ (rot l t)) l.reverse = madeF ⟨0, []⟩ l := by
  have hr : U8 (rot l t) := fun z hz => hb z (rot_mem l t z hz)
  have hv : U8 l.reverse := fun z hz => hb z (by simpa using hz)
  have k1 := madeF_ok (rot l t) _ K50.zero hr
  have k2 := madeF_ok l.reverse _ k1 hv
  have k3 := madeF_ok l _ K50.zero hb
  refine KOk.ext k2.ok k3.ok fun n _ => ?_
  rw [madeF_has _ _ k1 hv, madeF_has _ _ K50.zero hr, madeF_has _ _ K50.zero hb]
  constructor
  · rintro ((h | ⟨z, hz, rfl⟩) | ⟨z, hz, rfl⟩)
    · exact .inl h
    · exact .inr ⟨z, rot_mem l t z hz, rfl⟩
    · exact .inr ⟨z, by simpa using hz, rfl⟩
  · rintro (h | ⟨z, hz, rfl⟩)
    · exact .inl (.inl h)
    · exact .inr ⟨z, by simpa using hz, rfl⟩
theorem has_seen (l : List Int) (hb : U8 l) (n : Int) : hasK (madeF ⟨0, []⟩ l) n = true ↔ n ∈ seenF [] l := by
  rw [madeF_has l _ K50.zero hb, seenF_mem]
  have : ¬ hasK ⟨0, []⟩ n = true := by
    rw [hasK_iff]
    simp
    omega
  simp [this]
/-! ### A map's entries -/
def ent (k : Int) : D := .fz (.tup [.int .i64 k, .bool true])
theorem find_none : ∀ (ks : List Int) (n : Int) (i : Nat), n ∉ ks → findF .i64 n (ks.map ent) i = some none
  | [], n, i, _ => rfl
  | k :: r, n, i, h => by
    have h1 : ¬ n = k := fun e => h (by simp [e])
    have := find_none r n (i + 1) fun e => h (by simp [e])
    rw [List.map_cons]
    simp only [ent, findF, if_true, h1, if_false]
    exact this
theorem find_some : ∀ (ks : List Int) (n : Int) (i : Nat), n ∈ ks → ∃ j, findF .i64 n (ks.map ent) i = some (some (i + j, .bool true)) ∧ (ks.map ent).set j (ent n) = ks.map ent
  | k :: r, n, i, h => by
    by_cases h1 : n = k
    · subst h1
      exact ⟨0, by simp [ent, findF], by simp⟩
    · have hr : n ∈ r := by
        rcases List.mem_cons.1 h with h' | h'
        · exact absurd h' h1
        · exact h'
      obtain ⟨j, h2, h3⟩ := find_some r n (i + 1) hr
      refine ⟨j + 1, ?_, by simp [h3]⟩
      rw [List.map_cons]
      simp only [ent, findF, if_true, h1, if_false]
      have h2' : findF .i64 n (r.map ent) (i + 1) = _ := h2
      rw [show i + (j + 1) = i + 1 + j by omega]
      exact h2'
end Go.Proofs.Ytoojkgoljghddaa.Pl
