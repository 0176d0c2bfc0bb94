/-
  What is proved here: versions that are held, by thing, as a plain law of lists.
  Conditions: none.
-/
import Derived.Test.YtmbboljcgpccfaaHiH
set_option linter.unusedVariables false
set_option linter.unusedSimpArgs false
namespace Go.Proofs.Ytmbboljcgpccfaa.Pl
open Go Go.Proofs Go.Proofs.Ev Go.Proofs.Dv Cd

theorem u8s_of {l : List Int} (h : l.length ≤ 1000) (hb : ∀ z ∈ l, 0 ≤ z ∧ z < 256) : U8s l := ⟨by omega, hb⟩
def Hd.ok (h : Hd) : Prop := 1 ≤ h.item ∧ h.item ≤ 6 ∧ 1 ≤ h.a ∧ h.a ≤ 9 ∧ 1 ≤ h.b ∧ h.b ≤ 3 ∧ 1 ≤ h.c ∧ h.c ≤ h.a
def OkHs (l : List Hd) : Prop := ∀ h ∈ l, h.ok
theorem Hd.ok.pos {h : Hd} (k : h.ok) : 0 < cmpS h.s (0, 0, 0) := by
  have := (cmpS_gt h.a h.b h.c 0 0 0).2 (by have := k; unfold Hd.ok at this; omega)
  show 0 < cmpS (h.a, h.b, h.c) (0, 0, 0)
  omega
theorem OkHs.pos {l : List Hd} (k : OkHs l) : Pos l := fun h hh => (k h hh).pos
theorem Hd.ok.may {h : Hd} (k : h.ok) : mayB h.a h.b h.c = true := by
  unfold Hd.ok at k
  have : h.c ≤ (if 1000 < h.a then 1000 else h.a) := by split <;> omega
  simp [mayB, this]
  omega
theorem mayHs_ok : ∀ {l : List Hd} (last : Int), OkHs l → Srt l → (∀ h ∈ l, last < h.item) → mayHs last l = true
  | [], _, _, _, _ => rfl
  | x :: r, last, k, hs, hl => by
    obtain ⟨h1, h2⟩ := List.pairwise_cons.1 hs
    have hx := k x (by simp)
    have hm := hx.may
    have h3 := hl x (by simp)
    unfold Hd.ok at hx
    simp only [mayHs]
    rw [if_neg (by rw [hm]; simp; omega)]
    exact mayHs_ok x.item (fun h hh => k h (List.mem_cons_of_mem _ hh)) h2 h1
theorem OkHs.may {l : List Hd} (k : OkHs l) (hs : Srt l) : mayHs 0 l = true := mayHs_ok 0 k hs fun h hh => by have := k h hh; unfold Hd.ok at this; omega
theorem OkHs.most {l m : List Hd} (k : OkHs l) (k' : OkHs m) : OkHs (mostH l m) := fun h hh => by
  rcases mostH_mem m hh with h1 | h1
  · exact k h h1
  · exact k' h h1
theorem srt_len {l : List Hd} (k : OkHs l) (hs : Srt l) : l.length ≤ 6 := by
  have : ∀ (l : List Hd) (n : Int), Srt l → (∀ h ∈ l, n < h.item ∧ h.item ≤ 6) → n ≤ 6 → (l.length : Int) ≤ 6 - n := by
    intro l
    induction l with
    | nil => intro n _ _ hn; simp; omega
    | cons x r ih =>
      intro n hs hb hn
      obtain ⟨h1, h2⟩ := List.pairwise_cons.1 hs
      have hx := hb x (by simp)
      have := ih x.item h2 (fun h hh => ⟨h1 h hh, (hb h (List.mem_cons_of_mem _ hh)).2⟩) hx.2
      simp only [List.length_cons]
      omega
  have := this l 0 hs (fun h hh => by have := k h hh; unfold Hd.ok at this; omega) (by omega)
  omega

def goV (v : Ver) : List Ver → Bool → List Ver
  | [], put => if put = true then [] else [v]
  | x :: r, put => (if put = false ∧ v.item ≤ x.item then [v] else []) ++ (if x.item = v.item then [] else [x]) ++ goV v r (put || decide (v.item ≤ x.item))
def insV : List Ver → Ver → List Ver
  | [], h => [h]
  | x :: r, h => if x.item < h.item then x :: insV r h else if x.item = h.item then h :: r else h :: x :: r
def lookV : List Ver → Int → Option Ver
  | [], _ => none
  | a :: r, t => if a.item = t then some a else lookV r t
theorem goV_true (h : Ver) : ∀ (l : List Ver), (∀ x ∈ l, h.item < x.item) → goV h l true = l
  | [], _ => rfl
  | x :: r, hx => by
    have h1 := hx x (by simp)
    simp only [goV, Bool.true_or]
    rw [goV_true h r fun y hy => hx y (List.mem_cons_of_mem _ hy)]
    simp [show ¬ x.item = h.item by omega]
theorem goV_ins (h : Ver) : ∀ {l : List Ver}, Rise Ver.item l → goV h l false = insV l h
  | [], _ => rfl
  | x :: r, hs => by
    obtain ⟨h1, h2⟩ := List.pairwise_cons.1 hs
    simp only [goV, insV, Bool.false_or, true_and]
    by_cases hlt : x.item < h.item
    · have e1 : ¬ h.item ≤ x.item := by omega
      have e2 : ¬ x.item = h.item := by omega
      simp [hlt, e1, e2, goV_ins h h2]
    · have e1 : h.item ≤ x.item := by omega
      have hr := goV_true h r fun y hy => by have := h1 y hy; omega
      by_cases he : x.item = h.item
      · simp [hlt, e1, he]
        exact hr
      · simp [hlt, e1, he, hr]
theorem find_look (t : Int) : ∀ (l : List Ver), findV l t = match lookV l t with | some x => (x, true) | none => (zeroVer, false)
  | [] => rfl
  | a :: r => by
    simp only [findV, lookV]
    split
    · rfl
    · exact find_look t r
theorem look_none {t : Int} : ∀ {l : List Ver}, (∀ x ∈ l, x.item ≠ t) → lookV l t = none
  | [], _ => rfl
  | y :: r, h => by
    have h1 : ¬ y.item = t := h y (by simp)
    simp only [lookV, if_neg h1]
    exact look_none fun x hx => h x (by simp [hx])
theorem look_some {t : Int} {x : Ver} : ∀ {l : List Ver}, lookV l t = some x → x ∈ l ∧ x.item = t
  | [], h => by cases h
  | y :: r, h => by
    simp only [lookV] at h
    split at h
    · rename_i hy
      cases h
      exact ⟨by simp, hy⟩
    · obtain ⟨h1, h2⟩ := look_some h
      exact ⟨by simp [h1], h2⟩
theorem look_mem {x : Ver} : ∀ {l : List Ver}, Rise Ver.item l → x ∈ l → lookV l x.item = some x
  | y :: r, hs, hm => by
    obtain ⟨h1, h2⟩ := List.pairwise_cons.1 hs
    rcases List.mem_cons.1 hm with rfl | hm
    · simp [lookV]
    · have := h1 x hm
      rw [lookV, if_neg (by omega), look_mem h2 hm]
theorem isK_lt {x : Ver} {i : Int} {r : List Ver} (hx : x.item < i) : isK Ver.item i (x :: r) = isK Ver.item i r := by simp [isK, cntK, hx]
theorem isK_ge {x : Ver} {i : Int} {r : List Ver} (hx : ¬ x.item < i) : isK Ver.item i (x :: r) = decide (x.item = i) := by simp [isK, cntK, hx]
/-- What is put: where it stands, in place of what was there. -/
theorem ins_cnt (v : Ver) : ∀ {l : List Ver}, Rise Ver.item l → insV l v = if isK Ver.item v.item l = true then l.set (cntK Ver.item v.item l) v else l.take (cntK Ver.item v.item l) ++ v :: l.drop (cntK Ver.item v.item l)
  | [], _ => by simp [insV, isK, cntK]
  | x :: r, hs => by
    obtain ⟨h1, h2⟩ := List.pairwise_cons.1 hs
    have ih := ins_cnt v h2
    by_cases hx : x.item < v.item
    · rw [isK_lt hx]
      simp only [insV, hx, if_true, cntK, List.set_cons_succ, List.take_succ_cons, List.drop_succ_cons, ih]
      cases isK Ver.item v.item r <;> simp
    · rw [isK_ge hx]
      by_cases he : x.item = v.item
      · simp [insV, cntK, he]
      · simp [insV, cntK, hx, he]
theorem put_look {l : List Ver} (hs : Rise Ver.item l) (v : Ver) : putV l v = if (∃ x, lookV l v.item = some x ∧ 0 < cmpS x.s v.s) then l else insV l v := by
  have hf := find_cnt (t := v.item) hs
  have hi := ins_cnt v hs
  simp only [find_look] at hf
  obtain ⟨f1, f2⟩ := hf
  unfold putV
  by_cases hk : isK Ver.item v.item l = true
  · rw [if_pos hk]
    rw [if_pos hk] at hi
    rcases isK_iff Ver.item v.item l with ⟨h1, h2⟩ | ⟨hlt, h1, h2⟩
    · rw [h1] at hk; cases hk
    · have hg : l[cntK Ver.item v.item l]? = some l[cntK Ver.item v.item l] := List.getElem?_eq_getElem hlt
      have h3 := f2 _ hg h2
      have h4 : lookV l v.item = some l[cntK Ver.item v.item l] := by
        cases h : lookV l v.item with
        | none => rw [h] at h3; simp at h3
        | some y => rw [h] at h3; simp at h3; rw [h3]
      rw [hg, h4, hi]
  · rw [if_neg hk]
    rw [if_neg hk] at hi
    have h3 := f1 (by simpa using hk)
    have h4 : lookV l v.item = none := by
      cases h : lookV l v.item with
      | none => rfl
      | some y => rw [h] at h3; simp at h3
    rw [h4, hi]
    simp
theorem insV_mem {x h : Ver} : ∀ {l : List Ver}, x ∈ insV l h → x = h ∨ x ∈ l
  | [], hx => by simp [insV] at hx; exact .inl hx
  | y :: r, hx => by
    simp only [insV] at hx
    split at hx
    · rcases List.mem_cons.1 hx with rfl | hx
      · exact .inr (by simp)
      · rcases insV_mem hx with h1 | h1
        · exact .inl h1
        · exact .inr (List.mem_cons_of_mem _ h1)
    · split at hx
      · rcases List.mem_cons.1 hx with rfl | hx
        · exact .inl rfl
        · exact .inr (List.mem_cons_of_mem _ hx)
      · rcases List.mem_cons.1 hx with rfl | hx
        · exact .inl rfl
        · exact .inr hx
theorem insV_rise {h : Ver} : ∀ {l : List Ver}, Rise Ver.item l → Rise Ver.item (insV l h)
  | [], _ => by simp [insV, Rise]
  | x :: r, hs => by
    obtain ⟨h1, h2⟩ := List.pairwise_cons.1 hs
    simp only [insV]
    split
    · rename_i hlt
      refine List.pairwise_cons.2 ⟨fun y hy => ?_, insV_rise h2⟩
      rcases insV_mem hy with rfl | hy
      · exact hlt
      · exact h1 y hy
    · split
      · rename_i he
        exact List.pairwise_cons.2 ⟨fun y hy => by rw [← he]; exact h1 y hy, h2⟩
      · rename_i h3 h4
        have h5 : h.item < x.item := by omega
        exact List.pairwise_cons.2 ⟨fun y hy => by
          rcases List.mem_cons.1 hy with rfl | hy
          · exact h5
          · have := h1 y hy; omega, hs⟩
theorem look_ins {h : Ver} {t : Int} : ∀ {l : List Ver}, Rise Ver.item l → lookV (insV l h) t = if t = h.item then some h else lookV l t
  | [], _ => by
    simp only [insV, lookV]
    by_cases hi : h.item = t
    · simp [hi]
    · simp [hi, Ne.symm hi]
  | x :: r, hs => by
    obtain ⟨h1, h2⟩ := List.pairwise_cons.1 hs
    simp only [insV]
    split
    · rename_i hlt
      simp only [lookV]
      by_cases hx : x.item = t
      · rw [if_pos hx, if_neg (by omega), if_pos hx]
      · rw [if_neg hx, look_ins h2]
        simp [hx]
    · split
      · rename_i he
        simp only [lookV, he]
        by_cases hx : h.item = t
        · rw [if_pos hx, if_pos hx.symm]
        · rw [if_neg hx, if_neg (fun e => hx e.symm), if_neg hx]
      · simp only [lookV]
        by_cases hx : h.item = t
        · rw [if_pos hx, if_pos hx.symm]
        · rw [if_neg hx, if_neg (show ¬ t = h.item from fun e => hx e.symm)]
theorem putV_rise {l : List Ver} {v : Ver} (hs : Rise Ver.item l) : Rise Ver.item (putV l v) := by
  rw [put_look hs]
  split
  · exact hs
  · exact insV_rise hs
theorem putV_mem {l : List Ver} {v x : Ver} (hs : Rise Ver.item l) (hx : x ∈ putV l v) : x = v ∨ x ∈ l := by
  rw [put_look hs] at hx
  split at hx
  · exact .inr hx
  · exact insV_mem hx
theorem ext_look : ∀ {l m : List Ver}, Rise Ver.item l → Rise Ver.item m → (∀ t, lookV l t = lookV m t) → l = m
  | [], [], _, _, _ => rfl
  | [], y :: m, _, _, h => by
    have := h y.item
    simp [lookV] at this
  | x :: l, [], _, _, h => by
    have := h x.item
    simp [lookV] at this
  | x :: l, y :: m, hl, hm, h => by
    obtain ⟨l1, l2⟩ := List.pairwise_cons.1 hl
    obtain ⟨m1, m2⟩ := List.pairwise_cons.1 hm
    have hxy : x.item = y.item := by
      rcases Int.lt_trichotomy x.item y.item with hlt | he | hgt
      · have h1 := h x.item
        rw [lookV, if_pos rfl, look_none (l := y :: m) fun z hz => by
          rcases List.mem_cons.1 hz with rfl | hz
          · omega
          · have := m1 z hz; omega] at h1
        cases h1
      · exact he
      · have h1 := h y.item
        rw [look_none (l := x :: l) (fun z hz => by
          rcases List.mem_cons.1 hz with rfl | hz
          · omega
          · have := l1 z hz; omega), lookV, if_pos rfl] at h1
        cases h1
    have he : x = y := by
      have h1 := h x.item
      rw [lookV, if_pos rfl, hxy, lookV, if_pos rfl] at h1
      exact Option.some.inj h1
    subst he
    rw [ext_look l2 m2 fun t => ?_]
    by_cases hi : x.item = t
    · rw [look_none fun z hz => by have := l1 z hz; omega, look_none fun z hz => by have := m1 z hz; omega]
    · have h1 := h t
      rw [lookV, lookV, if_neg hi, if_neg hi] at h1
      exact h1

/-! ### The last of what came -/
def Best (S : Ver → Prop) (t : Int) (o : Option Ver) : Prop := match o with
  | none => ∀ y, S y → y.item ≠ t
  | some x => S x ∧ x.item = t ∧ ∀ y, S y → y.item = t → leS y.s x.s
theorem best_put {S : Ver → Prop} {l : List Ver} (hs : Rise Ver.item l) (v : Ver) (hb : ∀ t, Best S t (lookV l t)) (t : Int) : Best (fun y => S y ∨ y = v) t (lookV (putV l v) t) := by
  have h1 := hb t
  have hv := hb v.item
  rw [put_look hs]
  split
  · rename_i hx
    obtain ⟨x, hx, hc⟩ := hx
    cases hl : lookV l t with
    | none =>
      rw [hl] at h1
      rintro y (hy | rfl)
      · exact h1 y hy
      · rintro rfl
        rw [hl] at hx
        cases hx
    | some z =>
      rw [hl] at h1
      obtain ⟨z1, z2, z3⟩ := h1
      refine ⟨.inl z1, z2, ?_⟩
      rintro y (hy | rfl) hyt
      · exact z3 y hy hyt
      · rw [hyt, hl] at hx
        cases hx
        exact (leS_total _ _).resolve_right ((gtS_iff _ _).1 hc)
  · rename_i hx
    rw [look_ins hs]
    by_cases ht : t = v.item
    · rw [if_pos ht]
      subst ht
      refine ⟨.inr rfl, rfl, ?_⟩
      rintro y (hy | rfl) hyt
      · cases hl : lookV l v.item with
        | none => rw [hl] at h1; exact absurd hyt (h1 y hy)
        | some z =>
          rw [hl] at h1
          obtain ⟨z1, z2, z3⟩ := h1
          refine leS_trans (z3 y hy hyt) ?_
          have : ¬ 0 < cmpS z.s v.s := fun hc => hx ⟨z, hl, hc⟩
          unfold leS
          omega
      · exact leS_refl _
    · rw [if_neg ht]
      cases hl : lookV l t with
      | none =>
        rw [hl] at h1
        rintro y (hy | rfl)
        · exact h1 y hy
        · exact fun e => ht e.symm
      | some z =>
        rw [hl] at h1
        obtain ⟨z1, z2, z3⟩ := h1
        refine ⟨.inl z1, z2, ?_⟩
        rintro y (hy | rfl) hyt
        · exact z3 y hy hyt
        · exact absurd hyt.symm ht
def heldV (rows : List Ver) : List Ver := rows.foldl putV []
theorem heldV_snoc (rows : List Ver) (v : Ver) : heldV (rows ++ [v]) = putV (heldV rows) v := by simp [heldV, List.foldl_append]
theorem held_all : ∀ (n : Nat) (rows : List Ver), rows.length = n → Rise Ver.item (heldV rows) ∧ (∀ x ∈ heldV rows, x ∈ rows) ∧ ∀ t, Best (· ∈ rows) t (lookV (heldV rows) t)
  | 0, rows, h => by
    obtain rfl : rows = [] := List.eq_nil_of_length_eq_zero h
    exact ⟨List.Pairwise.nil, fun x hx => hx, fun t => by simp [heldV, lookV, Best]⟩
  | n + 1, rows, h => by
    obtain ⟨r, v, rfl⟩ : ∃ r v, rows = r ++ [v] := ⟨rows.dropLast, rows.getLast (by intro e; rw [e] at h; cases h), (List.dropLast_concat_getLast _).symm⟩
    obtain ⟨i1, i2, i3⟩ := held_all n r (by simpa using h)
    rw [heldV_snoc]
    refine ⟨putV_rise i1, fun x hx => ?_, fun t => ?_⟩
    · rcases putV_mem i1 hx with rfl | hx
      · simp
      · simp [i2 x hx]
    · have := best_put i1 v i3 t
      have e : (fun y => y ∈ r ∨ y = v) = (· ∈ r ++ [v]) := by funext y; simp
      rw [e] at this
      exact this
theorem held_rise (rows : List Ver) : Rise Ver.item (heldV rows) := (held_all _ rows rfl).1
theorem held_mem {rows : List Ver} : ∀ x ∈ heldV rows, x ∈ rows := (held_all _ rows rfl).2.1
theorem held_best (rows : List Ver) (t : Int) : Best (· ∈ rows) t (lookV (heldV rows) t) := (held_all _ rows rfl).2.2 t
theorem best_same {S : Ver → Prop} (inj : ∀ x y, S x → S y → x.s = y.s → x = y) {t : Int} {o p : Option Ver} (h1 : Best S t o) (h2 : Best S t p) : o = p := by
  cases o with
  | none =>
    cases p with
    | none => rfl
    | some y => exact absurd h2.2.1 (h1 y h2.1)
  | some x =>
    cases p with
    | none => exact absurd h1.2.1 (h2 x h1.1)
    | some y =>
      rw [inj x y h1.1 h2.1 (leS_anti (h2.2.2 x h1.1 h1.2.1) (h1.2.2 y h2.1 h2.2.1))]
theorem held_same {X Y : List Ver} (inj : ∀ x y, x ∈ X → y ∈ X → x.s = y.s → x = y) (h : ∀ v, v ∈ Y ↔ v ∈ X) : heldV X = heldV Y := by
  refine ext_look (held_rise X) (held_rise Y) fun t => best_same inj (held_best X t) ?_
  have := held_best Y t
  have e : (· ∈ Y) = (· ∈ X) := by funext v; exact propext (h v)
  rw [e] at this
  exact this
theorem held_len {l : List Ver} (hs : Rise Ver.item l) (ho : ∀ v ∈ l, v.ok) : l.length ≤ 6 := by
  have : ∀ (l : List Ver) (n : Int), Rise Ver.item l → (∀ h ∈ l, n < h.item ∧ h.item ≤ 6) → n ≤ 6 → (l.length : Int) ≤ 6 - n := by
    intro l
    induction l with
    | nil => intro n _ _ hn; simp; omega
    | cons x r ih =>
      intro n hs hb hn
      obtain ⟨h1, h2⟩ := List.pairwise_cons.1 hs
      have hx := hb x (by simp)
      have := ih x.item h2 (fun h hh => ⟨h1 h hh, (hb h (List.mem_cons_of_mem _ hh)).2⟩) hx.2
      simp only [List.length_cons]
      omega
  have := this l 0 hs (fun h hh => by have := (ho h hh).item; omega) (by omega)
  omega

/-! ### Parts, and their heads -/
theorem look_filter (p : Ver → Bool) (t : Int) : ∀ {l : List Ver}, Rise Ver.item l → lookV (l.filter p) t = (lookV l t).filter p
  | [], _ => rfl
  | x :: r, hs => by
    obtain ⟨h1, h2⟩ := List.pairwise_cons.1 hs
    have ih := look_filter p t h2
    by_cases hp : p x = true
    · rw [List.filter_cons_of_pos hp]
      simp only [lookV]
      by_cases hx : x.item = t
      · simp [hx, hp, Option.filter]
      · simp only [hx, if_false]
        exact ih
    · rw [List.filter_cons_of_neg hp, ih]
      simp only [lookV]
      by_cases hx : x.item = t
      · rw [if_pos hx, look_none fun y hy => by have := h1 y hy; omega]
        simp [hp, Option.filter]
      · rw [if_neg hx]
theorem at_look (t : Int) : ∀ (l : List Ver), atS (l.map hdV) t = match lookV l t with | some x => x.s | none => (0, 0, 0)
  | [] => rfl
  | x :: r => by
    simp only [List.map_cons, atS, lookV, hdV]
    split
    · rfl
    · exact at_look t r
theorem hdV_srt {l : List Ver} (hs : Rise Ver.item l) : Srt (l.map hdV) := by
  unfold Srt
  rw [List.pairwise_map]
  exact hs
theorem hdV_ok {v : Ver} (h : v.ok) : (hdV v).ok := by
  have h1 := h.item
  have h2 := h.stamp
  unfold Hd.ok hdV
  simp only
  omega
theorem hdVs_ok {l : List Ver} (h : ∀ v ∈ l, v.ok) : OkHs (l.map hdV) := by
  intro x hx
  obtain ⟨v, hv, rfl⟩ := List.mem_map.1 hx
  exact hdV_ok (h v hv)
theorem most_parts (p : Ver → Bool) {l : List Ver} (hs : Rise Ver.item l) (ho : ∀ v ∈ l, v.ok) : mostH ((l.filter p).map hdV) ((l.filter fun v => !p v).map hdV) = l.map hdV := by
  have s1 : Rise Ver.item (l.filter p) := List.Pairwise.filter _ hs
  have s2 : Rise Ver.item (l.filter fun v => !p v) := List.Pairwise.filter _ hs
  have o1 : OkHs ((l.filter p).map hdV) := hdVs_ok fun v hv => ho v (List.mem_filter.1 hv).1
  have o2 : OkHs ((l.filter fun v => !p v).map hdV) := hdVs_ok fun v hv => ho v (List.mem_filter.1 hv).1
  refine ext_at (mostH_srt _ (hdV_srt s1)) (hdV_srt hs) (o1.most o2).pos (hdVs_ok ho).pos fun t => ?_
  rw [at_mostH (hdV_srt s1) (hdV_srt s2) o1.pos, at_look, at_look, at_look, look_filter p t hs, look_filter _ t hs]
  cases hl : lookV l t with
  | none => simp [maxS_self]
  | some x =>
    have hx := (look_some hl).1
    have hp : leS (0, 0, 0) x.s := by
      have := (hdV_ok (ho x hx)).pos
      exact (leS_total _ _).resolve_right ((gtS_iff _ _).1 this)
    cases hpx : p x with
    | true => simp [Option.filter, hpx, maxS_of_le hp]
    | false => simp [Option.filter, hpx]; rw [maxS_comm, maxS_of_le hp]
end Go.Proofs.Ytmbboljcgpccfaa.Pl
