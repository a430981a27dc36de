/-
  OrdBits: sets told by bits; the reference's table, the program's search.
-/
import Derived.Test.YtgbnoljmmenlbaaOrdPlain
namespace Go.Proofs.Ytgbnoljmmenlbaa
open List
/-- the digits of a set that is told by bits -/
def digO (s : Nat) : List Int := ((List.range 10).filter fun k => s.testBit k).map fun k : Nat => (k : Int)
/-- what of a list a set of places leaves -/
def remO (own : List Int) (s : Nat) : List Int := ((List.range own.length).filter fun i => !s.testBit i).map fun i => own.getD i 0

theorem nodup_map {α β : Type} {f : α → β} : ∀ {l : List α}, (∀ a ∈ l, ∀ b ∈ l, f a = f b → a = b) → l.Nodup → (l.map f).Nodup := by
  intro l
  induction l with
  | nil => intro _ _; simp
  | cons x l ih =>
    intro h hn
    rw [List.nodup_cons] at hn
    rw [List.map_cons, List.nodup_cons]
    refine ⟨fun hm => ?_, ih (fun a ha b hb => h a (by simp [ha]) b (by simp [hb])) hn.2⟩
    obtain ⟨y, hy, e⟩ := List.mem_map.1 hm
    have := h y (by simp [hy]) x (by simp) e
    subst this
    exact hn.1 hy
theorem filter_range_nodup (n : Nat) (p : Nat → Bool) : ((List.range n).filter p).Nodup := List.Nodup.sublist List.filter_sublist List.nodup_range
theorem digO_nodup (s : Nat) : (digO s).Nodup := nodup_map (fun a _ b _ h => by have h' : (a : Int) = b := h; omega) (filter_range_nodup _ _)
theorem mem_digO {s : Nat} {x : Int} : x ∈ digO s ↔ ∃ k, k < 10 ∧ s.testBit k = true ∧ x = (k : Nat) := by
  unfold digO
  simp only [List.mem_map, List.mem_filter, List.mem_range]
  constructor
  · rintro ⟨k, ⟨h1, h2⟩, rfl⟩; exact ⟨k, h1, h2, rfl⟩
  · rintro ⟨k, h1, h2, rfl⟩; exact ⟨k, ⟨h1, h2⟩, rfl⟩
theorem digO_mem_nat {s k : Nat} (hk : k < 10) : (k : Int) ∈ digO s ↔ s.testBit k = true := by
  rw [mem_digO]
  constructor
  · rintro ⟨j, _, h2, h3⟩; have : k = j := by omega
    subst this; exact h2
  · intro h; exact ⟨k, hk, h, rfl⟩
theorem digO_erase {s k : Nat} (h : s.testBit k = true) : digO (s ^^^ 2 ^ k) = (digO s).erase (k : Int) := by
  rw [(digO_nodup s).erase_eq_filter]
  unfold digO
  rw [List.filter_map, List.filter_filter]
  congr 1
  apply List.filter_congr
  intro j _
  simp only [Nat.testBit_xor, Nat.testBit_two_pow, Function.comp]
  by_cases e : k = j
  · subst e; simp [h]
  · have : ((j : Int) != (k : Int)) = true := by simp; omega
    simp [e, this]
theorem digO_zero : digO 0 = [] := by simp [digO]
theorem digO_ne {s : Nat} (h0 : s ≠ 0) (hs : s < 1024) : digO s ≠ [] := by
  intro e
  apply h0
  apply Nat.eq_of_testBit_eq
  intro i
  rw [Nat.zero_testBit]
  by_cases hi : i < 10
  · cases hb : s.testBit i with
    | false => rfl
    | true =>
      have := (digO_mem_nat hi).2 hb
      rw [e] at this
      simp at this
  · exact Nat.testBit_lt_two_pow (Nat.lt_of_lt_of_le hs (Nat.pow_le_pow_right (n := 2) (by omega) (show 10 ≤ i by omega)))
theorem digO_len (s : Nat) : (digO s).length ≤ 10 := by
  unfold digO
  rw [List.length_map]
  exact Nat.le_trans (List.length_filter_le _ _) (by simp)

theorem getD_inj {own : List Int} (hn : own.Nodup) {i j : Nat} (hi : i < own.length) (hj : j < own.length) (h : own.getD i 0 = own.getD j 0) : i = j := by
  have e1 : own.getD i 0 = own[i] := by simp [List.getD, hi]
  have e2 : own.getD j 0 = own[j] := by simp [List.getD, hj]
  rw [e1, e2] at h
  have hp := List.pairwise_iff_getElem.1 hn
  rcases Nat.lt_trichotomy i j with hlt | he | hgt
  · exact absurd h (hp i j hi hj hlt)
  · exact he
  · exact absurd h.symm (hp j i hj hi hgt)
theorem remO_nodup {own : List Int} (hn : own.Nodup) (s : Nat) : (remO own s).Nodup := by
  refine nodup_map (fun a ha b hb h => ?_) (filter_range_nodup _ _)
  have h1 := List.mem_range.1 (List.mem_filter.1 ha).1
  have h2 := List.mem_range.1 (List.mem_filter.1 hb).1
  exact getD_inj hn h1 h2 h
theorem remO_erase {own : List Int} (hn : own.Nodup) {s i : Nat} (hi : i < own.length) : remO own (s ||| 2 ^ i) = (remO own s).erase (own.getD i 0) := by
  rw [(remO_nodup hn s).erase_eq_filter]
  unfold remO
  rw [List.filter_map, List.filter_filter]
  congr 1
  apply List.filter_congr
  intro j hj
  have hj' := List.mem_range.1 hj
  simp only [Nat.testBit_or, Nat.testBit_two_pow, Function.comp]
  by_cases e : i = j
  · subst e; simp
  · have : (own.getD j 0 != own.getD i 0) = true := by
      simp only [bne_iff_ne]
      intro h
      exact e (getD_inj hn hj' hi h).symm
    rw [this]
    simp [e]
theorem remO_mem {own : List Int} (hn : own.Nodup) {s i : Nat} (hi : i < own.length) : own.getD i 0 ∈ remO own s ↔ s.testBit i = false := by
  unfold remO
  simp only [List.mem_map, List.mem_filter, List.mem_range]
  constructor
  · rintro ⟨j, ⟨h1, h2⟩, h3⟩
    have := getD_inj hn h1 hi h3
    subst this
    simpa using h2
  · intro h; exact ⟨i, ⟨hi, by simpa using h⟩, rfl⟩
theorem remO_zero (own : List Int) : remO own 0 = own := by
  unfold remO
  have e : (List.range own.length).filter (fun i => !Nat.testBit 0 i) = List.range own.length := List.filter_eq_self.2 (by simp)
  rw [e]
  apply List.ext_getElem
  · simp
  · intro i h1 h2
    simp [List.getD, h2]
theorem remO_full (own : List Int) : remO own (2 ^ own.length - 1) = [] := by
  unfold remO
  rw [List.map_eq_nil_iff, List.filter_eq_nil_iff]
  intro i hi
  have := List.mem_range.1 hi
  simp [Nat.testBit_two_pow_sub_one, this]
theorem remO_nil {own : List Int} {s : Nat} (hs : s < 2 ^ own.length) (h : remO own s = []) : s = 2 ^ own.length - 1 := by
  unfold remO at h
  rw [List.map_eq_nil_iff, List.filter_eq_nil_iff] at h
  apply Nat.eq_of_testBit_eq
  intro i
  rw [Nat.testBit_two_pow_sub_one]
  by_cases hi : i < own.length
  · have := h i (List.mem_range.2 hi)
    simp at this
    simp [this, hi]
  · rw [Nat.testBit_lt_two_pow (Nat.lt_of_lt_of_le hs (Nat.pow_le_pow_right (n := 2) (by omega) (show own.length ≤ i by omega)))]
    simp [hi]
theorem remO_len (own : List Int) (s : Nat) : (remO own s).length ≤ own.length := by
  unfold remO
  rw [List.length_map]
  exact Nat.le_trans (List.length_filter_le _ _) (by simp)
theorem or_lt {n s i : Nat} (hs : s < 2 ^ n) (hi : i < n) : s ||| 2 ^ i < 2 ^ n := Nat.or_lt_two_pow hs (Nat.pow_lt_pow_right (by omega) hi)
theorem xor_lt {n s i : Nat} (hs : s < 2 ^ n) (hi : i < n) : s ^^^ 2 ^ i < 2 ^ n := Nat.xor_lt_two_pow hs (Nat.pow_lt_pow_right (by omega) hi)

section
variable (c : Int → Int → Int) (hc : ∀ a b, 0 ≤ c a b)

/-! ### the reference's table -/
def restS (base : Int → Int) (s : Nat) (a : Int) : Int := restN c base (digO s).length (digO s) a
def firstS (base : Int → Int) (s : Nat) (a : Int) : List Int := firstN c base (digO s).length (digO s) a
def bestS (base : Int → Int) (s : Nat) (a : Int) (k : Nat) : Int :=
  (((List.range k).filter fun x => s.testBit x).map fun x : Nat => c a x + restS c base (s ^^^ 2 ^ x) x).foldl lesser (if s = 0 then base a else -1)
theorem bestS_yes {base : Int → Int} {s : Nat} {a : Int} {k : Nat} (h : s.testBit k = true) : bestS c base s a (k+1) = lesser (bestS c base s a k) (c a k + restS c base (s ^^^ 2 ^ k) k) := by
  unfold bestS
  rw [List.range_succ, List.filter_append, List.map_append, List.foldl_append]
  simp [h]
theorem bestS_no {base : Int → Int} {s : Nat} {a : Int} {k : Nat} (h : s.testBit k = false) : bestS c base s a (k+1) = bestS c base s a k := by
  unfold bestS
  rw [List.range_succ, List.filter_append, List.map_append, List.foldl_append]
  simp [h]
theorem erase_map_len {base : Int → Int} {s x : Nat} {m : Nat} (hm : (digO s).length = m+1) (hx : x < 10) (h : s.testBit x = true) : restS c base (s ^^^ 2 ^ x) x = restN c base m ((digO s).erase (x : Int)) x := by
  have hl : ((digO s).erase (x : Int)).length = m := erase_len hm ((digO_mem_nat hx).2 h)
  unfold restS
  rw [digO_erase h, hl]
theorem bestS_all (base : Int → Int) (s : Nat) (hs : s < 1024) (a : Int) : bestS c base s a 10 = restS c base s a := by
  by_cases h0 : s = 0
  · subst h0
    have e : (List.range 10).filter (fun x => Nat.testBit 0 x) = [] := List.filter_eq_nil_iff.2 (by simp)
    unfold bestS
    rw [e, if_pos rfl]
    simp [restS, digO_zero, restN]
  · obtain ⟨m, hm⟩ : ∃ m, (digO s).length = m + 1 := by
      cases hl : (digO s).length with
      | zero => exact absurd (List.length_eq_zero_iff.1 hl) (digO_ne h0 hs)
      | succ m => exact ⟨m, rfl⟩
    have e : restS c base s a = ((digO s).map fun x => c a x + restN c base m ((digO s).erase x) x).foldl lesser (-1) := by
      unfold restS
      rw [hm]
      rfl
    rw [e]
    unfold bestS
    rw [if_neg h0]
    congr 1
    conv => rhs; rw [digO, List.map_map]
    apply List.map_congr_left
    intro x hx
    obtain ⟨h1, h2⟩ := List.mem_filter.1 hx
    simp only [Function.comp]
    rw [erase_map_len c hm (List.mem_range.1 h1) h2]
    rfl

theorem find_first {p : Int → Bool} : ∀ {l : List Int} {y : Int}, y ∈ l → p y = true → l.Pairwise (· < ·) → (∀ z ∈ l, z < y → p z = false) → l.find? p = some y := by
  intro l
  induction l with
  | nil => intro y h; simp at h
  | cons x l ih =>
    intro y hy hp hs hz
    have hs2 := List.pairwise_cons.1 hs
    by_cases e : x = y
    · subst e; rw [List.find?_cons_of_pos hp]
    · have hyl : y ∈ l := by
        rcases List.mem_cons.1 hy with h | h
        · exact absurd h.symm e
        · exact h
      have := hz x (by simp) (hs2.1 y hyl)
      rw [List.find?_cons_of_neg (by simp [this])]
      exact ih hyl hp hs2.2 (fun z hzl => hz z (by simp [hzl]))
theorem pairwise_range_filter (n : Nat) (p : Nat → Bool) : ((List.range n).filter p).Pairwise (· < ·) := List.pairwise_lt_range.sublist List.filter_sublist
theorem digO_sorted (s : Nat) : (digO s).Pairwise (· < ·) := by
  unfold digO
  rw [List.pairwise_map]
  exact (pairwise_range_filter 10 _).imp fun h => by omega
theorem firstS_step {base : Int → Int} {s y : Nat} {a : Int} (hy : y < 10) (hb : s.testBit y = true) (hcond : c a y + restS c base (s ^^^ 2 ^ y) y = restS c base s a)
    (hz : ∀ z, z < y → s.testBit z = true → ¬ c a z + restS c base (s ^^^ 2 ^ z) z = restS c base s a) : firstS c base s a = (y : Int) :: firstS c base (s ^^^ 2 ^ y) y := by
  have hmem := (digO_mem_nat (s := s) hy).2 hb
  obtain ⟨m, hm⟩ : ∃ m, (digO s).length = m + 1 := ⟨(digO s).length - 1, by have := List.length_pos_of_mem hmem; omega⟩
  have hl : ((digO s).erase (y : Int)).length = m := erase_len hm hmem
  have hf : (digO s).find? (fun x => decide (c a x + restN c base m ((digO s).erase x) x = restN c base (m+1) (digO s) a)) = some (y : Int) := by
    refine find_first hmem ?_ (digO_sorted s) ?_
    · rw [decide_eq_true_eq, ← erase_map_len c hm hy hb]
      unfold restS at hcond ⊢
      rw [hm] at hcond
      exact hcond
    · intro z hzm hzy
      obtain ⟨k, hk, hkb, rfl⟩ := mem_digO.1 hzm
      rw [decide_eq_false_iff_not, ← erase_map_len c hm hk hkb]
      have h := hz k (by omega) hkb
      unfold restS at h ⊢
      rw [hm] at h
      exact h
  unfold firstS
  rw [hm, digO_erase hb, hl]
  show (match (digO s).find? (fun x => decide (c a x + restN c base m ((digO s).erase x) x = restN c base (m+1) (digO s) a)) with
    | none => []
    | some x => x :: firstN c base m ((digO s).erase x) x) = _
  rw [hf]
include hc in
theorem firstS_some {base : Int → Int} (hbase : ∀ a, 0 ≤ base a) {s : Nat} (h0 : s ≠ 0) (hs : s < 1024) (a : Int) : ∃ y, y < 10 ∧ s.testBit y = true ∧ c a y + restS c base (s ^^^ 2 ^ y) y = restS c base s a := by
  obtain ⟨m, hm⟩ : ∃ m, (digO s).length = m + 1 := by
    cases hl : (digO s).length with
    | zero => exact absurd (List.length_eq_zero_iff.1 hl) (digO_ne h0 hs)
    | succ m => exact ⟨m, rfl⟩
  obtain ⟨x, hx, e⟩ := (rest_step c hc base hbase m (digO s) a hm).1
  obtain ⟨y, hy, hb, rfl⟩ := mem_digO.1 hx
  refine ⟨y, hy, hb, ?_⟩
  rw [erase_map_len c hm hy hb, ← e]
  unfold restS
  rw [hm]
theorem firstS_zero (base : Int → Int) (a : Int) : firstS c base 0 a = [] := by simp [firstS, digO_zero, firstN]

/-! ### the program's search -/
def restI (own : List Int) (base : Int → Int) (s a : Nat) : Int := restN c base (remO own s).length (remO own s) (own.getD a 0)
def firstI (own : List Int) (base : Int → Int) (s a : Nat) : List Int := firstN c base (remO own s).length (remO own s) (own.getD a 0)
def bestI (own : List Int) (base : Int → Int) (s a : Nat) (k : Nat) : Int :=
  (((List.range k).filter fun x => !s.testBit x).map fun x : Nat => c (own.getD a 0) (own.getD x 0) + restI c own base (s ||| 2 ^ x) x).foldl lesser (-1)
theorem bestI_yes {own : List Int} {base : Int → Int} {s a : Nat} {k : Nat} (h : s.testBit k = false) : bestI c own base s a (k+1) = lesser (bestI c own base s a k) (c (own.getD a 0) (own.getD k 0) + restI c own base (s ||| 2 ^ k) k) := by
  unfold bestI
  rw [List.range_succ, List.filter_append, List.map_append, List.foldl_append]
  simp [h]
theorem bestI_no {own : List Int} {base : Int → Int} {s a : Nat} {k : Nat} (h : s.testBit k = true) : bestI c own base s a (k+1) = bestI c own base s a k := by
  unfold bestI
  rw [List.range_succ, List.filter_append, List.map_append, List.foldl_append]
  simp [h]
theorem restI_erase {own : List Int} (hn : own.Nodup) {base : Int → Int} {s x m : Nat} (hm : (remO own s).length = m+1) (hx : x < own.length) (h : s.testBit x = false) : restI c own base (s ||| 2 ^ x) x = restN c base m ((remO own s).erase (own.getD x 0)) (own.getD x 0) := by
  have hl : ((remO own s).erase (own.getD x 0)).length = m := erase_len hm ((remO_mem hn hx).2 h)
  unfold restI
  rw [remO_erase hn hx, hl]
theorem bestI_all {own : List Int} (hn : own.Nodup) (base : Int → Int) (s a m : Nat) (hm : (remO own s).length = m+1) : bestI c own base s a own.length = restI c own base s a := by
  have e : restI c own base s a = ((remO own s).map fun x => c (own.getD a 0) x + restN c base m ((remO own s).erase x) x).foldl lesser (-1) := by
    unfold restI
    rw [hm]
    rfl
  rw [e]
  unfold bestI
  congr 1
  conv => rhs; rw [remO, List.map_map]
  apply List.map_congr_left
  intro x hx
  obtain ⟨h1, h2⟩ := List.mem_filter.1 hx
  simp only [Function.comp]
  rw [restI_erase c hn hm (List.mem_range.1 h1) (by simpa using h2)]
  rfl
theorem find_map {p : Int → Bool} {f : Nat → Int} : ∀ {l : List Nat} {y : Nat}, y ∈ l → p (f y) = true → l.Pairwise (· < ·) → (∀ z ∈ l, z < y → p (f z) = false) → (l.map f).find? p = some (f y) := by
  intro l
  induction l with
  | nil => intro y h; simp at h
  | cons x l ih =>
    intro y hy hp hs hz
    have hs2 := List.pairwise_cons.1 hs
    rw [List.map_cons]
    by_cases e : x = y
    · subst e; rw [List.find?_cons_of_pos hp]
    · have hyl : y ∈ l := by
        rcases List.mem_cons.1 hy with h | h
        · exact absurd h.symm e
        · exact h
      have := hz x (by simp) (hs2.1 y hyl)
      rw [List.find?_cons_of_neg (by simp [this])]
      exact ih hyl hp hs2.2 (fun z hzl => hz z (by simp [hzl]))
theorem firstI_step {own : List Int} (hn : own.Nodup) {base : Int → Int} {s a y : Nat} (hy : y < own.length) (hb : s.testBit y = false) (hcond : c (own.getD a 0) (own.getD y 0) + restI c own base (s ||| 2 ^ y) y = restI c own base s a)
    (hz : ∀ z, z < y → s.testBit z = false → ¬ c (own.getD a 0) (own.getD z 0) + restI c own base (s ||| 2 ^ z) z = restI c own base s a) : firstI c own base s a = own.getD y 0 :: firstI c own base (s ||| 2 ^ y) y := by
  have hmem := (remO_mem (s := s) hn hy).2 hb
  obtain ⟨m, hm⟩ : ∃ m, (remO own s).length = m + 1 := ⟨(remO own s).length - 1, by have := List.length_pos_of_mem hmem; omega⟩
  have hl : ((remO own s).erase (own.getD y 0)).length = m := erase_len hm hmem
  have hf : (remO own s).find? (fun x => decide (c (own.getD a 0) x + restN c base m ((remO own s).erase x) x = restN c base (m+1) (remO own s) (own.getD a 0))) = some (own.getD y 0) := by
    have hmem2 : y ∈ (List.range own.length).filter fun i => !s.testBit i := List.mem_filter.2 ⟨List.mem_range.2 hy, by simp [hb]⟩
    refine find_map (l := (List.range own.length).filter fun i => !s.testBit i) (f := fun i => own.getD i 0) hmem2 ?_ (pairwise_range_filter _ _) ?_
    · rw [decide_eq_true_eq, ← restI_erase c hn hm hy hb]
      unfold restI at hcond ⊢
      rw [hm] at hcond
      exact hcond
    · intro z hzm hzy
      obtain ⟨h1, h2⟩ := List.mem_filter.1 hzm
      have h2' : s.testBit z = false := by simpa using h2
      rw [decide_eq_false_iff_not, ← restI_erase c hn hm (List.mem_range.1 h1) h2']
      have h := hz z hzy h2'
      unfold restI at h ⊢
      rw [hm] at h
      exact h
  unfold firstI
  rw [hm, remO_erase hn hy, hl]
  show (match (remO own s).find? (fun x => decide (c (own.getD a 0) x + restN c base m ((remO own s).erase x) x = restN c base (m+1) (remO own s) (own.getD a 0))) with
    | none => []
    | some x => x :: firstN c base m ((remO own s).erase x) x) = _
  rw [hf]
include hc in
theorem firstI_some {own : List Int} (hn : own.Nodup) {base : Int → Int} (hbase : ∀ a, 0 ≤ base a) {s : Nat} (h0 : remO own s ≠ []) (a : Nat) :
    ∃ y, y < own.length ∧ s.testBit y = false ∧ c (own.getD a 0) (own.getD y 0) + restI c own base (s ||| 2 ^ y) y = restI c own base s a := by
  obtain ⟨m, hm⟩ : ∃ m, (remO own s).length = m + 1 := by
    cases hl : (remO own s).length with
    | zero => exact absurd (List.length_eq_zero_iff.1 hl) h0
    | succ m => exact ⟨m, rfl⟩
  obtain ⟨x, hx, e⟩ := (rest_step c hc base hbase m (remO own s) (own.getD a 0) hm).1
  unfold remO at hx
  obtain ⟨y, hy, rfl⟩ := List.mem_map.1 hx
  obtain ⟨h1, h2⟩ := List.mem_filter.1 hy
  have h2' : s.testBit y = false := by simpa using h2
  refine ⟨y, List.mem_range.1 h1, h2', ?_⟩
  rw [restI_erase c hn hm (List.mem_range.1 h1) h2', ← e]
  unfold restI
  rw [hm]

/-- A rest costs no more than 7 a step. -/
theorem rest_bound (hc : ∀ a b, 0 ≤ c a b) (h7 : ∀ a b, c a b ≤ 7) (base : Int → Int) (hb : ∀ a, 0 ≤ base a) (hb7 : ∀ a, base a ≤ 7) : ∀ (n : Nat) (l : List Int) (a : Int), l.length = n → restN c base n l a ≤ 7 * (n + 1) := by
  intro n
  induction n with
  | zero => intro l a _; have := hb7 a; simp only [restN]; omega
  | succ n ih =>
    intro l a h
    obtain ⟨⟨x, hx, e⟩, _⟩ := rest_step c hc base hb n l a h
    have := ih (l.erase x) x (erase_len h hx)
    have := h7 a x
    rw [e]
    omega
end

/-! ### sorting an order -/
theorem sorted_ext : ∀ (l m : List Int), l.Pairwise (· < ·) → m.Pairwise (· < ·) → (∀ x, x ∈ l ↔ x ∈ m) → l = m := by
  intro l
  induction l with
  | nil =>
    intro m _ _ h
    cases m with
    | nil => rfl
    | cons y m => have := (h y).2 (by simp); simp at this
  | cons x l ih =>
    intro m hl hm h
    cases m with
    | nil => have := (h x).1 (by simp); simp at this
    | cons y m =>
      have hl2 := List.pairwise_cons.1 hl
      have hm2 := List.pairwise_cons.1 hm
      have e : x = y := by
        rcases List.mem_cons.1 ((h x).1 (by simp)) with h1 | h1
        · exact h1
        · rcases List.mem_cons.1 ((h y).2 (by simp)) with h2 | h2
          · exact h2.symm
          · have := hl2.1 y h2
            have := hm2.1 x h1
            omega
      subst e
      rw [ih m hl2.2 hm2.2 fun z => by
        constructor
        · intro hz
          rcases List.mem_cons.1 ((h z).1 (by simp [hz])) with h1 | h1
          · have := hl2.1 z hz; omega
          · exact h1
        · intro hz
          rcases List.mem_cons.1 ((h z).2 (by simp [hz])) with h1 | h1
          · have := hm2.1 z hz; omega
          · exact h1]
def setO (xs : List Int) : Nat := xs.foldl (fun s x => s ||| 2 ^ x.toNat) 0
theorem testBit_fold : ∀ (xs : List Int) (s k : Nat), (∀ x ∈ xs, 0 ≤ x) → ((xs.foldl (fun s x => s ||| 2 ^ x.toNat) s).testBit k = true ↔ s.testBit k = true ∨ (k : Int) ∈ xs) := by
  intro xs
  induction xs with
  | nil => intro s k _; simp
  | cons x xs ih =>
    intro s k h
    have hx := h x (by simp)
    rw [List.foldl_cons, ih _ k (fun y hy => h y (by simp [hy])), Nat.testBit_or, Nat.testBit_two_pow, Bool.or_eq_true, decide_eq_true_eq, List.mem_cons]
    have : x.toNat = k ↔ (k : Int) = x := by omega
    rw [this, or_assoc]
theorem own_digO {xs own : List Int} (hp : own ~ xs) (hs : own.Pairwise (· ≤ ·)) (hn : xs.Nodup) (hd : ∀ x ∈ xs, 0 ≤ x ∧ x ≤ 9) : own = digO (setO xs) := by
  refine sorted_ext _ _ ?_ (digO_sorted _) fun x => ?_
  · have hno : own.Nodup := hp.nodup_iff.2 hn
    exact List.Pairwise.imp₂ (fun a b h1 h2 => by omega) hs hno
  · rw [hp.mem_iff, mem_digO]
    constructor
    · intro hx
      have := hd x hx
      refine ⟨x.toNat, by omega, ?_, by omega⟩
      have := (testBit_fold xs 0 x.toNat (fun y hy => (hd y hy).1)).2 (.inr (by rw [show ((x.toNat : Nat) : Int) = x by omega]; exact hx))
      exact this
    · rintro ⟨k, _, hb, rfl⟩
      have := (testBit_fold xs 0 k (fun y hy => (hd y hy).1)).1 hb
      simpa using this
theorem setO_lt {xs : List Int} (hd : ∀ x ∈ xs, 0 ≤ x ∧ x ≤ 9) : setO xs < 1024 := by
  have : ∀ (xs : List Int) (s : Nat), (∀ x ∈ xs, 0 ≤ x ∧ x ≤ 9) → s < 2 ^ 10 → xs.foldl (fun s x => s ||| 2 ^ x.toNat) s < 2 ^ 10 := by
    intro xs
    induction xs with
    | nil => intro s _ h; exact h
    | cons x xs ih =>
      intro s h hs
      have := h x (by simp)
      exact ih _ (fun y hy => h y (by simp [hy])) (or_lt hs (by omega))
  exact this xs 0 hd (by decide)

end Go.Proofs.Ytgbnoljmmenlbaa
