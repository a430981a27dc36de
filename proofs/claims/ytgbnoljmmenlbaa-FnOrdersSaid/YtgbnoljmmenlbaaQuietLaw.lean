/-
  QuietLaw: the plain law of QuietOrder: the orders of a list (spec), the sequences of a list (impl), both hold the list's permutations.
-/
import Derived.Test.YtgbnoljmmenlbaaBase
namespace Go.Proofs.Ytgbnoljmmenlbaa
open List

theorem eraseIdx_perm : ∀ (l : List Int) (i : Nat), i < l.length → l.getD i 0 :: l.eraseIdx i ~ l := by
  intro l
  induction l with
  | nil => intro i h; simp at h
  | cons a l ih =>
    intro i h
    cases i with
    | zero => simp
    | succ i =>
      have := ih i (by simpa using h)
      simp only [List.getD_cons_succ, List.eraseIdx_cons_succ]
      exact (List.Perm.swap _ _ _).trans (this.cons a)

/-- every order of a list, place by place (n: the list's length) -/
def ordersN : Nat → List Int → List (List Int)
  | 0, _ => [[]]
  | n+1, l => (List.range (n+1)).flatMap fun i => (ordersN n (l.eraseIdx i)).map (l.getD i 0 :: ·)

/-- is place i the first of its run? -/
def freshAt (l : List Int) (i : Nat) : Bool := i == 0 || l.getD i 0 != l.getD (i-1) 0

/-- the sequences of a list after a part -/
def seqsN : Nat → List Int → List Int → List (List Int)
  | 0, part, _ => [part]
  | n+1, part, l => (List.range (n+1)).flatMap fun i => if freshAt l i then seqsN n (part ++ [l.getD i 0]) (l.eraseIdx i) else []

theorem length_eraseIdx' {l : List Int} {n i : Nat} (h : l.length = n+1) (hi : i < n+1) : (l.eraseIdx i).length = n := by
  rw [List.length_eraseIdx]; simp [h, hi]

theorem mem_ordersN : ∀ (n : Nat) (l o : List Int), l.length = n → (o ∈ ordersN n l ↔ o ~ l) := by
  intro n
  induction n with
  | zero => intro l o h; have : l = [] := List.length_eq_zero_iff.mp h; subst this; simp [ordersN]
  | succ n ih =>
    intro l o h
    simp only [ordersN, List.mem_flatMap, List.mem_range, List.mem_map]
    constructor
    · rintro ⟨i, hi, p, hp, rfl⟩
      exact (((ih _ p (length_eraseIdx' h hi)).mp hp).cons _).trans (eraseIdx_perm l i (by omega))
    · intro ho
      cases o with
      | nil => have := ho.length_eq; simp at this; omega
      | cons x p =>
        have hx : x ∈ l := ho.mem_iff.mp (by simp)
        obtain ⟨i, hi, rfl⟩ := List.getElem_of_mem hx
        have he : l.getD i 0 = l[i] := by simp [List.getD, hi]
        refine ⟨i, by omega, p, (ih _ p (length_eraseIdx' h (by omega))).mpr ?_, by rw [he]⟩
        have := eraseIdx_perm l i hi
        rw [he] at this
        exact (ho.trans this.symm).cons_inv

theorem first_place : ∀ (l : List Int) (i : Nat), i < l.length → ∃ j, j < l.length ∧ l.getD j 0 = l.getD i 0 ∧ freshAt l j = true := by
  intro l i
  induction i with
  | zero => intro h; exact ⟨0, h, rfl, rfl⟩
  | succ i ih =>
    intro h
    by_cases e : l.getD (i+1) 0 = l.getD i 0
    · obtain ⟨j, h1, h2, h3⟩ := ih (by omega)
      exact ⟨j, h1, h2.trans e.symm, h3⟩
    · exact ⟨i+1, h, rfl, by simp only [freshAt, Nat.add_sub_cancel, Bool.or_eq_true, bne_iff_ne]; exact .inr e⟩

theorem mem_seqsN : ∀ (n : Nat) (part l o : List Int), l.length = n → (o ∈ seqsN n part l ↔ ∃ p, p ~ l ∧ o = part ++ p) := by
  intro n
  induction n with
  | zero => intro part l o h; have : l = [] := List.length_eq_zero_iff.mp h; subst this; simp [seqsN]
  | succ n ih =>
    intro part l o h
    simp only [seqsN, List.mem_flatMap, List.mem_range]
    constructor
    · rintro ⟨i, hi, hm⟩
      by_cases hf : freshAt l i = true
      · rw [if_pos hf] at hm
        obtain ⟨p, hp, rfl⟩ := (ih _ _ o (length_eraseIdx' h hi)).mp hm
        exact ⟨l.getD i 0 :: p, (hp.cons _).trans (eraseIdx_perm l i (by omega)), by simp⟩
      · rw [if_neg hf] at hm; simp at hm
    · rintro ⟨p, hp, rfl⟩
      cases p with
      | nil => have := hp.length_eq; simp at this; omega
      | cons x p =>
        have hx : x ∈ l := hp.mem_iff.mp (by simp)
        obtain ⟨i, hi, he0⟩ := List.getElem_of_mem hx
        have he : l.getD i 0 = x := by simp [List.getD, hi, he0]
        obtain ⟨j, hj, hji, hf⟩ := first_place l i hi
        rw [he] at hji
        refine ⟨j, by omega, ?_⟩
        rw [if_pos hf]
        refine (ih _ _ _ (length_eraseIdx' h (by omega))).mpr ⟨p, ?_, by rw [hji]; simp⟩
        have := eraseIdx_perm l j hj
        rw [hji] at this
        exact (hp.trans this.symm).cons_inv

theorem sorted_at {l : List Int} (hs : l.Pairwise (· ≤ ·)) {i j : Nat} (hij : i ≤ j) (hj : j < l.length) : l.getD i 0 ≤ l.getD j 0 := by
  by_cases e : i = j
  · subst e; exact Int.le_refl _
  · have := List.pairwise_iff_getElem.mp hs i j (by omega) hj (by omega)
    simpa [List.getD, hj, show i < l.length by omega] using this

theorem append_lt : ∀ (a b c : List Int), b < c → a ++ b < a ++ c := by
  intro a
  induction a with
  | nil => intro b c h; simpa using h
  | cons x a ih => intro b c h; simp only [List.cons_append]; exact List.cons_lt_cons_iff.mpr (.inr ⟨rfl, ih b c h⟩)

/-- the sequences of a sorted list come in lexicographic order -/
theorem seqsN_sorted : ∀ (n : Nat) (part l : List Int), l.length = n → l.Pairwise (· ≤ ·) → (seqsN n part l).Pairwise (· < ·) := by
  intro n
  induction n with
  | zero => intro part l h _; simp [seqsN]
  | succ n ih =>
    intro part l h hs
    simp only [seqsN]
    rw [List.pairwise_flatMap]
    refine ⟨fun i hi => ?_, ?_⟩
    · have hi' : i < n+1 := by simpa using hi
      by_cases hf : freshAt l i = true
      · rw [if_pos hf]; exact ih _ _ (length_eraseIdx' h hi') (hs.sublist (List.eraseIdx_sublist _ _))
      · rw [if_neg hf]; exact List.Pairwise.nil
    · refine List.pairwise_iff_getElem.mpr fun i j hi hj hij x hx y hy => ?_
      simp only [List.getElem_range] at hx hy
      simp only [List.length_range] at hi hj
      by_cases hfi : freshAt l i = true
      · by_cases hfj : freshAt l j = true
        · rw [if_pos hfi] at hx; rw [if_pos hfj] at hy
          obtain ⟨p, _, rfl⟩ := (mem_seqsN n _ _ x (length_eraseIdx' h hi)).mp hx
          obtain ⟨q, _, rfl⟩ := (mem_seqsN n _ _ y (length_eraseIdx' h hj)).mp hy
          simp only [List.append_assoc, List.singleton_append]
          refine append_lt _ _ _ (List.cons_lt_cons_iff.mpr (.inl ?_))
          have h1 := sorted_at hs (show i ≤ j-1 by omega) (by omega)
          have h2 := sorted_at hs (show j-1 ≤ j by omega) (by omega)
          have h3 : l.getD j 0 ≠ l.getD (j-1) 0 := by
            simp only [freshAt, Bool.or_eq_true, bne_iff_ne, beq_iff_eq] at hfj
            rcases hfj with h | h
            · omega
            · exact h
          omega
        · rw [if_neg hfj] at hy; simp at hy
      · rw [if_neg hfi] at hx; simp at hx

theorem eq_of_not_lt : ∀ (a b : List Int), ¬ a < b → ¬ b < a → a = b := by
  intro a
  induction a with
  | nil => intro b h _; cases b with
    | nil => rfl
    | cons y b => exact absurd (by simp) h
  | cons x a ih =>
    intro b h1 h2
    cases b with
    | nil => exact absurd (by simp) h2
    | cons y b =>
      rw [List.cons_lt_cons_iff] at h1 h2
      have e : x = y := by
        rcases Int.lt_trichotomy x y with h | h | h
        · exact absurd (.inl h) h1
        · exact h
        · exact absurd (.inl h) h2
      subst e
      rw [ih b (fun h => h1 (.inr ⟨rfl, h⟩)) (fun h => h2 (.inr ⟨rfl, h⟩))]

/-- o comes ahead of m: less cost, or the same and lexicographically ahead -/
def Ahead (c : List Int → Int) (o m : List Int) : Prop := c o < c m ∨ (c o = c m ∧ o < m)

theorem lt_trans' {a b c : List Int} (h1 : a < b) (h2 : b < c) : a < c := List.lt_trans h1 h2

theorem Ahead.trans {c : List Int → Int} {a b d : List Int} (h1 : Ahead c a b) (h2 : Ahead c b d) : Ahead c a d := by
  rcases h1 with h1 | ⟨h1, k1⟩ <;> rcases h2 with h2 | ⟨h2, k2⟩
  · exact .inl (by omega)
  · exact .inl (by omega)
  · exact .inl (by omega)
  · exact .inr ⟨by omega, lt_trans' k1 k2⟩

theorem Ahead.eq {c : List Int → Int} {a b : List Int} (h1 : ¬ Ahead c a b) (h2 : ¬ Ahead c b a) : a = b := by
  have e : c a = c b := by
    rcases Int.lt_trichotomy (c a) (c b) with h | h | h
    · exact absurd (.inl h) h1
    · exact h
    · exact absurd (.inl h) h2
  exact eq_of_not_lt a b (fun h => h1 (.inr ⟨e, h⟩)) (fun h => h2 (.inr ⟨e.symm, h⟩))

theorem lt_irrefl' (a : List Int) : ¬ a < a := List.lt_irrefl a

open Classical in
/-- the spec's fold -/
noncomputable def leastS (c : List Int → Int) : List Int → List (List Int) → List Int
  | b, [] => b
  | b, x :: xs => leastS c (if Ahead c x b then x else b) xs

/-- the impl's fold -/
def leastI (c : List Int → Int) : List Int → List (List Int) → List Int
  | b, [] => b
  | b, x :: xs => leastI c (if c x < c b then x else b) xs

theorem leastS_law (c : List Int → Int) : ∀ (xs : List (List Int)) (b : List Int), leastS c b xs ∈ b :: xs ∧ ∀ o ∈ b :: xs, ¬ Ahead c o (leastS c b xs) := by
  intro xs
  induction xs with
  | nil =>
    intro b
    refine ⟨by simp [leastS], fun o ho => ?_⟩
    have : o = b := by simpa using ho
    subst this
    simp only [leastS]
    rintro (h | ⟨_, h⟩)
    · omega
    · exact lt_irrefl' _ h
  | cons x xs ih =>
    intro b
    simp only [leastS]
    by_cases h : Ahead c x b
    · rw [if_pos h]
      obtain ⟨h1, h2⟩ := ih x
      refine ⟨by simp only [List.mem_cons] at h1 ⊢; exact .inr h1, fun o ho => ?_⟩
      rcases List.mem_cons.mp ho with rfl | ho
      · exact fun hh => h2 x (by simp) (h.trans hh)
      · exact h2 o ho
    · rw [if_neg h]
      obtain ⟨h1, h2⟩ := ih b
      refine ⟨by simp only [List.mem_cons] at h1 ⊢; rcases h1 with h1 | h1; exact .inl h1; exact .inr (.inr h1), fun o ho => ?_⟩
      rcases List.mem_cons.mp ho with rfl | ho
      · exact h2 _ (by simp)
      · rcases List.mem_cons.mp ho with rfl | ho
        · intro hh
          by_cases hb : Ahead c b o
          · exact h2 b (by simp) (hb.trans hh)
          · have := Ahead.eq h hb
            subst this
            exact h2 _ (by simp) hh
        · exact h2 o (by simp [ho])

theorem leastI_eq (c : List Int → Int) : ∀ (xs : List (List Int)) (b : List Int), (b :: xs).Pairwise (· < ·) → leastI c b xs = leastS c b xs := by
  intro xs
  induction xs with
  | nil => intro b _; rfl
  | cons x xs ih =>
    intro b h
    have hbx : b < x := (List.pairwise_cons.mp h).1 x (by simp)
    have hx := (List.pairwise_cons.mp h).2
    have hb : (b :: xs).Pairwise (· < ·) := h.sublist (by simp)
    have e : Ahead c x b ↔ c x < c b := ⟨fun hh => hh.elim id fun ⟨_, hl⟩ => absurd (lt_trans' hbx hl) (lt_irrefl' _), .inl⟩
    simp only [leastI, leastS, e]
    by_cases hc : c x < c b
    · rw [if_pos hc]; first | exact ih x hx | (rw [if_pos hc]; exact ih x hx)
    · rw [if_neg hc]; first | exact ih b hb | (rw [if_neg hc]; exact ih b hb)

/-- the law: both folds give one list -/
theorem quiet_law (c : List Int → Int) (n : Nat) (l s : List Int) (hl : l.length = n) (hp : s ~ l) (hs : s.Pairwise (· ≤ ·)) (a b : List Int) (as bs : List (List Int))
    (ha : ordersN n l = a :: as) (hb : seqsN n [] s = b :: bs) : leastS c a as = leastI c b bs := by
  have hsn : s.length = n := by rw [hp.length_eq, hl]
  have hso := seqsN_sorted n [] s hsn hs
  rw [hb] at hso
  rw [leastI_eq c bs b hso]
  obtain ⟨h1, h2⟩ := leastS_law c as a
  obtain ⟨k1, k2⟩ := leastS_law c bs b
  rw [← ha] at h1 h2
  rw [← hb] at k1 k2
  have m : ∀ o, o ∈ ordersN n l ↔ o ∈ seqsN n [] s := fun o => by
    rw [mem_ordersN n l o hl, mem_seqsN n [] s o hsn]
    constructor
    · intro h; exact ⟨o, h.trans hp.symm, rfl⟩
    · rintro ⟨p, h, rfl⟩; exact h.trans hp
  exact Ahead.eq (k2 _ ((m _).mp h1)) (h2 _ ((m _).mpr k1))

end Go.Proofs.Ytgbnoljmmenlbaa
