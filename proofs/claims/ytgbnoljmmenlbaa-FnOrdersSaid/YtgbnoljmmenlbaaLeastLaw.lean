import Derived.Test.YtgbnoljmmenlbaaTour2
import Derived.Test.YtgbnoljmmenlbaaDigit
namespace Go.Proofs.Ytgbnoljmmenlbaa
open Go.RowKit List

/-! ## The plain law of the program's leastOrder -/
def sortO (xs : List Int) : List Int := xs.mergeSort fun x y => decide (x ≤ y)
theorem orderB_facts {xs : List Int} (h : orderB xs = true) : xs.Nodup ∧ ∀ x ∈ xs, 0 ≤ x ∧ x ≤ 9 := by
  have h' : orderTo xs xs.length := by simpa [orderB] using h
  constructor
  · rw [List.Nodup, List.pairwise_iff_getElem]
    intro i j hi hj hij e
    have h1 := (h' j hj).2
    apply h1
    rw [List.mem_iff_getElem]
    refine ⟨i, by rw [List.length_take]; omega, ?_⟩
    rw [List.getElem_take, e]
    simp [List.getD, hj]
  · intro x hx
    obtain ⟨i, hi, rfl⟩ := List.getElem_of_mem hx
    have h1 := inB_true (h' i hi).1
    simpa [List.getD, hi] using h1
theorem sortO_perm (xs : List Int) : sortO xs ~ xs := List.mergeSort_perm _ _
theorem sortO_sorted (xs : List Int) : (sortO xs).Pairwise (· ≤ ·) := by
  have := List.pairwise_mergeSort (le := fun x y : Int => decide (x ≤ y)) (fun a b c h1 h2 => by simp at h1 h2 ⊢; omega) (fun a b => by simp; omega) xs
  exact this.imp fun h => by simpa using h
theorem sortO_digO {xs : List Int} (h : orderB xs = true) : sortO xs = digO (setO xs) := by
  obtain ⟨h1, h2⟩ := orderB_facts h
  exact own_digO (sortO_perm xs) (sortO_sorted xs) h1 h2
theorem sortO_len {xs : List Int} (h : orderB xs = true) : (sortO xs).length ≤ 10 := by rw [sortO_digO h]; exact digO_len _
theorem sortO_length (xs : List Int) : (sortO xs).length = xs.length := List.length_mergeSort xs
theorem order_len {xs : List Int} (h : orderB xs = true) : xs.length ≤ 10 := by rw [← sortO_length]; exact sortO_len h
theorem sortO_nodup {xs : List Int} (h : orderB xs = true) : (sortO xs).Nodup := (sortO_perm xs).nodup_iff.2 (orderB_facts h).1
theorem sortO_dig {xs : List Int} (h : orderB xs = true) {x : Int} (hx : x ∈ sortO xs) : 0 ≤ x ∧ x ≤ 9 := (orderB_facts h).2 x ((sortO_perm xs).mem_iff.1 hx)

def backI (ring : Bool) (d : Int) : Int := if ring then d else -1
def ordK (own : List Int) (ring : Bool) (k : Nat) : List Int := own.getD k 0 :: firstI dd own (baseB (backI ring (own.getD k 0))) (2 ^ k) k
def costK (own : List Int) (ring : Bool) (k : Nat) : Int := tourF own (backI ring (own.getD k 0)) (2 ^ k) k
def loK (own : List Int) (ring : Bool) : Nat → List Int × Int
  | 0 => ([], 0)
  | k+1 => if k = 0 ∨ costK own ring k < (loK own ring k).2 then (ordK own ring k, costK own ring k) else loK own ring k

theorem remO_one {own : List Int} (hn : own.Nodup) {k : Nat} (hk : k < own.length) : remO own (2 ^ k) = own.erase (own.getD k 0) ∧ (own.erase (own.getD k 0)).length = own.length - 1 := by
  have h1 := remO_erase hn (s := 0) hk
  rw [Nat.zero_or, remO_zero] at h1
  refine ⟨h1, List.length_erase_of_mem ?_⟩
  have := (remO_mem hn (s := 0) hk).2 (by simp)
  rwa [remO_zero] at this
theorem costK_eq {own : List Int} (hn : own.Nodup) (ring : Bool) {k : Nat} (hk : k < own.length) :
    costK own ring k = restN dd (baseB (backI ring (own.getD k 0))) (own.length - 1) (own.erase (own.getD k 0)) (own.getD k 0) := by
  obtain ⟨h1, h2⟩ := remO_one hn hk
  unfold costK tourF restI
  rw [h1, h2]
theorem ordK_eq {own : List Int} (hn : own.Nodup) (ring : Bool) {k : Nat} (hk : k < own.length) :
    ordK own ring k = own.getD k 0 :: firstN dd (baseB (backI ring (own.getD k 0))) (own.length - 1) (own.erase (own.getD k 0)) (own.getD k 0) := by
  obtain ⟨h1, h2⟩ := remO_one hn hk
  unfold ordK firstI
  rw [h1, h2]
theorem base_none : baseB (-1) = fun _ => 0 := by funext a; rfl
theorem base_ring {d : Int} (h : 0 ≤ d) : baseB d = fun b => dd b d := by funext a; unfold baseB; rw [if_neg (by omega)]
theorem costK_nonneg {own : List Int} (h10 : own.length ≤ 10) (ring : Bool) (k : Nat) : 0 ≤ costK own ring k ∧ costK own ring k ≤ 77 := tourF_range own h10 _ _ _
theorem loK_range {own : List Int} (h10 : own.length ≤ 10) (ring : Bool) (k : Nat) : 0 ≤ (loK own ring k).2 ∧ (loK own ring k).2 ≤ 77 := by
  induction k with
  | zero => simp [loK]
  | succ k ih =>
    have := costK_nonneg h10 ring k
    unfold loK
    split
    · exact this
    · exact ih

theorem loK_plain {own : List Int} (hn : own.Nodup) : ∀ k, 0 < k → k ≤ own.length → loK own false k = loTo dd own k := by
  intro k
  induction k with
  | zero => intro h; omega
  | succ k ih =>
    intro _ hk
    have hkl : k < own.length := by omega
    have hxk : own[k] = own.getD k 0 := by simp [List.getD, hkl]
    have hs : loTo dd own (k+1) = loStep dd own (loTo dd own k) (own.getD k 0) := by
      unfold loTo
      rw [List.take_succ_eq_append_getElem hkl, List.foldl_append, hxk]
      rfl
    have h1 := costK_eq hn false hkl
    have h2 := ordK_eq hn false hkl
    simp only [backI, Bool.false_eq_true, if_false, base_none] at h1 h2
    rw [hs]
    unfold loK loStep
    rw [← h1, ← h2]
    rcases Nat.eq_zero_or_pos k with e | e
    · subst e
      rw [if_pos (.inl rfl), if_pos (.inl (by simp [loTo]))]
    · rw [ih e (by omega)]
      have := (loTo_law dd (fun a b => (dd_range a b).1) own k e (by omega)).1
      by_cases hlt : costK own false k < (loTo dd own k).2
      · rw [if_pos (.inr hlt), if_pos (.inr hlt)]
      · rw [if_neg (by omega), if_neg (by omega)]
theorem loK_lo {own : List Int} (hn : own.Nodup) : loK own false own.length = loF dd own := by
  by_cases h : own = []
  · subst h; simp [loK, loF]
  · unfold loF
    rw [if_neg h]
    exact loK_plain hn _ (List.length_pos_iff.2 h) (Nat.le_refl _)
theorem loK_ring_one {own : List Int} (hn : own.Nodup) (hd : ∀ x ∈ own, 0 ≤ x) : ∀ k, 0 < k → k ≤ own.length → loK own true k = (ordK own true 0, costK own true 0) := by
  intro k
  induction k with
  | zero => intro h; omega
  | succ k ih =>
    intro _ hk
    have hkl : k < own.length := by omega
    rcases Nat.eq_zero_or_pos k with e | e
    · subst e
      unfold loK
      rw [if_pos (.inl rfl)]
    · have hkm : own.getD k 0 ∈ own := by rw [show own.getD k 0 = own[k] by simp [List.getD, hkl]]; exact List.getElem_mem _
      have h0l : 0 < own.length := by omega
      have h0m : own.getD 0 0 ∈ own := by rw [show own.getD 0 0 = own[0] by simp [List.getD, h0l]]; exact List.getElem_mem _
      have h1 := costK_eq hn true hkl
      have h2 := costK_eq hn true h0l
      have h3 := ring_same dd (fun a b => (dd_range a b).1) own (own.getD 0 0) (own.getD k 0) h0m hkm (own.length - 1) (by omega)
      simp only [backI, if_true] at h1 h2
      rw [base_ring (hd _ hkm)] at h1
      rw [base_ring (hd _ h0m)] at h2
      rw [← h1, ← h2] at h3
      unfold loK
      rw [ih e (by omega)]
      rw [if_neg (by simp only; omega)]
theorem loK_lr {own : List Int} (hn : own.Nodup) (hd : ∀ x ∈ own, 0 ≤ x) : loK own true own.length = lrF dd own := by
  cases own with
  | nil => rfl
  | cons d l =>
    have hl : 0 < (d :: l).length := by simp
    rw [loK_ring_one hn hd _ hl (Nat.le_refl _), ordK_eq hn true hl, costK_eq hn true hl]
    simp only [backI, if_true]
    rw [base_ring (hd _ (by simp [List.getD]))]
    simp [lrF, List.getD]
end Go.Proofs.Ytgbnoljmmenlbaa
