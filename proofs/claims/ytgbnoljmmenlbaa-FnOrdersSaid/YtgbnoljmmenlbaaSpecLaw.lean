/-
  SpecLaw: what the reference's loops of LeastOrder and LeastRing come to: the plain law
-/
import Derived.Test.YtgbnoljmmenlbaaLeastLaw
import Derived.Test.YtgbnoljmmenlbaaRest4
import Derived.Test.YtgbnoljmmenlbaaLeast4
namespace Go.Proofs.Ytgbnoljmmenlbaa
open List

/-- The reference's state after the starts below k. -/
def spL (S : Nat) (k : Nat) : List Int × Int := (((List.range k).filter fun i => S.testBit i).map fun i : Nat => (i : Int)).foldl (loStep dd (digO S)) ([], -1)
theorem spL_zero (S : Nat) : spL S 0 = ([], -1) := by simp [spL]
theorem spL_no {S k : Nat} (h : S.testBit k = false) : spL S (k+1) = spL S k := by
  unfold spL
  rw [List.range_succ, List.filter_append, List.map_append, List.foldl_append]
  simp [h]
theorem digO_m {S k : Nat} (hk : k < 10) (h : S.testBit k = true) : ∃ m, (digO S).length = m + 1 ∧ (digO (S ^^^ 2 ^ k)).length = m := by
  have hm := (digO_mem_nat (s := S) hk).2 h
  have hp := List.length_pos_of_mem hm
  refine ⟨(digO S).length - 1, by omega, ?_⟩
  rw [digO_erase h, List.length_erase_of_mem hm]
theorem restS_at {base : Int → Int} {S k : Nat} (hk : k < 10) (h : S.testBit k = true) : restS dd base (S ^^^ 2 ^ k) k = restN dd base ((digO S).length - 1) ((digO S).erase (k : Int)) k := by
  obtain ⟨m, h1, h2⟩ := digO_m hk h
  unfold restS
  rw [h2, h1, digO_erase h]
  rfl
theorem firstS_at {base : Int → Int} {S k : Nat} (hk : k < 10) (h : S.testBit k = true) : firstS dd base (S ^^^ 2 ^ k) k = firstN dd base ((digO S).length - 1) ((digO S).erase (k : Int)) k := by
  obtain ⟨m, h1, h2⟩ := digO_m hk h
  unfold firstS
  rw [h2, h1, digO_erase h]
  rfl
theorem spL_yes {S k : Nat} (hk : k < 10) (h : S.testBit k = true) :
    spL S (k+1) = if (spL S k).2 < 0 ∨ restS dd (baseB (-1)) (S ^^^ 2 ^ k) k < (spL S k).2 then ((k : Int) :: firstS dd (baseB (-1)) (S ^^^ 2 ^ k) k, restS dd (baseB (-1)) (S ^^^ 2 ^ k) k) else spL S k := by
  rw [restS_at hk h, firstS_at hk h, base_none]
  have e : spL S (k+1) = loStep dd (digO S) (spL S k) k := by
    unfold spL
    rw [List.range_succ, List.filter_append, List.map_append, List.foldl_append]
    simp [h]
  rw [e]
  rfl
theorem spL_range (S : Nat) : ∀ k, k ≤ 10 → -1 ≤ (spL S k).2 ∧ (spL S k).2 ≤ 77 := by
  intro k
  induction k with
  | zero => intro _; rw [spL_zero]; simp
  | succ k ih =>
    intro hk
    have h0 := ih (by omega)
    cases h : S.testBit k with
    | false => rw [spL_no h]; exact h0
    | true =>
      rw [spL_yes (by omega) h]
      have := restS_range (-1) (S ^^^ 2 ^ k) k
      split
      · simp only; omega
      · exact h0
theorem spL_end (S : Nat) : spL S 10 = loTo dd (digO S) (digO S).length := by
  unfold spL loTo
  rw [List.take_length]
  rfl
/-- What the reference answers at an order. -/
theorem spL_law {xs : List Int} (h : orderB xs = true) : (loK (sortO xs) false (sortO xs).length).1 = (spL (setO xs) 10).1 ∧ (loK (sortO xs) false (sortO xs).length).2 = (if (spL (setO xs) 10).2 > 0 then (spL (setO xs) 10).2 else 0) := by
  rw [loK_lo (sortO_nodup h), spL_end, ← sortO_digO h]
  unfold loF
  by_cases he : sortO xs = []
  · rw [if_pos he, he]
    simp [loTo]
  · rw [if_neg he]
    have := (loTo_law dd (fun a b => (dd_range a b).1) (sortO xs) (sortO xs).length (List.length_pos_iff.2 he) (Nat.le_refl _)).1
    refine ⟨rfl, ?_⟩
    split <;> omega

/-- The ring: the least digit is the start. -/
theorem digO_head {S k : Nat} (hk : k < 10) (h : S.testBit k = true) (hz : ∀ z, z < k → S.testBit z = false) : digO S = (k : Int) :: (digO S).erase (k : Int) := by
  have hm := (digO_mem_nat (s := S) hk).2 h
  have hs := digO_sorted S
  have hmem : ∀ x ∈ digO S, (k : Int) ≤ x := by
    intro x hx
    obtain ⟨j, hj, hjb, rfl⟩ := mem_digO.1 hx
    rcases Nat.lt_or_ge j k with hlt | hge
    · rw [hz j hlt] at hjb; cases hjb
    · omega
  cases hd : digO S with
  | nil => rw [hd] at hm; simp at hm
  | cons d l =>
    rw [hd] at hm hs hmem
    have h1 := hmem d (by simp)
    have h2 : (k : Int) = d := by
      rcases List.mem_cons.1 hm with e | e
      · exact e
      · have := (List.pairwise_cons.1 hs).1 _ e
        omega
    subst h2
    simp
theorem ring_law {xs : List Int} (h : orderB xs = true) {k : Nat} (hk : k < 10) (hb : (setO xs).testBit k = true) (hz : ∀ z, z < k → (setO xs).testBit z = false) :
    loK (sortO xs) true (sortO xs).length = ((k : Int) :: firstS dd (baseB k) (setO xs ^^^ 2 ^ k) k, restS dd (baseB k) (setO xs ^^^ 2 ^ k) k) := by
  rw [loK_lr (sortO_nodup h) (fun x hx => (sortO_dig h hx).1), restS_at hk hb, firstS_at hk hb, base_ring (by omega), sortO_digO h]
  have e := digO_head hk hb hz
  have hl : ((digO (setO xs)).erase (k : Int)).length = (digO (setO xs)).length - 1 := List.length_erase_of_mem ((digO_mem_nat hk).2 hb)
  conv => lhs; rw [e]
  simp only [lrF]
  rw [hl]
theorem ring_none {xs : List Int} (h : orderB xs = true) (hz : ∀ z, z < 10 → (setO xs).testBit z = false) : loK (sortO xs) true (sortO xs).length = ([], 0) := by
  rw [loK_lr (sortO_nodup h) (fun x hx => (sortO_dig h hx).1), sortO_digO h]
  have e : digO (setO xs) = [] := by
    cases hd : digO (setO xs) with
    | nil => rfl
    | cons d l =>
      obtain ⟨j, hj, hjb, _⟩ := mem_digO.1 (show d ∈ digO (setO xs) by rw [hd]; simp)
      rw [hz j hj] at hjb
      cases hjb
  rw [e]
  rfl
end Go.Proofs.Ytgbnoljmmenlbaa
