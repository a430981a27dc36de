import Derived.Test.YtgbnoljmmenlbaaNums
import Derived.Laws.EntriesVeiled
namespace Go.Proofs.Ytgbnoljmmenlbaa
open Go.RowKit

/-! ## areAll over []int; IsRow, l2Row -/
def idxQ (xs : List Int) (q : Int → Bool) : Int := if xs.any q then (xs.findIdx q : Int) else -1
theorem idxQ_at {xs : List Int} {q : Int → Bool} {k : Nat} (hk : k < xs.length) (hn : (xs.take k).any q = false) (e : q (xs.getD k 0) = true) : idxQ xs q = k := by
  have hx : xs.getD k 0 = xs[k] := by simp [List.getD, hk]
  rw [hx] at e
  have ha : xs.any q = true := List.any_eq_true.2 ⟨_, List.getElem_mem hk, e⟩
  have hf : xs.findIdx q = k := by
    rw [List.findIdx_eq hk]
    refine ⟨e, fun j hj => ?_⟩
    have := List.any_eq_false.1 hn xs[j] (List.mem_take_iff_getElem.2 ⟨j, by omega, rfl⟩)
    simpa using this
  simp [idxQ, ha, hf]
theorem idxQ_none {xs : List Int} {q : Int → Bool} (h : xs.any q = false) : idxQ xs q = -1 := by simp [idxQ, h]
theorem idxQ_nonneg (xs : List Int) (q : Int → Bool) : decide (0 ≤ idxQ xs q) = xs.any q := by
  unfold idxQ
  cases xs.any q <;> simp
theorem anyI_take_succ {xs : List Int} {q : Int → Bool} {k : Nat} (hk : k < xs.length) (hn : (xs.take k).any q = false) (e : q (xs.getD k 0) = false) : (xs.take (k+1)).any q = false := by
  rw [take_snoc hk rfl, List.any_append, hn]
  simp only [List.any_cons, List.any_nil, e, Bool.or_false]
theorem allI_not {α : Type} (xs : List α) (q : α → Bool) : (!xs.any fun p => !q p) = xs.all q := by
  induction xs with
  | nil => rfl
  | cons a r ih => simp only [List.any_cons, List.all_cons, Bool.not_or, Bool.not_not, ih]



/-! ### rows -/
def rowB (xs : List Int) : Bool := decide (xs.length ≤ 6) && xs.all cellB
theorem rowB_long {xs : List Int} (h : ¬ xs.length ≤ 6) : rowB xs = false := by simp [rowB]; intro h'; omega
theorem rowB_short {xs : List Int} (h : xs.length ≤ 6) : rowB xs = xs.all cellB := by simp [rowB, h]
theorem rowB_bad {xs : List Int} {i : Nat} (hi : i < xs.length) (h : cellB (xs.getD i 0) = false) : rowB xs = false := by
  have : xs.all cellB = false := by
    rw [List.all_eq_false]
    refine ⟨xs[i], List.getElem_mem hi, ?_⟩
    have e : xs.getD i 0 = xs[i] := by simp [List.getD, hi]
    rw [e] at h
    simp [h]
  simp [rowB, this]
theorem rowB_all {xs : List Int} (h : xs.length ≤ 6) (h' : ∀ i, i < xs.length → cellB (xs.getD i 0) = true) : rowB xs = true := by
  rw [rowB_short h, List.all_eq_true]
  intro x hx
  obtain ⟨i, hi, rfl⟩ := List.mem_iff_getElem.1 hx
  have := h' i hi
  have e : xs.getD i 0 = xs[i] := by simp [List.getD, hi]
  rwa [e] at this
theorem rowB_true {xs : List Int} (h : rowB xs = true) : xs.length ≤ 6 ∧ ∀ i, i < xs.length → 0 ≤ xs.getD i 0 ∧ xs.getD i 0 ≤ 127 := by
  simp only [rowB, Bool.and_eq_true, decide_eq_true_eq, List.all_eq_true] at h
  refine ⟨h.1, fun i hi => ?_⟩
  have e : xs.getD i 0 = xs[i] := by simp [List.getD, hi]
  rw [e]
  exact cellB_true (h.2 _ (List.getElem_mem hi))



def someB (xs : List Int) : Bool := rowB xs && decide (0 < xs.length)
theorem someB_true {xs : List Int} (h : someB xs = true) : rowB xs = true ∧ 0 < xs.length := by simpa [someB] using h

end Go.Proofs.Ytgbnoljmmenlbaa
