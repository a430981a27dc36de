import Derived.Test.YtepjbcgkjcgfbaaClock
import Derived.Test.YtepjbcgkjcgfbaaBits
import Derived.Test.YtepjbcgkjcgfbaaAllI
namespace Go.Proofs.Ytepjbcgkjcgfbaa
open Go.RowKit

/-! ## LitOf, litAt, l6Lit, LitAt; changes, l4Changes, MinuteChanges -/
def litTo (xs : List Int) : Nat → Int
  | 0 => 0
  | k+1 => litTo xs k + cntI (xs.getD k 0)
theorem litTo_range (xs : List Int) : ∀ k, 0 ≤ litTo xs k ∧ litTo xs k ≤ 7 * k
  | 0 => by simp [litTo]
  | k+1 => by
    have h := litTo_range xs k
    have h1 := cntI_range (xs.getD k 0)
    simp only [litTo]
    omega
def chTo (xs ys : List Int) : Nat → Int
  | 0 => 0
  | k+1 => chTo xs ys k + farI (xs.getD k 0) (ys.getD k 0)
theorem chTo_range (xs ys : List Int) : ∀ k, 0 ≤ chTo xs ys k ∧ chTo xs ys k ≤ 7 * k
  | 0 => by simp [chTo]
  | k+1 => by
    have h := chTo_range xs ys k
    have h1 := farI_range (xs.getD k 0) (ys.getD k 0)
    simp only [chTo]
    omega
def cellsIn (xs : List Int) : Prop := ∀ i, i < xs.length → 0 ≤ xs.getD i 0 ∧ xs.getD i 0 ≤ 127
theorem rowT_in {t : Int} (h0 : 0 ≤ t) (h1 : t ≤ 1439) : cellsIn (rowT t) := by
  have r1 := inB_mk (n := t/60/10) (lo := 0) (hi := 9) (by omega) (by omega)
  have r2 := inB_mk (n := t/60%10) (lo := 0) (hi := 9) (by omega) (by omega)
  have r3 := inB_mk (n := t%60/10) (lo := 0) (hi := 9) (by omega) (by omega)
  have r4 := inB_mk (n := t%60%10) (lo := 0) (hi := 9) (by omega) (by omega)
  intro i hi
  rw [length_rowT] at hi
  rcases (show i = 0 ∨ i = 1 ∨ i = 2 ∨ i = 3 by omega) with rfl | rfl | rfl | rfl
  · exact digitC_range r1
  · exact digitC_range r2
  · exact digitC_range r3
  · exact digitC_range r4
theorem rowB_of {xs : List Int} (hl : xs.length ≤ 6) (h : cellsIn xs) : rowB xs = true := by
  simp only [rowB, Bool.and_eq_true, decide_eq_true_eq, List.all_eq_true]
  refine ⟨hl, fun x hx => ?_⟩
  obtain ⟨i, hi, rfl⟩ := List.mem_iff_getElem.1 hx
  have := h i hi
  simp only [List.getD, List.getElem?_eq_getElem hi, Option.getD_some] at this
  exact inB_mk this.1 this.2
def litT (t : Int) : Int := litTo (rowT t) 4
theorem litT_range (t : Int) : 0 ≤ litT t ∧ litT t ≤ 28 := by
  have := litTo_range (rowT t) 4
  unfold litT
  omega




def litR (t : Int) : Int × Bool := if timeB t then (litT t, true) else (0, false)
theorem litR_no {t : Int} (h : timeB t = false) : litR t = (0, false) := by simp [litR, h]
theorem litR_yes {t : Int} (h : timeB t = true) : litR t = (litT t, true) := by simp [litR, h]


end Go.Proofs.Ytepjbcgkjcgfbaa
