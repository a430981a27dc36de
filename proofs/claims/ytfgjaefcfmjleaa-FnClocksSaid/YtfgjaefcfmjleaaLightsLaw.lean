import Derived.Test.YtfgjaefcfmjleaaBest
import Derived.Test.YtfgjaefcfmjleaaLike
import Derived.Test.YtfgjaefcfmjleaaTimesBars
import Derived.Test.YtfgjaefcfmjleaaChange
namespace Go.Proofs.Ytfgjaefcfmjleaa
open Go.RowKit

/-! ## What FnClockLights asks beyond equality, in plain Lean -/
theorem best_gt : ∀ m t : Nat, t < m → litT (t : Int) ≤ litT ((bestTo gtB m : Nat) : Int) := by
  intro m
  induction m with
  | zero => intro t h; omega
  | succ m ih =>
    intro t ht
    cases hg : gtB (litT (m : Int)) (litT (bestTo gtB m : Int)) with
    | true =>
      rw [bestTo_yes hg]
      simp only [gtB, decide_eq_true_eq] at hg
      by_cases e : t = m
      · subst e; exact Int.le_refl _
      · have := ih t (by omega); omega
    | false =>
      rw [bestTo_no hg]
      simp only [gtB, decide_eq_false_iff_not] at hg
      by_cases e : t = m
      · subst e; omega
      · exact ih t (by omega)
theorem best_lt : ∀ m t : Nat, t < m → litT ((bestTo ltB m : Nat) : Int) ≤ litT (t : Int) := by
  intro m
  induction m with
  | zero => intro t h; omega
  | succ m ih =>
    intro t ht
    cases hg : ltB (litT (m : Int)) (litT (bestTo ltB m : Int)) with
    | true =>
      rw [bestTo_yes hg]
      simp only [ltB, decide_eq_true_eq] at hg
      by_cases e : t = m
      · subst e; exact Int.le_refl _
      · have := ih t (by omega); omega
    | false =>
      rw [bestTo_no hg]
      simp only [ltB, decide_eq_false_iff_not] at hg
      by_cases e : t = m
      · subst e; omega
      · exact ih t (by omega)
theorem mem_times {q : Int → Bool} {k : Nat} {x : Int} : x ∈ timesTo q k ↔ ∃ t : Nat, t < k ∧ q (t : Int) = true ∧ x = (t : Int) := by
  unfold timesTo
  simp only [List.mem_map, List.mem_filter, List.mem_range]
  constructor
  · rintro ⟨t, ⟨h1, h2⟩, rfl⟩; exact ⟨t, h1, h2, rfl⟩
  · rintro ⟨t, h1, h2, rfl⟩; exact ⟨t, ⟨h1, h2⟩, rfl⟩
theorem getD_memT {xs : List Int} {i : Nat} (h : i < xs.length) : xs.getD i 0 ∈ xs := by
  rw [List.getD_eq_getElem?_getD, List.getElem?_eq_getElem h]
  exact List.getElem_mem h
theorem likeTo_at {xs ys : List Int} : ∀ {m k : Nat}, k < m → likeTo xs ys m = true → xs.getD k 0 = -1 ∨ xs.getD k 0 = ys.getD k 0 := by
  intro m
  induction m with
  | zero => intro k h; omega
  | succ m ih =>
    intro k hk h
    simp only [likeTo, Bool.and_eq_true, Bool.or_eq_true, beq_iff_eq] at h
    by_cases e : k = m
    · subst e; exact h.2
    · exact ih (by omega) h.1
/-! ### what the walk asks, behind names -/
theorem lights_out (t : Int) : ∃ (tb : Bool) (lit ch : Int), litR t = (lit, tb) ∧ minR t = (ch, tb) ∧ clockR t = (if tb then rowT t else [], tb) ∧ (tb = true → 0 ≤ t ∧ t ≤ 1439 ∧ lit = litT t) := by
  cases h : timeB t with
  | false => exact ⟨false, 0, 0, litR_no h, minR_no h, clockR_no h, fun h => by cases h⟩
  | true => exact ⟨true, _, _, litR_yes h, minR_yes h, clockR_yes h, fun _ => ⟨(inB_true h).1, (inB_true h).2, rfl⟩⟩
theorem best_out : ∃ bt most dt least : Int, brightTimeR = (bt, most) ∧ darkTimeR = (dt, least) ∧ ∀ t : Int, 0 ≤ t → t ≤ 1439 → least ≤ litT t ∧ litT t ≤ most := by
  refine ⟨_, _, _, _, rfl, rfl, fun t h0 h1 => ?_⟩
  obtain ⟨n, rfl⟩ : ∃ n : Nat, t = n := ⟨t.toNat, by omega⟩
  exact ⟨best_lt 1440 n (by omega), best_gt 1440 n (by omega)⟩
theorem like_out (rs : List Int) : ∃ (lb : Bool) (ls : List Int), likeR rs = (ls, lb) ∧ ls.length ≤ 1440 ∧ (∀ i, i < ls.length → ∃ t : Nat, ls.getD i 0 = (t : Int) ∧ t < 1440 ∧ rs.length = 4 ∧ ∀ k, k < 4 → rs.getD k 0 = -1 ∨ rs.getD k 0 = (rowT (t : Int)).getD k 0) := by
  by_cases h4 : rs.length = 4
  · cases ha : rs.all likeB with
    | false => exact ⟨false, [], likeR_all ha, by simp, fun i hi => by simp at hi⟩
    | true =>
      refine ⟨true, _, likeR_yes h4 ha, timesTo_len _ _, fun i hi => ?_⟩
      obtain ⟨t, ht, hq, he⟩ := mem_times.1 (getD_memT hi)
      exact ⟨t, he, ht, h4, fun k hk => likeTo_at hk hq⟩
  · exact ⟨false, [], likeR_len4 h4, by simp, fun i hi => by simp at hi⟩
theorem bars_out (b : Int) : ∃ (bb : Bool) (ts : List Int), barsR b = (ts, bb) ∧ ts.length ≤ 1440 ∧ (bb = true → (∀ t : Int, 0 ≤ t → t ≤ 1439 → decide (t ∈ ts) = (litT t == b)) ∧ (¬ ((ts.length : Int) = 0) → ∃ t : Int, 0 ≤ t ∧ t ≤ 1439 ∧ litT t = b)) := by
  cases h : inB b 0 28 with
  | false => exact ⟨false, [], barsR_no h, by simp, fun h => by cases h⟩
  | true =>
    refine ⟨true, _, barsR_yes h, timesTo_len _ _, fun _ => ⟨fun t h0 h1 => ?_, fun hne => ?_⟩⟩
    · rw [Bool.eq_iff_iff, decide_eq_true_eq, mem_times]
      constructor
      · rintro ⟨n, hn, hq, rfl⟩; exact hq
      · intro hq
        exact ⟨t.toNat, by omega, by rw [show ((t.toNat : Nat) : Int) = t by omega]; exact hq, by omega⟩
    · have hpos : 0 < (timesTo (fun t => litT t == b) 1440).length := by omega
      obtain ⟨t, ht, hq, _⟩ := mem_times.1 (getD_memT hpos)
      exact ⟨t, by omega, by omega, by simpa using hq⟩
theorem row_at {t : Int} {k : Nat} (h0 : 0 ≤ t) (h1 : t ≤ 1439) (hk : k < 4) : 0 ≤ (rowT t).getD k 0 ∧ (rowT t).getD k 0 ≤ 127 := rowT_in h0 h1 k (by rw [length_rowT]; exact hk)

end Go.Proofs.Ytfgjaefcfmjleaa
