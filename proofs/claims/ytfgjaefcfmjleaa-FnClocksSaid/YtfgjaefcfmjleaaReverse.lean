import Derived.Test.YtfgjaefcfmjleaaApp
import Derived.BigRegion
namespace Go.Proofs.Ytfgjaefcfmjleaa
open Go.RowKit

/-! ## slices.Reverse at []int -/
def revTo (xs : List Int) (k : Nat) : List Int := (List.range xs.length).map fun i => if i < k ∨ xs.length ≤ i + k then xs.getD (xs.length - 1 - i) 0 else xs.getD i 0
theorem length_revTo (xs : List Int) (k : Nat) : (revTo xs k).length = xs.length := by simp [revTo]
theorem getD_revTo (xs : List Int) (k i : Nat) (h : i < xs.length) : (revTo xs k).getD i 0 = if i < k ∨ xs.length ≤ i + k then xs.getD (xs.length - 1 - i) 0 else xs.getD i 0 := by
  unfold revTo
  rw [List.getD_eq_getElem?_getD, List.getElem?_map, List.getElem?_range h]
  rfl
theorem list_ext {xs ys : List Int} (hl : xs.length = ys.length) (h : ∀ i, i < xs.length → xs.getD i 0 = ys.getD i 0) : xs = ys := by
  apply List.ext_getElem hl
  intro i h1 h2
  have := h i h1
  simpa [List.getD, h1, h2] using this
theorem getD_set_eq {xs : List Int} {i : Nat} {a : Int} (h : i < xs.length) : (xs.set i a).getD i 0 = a := by simp [List.getD, h]
theorem getD_set_ne {xs : List Int} {i j : Nat} {a : Int} (h : i ≠ j) : (xs.set i a).getD j 0 = xs.getD j 0 := by simp [List.getD, h]
theorem revTo_zero (xs : List Int) : revTo xs 0 = xs := by
  refine list_ext (length_revTo _ _) fun i hi => ?_
  rw [length_revTo] at hi
  rw [getD_revTo _ _ _ hi, if_neg (by omega)]
theorem revTo_end (xs : List Int) (k : Nat) (h : xs.length ≤ 2 * k + 1) : revTo xs k = xs.reverse := by
  refine list_ext (by rw [length_revTo, List.length_reverse]) fun i hi => ?_
  rw [length_revTo] at hi
  rw [getD_revTo _ _ _ hi]
  have hr : xs.reverse.getD i 0 = xs.getD (xs.length - 1 - i) 0 := by
    rw [List.getD_eq_getElem?_getD, List.getElem?_reverse hi, List.getD_eq_getElem?_getD]
  rw [hr]
  by_cases hc : i < k ∨ xs.length ≤ i + k
  · rw [if_pos hc]
  · rw [if_neg hc, show xs.length - 1 - i = i by omega]
theorem revTo_step (xs : List Int) (k : Nat) (h : 2 * k + 1 < xs.length) : ((revTo xs k).set k (xs.getD (xs.length - 1 - k) 0)).set (xs.length - 1 - k) (xs.getD k 0) = revTo xs (k+1) := by
  refine list_ext (by simp [length_revTo]) fun i hi => ?_
  simp only [List.length_set, length_revTo] at hi
  rw [getD_revTo _ (k+1) _ hi]
  by_cases h1 : i = xs.length - 1 - k
  · subst h1
    rw [getD_set_eq (by simp [length_revTo]; omega), if_pos (by omega), show xs.length - 1 - (xs.length - 1 - k) = k by omega]
  · rw [getD_set_ne (by omega)]
    by_cases h2 : i = k
    · subst h2
      rw [getD_set_eq (by rw [length_revTo]; omega), if_pos (by omega)]
    · rw [getD_set_ne (by omega), getD_revTo _ _ _ hi]
      by_cases hc : i < k ∨ xs.length ≤ i + k
      · rw [if_pos hc, if_pos (by omega)]
      · rw [if_neg hc, if_neg (by omega)]
theorem revTo_step' (xs : List Int) (k : Nat) (h : 2 * k + 1 < xs.length) : ((revTo xs k).set (xs.length - 1 - k) (xs.getD k 0)).set k (xs.getD (xs.length - 1 - k) 0) = revTo xs (k+1) := by
  rw [List.set_comm _ _ (by omega)]
  exact revTo_step xs k h

set_option maxHeartbeats 2000000 in
theorem ReverseI_any (v1 : Value) (B : Nat) (xs : List Int) (w : World) (h1 : OwnI w B v1 xs) :
    Calls Try.prog 228 #[v1] w fun e w' => e = .returned (.tuple #[]) ∧ OwnI w' B v1 xs.reverse ∧ w.grownBy w' v1.ownBlock := by
  rcases h1.2 with ⟨rfl, hn0⟩ | ⟨g, cap, cur, rfl, hB, hg, hnc, hcm, hcs, htk⟩
  · go_enter Try.func228, Try.ntmps228
    go_wp2
    refine wp_loop_rounds 1 ?_
    rw [rounds_succ]
    go_wp2
    go_end0
    refine ⟨rfl, ?_, World.grownBy.refl _ _⟩
    obtain rfl : xs = [] := List.length_eq_zero_iff.1 hn0
    exact World.ownsRow_nil _ _ _ _
  · have hcap : cap ≤ 9223372036854775807 := by simpa [maxLen] using hcm
    clear hg hcs htk hcm
    obtain ⟨n, hn⟩ : ∃ n, xs.length = n := ⟨_, rfl⟩
    have H1 := hid h1
    have HN := hid hn
    rw [hn] at hnc ⊢
    clear h1 hn
    go_enter Try.func228, Try.ntmps228
    go_wp2
    go_loopw [2, 3] (fun ii jj wr => ∃ k : Nat, k ≤ n ∧ 2 * k ≤ n + 1 ∧ ii = .int .i64 k ∧ jj = .int .i64 ((n : Int) - 1 - k) ∧ Hid (OwnI wr B (.slice (some ⟨g, 0, none⟩) n cap) (revTo xs k)) ∧ w.grownBy wr (some g)) (fun ii _ _ => n + 1 - (intOf ii).toNat)
    case atStart => exact ⟨0, by omega, by omega, rfl, int_eq (by simp), hid (by rw [revTo_zero, ← HN.out]; exact H1.out), World.grownBy.refl _ _⟩
    case round =>
      obtain ⟨k, hk, hk2, rfl, rfl, HO, hgr⟩ := hrel
      by_cases hlt : 2 * k + 1 < n
      · have hlen : (revTo xs k).length = n := by rw [length_revTo, HN.out]
        have c1 := HO.out.cell hlen (i := k) (by omega)
        have c2 := HO.out.cell hlen (i := n - 1 - k) (by omega)
        have f1 := HO.out.free hlen k
        have f2 := HO.out.free hlen (n - 1 - k)
        rw [getD_revTo _ _ _ (by rw [HN.out]; omega), if_neg (by rw [HN.out]; omega)] at c1 c2
        have HS := hid (revTo_step xs k (by rw [HN.out]; exact hlt))
        have HS' := hid (revTo_step' xs k (by rw [HN.out]; exact hlt))
        rw [HN.out] at HS HS'
        have HL := hid hlen
        clear hlen
        have hj0 : (0 : Int) ≤ (n : Int) - 1 - k := by omega
        have hj1 : (n : Int) - 1 - k < n := by omega
        have hjt : ((n : Int) - 1 - k).toNat = n - 1 - k := by omega
        have hkj : (k : Int) < (n : Int) - 1 - k := by omega
        have hi0 : (0 : Int) ≤ k := by omega
        have hi1 : (k : Int) < n := by omega
        have hne : k ≠ n - 1 - k := by omega
        have hne' : n - 1 - k ≠ k := by omega
        have HNX : Hid ((n : Int) - 1 - k - 1 = (n : Int) - 1 - ((k+1 : Nat) : Int)) := hid (by omega)
        generalize hx : xs.getD k 0 = x at c1 HS HS'
        generalize hy : xs.getD (n - 1 - k) 0 = y at c2 HS HS'
        clear hx hy
        generalize hj : (n : Int) - 1 - k = j at *
        generalize hm : n - 1 - k = m at *
        go_wp2
        go_region
        all_goals
          go_wp2
          go_roundw
          case rel =>
            obtain ⟨s1, g1⟩ := HO.out.set HL.out k y rfl
            obtain ⟨s2, g2⟩ := s1.set (by rw [List.length_set]; exact HL.out) m x HS.out
            exact ⟨k+1, by omega, by omega, by go_num, int_eq HNX.out, hid (s2.drawn 1), grown_trans hgr (grown_trans g1 (grown_trans g2 (grown_of_below (below_drewN (Below.refl _ _) 1) _)))⟩
          case measure => simp [intOf]; omega
      · have hnot : ¬ ((k : Int) < (n : Int) - 1 - k) := by omega
        have HR := hid (revTo_end xs k (by rw [HN.out]; omega))
        go_wp2
        go_end0
        exact ⟨rfl, by rw [← HR.out]; exact HO.out, hgr⟩

end Go.Proofs.Ytfgjaefcfmjleaa
