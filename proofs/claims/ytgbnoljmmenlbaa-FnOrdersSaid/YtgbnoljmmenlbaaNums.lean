import Derived.Test.YtgbnoljmmenlbaaRows
import Derived.Test.YtgbnoljmmenlbaaBase
import Derived.WalkKit
import Derived.WalkSpells
import Derived.WalkLawsBesides
import Derived.Handy
import Derived.Deep.QuietTactic
import Derived.BigQuiet
namespace Go.Proofs.Ytgbnoljmmenlbaa
open Go.RowKit

/-! ## Small functions on numbers; slices.Index, slices.Contains, l1Has; IsCode and l5Code -/

set_option maxHeartbeats 400000 in
theorem within_any (n lo hi : Int) (w : World) :
    Calls Try.prog 52 #[.int .i64 n, .int .i64 lo, .int .i64 hi] w fun e w' => e = .returned (.bool (inB n lo hi)) ∧ w = w' := by
  by_cases h1 : lo ≤ n <;> by_cases h2 : n ≤ hi
  all_goals
    go_enter Try.func52, Try.ntmps52
    go_wp2
    go_ret
    exact ⟨ret_bool (by simp [inB, h1, h2]), rfl⟩

set_option maxHeartbeats 400000 in
theorem l1In_any (n lo hi : Int) (w : World) :
    Calls Try.prog 41 #[.int .i64 n, .int .i64 lo, .int .i64 hi] w fun e w' => e = .returned (.bool (inB n lo hi)) ∧ w = w' := by
  by_cases h1 : lo ≤ n <;> by_cases h2 : n ≤ hi
  all_goals
    go_enter Try.func41, Try.ntmps41
    go_wp2
    go_ret
    exact ⟨ret_bool (by simp [inB]; omega), rfl⟩

theorem IsCell_any (c : Int) (w : World) :
    Calls Try.prog 42 #[.int .i64 c] w fun e w' => e = .returned (.bool (cellB c)) ∧ w = w' := by
  go_enter Try.func42, Try.ntmps42
  go_wp2_with (go_at_call 52; refine (within_any _ _ _ _).mono ?_; rintro e w' ⟨rfl, rfl⟩)
  go_ret
  exact ⟨rfl, rfl⟩


theorem isDigit_any (c : Int) (w : World) :
    Calls Try.prog 40 #[.int .i64 c] w fun e w' => e = .returned (.bool (inB c 0 9)) ∧ w = w' := by
  go_enter Try.func40, Try.ntmps40
  go_wp2_with (go_at_call 52; refine (within_any _ _ _ _).mono ?_; rintro e w' ⟨rfl, rfl⟩)
  go_ret
  exact ⟨rfl, rfl⟩


set_option maxHeartbeats 400000 in
theorem Index_any (v1 : Value) (xs : List Int) (v : Int) (w : World) (h1 : Ints w v1 xs) :
    Calls Try.prog 54 #[v1, .int .i64 v] w fun e w' => e = .returned (.int .i64 (idxI xs v)) ∧ w = w' := by
  obtain ⟨ao1, cap1, b1, o1, rfl, ha1, hc1, hn1, hm1⟩ := h1
  obtain ⟨n, hn⟩ : ∃ n, xs.length = n := ⟨_, rfl⟩
  have HN := hid hn
  rw [hn] at ha1 hc1 hn1 ⊢
  clear hn
  go_enter Try.func54, Try.ntmps54
  go_wp2
  go_loop [8] (fun i => ∃ k : Nat, k ≤ n ∧ i = .int .i64 k ∧ Hid (v ∉ xs.take k)) (fun i => n - (intOf i).toNat)
  case atStart => exact ⟨0, by omega, rfl, hid (by simp)⟩
  case round =>
    obtain ⟨k, hk, rfl, HT⟩ := hrel
    by_cases hlt : k < n
    · obtain ⟨rfl, hb1⟩ := ha1 (by omega)
      have e1 : w.cell? ⟨b1, o1+k, none⟩ = some (.int .i64 (xs.getD k 0)) := hc1 k (by omega)
      generalize hx : xs.getD k 0 = x at e1
      have HX := hid hx
      clear hx hc1 ha1
      by_cases hxv : x = v
      · subst hxv
        have hb : (x == x) = true := by simp
        go_wp2
        go_ret
        exact ⟨ret_int (idxI_at (by rw [HN.out]; exact hlt) HT.out HX.out).symm, rfl⟩
      · have hb : (v == x) = false := by simpa using fun h : v = x => hxv h.symm
        go_wp2
        go_round
        case rel => exact ⟨k+1, by omega, by go_num, hid (notMem_take_succ HT.out (by rw [HN.out]; exact hlt) (by rw [HX.out]; exact hxv))⟩
        case measure => simp [intOf]; omega
    · go_wp2
      go_ret
      have := HT.out
      rw [List.take_of_length_le (by rw [HN.out]; omega)] at this
      exact ⟨ret_int (idxI_none this).symm, rfl⟩

theorem Contains_any (v1 : Value) (xs : List Int) (v : Int) (w : World) (h1 : Ints w v1 xs) :
    Calls Try.prog 46 #[v1, .int .i64 v] w fun e w' => e = .returned (.bool (decide (v ∈ xs))) ∧ w = w' := by
  have e := idxI_nonneg xs v
  go_enter Try.func46, Try.ntmps46
  go_wp2_with (go_at_call 54; refine (Index_any _ xs _ _ h1).mono ?_; rintro e w' ⟨rfl, rfl⟩)
  go_ret
  exact ⟨rfl, rfl⟩

set_option maxHeartbeats 400000 in
theorem l1Has_any (v1 : Value) (xs : List Int) (v : Int) (w : World) (h1 : Ints w v1 xs) :
    Calls Try.prog 45 #[v1, .int .i64 v] w fun e w' => e = .returned (.bool (decide (v ∈ xs))) ∧ w = w' := by
  obtain ⟨ao1, cap1, b1, o1, rfl, ha1, hc1, hn1, hm1⟩ := h1
  obtain ⟨n, hn⟩ : ∃ n, xs.length = n := ⟨_, rfl⟩
  have HN := hid hn
  rw [hn] at ha1 hc1 hn1 ⊢
  clear hn
  go_enter Try.func45, Try.ntmps45
  go_wp2
  go_loop [5] (fun i => ∃ k : Nat, k ≤ n ∧ i = .int .i64 k ∧ Hid (v ∉ xs.take k)) (fun i => n - (intOf i).toNat)
  case atStart => exact ⟨0, by omega, rfl, hid (by simp)⟩
  case round =>
    obtain ⟨k, hk, rfl, HT⟩ := hrel
    by_cases hlt : k < n
    · obtain ⟨rfl, hb1⟩ := ha1 (by omega)
      have e1 : w.cell? ⟨b1, o1+k, none⟩ = some (.int .i64 (xs.getD k 0)) := hc1 k (by omega)
      generalize hx : xs.getD k 0 = x at e1
      have HX := hid hx
      clear hx hc1 ha1
      by_cases hxv : x = v
      · subst hxv
        have hb : (x == x) = true := by simp
        go_wp2
        go_ret
        refine ⟨ret_bool ?_, rfl⟩
        symm
        rw [decide_eq_true_eq, ← HX.out]
        have hl : k < xs.length := by rw [HN.out]; exact hlt
        simp [List.getD, hl]
      · have hb : (x == v) = false := by simpa using hxv
        go_wp2
        go_round
        case rel => exact ⟨k+1, by omega, by go_num, hid (notMem_take_succ HT.out (by rw [HN.out]; exact hlt) (by rw [HX.out]; exact hxv))⟩
        case measure => simp [intOf]; omega
    · go_wp2
      go_ret
      have := HT.out
      rw [List.take_of_length_le (by rw [HN.out]; omega)] at this
      exact ⟨ret_bool (decide_eq_false this).symm, rfl⟩

end Go.Proofs.Ytgbnoljmmenlbaa
