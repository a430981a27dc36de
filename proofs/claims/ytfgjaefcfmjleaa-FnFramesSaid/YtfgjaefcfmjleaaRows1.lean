import Derived.Test.YtfgjaefcfmjleaaAllI
import Derived.Test.YtfgjaefcfmjleaaAllS
import Derived.Test.YtfgjaefcfmjleaaSlotHelp
import Derived.StillTailTactics
namespace Go.Proofs.Ytfgjaefcfmjleaa
open Go.RowKit

/-! ## FullBars, PlainFrame -/
theorem pow6 {k : Nat} (hk : k ≤ 6) : 1 ≤ (2 : Int) ^ k ∧ (2 : Int) ^ k ≤ 64 := by
  obtain ⟨j, rfl⟩ : ∃ j : Fin 7, k = (j : Nat) := ⟨⟨k, by omega⟩, rfl⟩
  clear hk
  revert j
  decide
def bitI (c : Int) (i : Nat) : Int := bits .and .i64 (c / 2 ^ i) 1
def fullTo (xs : List Int) (cells : Int) : Nat → Int
  | 0 => 127
  | i+1 => if bitI cells i == 1 then bits .and .i64 (fullTo xs cells i) (xs.getD i 0) else fullTo xs cells i
def fullF (xs : List Int) (cells : Int) : Int := fullTo xs cells xs.length

set_option maxHeartbeats 1000000 in
theorem full_any (v1 : Value) (xs : List Int) (c : Int) (w : World) (h1 : Ints w v1 xs) (hl : xs.length ≤ 6) :
    Calls Try.prog 206 #[v1, .int .i64 c] w fun e w' => e = .returned (.int .i64 (fullF xs c)) ∧ w = w' := by
  obtain ⟨n, ao1, cap1, b1, o1, HN, rfl, ha1, hc1, hn1, hm1, HX⟩ := h1.open_
  rw [HN.out] at hl
  clear h1
  go_enter Try.func206, Try.ntmps206
  go_wp2
  go_loop [5, 6, 7, 10] (fun oo _ _ i => ∃ k : Nat, k ≤ n ∧ i = .int .i64 k ∧ oo = .int .i64 (fullTo xs c k)) (fun _ _ _ i => n - (intOf i).toNat)
  case atStart => exact ⟨0, by omega, rfl, rfl⟩
  case round =>
    obtain ⟨k, hk, rfl, rfl⟩ := hrel
    by_cases hlt : k < n
    · obtain ⟨rfl, hb1⟩ := ha1 (by omega)
      have e1 : w.cell? ⟨b1, o1+k, none⟩ = some (.int .i64 (xs.getD k 0)) := hc1 k (by omega)
      have HS := hid (show fullTo xs c (k+1) = if bitI c k == 1 then bits .and .i64 (fullTo xs c k) (xs.getD k 0) else fullTo xs c k from rfl)
      generalize xs.getD k 0 = x at e1 HS
      clear hc1 ha1
      cases hb : (bits .and .i64 (c / 2 ^ k) 1 == 1) with
      | true =>
        have HB := hid (show (bitI c k == 1) = true from hb)
        go_wp2
        go_round
        case rel => exact ⟨k+1, by omega, by go_num, by rw [HS.out, HB.out]; rfl⟩
        case measure => simp [intOf]; omega
      | false =>
        have HB := hid (show (bitI c k == 1) = false from hb)
        go_wp2
        go_round
        case rel => exact ⟨k+1, by omega, by go_num, by rw [HS.out, HB.out]; rfl⟩
        case measure => simp [intOf]; omega
    · go_wp2
      go_ret
      exact ⟨ret_int (by unfold fullF; rw [HN.out, show k = n by omega]), rfl⟩

set_option maxHeartbeats 1000000 in
theorem l8Full_any (v1 : Value) (xs : List Int) (c : Int) (w : World) (h1 : Ints w v1 xs) (hl : xs.length ≤ 6) :
    Calls Try.prog 207 #[v1, .int .i64 c] w fun e w' => e = .returned (.int .i64 (fullF xs c)) ∧ w = w' := by
  obtain ⟨n, ao1, cap1, b1, o1, HN, rfl, ha1, hc1, hn1, hm1, HX⟩ := h1.open_
  rw [HN.out] at hl
  clear h1
  go_enter Try.func207, Try.ntmps207
  go_wp2
  go_loop [5, 6] (fun oo i => ∃ k : Nat, k ≤ n ∧ i = .int .i64 k ∧ oo = .int .i64 (fullTo xs c k)) (fun _ i => n - (intOf i).toNat)
  case atStart => exact ⟨0, by omega, rfl, rfl⟩
  case round =>
    obtain ⟨k, hk, rfl, rfl⟩ := hrel
    by_cases hlt : k < n
    · obtain ⟨rfl, hb1⟩ := ha1 (by omega)
      have e1 : w.cell? ⟨b1, o1+k, none⟩ = some (.int .i64 (xs.getD k 0)) := hc1 k (by omega)
      have HS := hid (show fullTo xs c (k+1) = if bitI c k == 1 then bits .and .i64 (fullTo xs c k) (xs.getD k 0) else fullTo xs c k from rfl)
      generalize xs.getD k 0 = x at e1 HS
      clear hc1 ha1
      cases hb : (bits .and .i64 (c / 2 ^ k) 1 == 1) with
      | true =>
        have HB := hid (show (bitI c k == 1) = true from hb)
        go_wp2
        go_round
        case rel => exact ⟨k+1, by omega, by go_num, by rw [HS.out, HB.out]; rfl⟩
        case measure => simp [intOf]; omega
      | false =>
        have HB := hid (show (bitI c k == 1) = false from hb)
        go_wp2
        go_round
        case rel => exact ⟨k+1, by omega, by go_num, by rw [HS.out, HB.out]; rfl⟩
        case measure => simp [intOf]; omega
    · go_wp2
      go_ret
      exact ⟨ret_int (by unfold fullF; rw [HN.out, show k = n by omega]), rfl⟩

def fullR (xs : List Int) (c : Int) : Int × Bool := if someB xs && inB c 1 (topI xs.length) then (fullF xs c, true) else (0, false)
theorem fullR_no {xs : List Int} {c : Int} (h : someB xs = false) : fullR xs c = (0, false) := by simp [fullR, h]
theorem fullR_in {xs : List Int} {c : Int} (h : inB c 1 (topI xs.length) = false) : fullR xs c = (0, false) := by simp [fullR, h]
theorem fullR_yes {xs : List Int} {c : Int} (h : someB xs = true) (h' : inB c 1 (topI xs.length) = true) : fullR xs c = (fullF xs c, true) := by simp [fullR, h, h']
theorem topI_le {k : Nat} (h : k ≤ 6) : topI k ≤ 63 := by
  have := pow6 h
  simp only [topI, Int.toNat_natCast]
  omega

set_option maxHeartbeats 1000000 in
theorem implFullBars_any (v1 : Value) (xs : List Int) (c : Int) (w : World) (h1 : Ints w v1 xs) :
    Calls Try.prog 112 #[v1, .int .i64 c] w fun e w' => e = .returned (.tuple #[.int .i64 (fullR xs c).1, .bool (fullR xs c).2]) ∧ Below w.heap.size w w' := by
  obtain ⟨n, ao1, cap1, b1, o1, HN, rfl, ha1, hc1, hn1, hm1, HX⟩ := h1.open_
  clear h1 ha1 hc1
  cases hs : someB xs with
  | false =>
    rw [fullR_no hs]
    go_enter Try.func112, Try.ntmps112
    go_wp2_with (go_at_call 203; refine (isSome_any _ xs _ HX.out).mono ?_; rintro e w1 ⟨rfl, hb⟩)
    go_ret2
    exact ⟨rfl, hb⟩
  | true =>
  have hl6 := (rowB_true (someB_true hs).1).1
  have HL6 := hid hl6
  rw [HN.out] at hl6
  have hw := wrapTop hl6
  have hw1 := hw.1
  have hw2 := hw.2
  have hp := pow6 hl6
  have htop := topI_le hl6
  clear hw
  cases hin : inB c 1 (topI n) with
  | false =>
    rw [fullR_in (by rw [HN.out]; exact hin)]
    go_enter Try.func112, Try.ntmps112
    go_wp2_with (first | (go_at_call 203; refine (isSome_any _ xs _ HX.out).mono ?_; rintro e w1 ⟨rfl, hb⟩) | (go_at_call 151; refine (within_any c 1 (topI n) _).mono ?_; rintro e w' ⟨rfl, rfl⟩))
    go_ret2
    exact ⟨rfl, hb⟩
  | true =>
    rw [fullR_yes hs (by rw [HN.out]; exact hin)]
    have hcr := inB_true hin
    go_enter Try.func112, Try.ntmps112
    go_wp2_with (first | (go_at_call 203; refine (isSome_any _ xs _ HX.out).mono ?_; rintro e w1 ⟨rfl, hb⟩; have HX1 := hid (HX.out.later hb)) | (go_at_call 151; refine (within_any c 1 (topI n) _).mono ?_; rintro e w' ⟨rfl, rfl⟩) | (go_at_call 206; refine (full_any _ xs _ _ HX1.out HL6.out).mono ?_; rintro e w' ⟨rfl, rfl⟩))
    go_ret2
    exact ⟨rfl, hb⟩

set_option maxHeartbeats 1000000 in
theorem specFullBars_any (v1 : Value) (xs : List Int) (c : Int) (w : World) (h1 : Ints w v1 xs) :
    Calls Try.prog 113 #[v1, .int .i64 c] w fun e w' => e = .returned (.tuple #[.int .i64 (fullR xs c).1, .bool (fullR xs c).2]) ∧ Below w.heap.size w w' := by
  obtain ⟨n, ao1, cap1, b1, o1, HN, rfl, ha1, hc1, hn1, hm1, HX⟩ := h1.open_
  clear h1 ha1 hc1
  cases hr : rowB xs with
  | false =>
    rw [fullR_no (by simp [someB, hr])]
    go_enter Try.func113, Try.ntmps113
    go_wp2_with (go_at_call 186; refine (l2Row_any _ xs _ HX.out).mono ?_; rintro e w1 ⟨rfl, rfl⟩)
    go_ret2
    exact ⟨rfl, Below.refl _ _⟩
  | true =>
  by_cases hn0 : n = 0
  · subst hn0
    rw [fullR_no (by simp [someB, HN.out])]
    go_enter Try.func113, Try.ntmps113
    go_wp2_with (go_at_call 186; refine (l2Row_any _ xs _ HX.out).mono ?_; rintro e w1 ⟨rfl, rfl⟩)
    go_ret2
    exact ⟨rfl, Below.refl _ _⟩
  have hz : ((n : Int) == 0) = false := by simpa using hn0
  have hs : someB xs = true := by simp [someB, hr, HN.out]; omega
  have hl6 := (rowB_true hr).1
  have HL6 := hid hl6
  rw [HN.out] at hl6
  have hw := wrapTop hl6
  have hw1 := hw.1
  have hw2 := hw.2
  have hp := pow6 hl6
  have htop := topI_le hl6
  clear hw
  cases hin : inB c 1 (topI n) with
  | false =>
    rw [fullR_in (by rw [HN.out]; exact hin)]
    go_enter Try.func113, Try.ntmps113
    go_wp2_with (first | (go_at_call 186; refine (l2Row_any _ xs _ HX.out).mono ?_; rintro e w1 ⟨rfl, rfl⟩) | (go_at_call 143; refine (l1In_any c 1 (topI n) _).mono ?_; rintro e w' ⟨rfl, rfl⟩))
    go_ret2
    exact ⟨rfl, Below.refl _ _⟩
  | true =>
    rw [fullR_yes hs (by rw [HN.out]; exact hin)]
    have hcr := inB_true hin
    go_enter Try.func113, Try.ntmps113
    go_wp2_with (first | (go_at_call 186; refine (l2Row_any _ xs _ HX.out).mono ?_; rintro e w1 ⟨rfl, rfl⟩) | (go_at_call 143; refine (l1In_any c 1 (topI n) _).mono ?_; rintro e w' ⟨rfl, rfl⟩) | (go_at_call 207; refine (l8Full_any _ xs _ _ HX.out HL6.out).mono ?_; rintro e w' ⟨rfl, rfl⟩))
    go_ret2
    exact ⟨rfl, Below.refl _ _⟩

end Go.Proofs.Ytfgjaefcfmjleaa
