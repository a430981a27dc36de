import Derived.Test.YtfgjaefcfmjleaaDuty
namespace Go.Proofs.Ytfgjaefcfmjleaa
open Go.RowKit

/-! ## DutyOf -/
def dutyR (k : Int) (xs : List (Int × Int)) : List Int × Bool := if drivenB k xs then (dutyF xs k.toNat, true) else ([], false)
theorem dutyR_no {k : Int} {xs : List (Int × Int)} (h : drivenB k xs = false) : dutyR k xs = ([], false) := by simp [dutyR, h]
theorem dutyR_yes {j : Nat} {xs : List (Int × Int)} (h : drivenB j xs = true) : dutyR j xs = (dutyF xs j, true) := by simp [dutyR, h]
theorem dutyR_len (k : Int) (xs : List (Int × Int)) : (dutyR k xs).1.length ≤ 1048576 := by
  unfold dutyR
  split
  · rename_i h
    obtain ⟨j, rfl, h1, h2⟩ := kNat (drivenB_true h).1
    simp only [length_dutyF]
    omega
  · simp

set_option maxRecDepth 100000 in
set_option maxHeartbeats 1000000 in
theorem implDutyOf_any (k : Int) (v1 : Value) (xs : List (Int × Int)) (w : World) (h1 : Two w v1 xs) :
    Calls Try.prog 97 #[.int .i64 k, v1] w fun e w' => ∃ v, e = .returned (.tuple #[v, .bool (dutyR k xs).2]) ∧ Own7 w' w.heap.size v (dutyR k xs).1 ∧ Below w.heap.size w w' := by
  have HX := hid h1
  cases hs : drivenB k xs with
  | false =>
    rw [dutyR_no hs]
    go_enter Try.func97, Try.ntmps97
    go_wp2_with (go_at_call 193; refine (isDriven_any _ _ xs _ HX.out).mono ?_; rintro e w1 ⟨rfl, hb⟩)
    go_ret2
    exact ⟨_, rfl, Own7.nil _ _, hb⟩
  | true =>
    obtain ⟨j, rfl, hj1, hj6⟩ := kNat (drivenB_true hs).1
    have hl := (frameB_true (drivenB_true hs).2).1
    have HIN := hid (slotsIn_of hj6 (drivenB_true hs).2)
    rw [dutyR_yes hs]
    go_enter Try.func97, Try.ntmps97
    go_wp2_with (first | (go_at_call 193; refine (isDriven_any _ _ xs _ HX.out).mono ?_; rintro e w1 ⟨rfl, hb⟩; have HX1 := hid (HX.out.later hb)) | (go_at_call 199; refine (duty_any j _ xs _ HX1.out hj6 hl HIN.out).mono ?_; rintro e w2 ⟨v, rfl, ho, hb2⟩; have HO := hid ho; clear ho))
    go_ret2
    exact ⟨_, rfl, HO.out.mono hb.size, hb.trans (hb2.mono hb.size)⟩

set_option maxRecDepth 100000 in
set_option maxHeartbeats 1000000 in
theorem specDutyOf_any (k : Int) (v1 : Value) (xs : List (Int × Int)) (w : World) (h1 : Two w v1 xs) :
    Calls Try.prog 98 #[.int .i64 k, v1] w fun e w' => ∃ v, e = .returned (.tuple #[v, .bool (dutyR k xs).2]) ∧ Own7 w' w.heap.size v (dutyR k xs).1 ∧ Below w.heap.size w w' := by
  have HX := hid h1
  cases hs : drivenB k xs with
  | false =>
    rw [dutyR_no hs]
    go_enter Try.func98, Try.ntmps98
    go_wp2_with (go_at_call 195; refine (l8Good_any _ _ xs _ HX.out).mono ?_; rintro e w1 ⟨rfl, hb⟩)
    go_ret2
    exact ⟨_, rfl, Own7.lit0 _ _ hb.size, hb.alloc hb.size _⟩
  | true =>
    obtain ⟨j, rfl, hj1, hj6⟩ := kNat (drivenB_true hs).1
    have hl := (frameB_true (drivenB_true hs).2).1
    have HIN := hid (slotsIn_of hj6 (drivenB_true hs).2)
    rw [dutyR_yes hs]
    go_enter Try.func98, Try.ntmps98
    go_wp2_with (first | (go_at_call 195; refine (l8Good_any _ _ xs _ HX.out).mono ?_; rintro e w1 ⟨rfl, hb⟩; have HX1 := hid (HX.out.later hb)) | (go_at_call 200; refine (l8Duty_any j _ xs _ HX1.out hj6 hl HIN.out).mono ?_; rintro e w2 ⟨v, rfl, ho, hb2⟩; have HO := hid ho; clear ho))
    go_ret2
    exact ⟨_, rfl, HO.out.mono hb.size, hb.trans (hb2.mono hb.size)⟩

end Go.Proofs.Ytfgjaefcfmjleaa
