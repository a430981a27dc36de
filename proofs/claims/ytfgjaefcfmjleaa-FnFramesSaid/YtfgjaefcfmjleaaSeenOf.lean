import Derived.Test.YtfgjaefcfmjleaaSeen
import Derived.Test.YtfgjaefcfmjleaaAllS
namespace Go.Proofs.Ytfgjaefcfmjleaa
open Go.RowKit

/-! ## SeenOf -/
def seenR (k : Int) (xs : List (Int × Int)) : List Int × Bool := if drivenB k xs then (seenF xs k.toNat, true) else ([], false)
theorem seenR_no {k : Int} {xs : List (Int × Int)} (h : drivenB k xs = false) : seenR k xs = ([], false) := by simp [seenR, h]
theorem seenR_yes {j : Nat} {xs : List (Int × Int)} (h : drivenB j xs = true) : seenR j xs = (seenF xs j, true) := by simp [seenR, h]
theorem seenR_len (k : Int) (xs : List (Int × Int)) : (seenR k xs).1.length ≤ 1048576 := by
  unfold seenR
  split
  · rename_i h
    obtain ⟨j, rfl, h1, h2⟩ := kNat (drivenB_true h).1
    simp only [length_seenF]
    omega
  · simp

set_option maxHeartbeats 1000000 in
theorem implSeenOf_any (k : Int) (v1 : Value) (xs : List (Int × Int)) (w : World) (h1 : Two w v1 xs) :
    Calls Try.prog 93 #[.int .i64 k, v1] w fun e w' => ∃ v, e = .returned (.tuple #[v, .bool (seenR k xs).2]) ∧ OwnI w' w.heap.size v (seenR k xs).1 ∧ Below w.heap.size w w' := by
  have HX := hid h1
  cases hs : drivenB k xs with
  | false =>
    rw [seenR_no hs]
    go_enter Try.func93, Try.ntmps93
    go_wp2_with (go_at_call 193; refine (isDriven_any _ _ xs _ HX.out).mono ?_; rintro e w1 ⟨rfl, hb⟩)
    go_ret2
    exact ⟨_, rfl, OwnI.nil _ _, hb⟩
  | true =>
    obtain ⟨j, rfl, hj1, hj6⟩ := kNat (drivenB_true hs).1
    rw [seenR_yes hs]
    go_enter Try.func93, Try.ntmps93
    go_wp2_with (first | (go_at_call 193; refine (isDriven_any _ _ xs _ HX.out).mono ?_; rintro e w1 ⟨rfl, hb⟩; have HX1 := hid (HX.out.later hb)) | (go_at_call 194; refine (seen_any j _ xs _ HX1.out hj6).mono ?_; rintro e w2 ⟨v, rfl, ho, hb2⟩; have HO := hid ho; clear ho))
    go_ret2
    exact ⟨_, rfl, HO.out.mono hb.size, hb.trans (hb2.mono hb.size)⟩

set_option maxHeartbeats 1000000 in
theorem specSeenOf_any (k : Int) (v1 : Value) (xs : List (Int × Int)) (w : World) (h1 : Two w v1 xs) :
    Calls Try.prog 94 #[.int .i64 k, v1] w fun e w' => ∃ v, e = .returned (.tuple #[v, .bool (seenR k xs).2]) ∧ OwnI w' w.heap.size v (seenR k xs).1 ∧ Below w.heap.size w w' := by
  have HX := hid h1
  cases hs : drivenB k xs with
  | false =>
    rw [seenR_no hs]
    go_enter Try.func94, Try.ntmps94
    go_wp2_with (go_at_call 195; refine (l8Good_any _ _ xs _ HX.out).mono ?_; rintro e w1 ⟨rfl, hb⟩)
    go_ret2
    exact ⟨_, rfl, OwnI.lit0 _ _ hb.size, hb.alloc hb.size _⟩
  | true =>
    obtain ⟨j, rfl, hj1, hj6⟩ := kNat (drivenB_true hs).1
    rw [seenR_yes hs]
    go_enter Try.func94, Try.ntmps94
    go_wp2_with (first | (go_at_call 195; refine (l8Good_any _ _ xs _ HX.out).mono ?_; rintro e w1 ⟨rfl, hb⟩; have HX1 := hid (HX.out.later hb)) | (go_at_call 196; refine (l8Seen_any j _ xs _ HX1.out hj6).mono ?_; rintro e w2 ⟨v, rfl, ho, hb2⟩; have HO := hid ho; clear ho))
    go_ret2
    exact ⟨_, rfl, HO.out.mono hb.size, hb.trans (hb2.mono hb.size)⟩

end Go.Proofs.Ytfgjaefcfmjleaa
