/-
  Least4: LeastOrder and LeastRing of the program.
-/
import Derived.Test.YtgbnoljmmenlbaaLeast3
namespace Go.Proofs.Ytgbnoljmmenlbaa
open Go.RowKit Go.Maps

def lsR (xs : List Int) (ring : Bool) : List Int × Int × Bool := if orderB xs then ((loK (sortO xs) ring (sortO xs).length).1, (loK (sortO xs) ring (sortO xs).length).2, true) else ([], 0, false)
theorem lsR_no {xs : List Int} {ring : Bool} (h : orderB xs = false) : lsR xs ring = ([], 0, false) := by simp [lsR, h]
theorem lsR_yes {xs : List Int} {ring : Bool} (h : orderB xs = true) : lsR xs ring = ((loK (sortO xs) ring (sortO xs).length).1, (loK (sortO xs) ring (sortO xs).length).2, true) := by simp [lsR, h]

set_option maxHeartbeats 1000000 in
theorem leastOrder_all (v1 : Value) (xs : List Int) (ring : Bool) (w : World) (h1 : Ints w v1 xs) :
    Calls Try.prog 30 #[v1, .bool ring] w fun e w' =>
      ∃ v, e = .returned (.tuple #[v, .int .i64 (lsR xs ring).2.1, .bool (lsR xs ring).2.2]) ∧ OwnI w' w.heap.size v (lsR xs ring).1 ∧ Below w.heap.size w w' := by
  cases hs : orderB xs with
  | false =>
    rw [lsR_no hs]
    have HX := hid h1
    have HS := hid hs
    clear h1 hs
    go_enter Try.func30, Try.ntmps30
    go_wp2_with fail
    refine (isOrder_any _ xs _ HX.out).mono ?_
    rintro e w1 ⟨rfl, rfl⟩
    rw [HS.out]
    go_wp2
    go_ret3
    exact ⟨_, rfl, OwnI.nil _ _, Below.refl _ _⟩
  | true =>
    rw [lsR_yes hs]
    exact leastOrder_any v1 xs ring w h1 hs

set_option maxHeartbeats 1000000 in
theorem implLeastOrder_any (v1 : Value) (xs : List Int) (w : World) (h1 : Ints w v1 xs) :
    Calls Try.prog 8 #[v1] w fun e w' =>
      ∃ v, e = .returned (.tuple #[v, .int .i64 (lsR xs false).2.1, .bool (lsR xs false).2.2]) ∧ OwnI w' w.heap.size v (lsR xs false).1 ∧ Below w.heap.size w w' := by
  have HC := hid (leastOrder_all v1 xs false w h1)
  clear h1
  generalize lsR xs false = r at *
  go_enter Try.func8, Try.ntmps8
  go_wp2_with fail
  refine HC.out.mono ?_
  rintro e w1 ⟨v, rfl, ho, hb⟩
  have HO := hid ho
  have HB := hid hb
  clear ho hb
  go_wp2
  go_ret3
  exact ⟨_, rfl, HO.out, HB.out⟩

set_option maxHeartbeats 1000000 in
theorem implLeastRing_any (v1 : Value) (xs : List Int) (w : World) (h1 : Ints w v1 xs) :
    Calls Try.prog 11 #[v1] w fun e w' =>
      ∃ v, e = .returned (.tuple #[v, .int .i64 (lsR xs true).2.1, .bool (lsR xs true).2.2]) ∧ OwnI w' w.heap.size v (lsR xs true).1 ∧ Below w.heap.size w w' := by
  have HC := hid (leastOrder_all v1 xs true w h1)
  clear h1
  generalize lsR xs true = r at *
  go_enter Try.func11, Try.ntmps11
  go_wp2_with fail
  refine HC.out.mono ?_
  rintro e w1 ⟨v, rfl, ho, hb⟩
  have HO := hid ho
  have HB := hid hb
  clear ho hb
  go_wp2
  go_ret3
  exact ⟨_, rfl, HO.out, HB.out⟩
end Go.Proofs.Ytgbnoljmmenlbaa
