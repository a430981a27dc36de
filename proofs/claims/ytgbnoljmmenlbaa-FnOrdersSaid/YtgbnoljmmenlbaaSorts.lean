import Derived.Shelf.Sort.Plain
import Derived.Shelf.Slices.In.SortNone
import Derived.Sort.OwnSortedInts
import Derived.Test.YtgbnoljmmenlbaaSortLay
import Derived.Test.YtgbnoljmmenlbaaIter
import Derived.Test.YtgbnoljmmenlbaaQuietLaw
namespace Go.Proofs.Ytgbnoljmmenlbaa
open Go.RowKit

/-! ## slices.Sorted(slices.Values(xs)) -/
def sortI (xs : List Int) : List Int := xs.mergeSort fun x y => decide (x ≤ y)
theorem sortI_length (xs : List Int) : (sortI xs).length = xs.length := List.length_mergeSort xs

theorem Sort_any (B : Nat) (v : Value) (xs : List Int) (w : World) (h : OwnI w B v xs) (hl : xs.length ≤ 1048576) (hB : B ≤ w.heap.size) :
    Calls Try.prog 56 #[v] w fun e w' => e = .returned (.tuple #[]) ∧ OwnI w' B v (sortI xs) ∧ Below B w w' := by
  rcases h.2 with ⟨rfl, h0⟩ | ⟨g, cap, cur, rfl, hg, hb, h1, h2, h3, h4⟩
  · have hx : xs = [] := List.length_eq_zero_iff.1 h0
    subst hx
    refine Calls.mono (R := fun e w' => e = .returned (.tuple #[]) ∧ w' = w) (Any.slices_Sort_int_none laysN189 none 0 w) ?_
    rintro e w' ⟨rfl, rfl⟩
    exact ⟨rfl, by simpa [sortI] using h, Below.refl _ _⟩
  · have hgs : g < w.heap.size := (Array.getElem?_eq_some_iff.1 hb).1
    rw [Nat.mul_one] at h4
    refine Calls.mono (Any.slices_Sort_int laysN189 g 0 cap xs w (holds_of_blockI hb h4) hgs (by omega)) ?_
    rintro e w' ⟨rfl, n, os, rfl⟩
    refine ⟨rfl, ?_, (Below.refl _ _).grown (grownBy_sortedI _) hB (fun k hk => by cases hk; exact hg)⟩
    unfold OwnI
    rw [show (sortI xs).length = xs.length from sortI_length xs]
    exact ownsRow_sortedI (sortI_length xs) hg hb h1 h2 h3

theorem Collect_any (Bs : Nat) (sv : Value) (xs : List Int) (hlen : xs.length ≤ 1048576) (w : World) (hBs : Bs < w.heap.size) (hc : w.cell? ⟨Bs, 0, none⟩ = some sv) (hI : Ints w sv xs) :
    Calls Try.prog 55 #[.func (.func 57) #[] #[.pointer (some ⟨Bs, 0, none⟩)]] w fun e W' => ∃ v, e = .returned v ∧ OwnI W' w.heap.size v xs ∧ Below w.heap.size w W' := by
  have HA := hid (callsIn_wide.1 (AppendSeq_in Fence.wide 3 trivial trivial rfl (by omega) Bs sv xs hlen w hBs hc hI))
  clear hc hI
  go_enter Try.func55, Try.ntmps55
  go_wp2_with (go_at_call 63; refine HA.out.mono ?_; rintro e w' ⟨v, rfl, ho, hb⟩; have HO := hid ho; have HB := hid hb; clear ho hb)
  go_ret
  exact ⟨_, rfl, HO.out, HB.out⟩

theorem Sorted_any (Bs : Nat) (sv : Value) (xs : List Int) (hlen : xs.length ≤ 1048576) (w : World) (hBs : Bs < w.heap.size) (hc : w.cell? ⟨Bs, 0, none⟩ = some sv) (hI : Ints w sv xs) :
    Calls Try.prog 47 #[.func (.func 57) #[] #[.pointer (some ⟨Bs, 0, none⟩)]] w fun e W' => ∃ v, e = .returned v ∧ OwnI W' w.heap.size v (sortI xs) ∧ Below w.heap.size w W' := by
  have HA := hid (Collect_any Bs sv xs hlen w hBs hc hI)
  clear hc hI
  go_enter Try.func47, Try.ntmps47
  go_wp2_with (go_at_call 55; refine HA.out.mono ?_; rintro e w' ⟨v, rfl, ho, hb⟩; have HO := hid ho; have HB := hid hb; clear ho hb)
  go_wp2_with (go_at_call 56; refine (Sort_any _ _ _ _ HO.out hlen HB.out.size).mono ?_; rintro e w'' ⟨rfl, ho, hb⟩; have HO2 := hid ho; have HB2 := hid (HB.out.trans hb); clear ho hb)
  go_ret
  exact ⟨_, rfl, HO2.out, HB2.out⟩
end Go.Proofs.Ytgbnoljmmenlbaa
