/-
  FnExactChangesOf: the law's call returns true, whatever its arguments, and leaves what was there.
-/
import Derived.Test.YtepjbcgkjcgfbaaHelp
import Derived.Test.YtepjbcgkjcgfbaaChanges
namespace Go.Proofs.Ytepjbcgkjcgfbaa
open Go.RowKit

set_option maxRecDepth 100000 in
set_option maxHeartbeats 4000000 in
theorem fnExactChangesOf_law (v : Value) (xs : List Int) (w : World) (hx : Ints w v xs) :
    Calls Try.prog 6 #[v] w fun e w' => e = .returned (.bool true) ∧ Below w.heap.size w w' := by
  have hne0 : ((changesR xs).1 != (changesR xs).1) = false := by simp
  have hne1 : ((changesR xs).2 != (changesR xs).2) = false := by simp
  have hlen : ∃ ao cap, v = .slice ao xs.length cap := by obtain ⟨ao, cap, b, o, rfl, _⟩ := hx; exact ⟨ao, cap, rfl⟩
  obtain ⟨ao, cap, rfl⟩ := hlen
  have HX := hid hx
  clear hx
  by_cases hbig : 1048576 < xs.length
  · go_enter Try.func6, Try.ntmps6
    go_wp2
    go_ret
    exact ⟨rfl, Below.refl _ _⟩
  go_enter Try.func6, Try.ntmps6
  have HB0 := hid (Below.refl w.heap.size w)
  go_wp2_with fail
  refine (toIntS_any _ xs _ (HX.out.later HB0.out) (by omega)).mono ?_
  rintro e w1 ⟨vU, rfl, ho, hb⟩
  have HB1 := hid (HB0.out.trans (hb.mono HB0.out.size))
  clear hb HB0
  have HU1 := hid ho
  clear ho
  go_wp2_with fail
  refine (specChangesOf_any _ xs _ HU1.out.ints).mono ?_
  rintro e w2 ⟨rfl, hb⟩
  have HU2 := hid (HU1.out.later hb)
  clear HU1
  have HB2 := hid (HB1.out.trans (hb.mono HB1.out.size))
  clear hb HB1
  clear HU2
  go_wp2_with fail
  refine (toIntS_any _ xs _ (HX.out.later HB2.out) (by omega)).mono ?_
  rintro e w3 ⟨vX, rfl, ho, hb⟩
  have HB3 := hid (HB2.out.trans (hb.mono HB2.out.size))
  clear hb HB2
  have HX3 := hid ho
  clear ho
  go_wp2_with fail
  refine (implChangesOf_any _ xs _ HX3.out.ints).mono ?_
  rintro e w4 ⟨rfl, hb⟩
  have HX4 := hid (HX3.out.later hb)
  clear HX3
  have HB4 := hid (HB3.out.trans (hb.mono HB3.out.size))
  clear hb HB3
  go_wp2_with fail
  refine (toIntS_any _ xs _ (HX.out.later HB4.out) (by omega)).mono ?_
  rintro e w5 ⟨vY, rfl, ho, hb⟩
  have HX5 := hid (HX4.out.later hb)
  clear HX4
  have HB5 := hid (HB4.out.trans (hb.mono HB4.out.size))
  clear hb HB4
  have HY5 := hid ho
  clear ho
  go_wp2_with fail
  refine (eqIntS_any _ _ xs xs _ HX5.out.ints HY5.out.ints).mono ?_
  rintro e w6 ⟨rfl, m, rfl⟩
  have HX6 := hid (HX5.out.drawn m)
  clear HX5
  have HY6 := hid (HY5.out.drawn m)
  clear HY5
  have HB6 := hid (below_drewN HB5.out m)
  clear HB5
  clear HY6
  go_wp2
  go_ret
  exact ⟨rfl, by first | exact HB6.out | simpa using HB6.out⟩

end Go.Proofs.Ytepjbcgkjcgfbaa
