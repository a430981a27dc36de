/-
  FnExactApartInMirror: the law's call returns true, whatever its arguments, and leaves what was there.
-/
import Derived.Test.YtepjbcgkjcgfbaaHelp
import Derived.Test.YtepjbcgkjcgfbaaMirTime
import Derived.Test.YtepjbcgkjcgfbaaSame
import Derived.Test.YtepjbcgkjcgfbaaApart
namespace Go.Proofs.Ytepjbcgkjcgfbaa
open Go.RowKit

set_option maxRecDepth 100000 in
set_option maxHeartbeats 4000000 in
theorem fnExactApartInMirror_law (a0 : Int) (w : World) :
    Calls Try.prog 5 #[.int .i64 a0] w fun e w' => e = .returned (.bool true) ∧ Below w.heap.size w w' := by
  have hLn := apartR_len a0
  have hne1 : ((apartR a0).2 != (apartR a0).2) = false := by simp
  go_enter Try.func5, Try.ntmps5
  have HB0 := hid (Below.refl w.heap.size w)
  go_wp2_with fail
  refine (specApartInMirror_any _ _ ).mono ?_
  rintro e w1 ⟨vW, rfl, ho, hb⟩
  have HB1 := hid (HB0.out.trans (hb.mono HB0.out.size))
  clear hb HB0
  have HW1 := hid ho
  clear ho
  go_wp2_with fail
  refine (implApartInMirror_any _ _ ).mono ?_
  rintro e w2 ⟨vG, rfl, ho, hb⟩
  have AWG := hid (own_apart HW1.out ho (Nat.le_refl _))
  have HBxG := hid (HB1.out.size)
  have HW2 := hid (HW1.out.later hb)
  clear HW1
  have HB2 := hid (HB1.out.trans (hb.mono HB1.out.size))
  clear hb HB1
  have HG2 := hid ho
  clear ho
  go_wp2_with fail
  refine (eqIntS_any _ _ (apartR a0).1 (apartR a0).1 _ HG2.out.ints HW2.out.ints).mono ?_
  rintro e w3 ⟨rfl, m, rfl⟩
  have HW3 := hid (HW2.out.drawn m)
  clear HW2
  have HG3 := hid (HG2.out.drawn m)
  clear HG2
  have HB3 := hid (below_drewN HB2.out m)
  clear HB2
  go_wp2_with fail
  refine (markIntS_any _ _ (apartR a0).1 1 _ HG3.out (by omega) (by omega)).mono ?_
  rintro e w4 ⟨rfl, ho, hg⟩
  have HW4 := hid (HW3.out.kept hg AWG.out)
  clear HW3
  have HB4 := hid (HB3.out.grown hg HB3.out.size (fun k hk => Nat.le_trans HBxG.out (World.ownsRow.lt HG3.out k hk).1))
  clear hg HG3 HB3
  have HG4 := hid ho
  clear ho
  go_wp2_with fail
  refine (heldIntS_any _ 1 (apartR a0).1.length _ HG4.out.ints (by omega) (by omega)).mono ?_
  rintro e w5 ⟨rfl, m, rfl⟩
  have HW5 := hid (HW4.out.drawn m)
  clear HW4
  have HG5 := hid (HG4.out.drawn m)
  clear HG4
  have HB5 := hid (below_drewN HB4.out m)
  clear HB4
  go_wp2_with fail
  refine (implApartInMirror_any _ _ ).mono ?_
  rintro e w6 ⟨vJ, rfl, ho, hb⟩
  have HW6 := hid (HW5.out.later hb)
  clear HW5
  have HG6 := hid (HG5.out.later hb)
  clear HG5
  have HB6 := hid (HB5.out.trans (hb.mono HB5.out.size))
  clear hb HB5
  have HJ6 := hid ho
  clear ho
  go_wp2_with fail
  refine (eqIntS_any _ _ (apartR a0).1 (apartR a0).1 _ HJ6.out.ints HW6.out.ints).mono ?_
  rintro e w7 ⟨rfl, m, rfl⟩
  have HW7 := hid (HW6.out.drawn m)
  clear HW6
  have HG7 := hid (HG6.out.drawn m)
  clear HG6
  have HJ7 := hid (HJ6.out.drawn m)
  clear HJ6
  have HB7 := hid (below_drewN HB6.out m)
  clear HB6
  go_wp2_with fail
  refine (heldIntS_any _ 1 (apartR a0).1.length _ HG7.out.ints (by omega) (by omega)).mono ?_
  rintro e w8 ⟨rfl, m, rfl⟩
  have HW8 := hid (HW7.out.drawn m)
  clear HW7
  have HG8 := hid (HG7.out.drawn m)
  clear HG7
  have HJ8 := hid (HJ7.out.drawn m)
  clear HJ7
  have HB8 := hid (below_drewN HB7.out m)
  clear HB7
  go_wp2
  go_ret
  exact ⟨rfl, by first | exact HB8.out | simpa using HB8.out⟩

end Go.Proofs.Ytepjbcgkjcgfbaa
