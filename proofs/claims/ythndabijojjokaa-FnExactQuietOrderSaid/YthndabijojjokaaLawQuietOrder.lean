/-
  FnExactQuietOrder: the law's call returns true, whatever its arguments, and leaves what was there.
-/
import Derived.Test.YthndabijojjokaaHelp
import Derived.Test.YthndabijojjokaaQuietSpec
namespace Go.Proofs.Ythndabijojjokaa
open Go.RowKit

set_option maxRecDepth 100000 in
set_option maxHeartbeats 4000000 in
theorem fnExactQuietOrder_law (v : Value) (xs : List Int) (w : World) (hx : Ints w v xs) :
    Calls Try.prog 3 #[v] w fun e w' => e = .returned (.bool true) ∧ Below w.heap.size w w' := by
  have hLn := quietR_len xs
  have hne1 : ((quietR xs).2.1 != (quietR xs).2.1) = false := by simp
  have hne2 : ((quietR xs).2.2 != (quietR xs).2.2) = false := by simp
  have hlen : ∃ ao cap, v = .slice ao xs.length cap := by obtain ⟨ao, cap, b, o, rfl, _⟩ := hx; exact ⟨ao, cap, rfl⟩
  obtain ⟨ao, cap, rfl⟩ := hlen
  have HX := hid hx
  clear hx
  by_cases hbig : 1048576 < xs.length
  · go_enter Try.func3, Try.ntmps3
    go_wp2
    go_ret
    exact ⟨rfl, Below.refl _ _⟩
  go_enter Try.func3, Try.ntmps3
  have HB0 := hid (Below.refl w.heap.size w)
  go_wp2_with fail
  refine (toIntS_any _ xs _ (HX.out.later HB0.out) (by omega)).mono ?_
  rintro e w1 ⟨vU, rfl, ho, hb⟩
  have HB1 := hid (HB0.out.trans (hb.mono HB0.out.size))
  clear hb HB0
  have HU1 := hid ho
  clear ho
  go_wp2_with fail
  refine (specQuietOrder_any _ xs _ HU1.out.ints).mono ?_
  rintro e w2 ⟨vW, rfl, ho, hb⟩
  have HU2 := hid (HU1.out.later hb)
  clear HU1
  have HB2 := hid (HB1.out.trans (hb.mono HB1.out.size))
  clear hb HB1
  have HW2 := hid ho
  clear ho
  clear HU2
  go_wp2_with fail
  refine (toIntS_any _ xs _ (HX.out.later HB2.out) (by omega)).mono ?_
  rintro e w3 ⟨vX, rfl, ho, hb⟩
  have AWX := hid (own_apart HW2.out ho (Nat.le_refl _))
  have HBxX := hid (HB2.out.size)
  have HW3 := hid (HW2.out.later hb)
  clear HW2
  have HB3 := hid (HB2.out.trans (hb.mono HB2.out.size))
  clear hb HB2
  have HX3 := hid ho
  clear ho
  go_wp2_with fail
  refine (implQuietOrder_any _ xs _ HX3.out.ints).mono ?_
  rintro e w4 ⟨vG, rfl, ho, hb⟩
  have AWG := hid (own_apart HW3.out ho (Nat.le_refl _))
  have AGX := hid (own_apart' HX3.out ho (Nat.le_refl _))
  have HBxG := hid (HB3.out.size)
  have HW4 := hid (HW3.out.later hb)
  clear HW3
  have HX4 := hid (HX3.out.later hb)
  clear HX3
  have HB4 := hid (HB3.out.trans (hb.mono HB3.out.size))
  clear hb HB3
  have HG4 := hid ho
  clear ho
  go_wp2_with fail
  refine (eqIntS_any _ _ (quietR xs).1 (quietR xs).1 _ HG4.out.ints HW4.out.ints).mono ?_
  rintro e w5 ⟨rfl, m, rfl⟩
  have HW5 := hid (HW4.out.drawn m)
  clear HW4
  have HX5 := hid (HX4.out.drawn m)
  clear HX4
  have HG5 := hid (HG4.out.drawn m)
  clear HG4
  have HB5 := hid (below_drewN HB4.out m)
  clear HB4
  go_wp2_with fail
  refine (toIntS_any _ xs _ (HX.out.later HB5.out) (by omega)).mono ?_
  rintro e w6 ⟨vY, rfl, ho, hb⟩
  have HW6 := hid (HW5.out.later hb)
  clear HW5
  have HX6 := hid (HX5.out.later hb)
  clear HX5
  have HG6 := hid (HG5.out.later hb)
  clear HG5
  have HB6 := hid (HB5.out.trans (hb.mono HB5.out.size))
  clear hb HB5
  have HY6 := hid ho
  clear ho
  go_wp2_with fail
  refine (eqIntS_any _ _ xs xs _ HX6.out.ints HY6.out.ints).mono ?_
  rintro e w7 ⟨rfl, m, rfl⟩
  have HW7 := hid (HW6.out.drawn m)
  clear HW6
  have HX7 := hid (HX6.out.drawn m)
  clear HX6
  have HG7 := hid (HG6.out.drawn m)
  clear HG6
  have HY7 := hid (HY6.out.drawn m)
  clear HY6
  have HB7 := hid (below_drewN HB6.out m)
  clear HB6
  clear HY7
  go_wp2_with fail
  refine (markIntS_any _ _ xs 1 _ HX7.out (by omega) (by omega)).mono ?_
  rintro e w8 ⟨rfl, ho, hg⟩
  have HW8 := hid (HW7.out.kept hg AWX.out)
  clear HW7
  have HG8 := hid (HG7.out.kept hg AGX.out)
  clear HG7
  have HB8 := hid (HB7.out.grown hg HB7.out.size (fun k hk => Nat.le_trans HBxX.out (World.ownsRow.lt HX7.out k hk).1))
  clear hg HX7 HB7
  have HX8 := hid ho
  clear ho
  clear HX8
  go_wp2_with fail
  refine (eqIntS_any _ _ (quietR xs).1 (quietR xs).1 _ HG8.out.ints HW8.out.ints).mono ?_
  rintro e w9 ⟨rfl, m, rfl⟩
  have HW9 := hid (HW8.out.drawn m)
  clear HW8
  have HG9 := hid (HG8.out.drawn m)
  clear HG8
  have HB9 := hid (below_drewN HB8.out m)
  clear HB8
  go_wp2_with fail
  refine (markIntS_any _ _ (quietR xs).1 1 _ HG9.out (by omega) (by omega)).mono ?_
  rintro e w10 ⟨rfl, ho, hg⟩
  have HW10 := hid (HW9.out.kept hg AWG.out)
  clear HW9
  have HB10 := hid (HB9.out.grown hg HB9.out.size (fun k hk => Nat.le_trans HBxG.out (World.ownsRow.lt HG9.out k hk).1))
  clear hg HG9 HB9
  have HG10 := hid ho
  clear ho
  go_wp2_with fail
  refine (heldIntS_any _ 1 (quietR xs).1.length _ HG10.out.ints (by omega) (by omega)).mono ?_
  rintro e w11 ⟨rfl, m, rfl⟩
  have HW11 := hid (HW10.out.drawn m)
  clear HW10
  have HG11 := hid (HG10.out.drawn m)
  clear HG10
  have HB11 := hid (below_drewN HB10.out m)
  clear HB10
  go_wp2_with fail
  refine (toIntS_any _ xs _ (HX.out.later HB11.out) (by omega)).mono ?_
  rintro e w12 ⟨vZ, rfl, ho, hb⟩
  have HW12 := hid (HW11.out.later hb)
  clear HW11
  have HG12 := hid (HG11.out.later hb)
  clear HG11
  have HB12 := hid (HB11.out.trans (hb.mono HB11.out.size))
  clear hb HB11
  have HZ12 := hid ho
  clear ho
  go_wp2_with fail
  refine (implQuietOrder_any _ xs _ HZ12.out.ints).mono ?_
  rintro e w13 ⟨vJ, rfl, ho, hb⟩
  have HW13 := hid (HW12.out.later hb)
  clear HW12
  have HG13 := hid (HG12.out.later hb)
  clear HG12
  have HZ13 := hid (HZ12.out.later hb)
  clear HZ12
  have HB13 := hid (HB12.out.trans (hb.mono HB12.out.size))
  clear hb HB12
  have HJ13 := hid ho
  clear ho
  clear HZ13
  go_wp2_with fail
  refine (eqIntS_any _ _ (quietR xs).1 (quietR xs).1 _ HJ13.out.ints HW13.out.ints).mono ?_
  rintro e w14 ⟨rfl, m, rfl⟩
  have HW14 := hid (HW13.out.drawn m)
  clear HW13
  have HG14 := hid (HG13.out.drawn m)
  clear HG13
  have HJ14 := hid (HJ13.out.drawn m)
  clear HJ13
  have HB14 := hid (below_drewN HB13.out m)
  clear HB13
  go_wp2_with fail
  refine (heldIntS_any _ 1 (quietR xs).1.length _ HG14.out.ints (by omega) (by omega)).mono ?_
  rintro e w15 ⟨rfl, m, rfl⟩
  have HW15 := hid (HW14.out.drawn m)
  clear HW14
  have HG15 := hid (HG14.out.drawn m)
  clear HG14
  have HJ15 := hid (HJ14.out.drawn m)
  clear HJ14
  have HB15 := hid (below_drewN HB14.out m)
  clear HB14
  go_wp2
  go_ret
  exact ⟨rfl, by first | exact HB15.out | simpa using HB15.out⟩

end Go.Proofs.Ythndabijojjokaa
