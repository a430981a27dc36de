import Derived.Test.YtnhdginbhecgaaaHelp
import Derived.Test.YtnhdginbhecgaaaCode
namespace Go.Proofs.Ytnhdginbhecgaaa
open Go.RowKit

set_option maxHeartbeats 1000000 in
theorem fnExactIsCode_law (v : Value) (xs : List Int) (w : World) (hx : Ints w v xs) :
    Calls Try.prog 4 #[v] w fun e w' => e = .returned (.bool true) ∧ Below w.heap.size w w' := by
  have hlen : ∃ ao cap, v = .slice ao xs.length cap := by obtain ⟨ao, cap, b, o, rfl, _⟩ := hx; exact ⟨ao, cap, rfl⟩
  obtain ⟨ao, cap, rfl⟩ := hlen
  have HX := hid hx
  clear hx
  by_cases hbig : 1048576 < xs.length
  · go_enter Try.func4, Try.ntmps4
    go_wp2
    go_ret
    exact ⟨rfl, Below.refl _ _⟩
  · go_enter Try.func4, Try.ntmps4
    go_wp2_with fail
    refine (toIntS_any _ xs _ HX.out (by omega)).mono ?_
    rintro e w1 ⟨v1, rfl, ho1, hb1⟩
    have HO1 := hid ho1
    have HX1 := hid (HX.out.later hb1)
    clear ho1
    go_wp2_with fail
    refine (specIsCode_any _ xs _ HO1.out.ints).mono ?_
    rintro e w2 ⟨rfl, m2, rfl⟩
    go_wp2_with fail
    refine (toIntS_any _ xs _ (HX1.out.drawn m2) (by omega)).mono ?_
    rintro e w3 ⟨v3, rfl, ho3, hb3⟩
    have HO3 := hid ho3
    have HX3 := hid ((HX1.out.drawn m2).later hb3)
    clear ho3
    go_wp2_with fail
    refine (IsCode_any _ xs _ HO3.out.ints).mono ?_
    rintro e w4 ⟨rfl, rfl⟩
    have hne : (codeB xs != codeB xs) = false := by simp
    go_wp2_with fail
    refine (toIntS_any _ xs _ HX3.out (by omega)).mono ?_
    rintro e w5 ⟨v5, rfl, ho5, hb5⟩
    have HO5 := hid ho5
    have HX5 := hid (HO3.out.ints.later hb5)
    clear ho5
    go_wp2_with fail
    refine (eqIntS_any _ _ xs xs _ HX5.out HO5.out.ints).mono ?_
    rintro e w6 ⟨rfl, m6, rfl⟩
    go_wp2
    go_ret
    refine ⟨rfl, below_drewN (hb1.trans ((below_drewN (Below.refl _ _) m2).trans ((hb3.mono ?_).trans (hb5.mono ?_)))) m6⟩
    · exact hb1.size
    · exact Nat.le_trans hb1.size hb3.size
end Go.Proofs.Ytnhdginbhecgaaa
