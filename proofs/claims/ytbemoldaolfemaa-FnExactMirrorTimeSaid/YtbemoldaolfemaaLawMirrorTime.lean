/-
  FnExactMirrorTime: the law's call returns true, whatever its arguments, and leaves what was there.
-/
import Derived.Test.YtbemoldaolfemaaMirTime
namespace Go.Proofs.Ytbemoldaolfemaa
open Go.RowKit

set_option maxRecDepth 100000 in
set_option maxHeartbeats 4000000 in
theorem fnExactMirrorTime_law (a0 : Int) (w : World) :
    Calls Try.prog 11 #[.int .i64 a0] w fun e w' => e = .returned (.bool true) ∧ Below w.heap.size w w' := by
  have hne0 : ((mirR a0).1 != (mirR a0).1) = false := by simp
  have hne1 : ((mirR a0).2 != (mirR a0).2) = false := by simp
  go_enter Try.func11, Try.ntmps11
  have HB0 := hid (Below.refl w.heap.size w)
  go_wp2_with fail
  refine (specMirrorTime_any _ _ ).mono ?_
  rintro e w1 ⟨rfl, hb⟩
  have HB1 := hid (HB0.out.trans (hb.mono HB0.out.size))
  clear hb HB0
  go_wp2_with fail
  refine (implMirrorTime_any _ _ ).mono ?_
  rintro e w2 ⟨rfl, hb⟩
  have HB2 := hid (HB1.out.trans (hb.mono HB1.out.size))
  clear hb HB1
  go_wp2
  go_ret
  exact ⟨rfl, by first | exact HB2.out | simpa using HB2.out⟩

end Go.Proofs.Ytbemoldaolfemaa
