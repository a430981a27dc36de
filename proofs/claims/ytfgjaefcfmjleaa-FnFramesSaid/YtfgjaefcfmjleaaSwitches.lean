import Derived.Test.YtfgjaefcfmjleaaGhosts2
import Derived.Test.YtfgjaefcfmjleaaBits
namespace Go.Proofs.Ytfgjaefcfmjleaa
open Go.RowKit

/-! ## SwitchesOf -/
def swAt (xs : List (Int × Int)) (i : Nat) : Int := farI (xs.getD i (0,0)).1 (xs.getD ((i+1)%xs.length) (0,0)).1 + farI (xs.getD i (0,0)).2 (xs.getD ((i+1)%xs.length) (0,0)).2
def swTo (xs : List (Int × Int)) : Nat → Int
  | 0 => 0
  | i+1 => swTo xs i + swAt xs i
theorem swTo_range (xs : List (Int × Int)) : ∀ i, 0 ≤ swTo xs i ∧ swTo xs i ≤ 14 * i
  | 0 => by simp [swTo]
  | i+1 => by
    have h := swTo_range xs i
    have h1 := farI_range (xs.getD i (0,0)).1 (xs.getD ((i+1)%xs.length) (0,0)).1
    have h2 := farI_range (xs.getD i (0,0)).2 (xs.getD ((i+1)%xs.length) (0,0)).2
    simp only [swTo, swAt]
    omega
def slotsIn (xs : List (Int × Int)) : Prop := ∀ i, i < xs.length → (0 ≤ (xs.getD i (0,0)).1 ∧ (xs.getD i (0,0)).1 ≤ 127) ∧ (0 ≤ (xs.getD i (0,0)).2 ∧ (xs.getD i (0,0)).2 ≤ 127)
theorem slotsIn_of {k : Nat} {xs : List (Int × Int)} (hk : k ≤ 6) (h : frameB k xs = true) : slotsIn xs := by
  intro i hi
  have hb := (frameB_true h).2 i hi
  simp only [slotB, Bool.and_eq_true] at hb
  have h1 := inB_true hb.1
  have h2 := cellB_true hb.2
  have hp := pow6 hk
  have ht : topI (k : Int) = 2 ^ k - 1 := by simp [topI]
  rw [ht] at h1
  omega
def switchR (k : Int) (xs : List (Int × Int)) : Int × Bool := if drivenB k xs then (swTo xs xs.length, true) else (0, false)
theorem switchR_no {k : Int} {xs : List (Int × Int)} (h : drivenB k xs = false) : switchR k xs = (0, false) := by simp [switchR, h]
theorem switchR_yes {k : Int} {xs : List (Int × Int)} (h : drivenB k xs = true) : switchR k xs = (swTo xs xs.length, true) := by simp [switchR, h]





end Go.Proofs.Ytfgjaefcfmjleaa
