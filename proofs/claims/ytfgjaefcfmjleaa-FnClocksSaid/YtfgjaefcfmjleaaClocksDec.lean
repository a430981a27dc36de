import Derived.Test.YtfgjaefcfmjleaaMirTime
namespace Go.Proofs.Ytfgjaefcfmjleaa
open Go.RowKit

/-! ## Times in mirrors and turned, reckoned -/
def backB (f : Int → Int × Bool) (t : Nat) : Bool := match f (t : Int) with
  | (u, true) => decide (0 ≤ u) && decide (u ≤ 1439) && decide (f u = ((t : Int), true))
  | (_, false) => true
theorem mir_back : (List.range 1440).all (backB mirTime) = true := by decide +kernel
theorem tur_back : (List.range 1440).all (backB turTime) = true := by decide +kernel
theorem row_back : (List.range 1440).all (fun t => decide (timeOf (rowT (t : Int)) = ((t : Int), true))) = true := by decide +kernel

end Go.Proofs.Ytfgjaefcfmjleaa
