import Derived.Test.YtfgjaefcfmjleaaRows
import Derived.Test.YtfgjaefcfmjleaaTwo
import Derived.WalkKit
import Derived.WalkSpells
import Derived.WalkLawsBesides
import Derived.Deep.QuietTactic
import Derived.BigQuiet
import Derived.Deep.RegionWith
import Derived.Handy
namespace Go.Proofs.Ytfgjaefcfmjleaa
open Go.RowKit

/-! ## The laws' helpers for []Slot -/
/-- Are two slots one? -/
def eqSl (p q : Int × Int) : Bool := decide (p = q)
def szS (n : Int) (xs : List (Int × Int)) : Int := if n - xs.length < 0 then -1 else n - xs.length

theorem szS_neg {n : Int} {xs : List (Int × Int)} (h : n < xs.length) : szS n xs < 0 := by unfold szS; split <;> omega
theorem szS_nonneg {n : Int} {xs : List (Int × Int)} (h : ¬ n < xs.length) : ¬ szS n xs < 0 := by unfold szS; split <;> omega



theorem infoSlot : (Try.prog.info? 108).map (fun i => (i.zero, i.size, i.bytes)) = some (some (.agg #[.int .i64 0, .int .i64 0]), 2, 16) := by kernel_rfl

theorem made2 {e : TypeId} {w : World} {B g n cap : Nat} (h : w.ownsRow B e 2 (.slice (some ⟨g, 0, none⟩) n cap) n (madeCells (Value.agg #[.int .i64 0, .int .i64 0]).cells (n * 2)).toList) : Own2 e w B (.slice (some ⟨g, 0, none⟩) n cap) (List.replicate n (0, 0)) := by
  unfold Own2
  rw [List.length_replicate]
  have e2 : (madeCells (Value.agg #[.int .i64 0, .int .i64 0]).cells (n * 2)).toList = flat2 (List.replicate n (0, 0)) := by
    apply List.ext_getElem?
    intro i
    have hl : (flat2 (List.replicate n ((0 : Int), (0 : Int)))).length = 2 * n := by rw [length_flat2, List.length_replicate]
    have hz : ∀ j, (List.replicate n ((0 : Int), (0 : Int))).getD j (0, 0) = (0, 0) := fun j => by
      by_cases hj : j < n <;> simp [List.getD, hj]
    by_cases hi : i < n * 2
    · have e3 : (madeCells (Value.agg #[.int .i64 0, .int .i64 0]).cells (n * 2)).toList[i]? = some (.int .i64 0) := by
        simp only [madeCells, Array.getElem?_toList, Array.getElem?_map]
        rcases Nat.mod_two_eq_zero_or_one i with h | h <;> simp [hi, h, Value.cells]
      rw [e3]
      obtain ⟨j, hj⟩ : ∃ j, i = 2 * j ∨ i = 2 * j + 1 := ⟨i / 2, by omega⟩
      have := flat2_get (ps := List.replicate n ((0 : Int), (0 : Int))) (i := j) (by simp; omega)
      rw [hz] at this
      rcases hj with rfl | rfl
      · exact this.1.symm
      · exact this.2.symm
    · rw [List.getElem?_eq_none (by simp [madeCells]; omega), List.getElem?_eq_none (by omega)]
  rw [← e2]
  exact h

theorem set_copy2 {xs : List (Int × Int)} {n k : Nat} {x : Int × Int} (hn : xs.length = n) (h : k < n) (e : xs.getD k (0,0) = x) : (xs.take k ++ List.replicate (n - k) (0, 0)).set k x = xs.take (k+1) ++ List.replicate (n - (k+1)) (0, 0) := by
  subst hn
  rw [List.set_append_right _ _ (by rw [List.length_take]; omega), List.length_take, Nat.min_eq_left (by omega), Nat.sub_self, take_snoc2 h e,
    show xs.length - k = (xs.length - (k+1)) + 1 from by omega, List.replicate_succ, List.set_cons_zero, List.append_assoc]
  rfl





end Go.Proofs.Ytfgjaefcfmjleaa
