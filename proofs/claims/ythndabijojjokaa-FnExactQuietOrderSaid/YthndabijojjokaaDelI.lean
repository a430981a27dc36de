import Derived.Shelf.Slices.Delete
import Derived.Sort.OwnSortedInts
import Derived.Test.YthndabijojjokaaDelLay
import Derived.Test.YthndabijojjokaaApp
namespace Go.Proofs.Ythndabijojjokaa
open Go.RowKit

/-! ## slices.Delete of one integer -/
theorem DeleteI_any (B : Nat) (v : Value) (xs : List Int) (i : Nat) (w : World) (h : OwnI w B v xs) (hi : i < xs.length) :
    Calls Try.prog 30 #[v, .int .i64 i, .int .i64 ((i : Int) + 1)] w fun e w' => ∃ v', e = .returned v' ∧ OwnI w' B v' (xs.eraseIdx i) ∧ w.grownBy w' v.ownBlock ∧ v'.ownBlock = v.ownBlock := by
  rcases h.2 with ⟨rfl, h0⟩ | ⟨g, cap, cur, rfl, hg, hb, h1, h2, h3, h4⟩
  · omega
  · have hgs : g < w.heap.size := (Array.getElem?_eq_some_iff.1 hb).1
    rw [Nat.mul_one] at h4
    have hc := Any.slices_Delete_int laysD23 g 0 cap i (i+1) xs w (holds_of_blockI hb h4) h1 h2 (by omega) (by omega)
    rw [show (((i + 1 : Nat)) : Int) = (i : Int) + 1 by omega] at hc
    refine Calls.mono hc ?_
    rintro e w' ⟨rfl, q, rfl⟩
    have hgrow : ∀ (u : World), u = Go.Sort.grow u #[] := fun u => by simp [Go.Sort.grow]
    have hlen : (xs.take i ++ xs.drop (i+1) ++ List.replicate (i+1-i) (0 : Int)).length = xs.length := by simp; omega
    have her : xs.take i ++ xs.drop (i+1) = xs.eraseIdx i := (List.eraseIdx_eq_take_drop_succ xs i).symm
    rw [hgrow (Go.Sort.putRow _ _ _ _ _)]
    refine ⟨_, rfl, ?_, grownBy_sortedI _, rfl⟩
    have hle : (xs.eraseIdx i).length = xs.length - (i + 1 - i) := by rw [List.length_eraseIdx]; simp [hi]
    refine ⟨by simp, .inr ⟨g, cap, _, by rw [hle], hg, heap_sortedI _ hb, by omega, h2, by simp [Go.Sort.putCells, h3], ?_⟩⟩
    have ht := take_putCellsI cur (xs.take i ++ xs.drop (i+1) ++ List.replicate (i+1-i) (0 : Int)) (by rw [hlen, h3]; omega)
    rw [hlen] at ht
    have ht2 := congrArg (List.take (xs.eraseIdx i).length) ht
    rw [List.take_take, Nat.min_eq_left (by omega)] at ht2
    rw [Nat.mul_one, ht2, her, List.map_append, List.take_append_of_le_length (by simp), List.take_of_length_le (by simp)]
end Go.Proofs.Ythndabijojjokaa
