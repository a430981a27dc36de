import Derived.Test.YtgbnoljmmenlbaaDraw5
namespace Go.Proofs.Ytgbnoljmmenlbaa
open Go.RowKit

/-! ## The draws over codes -/
theorem grown_new {w w1 w' : World} {B : Nat} (hb : Below B w w1) (hg : w1.grownBy w' (some w.heap.size)) (h1 : B = w.heap.size) : Below B w w' := by
  subst h1
  exact hb.grown hg hb.size (fun k hk => by cases hk; exact Nat.le_refl _)
/-- among, over the head of a literal laid before the bound was drawn. -/
theorem among_cut (g a : Nat) (cs : List Int) (w wp : World) (k n m : Nat) (hg : (w.alloc (.cells (cs.map (Value.int .i64)).toArray 3)).grownBy wp (some g)) (h : Cur wp g a) (ha : a ≤ 1000000) (hk : w.heap.size = k) (hgk : g < k) (hn : cs.length = n) (hm : 0 < m) (hmn : m ≤ n) (hl2 : cs.length ≤ 1000) :
    Calls Try.prog 44 #[.pointer (some ⟨g, 0, none⟩), .slice (some ⟨k, 0, none⟩) m n] wp fun e w' => ∃ r : Int, e = .returned (.int .i64 r) ∧ r ∈ cs ∧ Cur w' g (a+2) ∧ wp.grownBy w' (some g) := by
  subst hk hn
  have ho := own_keep (own_lit w cs hl2) hg hgk
  have hc : ∀ i, i < cs.length → wp.cell? ⟨w.heap.size, 0+i, none⟩ = some (.int .i64 (cs.getD i 0)) := fun i hi => by rw [Nat.zero_add]; exact ho.cell rfl hi
  have hb : w.heap.size < wp.heap.size := by have := hg.size; simp at this; omega
  have ht := Ints.take hc hb rfl (Nat.le_refl _) (by omega) hmn
  refine (among_any g a _ (cs.take m) _ h ha ht (.inr (by simp [Value.ownBlock]; omega)) (by simp; omega) (by simp; omega)).mono fun e w' ⟨r, h1, h2, h3, h4⟩ => ⟨r, h1, List.mem_of_mem_take h2, h3, h4⟩









end Go.Proofs.Ytgbnoljmmenlbaa
