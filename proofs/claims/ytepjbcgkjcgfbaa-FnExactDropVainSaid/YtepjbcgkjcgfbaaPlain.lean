import Derived.Test.YtepjbcgkjcgfbaaRows1
import Derived.Deep.RegionHeld3
namespace Go.Proofs.Ytepjbcgkjcgfbaa
open Go.RowKit

/-! ## PlainFrame -/
theorem wpList_appendS {ops : Array Oper} {rest : List Oper} {o : Oper} {a : Act} {Q : Exit → Act → World → Prop} (w : World) (hgd : o.guard = none) (s x : Operand)
    (ho : o.op = .call { callee := .builtin .append, args := #[s, x], argTypes := #[41, 41] })
    (B : Nat) (v : Value) (xs : List (Int × Int)) (hown : Own2 60 w B v xs) (hs : a.eval s = v) (y z : Int) (hx : a.eval x = .slice (some ⟨w.heap.size, 0, none⟩) 1 1) (hlen : xs.length ≤ 1099511627776) (hB : B ≤ w.heap.size)
    (h : ∀ v' w', Own2 60 w' B v' (xs ++ [(y, z)]) → w.grownBy w' v.ownBlock → Below B w w' → wpList Try.prog ops Q rest (a.put o.dst v') w') :
    wpList Try.prog ops Q (o :: rest) a (w.alloc (.cells #[.int .i64 y, .int .i64 z] 60)) := by
  obtain ⟨i0, hi, hz0, hz1, hz2⟩ := info_parts infoSlot
  refine wpList_append_own _ hgd s x 41 ho B 60 i0 (.agg #[.int .i64 0, .int .i64 0]) 2 16 Try.underlying41 hi hz0 hz1 hz2 rfl (by decide) v xs.length (flat2 xs) hs (World.ownsRow.alloc hown _)
    ⟨w.heap.size, 0, none⟩ 1 1 [.int .i64 y, .int .i64 z] hx rfl ?_ ?_ ?_ ?_ ?_ ?_
  · intro j u hj
    match j, hj with
    | 0, hj => simp at hj; subst hj; simp [Addr.add, go_sem]
    | 1, hj => simp at hj; subst hj; simp [Addr.add, go_sem]
  · intro u hu; simp at hu; rcases hu with rfl | rfl <;> rfl
  · unfold maxLen; omega
  · omega
  · simp; omega
  · intro v' w' h1 h2 h3
    have hg : w.grownBy w' v.ownBlock := grown_trans (World.grownBy_alloc w _ _) h2
    refine h v' w' ?_ hg ((Below.refl _ _).grown hg hB (fun k hk => (World.ownsRow.lt hown k hk).1))
    unfold Own2
    rw [List.length_append, flat2_append]
    exact h1

theorem step_appendS {ops : Array Oper} {o : Oper} {a : Act} {K : Act → World → Prop} {Q : Exit → Act → World → Prop} {E : Prop} (w : World) (hgd : o.guard = none) (s x : Operand)
    (ho : o.op = .call { callee := .builtin .append, args := #[s, x], argTypes := #[41, 41] })
    (B : Nat) (v : Value) (xs : List (Int × Int)) (hown : Own2 60 w B v xs) (hs : a.eval s = v) (y z : Int) (hx : a.eval x = .slice (some ⟨w.heap.size, 0, none⟩) 1 1) (hlen : xs.length ≤ 1099511627776) (hB : B ≤ w.heap.size)
    (h : ∀ v' w', Own2 60 w' B v' (xs ++ [(y, z)]) → Below B w w' → K (a.put o.dst v') w') :
    if Region.wanted o (yielded ops a.tmps) = true then Oper.wp Try.prog o a (w.alloc (.cells #[.int .i64 y, .int .i64 z] 60)) K Q else E := by
  have hw : Region.wanted o (yielded ops a.tmps) = true := by simp [Region.wanted, hgd]
  rw [if_pos hw]
  obtain ⟨i0, hi, hz0, hz1, hz2⟩ := info_parts infoSlot
  refine wp_append_own _ s x 41 ho B 60 i0 (.agg #[.int .i64 0, .int .i64 0]) 2 16 Try.underlying41 hi hz0 hz1 hz2 rfl (by decide) v xs.length (flat2 xs) hs (World.ownsRow.alloc hown _)
    ⟨w.heap.size, 0, none⟩ 1 1 [.int .i64 y, .int .i64 z] hx rfl ?_ ?_ ?_ ?_ ?_ ?_
  · intro j u hj
    match j, hj with
    | 0, hj => simp at hj; subst hj; simp [Addr.add, go_sem]
    | 1, hj => simp at hj; subst hj; simp [Addr.add, go_sem]
  · intro u hu; simp at hu; rcases hu with rfl | rfl <;> rfl
  · unfold maxLen; omega
  · omega
  · simp; omega
  · intro v' w' h1 h2 h3
    have hg : w.grownBy w' v.ownBlock := grown_trans (World.grownBy_alloc w _ _) h2
    refine h v' w' ?_ ((Below.refl _ _).grown hg hB (fun k hk => (World.ownsRow.lt hown k hk).1))
    unfold Own2
    rw [List.length_append, flat2_append]
    exact h1

def plainTo (xs : List Int) (i : Nat) : List (Int × Int) := ((List.range i).filter fun j => xs.getD j 0 != 0).map fun j : Nat => ((2 : Int) ^ j, xs.getD j 0)
theorem plainTo_yes {xs : List Int} {k : Nat} (h : (xs.getD k 0 != 0) = true) : plainTo xs (k+1) = plainTo xs k ++ [((2 : Int) ^ k, xs.getD k 0)] := by
  unfold plainTo
  rw [List.range_succ, List.filter_append, List.map_append]
  simp only [List.filter_cons, h, if_true, List.filter_nil, List.map_cons, List.map_nil]
theorem plainTo_no {xs : List Int} {k : Nat} (h : (xs.getD k 0 != 0) = false) : plainTo xs (k+1) = plainTo xs k := by
  unfold plainTo
  rw [List.range_succ, List.filter_append, List.map_append]
  simp only [List.filter_cons, h, Bool.false_eq_true, if_false, List.filter_nil, List.map_nil, List.append_nil]
theorem plainTo_len (xs : List Int) (k : Nat) : (plainTo xs k).length ≤ k := by
  unfold plainTo
  rw [List.length_map]
  exact Nat.le_trans (List.length_filter_le _ _) (by simp)
def plainR (xs : List Int) : List (Int × Int) × Bool := if someB xs then (plainTo xs xs.length, true) else ([], false)
theorem plainR_no {xs : List Int} (h : someB xs = false) : plainR xs = ([], false) := by simp [plainR, h]
theorem plainR_yes {xs : List Int} (h : someB xs = true) : plainR xs = (plainTo xs xs.length, true) := by simp [plainR, h]
theorem plainR_len (xs : List Int) : (plainR xs).1.length ≤ 1048576 := by
  unfold plainR
  split
  · rename_i h
    have := (rowB_true (someB_true h).1).1
    have := plainTo_len xs xs.length
    simp only
    omega
  · simp



end Go.Proofs.Ytepjbcgkjcgfbaa
