import Derived.Test.YthndabijojjokaaQuietLaw
import Derived.Test.YthndabijojjokaaClone
import Derived.Deep.AppendLies
namespace Go.Proofs.Ythndabijojjokaa
open Go.RowKit

/-! ## A row of rows of integers that the call owns -/
/-- All blocks lie from B on and below E; no inner row lies in the outer row's block. -/
def RowsI (w : World) (B E : Nat) (v : Value) (ll : List (List Int)) : Prop :=
  ∃ vals : List Value, vals.length = ll.length ∧ w.ownsRow B 22 1 v ll.length vals ∧ (∀ k, v.ownBlock = some k → k < E) ∧
    ∀ i, i < ll.length → OwnI w B (vals.getD i (.slice none 0 0)) (ll.getD i []) ∧ ((vals.getD i (.slice none 0 0)).ownBlock = none ∨ (vals.getD i (.slice none 0 0)).ownBlock ≠ v.ownBlock) ∧
      ∀ k, (vals.getD i (.slice none 0 0)).ownBlock = some k → k < E
theorem OwnI.blk {w : World} {B : Nat} {v : Value} {xs : List Int} (h : OwnI w B v xs) : ∀ k, v.ownBlock = some k → B ≤ k ∧ k < w.heap.size := fun k hk => World.ownsRow.lt h k hk
theorem RowsI.kept {w w' : World} {B E : Nat} {v : Value} {ll : List (List Int)} {row : Option Nat} (h : RowsI w B E v ll) (hg : w.grownBy w' row) (hr : ∀ k, row = some k → k < B ∨ E ≤ k) : RowsI w' B E v ll := by
  obtain ⟨vals, h1, h2, h3, h4⟩ := h
  have key : ∀ u : Value, (∀ k, u.ownBlock = some k → B ≤ k) → (∀ k, u.ownBlock = some k → k < E) → (u.ownBlock = none ∨ u.ownBlock ≠ row) := by
    intro u a1 a2
    cases hu : u.ownBlock with
    | none => exact .inl rfl
    | some k =>
      right
      intro e
      have := a1 k hu
      have := a2 k hu
      have := hr k e.symm
      omega
  refine ⟨vals, h1, World.ownsRow.kept h2 hg (key v (fun k hk => (World.ownsRow.lt h2 k hk).1) h3), h3, fun i hi => ?_⟩
  obtain ⟨a1, a2, a3⟩ := h4 i hi
  exact ⟨a1.kept hg (key _ (fun k hk => (a1.blk k hk).1) a3), a2, a3⟩
theorem RowsI.later {w w' : World} {B E : Nat} {v : Value} {ll : List (List Int)} (h : RowsI w B E v ll) (hb : Below w.heap.size w w') : RowsI w' B E v ll :=
  h.kept (grown_of_below hb none) (fun k hk => by cases hk)
theorem ownsRow_mono' {w : World} {base base' : Nat} {e : TypeId} {size : Nat} {v : Value} {n : Nat} {xs : List Value} (h : w.ownsRow base e size v n xs) (hb : base' ≤ base) : w.ownsRow base' e size v n xs := by
  refine ⟨h.1, ?_⟩
  rcases h.2 with h | ⟨g, cap, cur, a, b, c⟩
  · exact .inl h
  · exact .inr ⟨g, cap, cur, a, Nat.le_trans hb b, c⟩
theorem RowsI.wide {w : World} {B E B' E' : Nat} {v : Value} {ll : List (List Int)} (h : RowsI w B E v ll) (hB : B' ≤ B) (hE : w.heap.size ≤ E') : RowsI w B' E' v ll := by
  obtain ⟨vals, h1, h2, h3, h4⟩ := h
  refine ⟨vals, h1, ownsRow_mono' h2 hB, fun k hk => Nat.lt_of_lt_of_le (World.ownsRow.lt h2 k hk).2 hE, fun i hi => ?_⟩
  obtain ⟨a1, a2, a3⟩ := h4 i hi
  exact ⟨a1.mono hB, a2, fun k hk => Nat.lt_of_lt_of_le (a1.blk k hk).2 hE⟩
theorem RowsI.lit0 (w : World) (B : Nat) (hB : B ≤ w.heap.size) : RowsI (w.alloc (.cells #[] 22)) B (w.heap.size + 1) (.slice (some ⟨w.heap.size, 0, none⟩) 0 0) [] :=
  ⟨[], rfl, World.ownsRow_lit w #[] 0 hB (by simp [maxLen]) rfl, fun k hk => by simp [Value.ownBlock] at hk; omega, fun i hi => by simp at hi⟩
/-- One row, in a block that stood before. -/
theorem RowsI.lit1 {w : World} {B : Nat} {v : Value} {xs : List Int} (h : OwnI w B v xs) (hB : B ≤ w.heap.size) : RowsI (w.alloc (.cells #[v] 22)) B (w.heap.size + 1) (.slice (some ⟨w.heap.size, 0, none⟩) 1 1) [xs] := by
  refine ⟨[v], rfl, World.ownsRow_lit w #[v] 1 hB (by simp [maxLen]) rfl, fun k hk => by simp [Value.ownBlock] at hk; omega, fun i hi => ?_⟩
  have : i = 0 := by simp at hi; omega
  subst this
  refine ⟨h.alloc _, ?_, fun k hk => by have := (h.blk k hk).2; omega⟩
  show v.ownBlock = none ∨ v.ownBlock ≠ _
  cases hv : v.ownBlock with
  | none => exact .inl rfl
  | some k =>
    right
    intro e
    have := (h.blk k hv).2
    simp [Value.ownBlock] at e
    omega
theorem RowsI.form {w : World} {B E : Nat} {v : Value} {ll : List (List Int)} (h : RowsI w B E v ll) : ∃ ao cap, v = .slice ao ll.length cap ∧ ll.length ≤ cap ∧ cap ≤ 9223372036854775807 := by
  obtain ⟨vals, h1, h2, h3, h4⟩ := h
  rcases h2.2 with ⟨rfl, h0⟩ | ⟨g, cap, cur, rfl, _, _, a, b, _⟩
  · exact ⟨none, 0, by rw [h0], by omega, by omega⟩
  · exact ⟨_, cap, rfl, a, by simpa [maxLen] using b⟩
/-- The row at a place. -/
theorem RowsI.at_ {w : World} {B E : Nat} {v : Value} {ll : List (List Int)} (h : RowsI w B E v ll) {i : Nat} (hi : i < ll.length) :
    ∃ g cap u, v = .slice (some ⟨g, 0, none⟩) ll.length cap ∧ g < w.heap.size ∧ w.cell? ⟨g, i, none⟩ = some u ∧ OwnI w B u (ll.getD i []) ∧ ∀ k, u.ownBlock = some k → k < E := by
  obtain ⟨vals, h1, h2, h3, h4⟩ := h
  obtain ⟨g, cap, rfl, hg1, hg2⟩ := World.ownsRow.form h2 (by omega)
  obtain ⟨a1, a2, a3⟩ := h4 i hi
  refine ⟨g, cap, _, rfl, hg2, ?_, a1, a3⟩
  rw [World.ownsRow.cellAt h2 i (by omega)]
  simp [List.getD, show i < vals.length by omega]

theorem infoRows : (Try.prog.info? 22).map (fun i => (i.zero, i.size, i.bytes)) = some (some (.slice none 0 0), 1, 24) := by kernel_rfl

theorem RowsI.next {w w' : World} {B E : Nat} {v : Value} {ll : List (List Int)} (h : RowsI w B E v ll) (hb : Below w.heap.size w w') : RowsI w' B w'.heap.size v ll := (h.later hb).wide (Nat.le_refl _) (Nat.le_refl _)

theorem RowsI.outer {w : World} {B E : Nat} {v : Value} {ll : List (List Int)} (h : RowsI w B E v ll) : ∀ k, v.ownBlock = some k → B ≤ k ∧ k < E := by
  obtain ⟨vals, h1, h2, h3, h4⟩ := h
  exact fun k hk => ⟨(World.ownsRow.lt h2 k hk).1, h3 k hk⟩

/-- append of one row, that lies in another block. -/
theorem step_appendRow {ops : Array Oper} {o : Oper} {a : Act} {K : Act → World → Prop} {Q : Exit → Act → World → Prop} {X : Prop} (w : World) (hgd : o.guard = none) (s x : Operand)
    (ho : o.op = .call { callee := .builtin .append, args := #[s, x], argTypes := #[29, 29] })
    (B : Nat) (v : Value) (ll : List (List Int)) (hown : RowsI w B w.heap.size v ll) (hs : a.eval s = v) (u : Value) (xs : List Int) (hu : OwnI w B u xs) (hne : u.ownBlock = none ∨ u.ownBlock ≠ v.ownBlock)
    (gb : Nat) (hx : a.eval x = .slice (some ⟨gb, 0, none⟩) 1 1) (hgb : w.cell? ⟨gb, 0, none⟩ = some u) (hlen : ll.length ≤ 1048576) (hB : B ≤ w.heap.size)
    (h : ∀ v' w', RowsI w' B w'.heap.size v' (ll ++ [xs]) → w.grownBy w' v.ownBlock → (v'.ownBlock = v.ownBlock ∨ ∃ g, v'.ownBlock = some g ∧ w.heap.size ≤ g) → K (a.put o.dst v') w') :
    if Region.wanted o (yielded ops a.tmps) = true then Oper.wp Try.prog o a w K Q else X := by
  obtain ⟨i0, hi, hz0, hz1, hz2⟩ := info_parts infoRows
  obtain ⟨vals, h1, h2, h3, h4⟩ := hown
  have hone : u.oneCell' = true := by
    rcases hu.2 with ⟨rfl, _⟩ | ⟨g, cap, cur, rfl, _⟩ <;> rfl
  refine step_append_lies w hgd s x 29 ho B 22 i0 (.slice none 0 0) 1 24 Try.underlying29 hi hz0 hz1 hz2 rfl (by decide) v ll.length vals hs h2
    ⟨gb, 0, none⟩ 1 1 [u] hx rfl ?_ ?_ (by omega) ?_ ?_ hB _ rfl ?_
  · intro j z hj
    match j, hj with
    | 0, hj => simp at hj; subst hj; exact hgb
  · intro z hz; simp at hz; subst hz; exact hone
  · unfold maxLen; omega
  · omega
  · intro g cap w' g1 hg hgw g4
    refine h _ w' ⟨vals ++ [u], by simp [h1], by rw [List.length_append]; exact g1, fun k hk => by simp [Value.ownBlock] at hk; omega, fun i hi => ?_⟩ hg (by
      rcases hgw with e | e
      · exact .inl e.symm
      · exact .inr ⟨g, rfl, by omega⟩)
    have hoff : ∀ z : Value, (∀ k, z.ownBlock = some k → k < w.heap.size) → (z.ownBlock = none ∨ z.ownBlock ≠ v.ownBlock) → (z.ownBlock = none ∨ z.ownBlock ≠ (Value.slice (some ⟨g, 0, none⟩) (ll.length + 1) cap).ownBlock) := by
      intro z a1 a2
      cases hz : z.ownBlock with
      | none => exact .inl rfl
      | some k =>
        right
        intro e
        have hk := a1 k hz
        simp only [Value.ownBlock, Option.some.injEq] at e
        rcases hgw with e2 | e2
        · rcases a2 with a2 | a2
          · rw [a2] at hz; cases hz
          · exact a2 (by rw [hz, e2, e])
        · omega
    by_cases hlt : i < ll.length
    · obtain ⟨a1, a2, a3⟩ := h4 i hlt
      have e1 : (vals ++ [u]).getD i (.slice none 0 0) = vals.getD i (.slice none 0 0) := by simp [List.getD, List.getElem?_append_left (show i < vals.length by omega)]
      have e2 : (ll ++ [xs]).getD i [] = ll.getD i [] := by simp [List.getD, List.getElem?_append_left hlt]
      rw [e1, e2]
      exact ⟨a1.kept hg a2, hoff _ (fun k hk => (a1.blk k hk).2) a2, fun k hk => Nat.lt_of_lt_of_le (a1.blk k hk).2 hg.size⟩
    · have hie : i = ll.length := by simp at hi; omega
      have e1 : (vals ++ [u]).getD i (.slice none 0 0) = u := by rw [hie, ← h1]; simp [List.getD]
      have e2 : (ll ++ [xs]).getD i [] = xs := by rw [hie]; simp [List.getD]
      rw [e1, e2]
      exact ⟨hu.kept hg hne, hoff _ (fun k hk => (hu.blk k hk).2) hne, fun k hk => Nat.lt_of_lt_of_le (hu.blk k hk).2 hg.size⟩

/-- append of a whole slice of integers, in a region that draws. -/
theorem step_appendAll {ops : Array Oper} {o : Oper} {a : Act} {K : Act → World → Prop} {Q : Exit → Act → World → Prop} {X : Prop} (w : World) (hgd : o.guard = none) (s x : Operand)
    (ho : o.op = .call { callee := .builtin .append, args := #[s, x], argTypes := #[22, 22] })
    (B : Nat) (v : Value) (xs : List Int) (hown : OwnI w B v xs) (hs : a.eval s = v) (v2 : Value) (ys : List Int) (hx : a.eval x = v2) (hy : Ints w v2 ys) (hlen : xs.length ≤ 1048576) (hlen2 : ys.length ≤ 1048576) (hB : B ≤ w.heap.size)
    (h : ∀ v' w', OwnI w' B v' (xs ++ ys) → w.grownBy w' v.ownBlock → K (a.put o.dst v') w') :
    if Region.wanted o (yielded ops a.tmps) = true then Oper.wp Try.prog o a w K Q else X := by
  have hw : Region.wanted o (yielded ops a.tmps) = true := by simp [Region.wanted, hgd]
  rw [if_pos hw]
  obtain ⟨i0, hi, hz0, hz1, hz2⟩ := info_parts infoInt
  obtain ⟨ao, cap, b, of, rfl, h1, h2, h3, h4⟩ := hy
  rcases ao with _ | ad
  · have hn : ys = [] := by
      rcases Nat.eq_zero_or_pos ys.length with h0 | h0
      · exact List.length_eq_zero_iff.1 h0
      · exact absurd (h1 h0).1 (by simp)
    subst hn
    have hrun := run_append_of_nil (P := Try.prog) w B 22 o.type 3 i0 1 Try.underlying22 hi v xs.length (xs.map (Value.int .i64)) hown cap
    unfold Oper.wp execOp
    simp only [ho, resolve, invoke, builtin, Sem.run_bind, Sem.run_pure, Result.andThen_ok, List.map_toArray, List.map_cons, List.map_nil, hs, hx, List.length_nil, hrun]
    exact h v w (by rw [List.append_nil]; exact hown) (World.grownBy.refl _ _)
  · refine wp_append_own _ s x 22 ho B 3 i0 (.int .i64 0) 1 8 Try.underlying22 hi hz0 hz1 hz2 rfl (by decide) v xs.length (xs.map (Value.int .i64)) hs hown
      ad ys.length cap (ys.map (Value.int .i64)) hx (by simp) ?_ ?_ ?_ ?_ hB ?_
    · intro j u hj
      have hjl : j < ys.length := by
        have := (List.getElem?_eq_some_iff.1 hj).1
        simpa using this
      obtain ⟨he, _⟩ := h1 (by omega)
      simp only [Option.some.injEq] at he
      subst he
      have := h2 j hjl
      rw [Addr.add_lit, this]
      rw [List.getElem?_map, List.getElem?_eq_getElem hjl] at hj
      simp only [Option.map_some, Option.some.injEq] at hj
      rw [← hj]
      simp [List.getD, hjl]
    · intro u hu; simp at hu; obtain ⟨q, _, rfl⟩ := hu; rfl
    · unfold maxLen; omega
    · omega
    · intro v' w' g1 g2 _
      refine h v' w' ?_ g2
      unfold OwnI
      rw [List.length_append, List.map_append]
      exact g1
theorem OwnI.lit1 (w : World) (B : Nat) (x : Int) (hB : B ≤ w.heap.size) : OwnI (w.alloc (.cells #[.int .i64 x] 3)) B (.slice (some ⟨w.heap.size, 0, none⟩) 1 1) [x] :=
  World.ownsRow_lit w #[.int .i64 x] 1 hB (by simp [maxLen]) rfl
/-- What stands behind a place. -/
theorem Ints.drop {w : World} {b o n cap : Nat} {xs : List Int} (hc : ∀ i, i < n → w.cell? ⟨b, o+i, none⟩ = some (.int .i64 (xs.getD i 0))) (hb : b < w.heap.size) (hn : xs.length = n) (hcap : n ≤ cap) (hm : cap ≤ 9223372036854775807) {k : Nat} (hk : k ≤ n) :
    Ints w (.slice (some ⟨b, o + k, none⟩) (n - k) (cap - k)) (xs.drop k) := by
  refine ⟨_, cap - k, b, o + k, by rw [List.length_drop, hn], fun _ => ⟨rfl, hb⟩, fun i hi => ?_, by rw [List.length_drop]; omega, by omega⟩
  rw [List.length_drop] at hi
  rw [Nat.add_assoc, hc (k + i) (by omega)]
  simp [List.getD, List.getElem?_drop]
/-- The same, as the walk spells the address. -/
theorem Ints.dropIf {w : World} {b o n cap : Nat} {xs : List Int} (hc : ∀ i, i < n → w.cell? ⟨b, o+i, none⟩ = some (.int .i64 (xs.getD i 0))) (hb : b < w.heap.size) (hn : xs.length = n) (hcap : n ≤ cap) (hm : cap ≤ 9223372036854775807) {k : Nat} (hk : k ≤ n) :
    Ints w (.slice (if cap = k then some ⟨b, o, none⟩ else some ⟨b, o + k, none⟩) (n - k) (cap - k)) (xs.drop k) := by
  by_cases e : cap = k
  · rw [if_pos e]
    have h0 : xs.drop k = [] := List.drop_of_length_le (by omega)
    rw [h0]
    exact ⟨_, cap - k, b, o, by rw [List.length_nil, show n - k = 0 by omega], fun h => by simp at h, fun i hi => by simp at hi, by simp, by omega⟩
  · rw [if_neg e]
    exact Ints.drop hc hb hn hcap hm hk
end Go.Proofs.Ythndabijojjokaa
