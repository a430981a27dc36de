import Derived.Test.YthndabijojjokaaDelI
import Derived.Test.YthndabijojjokaaSorts
import Derived.Test.YthndabijojjokaaClone
import Derived.Test.YthndabijojjokaaChanges
import Derived.Deep.RegionHeld3
import Derived.Deep.AppendLies
import Derived.Deep.RegionLaw
namespace Go.Proofs.Ythndabijojjokaa
open Go.RowKit

/-! ## What stands while QuietOrder seeks: two boxes are written -/
structure Kept2 (a b : Nat) (w w' : World) : Prop where
  os : w'.os = w.os
  tape : w'.tape = w.tape
  output : w'.output = w.output
  size : w.heap.size ≤ w'.heap.size
  block : ∀ k, k < w.heap.size → k ≠ a → k ≠ b → w'.heap[k]? = w.heap[k]?
theorem kept2_refl (a b : Nat) (w : World) : Kept2 a b w w := ⟨rfl, rfl, rfl, Nat.le_refl _, fun _ _ _ _ => rfl⟩
theorem kept2_trans {a b : Nat} {w w1 w2 : World} (h : Kept2 a b w w1) (k : Kept2 a b w1 w2) : Kept2 a b w w2 :=
  ⟨k.os.trans h.os, k.tape.trans h.tape, k.output.trans h.output, Nat.le_trans h.size k.size, fun i hi h1 h2 => (k.block i (Nat.lt_of_lt_of_le hi h.size) h1 h2).trans (h.block i hi h1 h2)⟩
theorem kept2_below {a b : Nat} {w w' : World} (h : Below w.heap.size w w') : Kept2 a b w w' := ⟨h.os, h.tape, h.output, h.size, fun k hk _ _ => h.block k hk⟩
theorem kept2_set1 (a b : Nat) (w : World) (u : Value) : Kept2 a b w (w.setCell ⟨a, 0, none⟩ u) := ⟨rfl, rfl, rfl, by simp, fun k _ h1 _ => Below.heap_setCell w ⟨a, 0, none⟩ u k h1⟩
theorem kept2_set2 (a b : Nat) (w : World) (u : Value) : Kept2 a b w (w.setCell ⟨b, 0, none⟩ u) := ⟨rfl, rfl, rfl, by simp, fun k _ _ h2 => Below.heap_setCell w ⟨b, 0, none⟩ u k h2⟩
theorem below_kept2 {a b B : Nat} {w w' : World} (h : Kept2 a b w w') (ha : B ≤ a) (hb : B ≤ b) (hB : B ≤ w.heap.size) : Below B w w' := ⟨h.os, h.tape, h.output, h.size, fun k hk => h.block k (by omega) (by omega) (by omega)⟩
theorem Kept2.cell {a b : Nat} {w w' : World} (h : Kept2 a b w w') {p : Addr} {v : Value} (hc : w.cell? p = some v) (hs : p.block < w.heap.size) (h1 : p.block ≠ a) (h2 : p.block ≠ b) : w'.cell? p = some v :=
  (World.cell?_of_block (w := w) (h.block p.block hs h1 h2)).trans hc
theorem OwnI.block_lt {w : World} {B : Nat} {v : Value} {xs : List Int} (h : OwnI w B v xs) : ∀ k, v.ownBlock = some k → B ≤ k ∧ k < w.heap.size := fun k hk => World.ownsRow.lt h k hk
theorem OwnI.at_ {B B' : Nat} {w w' : World} {v : Value} {xs : List Int} (h : OwnI w B v xs) (hk : ∀ k, v.ownBlock = some k → w'.heap[k]? = w.heap[k]? ∧ B' ≤ k) : OwnI w' B' v xs := by
  refine ⟨h.1, ?_⟩
  rcases h.2 with h | ⟨g, cap, cur, rfl, hB, hg, h4⟩
  · exact .inl h
  · obtain ⟨h1, h2⟩ := hk g rfl
    exact .inr ⟨g, cap, cur, rfl, h2, h1.trans hg, h4⟩
theorem OwnI.kept2 {a b B : Nat} {w w' : World} {v : Value} {xs : List Int} (h : OwnI w B v xs) (hk : Kept2 a b w w') (ha : a < B) (hb : b < B) : OwnI w' B v xs :=
  h.at_ fun k e => by obtain ⟨h1, h2⟩ := h.block_lt k e; exact ⟨hk.block k h2 (by omega) (by omega), h1⟩

/-! ## What has been found -/
def stepQ (c : List Int → Int) (o : Option (List Int)) (s : List Int) : Option (List Int) :=
  match o with | none => some s | some b => if c s < c b then some s else some b
def boxK (o : Option (List Int)) : Int := match o with | none => -1 | some s => dchF s
/-- The two boxes: the best sequence, its changes. -/
def QState (w : World) (bb bl B1 : Nat) (o : Option (List Int)) : Prop :=
  ∃ v, w.cell? ⟨bb, 0, none⟩ = some v ∧ w.frozen? ⟨bb, 0, none⟩ = false ∧ w.cell? ⟨bl, 0, none⟩ = some (.int .i64 (boxK o)) ∧ w.frozen? ⟨bl, 0, none⟩ = false ∧ OwnI w B1 v (o.getD []) ∧ bb < B1 ∧ bl < B1 ∧ bb ≠ bl ∧ B1 ≤ w.heap.size
theorem QState.later {w w' : World} {bb bl B1 : Nat} {o : Option (List Int)} (h : QState w bb bl B1 o) (hb : Below w.heap.size w w') : QState w' bb bl B1 o := by
  obtain ⟨v, h1, h2, h3, h4, h5, h6, h7, h8, h9⟩ := h
  exact ⟨v, (hb.cell (p := ⟨bb, 0, none⟩) (show bb < _ by omega)).trans h1, (hb.frozen (p := ⟨bb, 0, none⟩) (show bb < _ by omega)).trans h2, (hb.cell (p := ⟨bl, 0, none⟩) (show bl < _ by omega)).trans h3, (hb.frozen (p := ⟨bl, 0, none⟩) (show bl < _ by omega)).trans h4, h5.later hb, h6, h7, h8, Nat.le_trans h9 hb.size⟩
/-- The boxes that are read: do, extend. -/
def QEnv (w : World) (bb bl bd be B1 : Nat) : Prop :=
  w.cell? ⟨bd, 0, none⟩ = some (.func (.func 19) #[] #[.pointer (some ⟨bl, 0, none⟩), .pointer (some ⟨bb, 0, none⟩)]) ∧
  w.cell? ⟨be, 0, none⟩ = some (.func (.func 28) #[] #[.pointer (some ⟨bd, 0, none⟩), .pointer (some ⟨be, 0, none⟩)]) ∧
  bd < w.heap.size ∧ be < w.heap.size ∧ B1 ≤ bd ∧ B1 ≤ be ∧ bb < B1 ∧ bl < B1
theorem QEnv.kept {w w' : World} {bb bl bd be B1 : Nat} (h : QEnv w bb bl bd be B1) (hk : Kept2 bb bl w w') : QEnv w' bb bl bd be B1 := by
  obtain ⟨h1, h2, h3, h4, h5, h6, h7, h8⟩ := h
  exact ⟨hk.cell h1 h3 (show bd ≠ bb by omega) (show bd ≠ bl by omega), hk.cell h2 h4 (show be ≠ bb by omega) (show be ≠ bl by omega), Nat.lt_of_lt_of_le h3 hk.size, Nat.lt_of_lt_of_le h4 hk.size, h5, h6, h7, h8⟩

/-! ## The region of the recursive call: two rows are made, one grows, one loses a place -/
def Reg (w0 W : World) (b1 : Nat) (vc : Value) (ps : List Int) (b2 : Nat) (vd : Value) (ds : List Int) (gb : Nat) (u : Value) : Prop :=
  Below w0.heap.size w0 W ∧ OwnI W b1 vc ps ∧ OwnI W b2 vd ds ∧ (∀ k, vc.ownBlock = some k → vd.ownBlock = some k → k < w0.heap.size) ∧
    W.cell? ⟨gb, 0, none⟩ = some u ∧ gb < W.heap.size ∧ vc.ownBlock ≠ some gb ∧ vd.ownBlock ≠ some gb
theorem reg_later {w0 W W' : World} {b1 b2 gb : Nat} {vc vd u : Value} {ps ds : List Int} (h : Reg w0 W b1 vc ps b2 vd ds gb u) (hb : Below W.heap.size W W') : Reg w0 W' b1 vc ps b2 vd ds gb u := by
  obtain ⟨h1, h2, h3, h4, h5, h6, h7, h8⟩ := h
  exact ⟨h1.trans (hb.mono h1.size), h2.later hb, h3.later hb, h4, (hb.cell (p := ⟨gb, 0, none⟩) h6).trans h5, Nat.lt_of_lt_of_le h6 hb.size, h7, h8⟩
theorem reg_drew {w0 W : World} {b1 b2 gb : Nat} {vc vd u : Value} {ps ds : List Int} (h : Reg w0 W b1 vc ps b2 vd ds gb u) : Reg w0 W.drew b1 vc ps b2 vd ds gb u := reg_later h (Below.refl _ _).drew
theorem reg_box {w0 W : World} {b1 b2 gb : Nat} {vc vd u : Value} {ps ds : List Int} (h : Reg w0 W b1 vc ps b2 vd ds gb u) (x : Value) (t : TypeId) : Reg w0 (W.alloc (.cells #[x] t)) b1 vc ps b2 vd ds W.heap.size x := by
  have hb : Below W.heap.size W (W.alloc (.cells #[x] t)) := (Below.refl _ _).alloc (Nat.le_refl _) _
  obtain ⟨h1, h2, h3, h4, h5, h6, h7, h8⟩ := reg_later h hb
  refine ⟨h1, h2, h3, h4, by simp [go_sem], by simp, fun e => ?_, fun e => ?_⟩
  · have := (h.2.1.block_lt _ e).2; omega
  · have := (h.2.2.1.block_lt _ e).2; omega
theorem reg_first {w0 W W' : World} {b1 b2 gb : Nat} {vc vd u v : Value} {ps ds : List Int} (h : Reg w0 W b1 vc ps b2 vd ds gb u) (ho : OwnI W' W.heap.size v ps) (hb : Below W.heap.size W W') : Reg w0 W' w0.heap.size v ps b2 vd ds gb u := by
  obtain ⟨h1, h2, h3, h4, h5, h6, h7, h8⟩ := reg_later h hb
  refine ⟨h1, ho.mono h.1.size, h3, fun k e1 e2 => ?_, h5, h6, fun e => ?_, h8⟩
  · have := (ho.block_lt _ e1).1; have := (h.2.2.1.block_lt _ e2).2; omega
  · have := (ho.block_lt _ e).1; have := h.2.2.2.2.2.1; omega
theorem reg_second {w0 W W' : World} {b1 b2 gb : Nat} {vc vd u v : Value} {ps ds : List Int} (h : Reg w0 W b1 vc ps b2 vd ds gb u) (ho : OwnI W' W.heap.size v ds) (hb : Below W.heap.size W W') : Reg w0 W' b1 vc ps w0.heap.size v ds gb u := by
  obtain ⟨h1, h2, h3, h4, h5, h6, h7, h8⟩ := reg_later h hb
  refine ⟨h1, h2, ho.mono h.1.size, fun k e1 e2 => ?_, h5, h6, h7, fun e => ?_⟩
  · have := (ho.block_lt _ e2).1; have := (h.2.1.block_lt _ e1).2; omega
  · have := (ho.block_lt _ e).1; have := h.2.2.2.2.2.1; omega
theorem reg_lost {w0 W W' : World} {b1 gb : Nat} {vc vd u v : Value} {ps ds es : List Int} (h : Reg w0 W b1 vc ps w0.heap.size vd ds gb u) (ho : OwnI W' w0.heap.size v es) (hg : W.grownBy W' vd.ownBlock) (he : v.ownBlock = vd.ownBlock) : Reg w0 W' b1 vc ps w0.heap.size v es gb u := by
  obtain ⟨h1, h2, h3, h4, h5, h6, h7, h8⟩ := h
  refine ⟨h1.grown hg h1.size (fun k e => (h3.block_lt k e).1), h2.at_ (fun k e => ⟨hg.block k (h2.block_lt k e).2 (fun e2 => ?_), (h2.block_lt k e).1⟩), ho, fun k e1 e2 => h4 k e1 (by rw [← he]; exact e2), ?_, Nat.lt_of_lt_of_le h6 hg.size, h7, by rw [he]; exact h8⟩
  · have := h4 k e e2.symm; have := (h3.block_lt k e2.symm).1; omega
  · exact (World.cell?_of_block (w := W) (hg.block gb h6 (fun e => h8 e.symm))).trans h5
theorem reg_grown {w0 W W' : World} {b2 gb g : Nat} {vc vd u v : Value} {ps ds es : List Int} (h : Reg w0 W w0.heap.size vc ps b2 vd ds gb u) (ho : OwnI W' w0.heap.size v es) (hg : W.grownBy W' vc.ownBlock) (hv : v.ownBlock = some g) (he : vc.ownBlock = some g ∨ g = W.heap.size) : Reg w0 W' w0.heap.size v es b2 vd ds gb u := by
  obtain ⟨h1, h2, h3, h4, h5, h6, h7, h8⟩ := h
  refine ⟨h1.grown hg h1.size (fun k e => (h2.block_lt k e).1), ho, h3.at_ (fun k e => ⟨hg.block k (h3.block_lt k e).2 (fun e2 => ?_), (h3.block_lt k e).1⟩), fun k e1 e2 => ?_, ?_, Nat.lt_of_lt_of_le h6 hg.size, fun e => ?_, h8⟩
  · have := h4 k e2.symm e; have := (h2.block_lt k e2.symm).1; omega
  · rw [hv] at e1
    simp only [Option.some.injEq] at e1
    subst e1
    rcases he with he | he
    · exact h4 _ he e2
    · have := (h3.block_lt _ e2).2; omega
  · exact (World.cell?_of_block (w := W) (hg.block gb h6 (fun e => h7 e.symm))).trans h5
  · rw [hv] at e
    simp only [Option.some.injEq] at e
    subst e
    rcases he with he | he
    · exact h7 he
    · omega

theorem regClone1 {w0 W : World} {b1 b2 gb : Nat} (vc : Value) {vd u : Value} {ps ds : List Int} (h : Reg w0 W b1 vc ps b2 vd ds gb u) (hl : ps.length ≤ 1048576) :
    Calls Try.prog 29 #[vc] W fun e w' => ∃ v, e = .returned v ∧ Reg w0 w' w0.heap.size v ps b2 vd ds gb u :=
  (CloneI_any vc ps W h.2.1.ints hl).mono fun _ _ ⟨v, he, ho, hb⟩ => ⟨v, he, reg_first h ho hb⟩
theorem regClone2 {w0 W : World} {b1 b2 gb : Nat} {vc : Value} (vd : Value) {u : Value} {ps ds : List Int} (h : Reg w0 W b1 vc ps b2 vd ds gb u) (hl : ds.length ≤ 1048576) :
    Calls Try.prog 29 #[vd] W fun e w' => ∃ v, e = .returned v ∧ Reg w0 w' b1 vc ps w0.heap.size v ds gb u :=
  (CloneI_any vd ds W h.2.2.1.ints hl).mono fun _ _ ⟨v, he, ho, hb⟩ => ⟨v, he, reg_second h ho hb⟩
theorem regDelete {w0 W : World} {b1 gb : Nat} {vc vd u : Value} {ps ds : List Int} (i : Nat) (h : Reg w0 W b1 vc ps w0.heap.size vd ds gb u) (hi : i < ds.length) :
    Calls Try.prog 30 #[vd, .int .i64 i, .int .i64 ((i : Int) + 1)] W fun e w' => ∃ v, e = .returned v ∧ Reg w0 w' b1 vc ps w0.heap.size v (ds.eraseIdx i) gb u :=
  (DeleteI_any _ vd ds i W h.2.2.1 hi).mono fun _ _ ⟨v, he, ho, hg, hb⟩ => ⟨v, he, reg_lost h ho hg hb⟩
theorem step_regAppend {ops : Array Oper} {o : Oper} {a : Act} {K : Act → World → Prop} {Q : Exit → Act → World → Prop} {E : Prop} {w0 W : World} {b2 gb : Nat} {vc vd : Value} {ps ds : List Int} {y : Int} (hgd : o.guard = none) (s x : Operand)
    (ho : o.op = .call { callee := .builtin .append, args := #[s, x], argTypes := #[22, 22] })
    (hR : Reg w0 W w0.heap.size vc ps b2 vd ds gb (.int .i64 y)) (hs : a.eval s = vc) (hx : a.eval x = .slice (some ⟨gb, 0, none⟩) 1 1) (hlen : ps.length ≤ 1048576)
    (h : ∀ vA W', Reg w0 W' w0.heap.size vA (ps ++ [y]) b2 vd ds gb (.int .i64 y) → K (a.put o.dst vA) W') :
    if Region.wanted o (yielded ops a.tmps) = true then Oper.wp Try.prog o a W K Q else E := by
  obtain ⟨i0, hi, hz0, hz1, hz2⟩ := info_parts infoInt
  refine step_append_lies W hgd s x 22 ho w0.heap.size 3 i0 (.int .i64 0) 1 8 Try.underlying22 hi hz0 hz1 hz2 rfl (by decide) vc ps.length (ps.map (Value.int .i64)) hs hR.2.1
    ⟨gb, 0, none⟩ 1 1 [.int .i64 y] hx rfl ?_ ?_ (by omega) ?_ ?_ hR.1.size _ rfl ?_
  · intro j u hj
    match j, hj with
    | 0, hj => simp at hj; subst hj; exact hR.2.2.2.2.1
  · intro u hu; simp at hu; subst hu; rfl
  · unfold maxLen; omega
  · omega
  · intro g cap w' g1 g2 g3 g4
    refine h _ w' (reg_grown (g := g) hR ?_ g2 rfl g3)
    unfold OwnI
    rw [List.length_append, List.map_append]
    exact g1
end Go.Proofs.Ythndabijojjokaa
