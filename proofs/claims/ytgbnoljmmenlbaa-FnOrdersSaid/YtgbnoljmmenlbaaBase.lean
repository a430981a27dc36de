import Derived.WalkKit
import Derived.WalkSpells
import Derived.WalkLawsBesides
import Derived.Deep.QuietTactic
import Derived.BigQuiet
namespace Go.Proofs.Ytgbnoljmmenlbaa
open Go.RowKit

theorem hid {p : Prop} (h : p) : Hid p := h

/-! ## What a slice of integers reads as -/

/-- The slice value v reads in w as the integers xs. -/
def Ints (w : World) (v : Value) (xs : List Int) : Prop :=
  ∃ ao cap b o, v = .slice ao xs.length cap ∧ (0 < xs.length → ao = some ⟨b, o, none⟩ ∧ b < w.heap.size) ∧
    (∀ i, i < xs.length → w.cell? ⟨b, o+i, none⟩ = some (.int .i64 (xs.getD i 0))) ∧ xs.length ≤ cap ∧ cap ≤ 9223372036854775807

/-- The slice value v, made from block B on, owns the integers xs. -/
def OwnI (w : World) (B : Nat) (v : Value) (xs : List Int) : Prop :=
  w.ownsRow B 3 1 v xs.length (xs.map (Value.int .i64))

theorem ret_bool {a b : Bool} (h : a = b) : Ending.returned (.bool a) = .returned (.bool b) := by rw [h]
theorem ret_int {a b : Int} (h : a = b) : Ending.returned (.int .i64 a) = .returned (.int .i64 b) := by rw [h]
theorem int_eq {a b : Int} (h : a = b) : Value.int .i64 a = Value.int .i64 b := by rw [h]
theorem bool_eq {a b : Bool} (h : a = b) : Value.bool a = Value.bool b := by rw [h]

theorem below_size {B : Nat} {w w' : World} (h : Below B w w') : w.heap.size ≤ w'.heap.size := h.size

theorem Ints.open_ {w : World} {v : Value} {xs : List Int} (h : Ints w v xs) :
    ∃ n ao cap b o, Hid (xs.length = n) ∧ v = .slice ao n cap ∧ (0 < n → ao = some ⟨b, o, none⟩ ∧ b < w.heap.size) ∧
      (∀ i, i < n → w.cell? ⟨b, o+i, none⟩ = some (.int .i64 (xs.getD i 0))) ∧ n ≤ cap ∧ cap ≤ 9223372036854775807 ∧ Hid (Ints w (.slice ao n cap) xs) := by
  have h' := h
  obtain ⟨ao, cap, b, o, rfl, h1, h2, h3, h4⟩ := h
  exact ⟨_, ao, cap, b, o, hid rfl, rfl, h1, h2, h3, h4, hid h'⟩

theorem Ints.later {w w' : World} {v : Value} {xs : List Int} (h : Ints w v xs) (hb : Below w.heap.size w w') : Ints w' v xs := by
  obtain ⟨ao, cap, b, o, rfl, h1, h2, h3, h4⟩ := h
  refine ⟨ao, cap, b, o, rfl, fun h => ⟨(h1 h).1, Nat.lt_of_lt_of_le (h1 h).2 hb.size⟩, fun i hi => ?_, h3, h4⟩
  rw [← h2 i hi]
  exact hb.cell (by have := (h1 (by omega)).2; exact this)

theorem Ints.drawn {w : World} {v : Value} {xs : List Int} (h : Ints w v xs) (n : Nat) : Ints (w.drewN n) v xs := h.later (below_drewN (Below.refl _ _) n)

theorem Below.of_grown {w w' : World} (h : w.grownBy w' none) : Below w.heap.size w w' :=
  (Below.refl _ _).grown h (Nat.le_refl _) (by simp)

theorem grown_of_below {w w' : World} (h : Below w.heap.size w w') (row : Option Nat) : w.grownBy w' row :=
  ⟨h.os, h.tape, h.output, h.size, fun k hk _ => h.block k hk⟩

theorem grown_trans {w w1 w2 : World} {row : Option Nat} (h : w.grownBy w1 row) (k : w1.grownBy w2 row) : w.grownBy w2 row :=
  ⟨k.os.trans h.os, k.tape.trans h.tape, k.output.trans h.output, Nat.le_trans h.size k.size, fun i hi hr => (k.block i (Nat.lt_of_lt_of_le hi h.size) hr).trans (h.block i hi hr)⟩

/-- Another row has been written: what was read stands. -/
theorem Ints.aside {w w' : World} {v : Value} {xs : List Int} {row : Option Nat} (h : Ints w v xs) (hg : w.grownBy w' row) (hne : v.ownBlock = none ∨ v.ownBlock ≠ row) : Ints w' v xs := by
  obtain ⟨ao, cap, b, o, rfl, h1, h2, h3, h4⟩ := h
  refine ⟨ao, cap, b, o, rfl, fun h => ⟨(h1 h).1, Nat.lt_of_lt_of_le (h1 h).2 hg.size⟩, fun i hi => ?_, h3, h4⟩
  obtain ⟨rfl, hb⟩ := h1 (by omega)
  exact hg.cell (h2 i hi) (by rcases hne with hne | hne <;> simp_all [Value.ownBlock])

theorem OwnI.ints {w : World} {B : Nat} {v : Value} {xs : List Int} (h : OwnI w B v xs) : Ints w v xs := by
  have hl := h.1
  rcases h.2 with ⟨rfl, hn⟩ | ⟨g, cap, cur, rfl, hB, hg, hnc, hcm, hcs, htk⟩
  · refine ⟨none, 0, 0, 0, by rw [hn], fun h => by omega, fun i hi => by omega, by omega, by omega⟩
  · refine ⟨some ⟨g, 0, none⟩, cap, g, 0, rfl, fun _ => ⟨rfl, ?_⟩, fun i hi => ?_, hnc, by simpa [maxLen] using hcm⟩
    · exact (Array.getElem?_eq_some_iff.1 hg).1
    · rw [Nat.zero_add, World.ownsRow.cellAt (n := xs.length) (cap := cap) h i (by omega)]
      simp [List.getD, List.getElem?_eq_getElem hi]

theorem OwnI.kept {w w' : World} {B : Nat} {v : Value} {xs : List Int} {row : Option Nat} (h : OwnI w B v xs) (hg : w.grownBy w' row) (hne : v.ownBlock = none ∨ v.ownBlock ≠ row) : OwnI w' B v xs :=
  World.ownsRow.kept h hg hne
theorem OwnI.later {w w' : World} {B : Nat} {v : Value} {xs : List Int} (h : OwnI w B v xs) (hb : Below w.heap.size w w') : OwnI w' B v xs :=
  OwnI.kept h (grown_of_below hb none) (by cases v.ownBlock <;> simp)
theorem OwnI.drawn {w : World} {B : Nat} {v : Value} {xs : List Int} (h : OwnI w B v xs) (n : Nat) : OwnI (w.drewN n) B v xs := h.later (below_drewN (Below.refl _ _) n)
theorem OwnI.mono {w : World} {B B' : Nat} {v : Value} {xs : List Int} (h : OwnI w B v xs) (hb : B' ≤ B) : OwnI w B' v xs := by
  refine ⟨h.1, ?_⟩
  rcases h.2 with h | ⟨g, cap, cur, a, b, c⟩
  · exact .inl h
  · exact .inr ⟨g, cap, cur, a, Nat.le_trans hb b, c⟩
theorem OwnI.nil (w : World) (B : Nat) : OwnI w B (.slice none 0 0) [] := World.ownsRow_nil _ _ _ _

theorem OwnI.cell {w : World} {B g n cap : Nat} {xs : List Int} (h : OwnI w B (.slice (some ⟨g, 0, none⟩) n cap) xs) (hl : xs.length = n) {i : Nat} (hi : i < n) :
    w.cell? ⟨g, i, none⟩ = some (.int .i64 (xs.getD i 0)) := by
  subst hl
  rw [World.ownsRow.cellAt (n := xs.length) (cap := cap) h i (by omega)]
  simp [List.getD, List.getElem?_eq_getElem hi]
theorem OwnI.free {w : World} {B g n cap : Nat} {xs : List Int} (h : OwnI w B (.slice (some ⟨g, 0, none⟩) n cap) xs) (hl : xs.length = n) (i : Nat) :
    w.frozen? ⟨g, i, none⟩ = false := by
  subst hl
  exact World.ownsRow.frozenAt (n := xs.length) (cap := cap) h i
theorem OwnI.set {w : World} {B g n cap : Nat} {xs ys : List Int} (h : OwnI w B (.slice (some ⟨g, 0, none⟩) n cap) xs) (hl : xs.length = n) (i : Nat) (u : Int) (e : xs.set i u = ys) :
    OwnI (w.setCell ⟨g, i, none⟩ (.int .i64 u)) B (.slice (some ⟨g, 0, none⟩) n cap) ys ∧ w.grownBy (w.setCell ⟨g, i, none⟩ (.int .i64 u)) (some g) := by
  subst hl
  obtain ⟨h1, h2⟩ := World.ownsRow.stored (n := xs.length) (cap := cap) h i (.int .i64 u)
  refine ⟨?_, h2⟩
  subst e
  unfold OwnI
  rw [List.length_set, List.map_set]
  exact h1

theorem OwnI.made {w : World} {B g n cap : Nat} (h : w.ownsRow B 3 1 (.slice (some ⟨g, 0, none⟩) n cap) n (madeCells (Value.int .i64 0).cells (n * 1)).toList) : OwnI w B (.slice (some ⟨g, 0, none⟩) n cap) (List.replicate n 0) := by
  unfold OwnI
  rw [List.length_replicate]
  have e : (madeCells (Value.int .i64 0).cells (n * 1)).toList = (List.replicate n (0 : Int)).map (Value.int .i64) := by
    rw [Nat.mul_one, List.map_replicate]
    exact toList_madeCells_one _ _
  rw [← e]
  exact h

/-- Two rows, of which one was made when the other had long been there, are apart. -/
theorem own_apart {w w' : World} {B B' : Nat} {e e' sz sz' : Nat} {v v' : Value} {n n' : Nat} {xs xs' : List Value} (h : w.ownsRow B e sz v n xs) (h' : w'.ownsRow B' e' sz' v' n' xs') (hB : w.heap.size ≤ B') :
    v.ownBlock = none ∨ v.ownBlock ≠ v'.ownBlock := by
  cases hv : v.ownBlock with
  | none => exact .inl rfl
  | some k =>
    right
    intro e
    have := (h.lt k hv).2
    have := (h'.lt k e.symm).1
    omega
theorem own_apart' {w w' : World} {B B' : Nat} {e e' sz sz' : Nat} {v v' : Value} {n n' : Nat} {xs xs' : List Value} (h : w.ownsRow B e sz v n xs) (h' : w'.ownsRow B' e' sz' v' n' xs') (hB : w.heap.size ≤ B') :
    v'.ownBlock = none ∨ v'.ownBlock ≠ v.ownBlock := by
  cases hv : v'.ownBlock with
  | none => exact .inl rfl
  | some k =>
    right
    intro e
    have := (h'.lt k hv).1
    have := (h.lt k e.symm).2
    omega

/-! ## Lists -/
theorem take_ext {xs ys : List Int} {k : Nat} (h : xs.take k = ys.take k) (hx : k < xs.length) (hy : k < ys.length) (e : xs.getD k 0 = ys.getD k 0) : xs.take (k+1) = ys.take (k+1) := by
  rw [List.take_succ_eq_append_getElem hx, List.take_succ_eq_append_getElem hy, h]
  simp [List.getD, hx, hy] at e
  rw [e]

theorem take_snoc {xs : List Int} {k : Nat} {x : Int} (h : k < xs.length) (e : xs.getD k 0 = x) : xs.take (k+1) = xs.take k ++ [x] := by
  rw [List.take_succ_eq_append_getElem h]
  simp [List.getD, h] at e
  rw [e]

theorem drop_cons {xs : List Int} {k : Nat} {x : Int} (h : k < xs.length) (e : xs.getD k 0 = x) : xs.drop k = x :: xs.drop (k+1) := by
  rw [List.drop_eq_getElem_cons h]
  simp [List.getD, h] at e
  rw [e]

theorem set_copy {xs : List Int} {k : Nat} {x : Int} (h : k < xs.length) (e : xs.getD k 0 = x) : (xs.take k ++ List.replicate (xs.length - k) 0).set k x = xs.take (k+1) ++ List.replicate (xs.length - (k+1)) 0 := by
  rw [List.set_append_right _ _ (by rw [List.length_take]; omega), List.length_take, Nat.min_eq_left (by omega), Nat.sub_self, take_snoc h e,
    show xs.length - k = (xs.length - (k+1)) + 1 from by omega, List.replicate_succ, List.set_cons_zero, List.append_assoc]
  rfl

/-- k, k + 1, .. : n numbers. -/
def marks (k : Int) (n : Nat) : List Int := (List.range n).map fun i : Nat => k + (i : Int)
theorem length_marks (k : Int) (n : Nat) : (marks k n).length = n := by simp [marks]
theorem getD_marks (k : Int) (n i : Nat) (h : i < n) : (marks k n).getD i 0 = k + i := by simp [marks, List.getD, h]
theorem marks_succ (k : Int) (n : Nat) : marks k (n+1) = marks k n ++ [k + n] := by simp [marks, List.range_succ]

theorem set_marks {k : Int} {xs : List Int} {j : Nat} (h : j < xs.length) : (marks k j ++ xs.drop j).set j (k + j) = marks k (j+1) ++ xs.drop (j+1) := by
  rw [List.set_append_right _ _ (by rw [length_marks]; omega), length_marks, Nat.sub_self, List.drop_eq_getElem_cons h, marks_succ, List.set_cons_zero, List.append_assoc]
  rfl

/-! ## The plain functions -/
def inB (n lo hi : Int) : Bool := decide (lo ≤ n) && decide (n ≤ hi)
def cellB (c : Int) : Bool := inB c 0 127
theorem inB_true {n lo hi : Int} (h : inB n lo hi = true) : lo ≤ n ∧ n ≤ hi := by simpa [inB] using h
theorem inB_mk {n lo hi : Int} (h : lo ≤ n) (h' : n ≤ hi) : inB n lo hi = true := by simp [inB, h, h']
theorem inB_lo {n lo hi : Int} (h : n < lo) : inB n lo hi = false := by simp [inB]; omega
theorem inB_hi {n lo hi : Int} (h : hi < n) : inB n lo hi = false := by simp [inB]; omega
theorem inB_false {n lo hi : Int} (h : inB n lo hi = false) : n < lo ∨ hi < n := by
  simp [inB] at h
  omega
theorem cellB_true {c : Int} (h : cellB c = true) : 0 ≤ c ∧ c ≤ 127 := inB_true h

/-- The place of v in xs, or -1. -/
def idxI (xs : List Int) (v : Int) : Int := if v ∈ xs then (xs.idxOf v : Int) else -1
theorem idxI_at {xs : List Int} {v : Int} {k : Nat} (hk : k < xs.length) (hn : v ∉ xs.take k) (e : xs.getD k 0 = v) : idxI xs v = k := by
  have hx : xs[k] = v := by simpa [List.getD, hk] using e
  have hm : v ∈ xs := hx ▸ List.getElem_mem hk
  have h1 : xs = xs.take k ++ v :: xs.drop (k+1) := by
    rw [← hx, ← List.drop_eq_getElem_cons hk, List.take_append_drop]
  unfold idxI
  rw [if_pos hm]
  rw [h1, List.idxOf_append, if_neg hn, List.length_take, Nat.min_eq_left (Nat.le_of_lt hk)]
  simp
theorem idxI_none {xs : List Int} {v : Int} (h : v ∉ xs) : idxI xs v = -1 := by simp [idxI, h]
theorem notMem_take_succ {xs : List Int} {v : Int} {k : Nat} (hn : v ∉ xs.take k) (hk : k < xs.length) (e : xs.getD k 0 ≠ v) : v ∉ xs.take (k+1) := by
  rw [take_snoc hk rfl]
  simp only [List.mem_append, List.mem_singleton, not_or]
  exact ⟨hn, fun h => e h.symm⟩
theorem idxI_nonneg (xs : List Int) (v : Int) : decide (0 ≤ idxI xs v) = decide (v ∈ xs) := by
  unfold idxI
  by_cases h : v ∈ xs <;> simp [h]

/-- The first n places of xs hold cells of which none comes twice. -/
def codeTo (xs : List Int) (n : Nat) : Prop := ∀ i, i < n → cellB (xs.getD i 0) = true ∧ xs.getD i 0 ∉ xs.take i
instance (xs : List Int) (n : Nat) : Decidable (codeTo xs n) := by unfold codeTo; infer_instance
def codeB (xs : List Int) : Bool := inB xs.length 1 12 && decide (codeTo xs xs.length)
theorem codeTo_zero (xs : List Int) : codeTo xs 0 := fun i h => absurd h (Nat.not_lt_zero i)
theorem codeTo_succ {xs : List Int} {n : Nat} (h : codeTo xs n) (h1 : cellB (xs.getD n 0) = true) (h2 : xs.getD n 0 ∉ xs.take n) : codeTo xs (n+1) := by
  intro i hi
  by_cases e : i = n
  · subst e; exact ⟨h1, h2⟩
  · exact h i (by omega)
theorem codeB_len {xs : List Int} (h : inB xs.length 1 12 = false) : codeB xs = false := by simp [codeB, h]
theorem codeB_all {xs : List Int} (h : inB xs.length 1 12 = true) (h' : codeTo xs xs.length) : codeB xs = true := by simp [codeB, h, h']
theorem codeB_cell {xs : List Int} {k : Nat} (hk : k < xs.length) (h : cellB (xs.getD k 0) = false) : codeB xs = false := by
  unfold codeB
  rw [decide_eq_false, Bool.and_false]
  intro hc
  rw [(hc k hk).1] at h
  cases h
theorem codeB_dup {xs : List Int} {k : Nat} (hk : k < xs.length) (h : xs.getD k 0 ∈ xs.take k) : codeB xs = false := by
  unfold codeB
  rw [decide_eq_false, Bool.and_false]
  intro hc
  exact (hc k hk).2 h
theorem codeB_true {xs : List Int} (h : codeB xs = true) : (1 ≤ xs.length ∧ xs.length ≤ 12) ∧ (∀ x ∈ xs, 0 ≤ x ∧ x ≤ 127) ∧ codeTo xs xs.length := by
  simp only [codeB, Bool.and_eq_true, decide_eq_true_eq] at h
  have h1 := inB_true h.1
  refine ⟨by omega, fun x hx => ?_, h.2⟩
  obtain ⟨i, hi, rfl⟩ := List.mem_iff_getElem.1 hx
  have := (h.2 i hi).1
  rw [List.getD_eq_getElem?_getD, List.getElem?_eq_getElem hi] at this
  exact cellB_true this

theorem Ints.take {w : World} {b o n cap : Nat} {xs : List Int} (hc : ∀ i, i < n → w.cell? ⟨b, o+i, none⟩ = some (.int .i64 (xs.getD i 0))) (hb : b < w.heap.size) (hn : xs.length = n) (hcap : n ≤ cap) (hm : cap ≤ 9223372036854775807)
    {k : Nat} (hk : k ≤ n) : Ints w (.slice (some ⟨b, o, none⟩) k cap) (xs.take k) := by
  refine ⟨some ⟨b, o, none⟩, cap, b, o, ?_, fun _ => ⟨rfl, hb⟩, fun i hi => ?_, ?_, hm⟩
  · rw [List.length_take, hn, Nat.min_eq_left hk]
  · rw [List.length_take, hn, Nat.min_eq_left hk] at hi
    rw [hc i (by omega)]
    simp [List.getD, hi]
  · rw [List.length_take]; omega

end Go.Proofs.Ytgbnoljmmenlbaa
