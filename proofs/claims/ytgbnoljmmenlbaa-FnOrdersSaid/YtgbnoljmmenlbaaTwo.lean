import Derived.Test.YtgbnoljmmenlbaaBase
namespace Go.Proofs.Ytgbnoljmmenlbaa
open Go.RowKit

/-! ## Slices whose elements are two integers: [][2]int, []Slot -/
def flat2 (ps : List (Int × Int)) : List Value := ps.flatMap fun p => [.int .i64 p.1, .int .i64 p.2]
theorem length_flat2 (ps : List (Int × Int)) : (flat2 ps).length = 2 * ps.length := by
  induction ps with
  | nil => rfl
  | cons a r ih => simp only [flat2, List.flatMap_cons, List.length_append, List.length_cons] at ih ⊢; simp only [List.length_nil]; omega
theorem flat2_append (ps qs : List (Int × Int)) : flat2 (ps ++ qs) = flat2 ps ++ flat2 qs := by simp [flat2, List.flatMap_append]
theorem flat2_cons (p : Int × Int) (ps : List (Int × Int)) : flat2 (p :: ps) = .int .i64 p.1 :: .int .i64 p.2 :: flat2 ps := by simp [flat2]
theorem flat2_get {ps : List (Int × Int)} : ∀ {i : Nat}, i < ps.length → (flat2 ps)[2*i]? = some (.int .i64 (ps.getD i (0,0)).1) ∧ (flat2 ps)[2*i+1]? = some (.int .i64 (ps.getD i (0,0)).2) := by
  induction ps with
  | nil => intro i h; simp at h
  | cons a r ih =>
    intro i h
    rw [flat2_cons]
    cases i with
    | zero => exact ⟨rfl, rfl⟩
    | succ i =>
      have := ih (i := i) (by simpa using h)
      rw [show 2 * (i+1) = (2*i)+1+1 by omega, show (2*i)+1+1+1 = (2*i+1)+1+1 by omega]
      simpa using this

/-- The slice value v reads in w as the pairs ps. -/
def Two (w : World) (v : Value) (ps : List (Int × Int)) : Prop :=
  ∃ ao cap b o, v = .slice ao ps.length cap ∧ (0 < ps.length → ao = some ⟨b, o, none⟩ ∧ b < w.heap.size) ∧
    (∀ i, i < ps.length → w.cell? ⟨b, o+i*2, none⟩ = some (.int .i64 (ps.getD i (0,0)).1) ∧ w.cell? ⟨b, o+i*2+1, none⟩ = some (.int .i64 (ps.getD i (0,0)).2)) ∧ ps.length ≤ cap ∧ cap ≤ 9223372036854775807

/-- The slice value v, made from block B on, of element type e, owns the pairs ps. -/
def Own2 (e : TypeId) (w : World) (B : Nat) (v : Value) (ps : List (Int × Int)) : Prop :=
  w.ownsRow B e 2 v ps.length (flat2 ps)

theorem Two.open_ {w : World} {v : Value} {xs : List (Int × Int)} (h : Two w v xs) :
    ∃ n ao cap b o, Hid (xs.length = n) ∧ v = .slice ao n cap ∧ (0 < n → ao = some ⟨b, o, none⟩ ∧ b < w.heap.size) ∧
      (∀ i, i < n → w.cell? ⟨b, o+i*2, none⟩ = some (.int .i64 (xs.getD i (0,0)).1) ∧ w.cell? ⟨b, o+i*2+1, none⟩ = some (.int .i64 (xs.getD i (0,0)).2)) ∧ n ≤ cap ∧ cap ≤ 9223372036854775807 ∧ Hid (Two w (.slice ao n cap) xs) := by
  have h' := h
  obtain ⟨ao, cap, b, o, rfl, h1, h2, h3, h4⟩ := h
  exact ⟨_, ao, cap, b, o, hid rfl, rfl, h1, h2, h3, h4, hid h'⟩

theorem Two.later {w w' : World} {v : Value} {xs : List (Int × Int)} (h : Two w v xs) (hb : Below w.heap.size w w') : Two w' v xs := by
  obtain ⟨ao, cap, b, o, rfl, h1, h2, h3, h4⟩ := h
  refine ⟨ao, cap, b, o, rfl, fun h => ⟨(h1 h).1, Nat.lt_of_lt_of_le (h1 h).2 hb.size⟩, fun i hi => ?_, h3, h4⟩
  have hbb := (h1 (by omega)).2
  rw [← (h2 i hi).1, ← (h2 i hi).2]
  exact ⟨hb.cell (by exact hbb), hb.cell (by exact hbb)⟩
theorem Two.drawn {w : World} {v : Value} {xs : List (Int × Int)} (h : Two w v xs) (n : Nat) : Two (w.drewN n) v xs := h.later (below_drewN (Below.refl _ _) n)

theorem Own2.cell1 {e : TypeId} {w : World} {B g n cap : Nat} {xs : List (Int × Int)} (h : Own2 e w B (.slice (some ⟨g, 0, none⟩) n cap) xs) (hl : xs.length = n) {i : Nat} (hi : i < n) :
    w.cell? ⟨g, i*2, none⟩ = some (.int .i64 (xs.getD i (0,0)).1) := by
  subst hl
  rw [World.ownsRow.cellAt (n := xs.length) (cap := cap) h (i*2) (by omega), show i * 2 = 2 * i by omega]
  exact (flat2_get hi).1
theorem Own2.cell2 {e : TypeId} {w : World} {B g n cap : Nat} {xs : List (Int × Int)} (h : Own2 e w B (.slice (some ⟨g, 0, none⟩) n cap) xs) (hl : xs.length = n) {i : Nat} (hi : i < n) :
    w.cell? ⟨g, i*2+1, none⟩ = some (.int .i64 (xs.getD i (0,0)).2) := by
  subst hl
  rw [World.ownsRow.cellAt (n := xs.length) (cap := cap) h (i*2+1) (by omega), show i * 2 = 2 * i by omega]
  exact (flat2_get hi).2
theorem Own2.free {e : TypeId} {w : World} {B g n cap : Nat} {xs : List (Int × Int)} (h : Own2 e w B (.slice (some ⟨g, 0, none⟩) n cap) xs) (hl : xs.length = n) (i : Nat) :
    w.frozen? ⟨g, i, none⟩ = false := by
  subst hl
  exact World.ownsRow.frozenAt (n := xs.length) (cap := cap) h i

theorem Own2.two {e : TypeId} {w : World} {B : Nat} {v : Value} {xs : List (Int × Int)} (h : Own2 e w B v xs) : Two w v xs := by
  have h' := h
  rcases h.2 with ⟨rfl, hn⟩ | ⟨g, cap, cur, rfl, hB, hg, hnc, hcm, hcs, htk⟩
  · refine ⟨none, 0, 0, 0, by rw [hn], fun h => by omega, fun i hi => by omega, by omega, by omega⟩
  · refine ⟨some ⟨g, 0, none⟩, cap, g, 0, rfl, fun _ => ⟨rfl, (Array.getElem?_eq_some_iff.1 hg).1⟩, fun i hi => ?_, hnc, by simpa [maxLen] using hcm⟩
    rw [Nat.zero_add]
    exact ⟨Own2.cell1 h' rfl hi, Own2.cell2 h' rfl hi⟩

theorem Own2.kept {e : TypeId} {w w' : World} {B : Nat} {v : Value} {xs : List (Int × Int)} {row : Option Nat} (h : Own2 e w B v xs) (hg : w.grownBy w' row) (hne : v.ownBlock = none ∨ v.ownBlock ≠ row) : Own2 e w' B v xs :=
  World.ownsRow.kept h hg hne
theorem Own2.later {e : TypeId} {w w' : World} {B : Nat} {v : Value} {xs : List (Int × Int)} (h : Own2 e w B v xs) (hb : Below w.heap.size w w') : Own2 e w' B v xs :=
  Own2.kept h (grown_of_below hb none) (by cases v.ownBlock <;> simp)
theorem Own2.drawn {e : TypeId} {w : World} {B : Nat} {v : Value} {xs : List (Int × Int)} (h : Own2 e w B v xs) (n : Nat) : Own2 e (w.drewN n) B v xs := h.later (below_drewN (Below.refl _ _) n)
theorem Own2.alloc {e : TypeId} {w : World} {B : Nat} {v : Value} {xs : List (Int × Int)} (h : Own2 e w B v xs) (o : Obj) : Own2 e (w.alloc o) B v xs := World.ownsRow.alloc h o
theorem Own2.nil (e : TypeId) (w : World) (B : Nat) : Own2 e w B (.slice none 0 0) [] := World.ownsRow_nil _ _ _ _
theorem Own2.lit0 (e : TypeId) (w : World) (B : Nat) (hB : B ≤ w.heap.size) : Own2 e (w.alloc (.cells #[] e)) B (.slice (some ⟨w.heap.size, 0, none⟩) 0 0) [] :=
  World.ownsRow_lit w #[] 0 hB (by simp [maxLen]) rfl

theorem flat2_set1 {ps : List (Int × Int)} {u : Int} : ∀ {i : Nat}, i < ps.length → (flat2 ps).set (2*i) (.int .i64 u) = flat2 (ps.set i (u, (ps.getD i (0,0)).2)) := by
  induction ps with
  | nil => intro i h; simp at h
  | cons a r ih =>
    intro i h
    cases i with
    | zero => rw [flat2_cons]; simp [flat2_cons]
    | succ i =>
      have := ih (i := i) (by simpa using h)
      rw [show 2 * (i+1) = (2*i)+1+1 by omega, flat2_cons]
      simp only [List.set_cons_succ, flat2_cons, List.getD_cons_succ, this]
theorem flat2_set2 {ps : List (Int × Int)} {u : Int} : ∀ {i : Nat}, i < ps.length → (flat2 ps).set (2*i+1) (.int .i64 u) = flat2 (ps.set i ((ps.getD i (0,0)).1, u)) := by
  induction ps with
  | nil => intro i h; simp at h
  | cons a r ih =>
    intro i h
    cases i with
    | zero => rw [flat2_cons]; simp [flat2_cons]
    | succ i =>
      have := ih (i := i) (by simpa using h)
      rw [show 2 * (i+1) + 1 = (2*i+1)+1+1 by omega, flat2_cons]
      simp only [List.set_cons_succ, flat2_cons, List.getD_cons_succ, this]

theorem Own2.set1 {e : TypeId} {w : World} {B g n cap : Nat} {xs ys : List (Int × Int)} (h : Own2 e w B (.slice (some ⟨g, 0, none⟩) n cap) xs) (hl : xs.length = n) {i : Nat} (hi : i < n) (u : Int) (ex : xs.set i (u, (xs.getD i (0,0)).2) = ys) :
    Own2 e (w.setCell ⟨g, i*2, none⟩ (.int .i64 u)) B (.slice (some ⟨g, 0, none⟩) n cap) ys ∧ w.grownBy (w.setCell ⟨g, i*2, none⟩ (.int .i64 u)) (some g) := by
  subst hl
  obtain ⟨h1, h2⟩ := World.ownsRow.stored (n := xs.length) (cap := cap) h (i*2) (.int .i64 u)
  refine ⟨?_, h2⟩
  subst ex
  unfold Own2
  rw [List.length_set, ← flat2_set1 hi, show 2 * i = i * 2 by omega]
  exact h1
theorem Own2.set2 {e : TypeId} {w : World} {B g n cap : Nat} {xs ys : List (Int × Int)} (h : Own2 e w B (.slice (some ⟨g, 0, none⟩) n cap) xs) (hl : xs.length = n) {i : Nat} (hi : i < n) (u : Int) (ex : xs.set i ((xs.getD i (0,0)).1, u) = ys) :
    Own2 e (w.setCell ⟨g, i*2+1, none⟩ (.int .i64 u)) B (.slice (some ⟨g, 0, none⟩) n cap) ys ∧ w.grownBy (w.setCell ⟨g, i*2+1, none⟩ (.int .i64 u)) (some g) := by
  subst hl
  obtain ⟨h1, h2⟩ := World.ownsRow.stored (n := xs.length) (cap := cap) h (i*2+1) (.int .i64 u)
  refine ⟨?_, h2⟩
  subst ex
  unfold Own2
  rw [List.length_set, ← flat2_set2 hi, show 2 * i = i * 2 by omega]
  exact h1

theorem take_snoc2 {xs : List (Int × Int)} {k : Nat} {x : Int × Int} (h : k < xs.length) (e : xs.getD k (0,0) = x) : xs.take (k+1) = xs.take k ++ [x] := by
  rw [List.take_succ_eq_append_getElem h]
  simp [List.getD, h] at e
  rw [e]
theorem take_ext2 {xs ys : List (Int × Int)} {k : Nat} (h : xs.take k = ys.take k) (hx : k < xs.length) (hy : k < ys.length) (e : xs.getD k (0,0) = ys.getD k (0,0)) : xs.take (k+1) = ys.take (k+1) := by
  rw [take_snoc2 hx rfl, take_snoc2 hy rfl, h, e]

/-- k, k + 1; k + 2, k + 3; ..: n pairs. -/
def marks2 (k : Int) (n : Nat) : List (Int × Int) := (List.range n).map fun i : Nat => (k + 2 * (i : Int), k + 2 * (i : Int) + 1)
theorem length_marks2 (k : Int) (n : Nat) : (marks2 k n).length = n := by simp [marks2]
theorem getD_marks2 (k : Int) (n i : Nat) (h : i < n) : (marks2 k n).getD i (0,0) = (k + 2 * (i : Int), k + 2 * (i : Int) + 1) := by simp [marks2, List.getD, h]
theorem marks2_succ (k : Int) (n : Nat) : marks2 k (n+1) = marks2 k n ++ [(k + 2 * (n : Int), k + 2 * (n : Int) + 1)] := by simp [marks2, List.range_succ]

theorem set_marks2 {k : Int} {xs : List (Int × Int)} {j : Nat} (h : j < xs.length) :
    (marks2 k j ++ xs.drop j).set j (k + 2 * (j : Int), k + 2 * (j : Int) + 1) = marks2 k (j+1) ++ xs.drop (j+1) := by
  rw [List.set_append_right _ _ (by rw [length_marks2]; omega), length_marks2, Nat.sub_self, List.drop_eq_getElem_cons h, marks2_succ, List.set_cons_zero, List.append_assoc]
  rfl

end Go.Proofs.Ytgbnoljmmenlbaa
