import Derived.Test.YtfgjaefcfmjleaaGhosts2
import Derived.Test.YtfgjaefcfmjleaaBits
import Derived.Deep.Onto
namespace Go.Proofs.Ytfgjaefcfmjleaa
open Go.RowKit

/-! ## [][7]int: a flat list of integers, seven for each element -/
def Sevens (w : World) (v : Value) (fs : List Int) : Prop :=
  ∃ n ao cap b o, fs.length = 7 * n ∧ v = .slice ao n cap ∧ (0 < n → ao = some ⟨b, o, none⟩ ∧ b < w.heap.size) ∧
    (∀ p, p < 7 * n → w.cell? ⟨b, o+p, none⟩ = some (.int .i64 (fs.getD p 0))) ∧ n ≤ cap ∧ cap ≤ 9223372036854775807
def Own7 (w : World) (B : Nat) (v : Value) (fs : List Int) : Prop :=
  ∃ n, fs.length = 7 * n ∧ w.ownsRow B 71 7 v n (fs.map (Value.int .i64))

theorem Own7.len {w : World} {B n cap : Nat} {ao : Option Addr} {fs : List Int} (h : Own7 w B (.slice ao n cap) fs) : fs.length = 7 * n := by
  obtain ⟨m, hm, h⟩ := h
  rcases h.2 with ⟨hv, h0⟩ | ⟨g, cap, cur, hv, hb, hg, _⟩
  · cases hv
    rw [hm, h0]
  · cases hv
    exact hm
theorem Own7.row {w : World} {B g n cap : Nat} {fs : List Int} (h : Own7 w B (.slice (some ⟨g, 0, none⟩) n cap) fs) : w.ownsRow B 71 7 (.slice (some ⟨g, 0, none⟩) n cap) n (fs.map (Value.int .i64)) := by
  have hl := Own7.len h
  obtain ⟨m, hm, h⟩ := h
  rw [show m = n by omega] at h
  exact h
theorem Own7.rw {w : World} {B : Nat} {v : Value} {fs : List Int} (h : Own7 w B v fs) : w.ownsRow B 71 7 v (fs.length/7) (fs.map (Value.int .i64)) := by
  obtain ⟨m, hm, h⟩ := h
  rw [show fs.length / 7 = m by omega]
  exact h
theorem Own7.cell {w : World} {B g n cap : Nat} {fs : List Int} (h : Own7 w B (.slice (some ⟨g, 0, none⟩) n cap) fs) {p : Nat} (hp : p < 7 * n) :
    w.cell? ⟨g, p, none⟩ = some (.int .i64 (fs.getD p 0)) := by
  have hl := Own7.len h
  rw [World.ownsRow.cellAt (n := n) (cap := cap) h.row p (by omega)]
  simp [List.getD, List.getElem?_eq_getElem (show p < fs.length by omega)]
theorem Own7.free {w : World} {B g n cap : Nat} {fs : List Int} (h : Own7 w B (.slice (some ⟨g, 0, none⟩) n cap) fs) (p : Nat) :
    w.frozen? ⟨g, p, none⟩ = false := World.ownsRow.frozenAt (n := n) (cap := cap) h.row p
theorem Own7.set {w : World} {B g n cap : Nat} {fs ys : List Int} (h : Own7 w B (.slice (some ⟨g, 0, none⟩) n cap) fs) (i : Nat) (u : Int) (e : fs.set i u = ys) :
    Own7 (w.setCell ⟨g, i, none⟩ (.int .i64 u)) B (.slice (some ⟨g, 0, none⟩) n cap) ys ∧ w.grownBy (w.setCell ⟨g, i, none⟩ (.int .i64 u)) (some g) := by
  have hl := Own7.len h
  obtain ⟨h1, h2⟩ := World.ownsRow.stored (n := n) (cap := cap) h.row i (.int .i64 u)
  refine ⟨⟨n, ?_, ?_⟩, h2⟩
  · rw [← e, List.length_set, hl]
  · rw [← e, List.map_set]
    exact h1
theorem Own7.kept {w w' : World} {B : Nat} {v : Value} {fs : List Int} {row : Option Nat} (h : Own7 w B v fs) (hg : w.grownBy w' row) (hne : v.ownBlock = none ∨ v.ownBlock ≠ row) : Own7 w' B v fs := by
  obtain ⟨m, hm, h⟩ := h
  exact ⟨m, hm, World.ownsRow.kept h hg hne⟩
theorem Own7.later {w w' : World} {B : Nat} {v : Value} {fs : List Int} (h : Own7 w B v fs) (hb : Below w.heap.size w w') : Own7 w' B v fs :=
  Own7.kept h (grown_of_below hb none) (by cases v.ownBlock <;> simp)
theorem Own7.drawn {w : World} {B : Nat} {v : Value} {fs : List Int} (h : Own7 w B v fs) (n : Nat) : Own7 (w.drewN n) B v fs := h.later (below_drewN (Below.refl _ _) n)
theorem Own7.alloc {w : World} {B : Nat} {v : Value} {fs : List Int} (h : Own7 w B v fs) (o : Obj) : Own7 (w.alloc o) B v fs := h.later ((Below.refl _ _).alloc (Nat.le_refl _) _)
theorem Own7.mono {w : World} {B B' : Nat} {v : Value} {fs : List Int} (h : Own7 w B v fs) (hb : B' ≤ B) : Own7 w B' v fs := by
  obtain ⟨m, hm, h⟩ := h
  exact ⟨m, hm, World.ownsRow.mono h hb⟩
theorem Own7.nil (w : World) (B : Nat) : Own7 w B (.slice none 0 0) [] := ⟨0, rfl, World.ownsRow_nil _ _ _ _⟩
theorem Own7.lit0 (w : World) (B : Nat) (hB : B ≤ w.heap.size) : Own7 (w.alloc (.cells #[] 71)) B (.slice (some ⟨w.heap.size, 0, none⟩) 0 0) [] :=
  ⟨0, rfl, World.ownsRow_lit w #[] 0 hB (by simp [maxLen]) rfl⟩
theorem Own7.sevens {w : World} {B : Nat} {v : Value} {fs : List Int} (h : Own7 w B v fs) : Sevens w v fs := by
  obtain ⟨m, hm, h⟩ := h
  have h' := h
  rcases h.2 with ⟨rfl, hn⟩ | ⟨g, cap, cur, rfl, hB, hg, hnc, hcm, hcs, htk⟩
  · exact ⟨0, none, 0, 0, 0, by omega, rfl, fun h => by omega, fun i hi => by omega, by omega, by omega⟩
  · refine ⟨m, some ⟨g, 0, none⟩, cap, g, 0, hm, rfl, fun _ => ⟨rfl, (Array.getElem?_eq_some_iff.1 hg).1⟩, fun p hp => ?_, hnc, by simpa [maxLen] using hcm⟩
    rw [Nat.zero_add]
    exact Own7.cell ⟨m, hm, h'⟩ hp
theorem Sevens.later {w w' : World} {v : Value} {fs : List Int} (h : Sevens w v fs) (hb : Below w.heap.size w w') : Sevens w' v fs := by
  obtain ⟨n, ao, cap, b, o, hn, rfl, h1, h2, h3, h4⟩ := h
  refine ⟨n, ao, cap, b, o, hn, rfl, fun h => ⟨(h1 h).1, Nat.lt_of_lt_of_le (h1 h).2 hb.size⟩, fun i hi => ?_, h3, h4⟩
  have hbb := (h1 (by omega)).2
  rw [← h2 i hi]
  exact hb.cell (by exact hbb)

def agg7 (f : Nat → Int) : Value := .agg #[.int .i64 (f 0), .int .i64 (f 1), .int .i64 (f 2), .int .i64 (f 3), .int .i64 (f 4), .int .i64 (f 5), .int .i64 (f 6)]
theorem infoSev : (Try.prog.info? 71).map (fun i => (i.zero, i.size, i.bytes)) = some (some (agg7 fun _ => 0), 7, 56) := by kernel_rfl
theorem made7 {w : World} {B g n cap : Nat} (h : w.ownsRow B 71 7 (.slice (some ⟨g, 0, none⟩) n cap) n (madeCells (agg7 fun _ => 0).cells (n * 7)).toList) : Own7 w B (.slice (some ⟨g, 0, none⟩) n cap) (List.replicate (7 * n) 0) := by
  refine ⟨n, by simp, ?_⟩
  have e2 : (madeCells (agg7 fun _ => 0).cells (n * 7)).toList = (List.replicate (7 * n) (0 : Int)).map (Value.int .i64) := by
    apply List.ext_getElem?
    intro i
    by_cases hi : i < n * 7
    · have e3 : (madeCells (agg7 fun _ => 0).cells (n * 7)).toList[i]? = some (.int .i64 0) := by
        simp only [madeCells, Array.getElem?_toList, Array.getElem?_map]
        have : i % 7 < 7 := Nat.mod_lt _ (by omega)
        generalize hr : i % 7 = r at this
        match r, this with
        | 0, _ => simp [hi, hr, agg7, Value.cells]
        | 1, _ => simp [hi, hr, agg7, Value.cells]
        | 2, _ => simp [hi, hr, agg7, Value.cells]
        | 3, _ => simp [hi, hr, agg7, Value.cells]
        | 4, _ => simp [hi, hr, agg7, Value.cells]
        | 5, _ => simp [hi, hr, agg7, Value.cells]
        | 6, _ => simp [hi, hr, agg7, Value.cells]
      rw [e3]
      simp [show i < 7 * n by omega]
    · rw [List.getElem?_eq_none (by simp [madeCells]; omega), List.getElem?_eq_none (by simp; omega)]
  rw [← e2]
  exact h

end Go.Proofs.Ytfgjaefcfmjleaa
