import Derived.Test.YtepjbcgkjcgfbaaRows
import Derived.Test.YtepjbcgkjcgfbaaBase
import Derived.ProofKit
import Derived.Lib.SmallJoins
import Derived.Deep.Slices
import Derived.Test.YtepjbcgkjcgfbaaTwo
namespace Go.Proofs.Ytepjbcgkjcgfbaa
open Go.ChangeShapes Go.WideShapes Go.ChangeAt Go.RowKit

/-! ## From data to what the walks ask -/

theorem ownKnobNone : ownKnob Try.prog.godebug = none := by kernel_rfl
theorem isLaidOut : laidOutB Try.prog = true := by kernel_rfl
theorem cellsInt : Try.prog.cellsOf 3 = 1 := by kernel_rfl

set_option maxRecDepth 100000 in
theorem ints_of_trod {H : Type} {enc : TypeId × Value → H} {W : World} {base : Nat} {v : Value} {d : DataW H} {p : List MemPlace} (hv : Value.okWide Try.prog W .any base 22 v)
    (h : DataW.Trod enc Try.prog W 0 (fun _ => true) true 22 v d p) (hlt : ∀ x ∈ p, x.block < W.heap.size) : ∃ xs, Ints W v xs := by
  obtain ⟨a0, len, cap, rfl⟩ := okWide_slice Try.underlying22 hv
  obtain ⟨fuel, hf⟩ := h
  rcases open_ints Try.underlying22 Try.underlying3 cellsInt hf with ⟨hcs, hx⟩ | ⟨a, len', cap', zs, hcs, _, hl, hm, hz, hx, hcell, _⟩
  · simp [Value.cells] at hcs
    obtain ⟨rfl, rfl, rfl⟩ := hcs
    exact ⟨[], none, 0, 0, 0, rfl, fun h => absurd h (by simp), fun i hi => absurd hi (by simp), by simp, by simp⟩
  · simp [Value.cells] at hcs
    obtain ⟨rfl, rfl, rfl⟩ := hcs
    simp only [Prod.mk.injEq] at hx
    obtain ⟨rfl, rfl⟩ := hx
    simp only [if_true] at hz
    have hm' : cap ≤ 9223372036854775807 := by simpa [maxLen] using hm
    have hlen : (zs.take len).length = len := by rw [List.length_take]; omega
    refine ⟨zs.take len, some a, cap, a.block, a.off, by rw [hlen], fun h => ?_, fun i hi => ?_, by rw [hlen]; exact hl, hm'⟩
    · rw [hlen] at h
      obtain ⟨b, off, spot⟩ := a
      have hspot : spot = none := by simpa [Addr.add] using World.cell?_spot (hcell 0 (by omega))
      subst hspot
      exact ⟨rfl, hlt (.cell b off) (MemPlace.mem_row.2 ⟨0, by omega, by simp⟩)⟩
    · rw [hlen] at hi
      obtain ⟨b, off, spot⟩ := a
      have hspot : spot = none := by simpa [Addr.add] using World.cell?_spot (hcell 0 (by omega))
      subst hspot
      show W.cell? ⟨b, off + i, none⟩ = _
      rw [← add_plain, hcell i (by omega)]
      simp [List.getD, hi]


theorem cellsLSlot : Try.prog.cellsOf 62 = 2 := by kernel_rfl
set_option maxRecDepth 100000 in
theorem slots_of_trod {H : Type} {enc : TypeId × Value → H} {W : World} {base : Nat} {v : Value} {d : DataW H} {p : List MemPlace} (hv : Value.okWide Try.prog W .any base 38 v)
    (h : DataW.Trod enc Try.prog W 0 (fun _ => true) true 38 v d p) (hlt : ∀ x ∈ p, x.block < W.heap.size) : ∃ xs, Two W v xs := by
  obtain ⟨a0, len, cap, rfl⟩ := okWide_slice Try.underlying38 hv
  obtain ⟨fuel, hf⟩ := h
  rcases Go.Deep.open_slice Try.underlying38 hf with ⟨hcs, hx⟩ | ⟨a, len', cap', m, n, D, Pl, hcs, _, hl, hm, hmm, hx, hel⟩
  · simp [Value.cells] at hcs
    obtain ⟨rfl, rfl, rfl⟩ := hcs
    exact ⟨[], none, 0, 0, 0, rfl, fun h => absurd h (by simp), fun i hi => absurd hi (by simp), by simp, by simp⟩
  · simp [Value.cells] at hcs
    obtain ⟨rfl, rfl, rfl⟩ := hcs
    simp only [if_true] at hmm
    subst hmm
    simp only [Prod.mk.injEq] at hx
    obtain ⟨rfl, rfl⟩ := hx
    have hm' : m ≤ 9223372036854775807 := by simpa [maxLen] using hm
    obtain ⟨b, off, spot⟩ := a
    have hsp0 : 0 < m → spot = none := by
      intro h0
      obtain ⟨cs', hcells, htr⟩ := hel 0 h0
      rw [cellsLSlot] at hcells
      obtain ⟨_, hlen, hat⟩ := World.cells?_some hcells
      have q0 := hat 0 (by omega)
      rw [List.getElem?_eq_getElem (by omega)] at q0
      simpa [Addr.add] using World.cell?_spot q0
    have key : ∀ i, i < m → ∃ x y : Int, spot = none ∧ W.cell? ⟨b, off + i * 2, none⟩ = some (.int .i64 x) ∧ W.cell? ⟨b, off + i * 2 + 1, none⟩ = some (.int .i64 y) := by
      intro i hi
      obtain ⟨cs', hcells, htr⟩ := hel i hi
      rw [cellsLSlot] at hcells
      obtain ⟨_, hlen, hat⟩ := World.cells?_some hcells
      obtain ⟨y0, y1, n', _, _, h0, h1⟩ := trod_struct2 Try.underlying62 htr
      match cs', hlen with
      | [c0, c1], _ =>
        obtain ⟨x, e0, _, _⟩ := DataW.trod_int Try.underlying3 h0
        obtain ⟨y, e1, _, _⟩ := DataW.trod_int Try.underlying3 h1
        rw [cellsInt] at e0 e1
        simp at e0 e1
        subst e0 e1
        have q0 := hat 0 (by omega)
        have q1 := hat 1 (by omega)
        have hsp := hsp0 (by omega)
        subst hsp
        refine ⟨x, y, rfl, ?_, ?_⟩
        · rw [← add_plain]; simpa [Addr.add] using q0
        · rw [show off + i * 2 + 1 = (off + i * 2) + 1 from rfl, ← add_plain (b := b) (off := off + i * 2), ← add_plain (b := b) (off := off)]; exact q1
    have kk : ∃ f : Nat → Int × Int, ∀ i, i < m → spot = none ∧ W.cell? ⟨b, off + i * 2, none⟩ = some (.int .i64 (f i).1) ∧ W.cell? ⟨b, off + i * 2 + 1, none⟩ = some (.int .i64 (f i).2) :=
      ⟨fun i => if h : i < m then (Classical.choose (key i h), Classical.choose (Classical.choose_spec (key i h))) else (0, 0), fun i hi => by
        simp only [hi, dif_pos]
        exact Classical.choose_spec (Classical.choose_spec (key i hi))⟩
    obtain ⟨f, hf'⟩ := kk
    refine ⟨(List.range len).map f, some ⟨b, off, spot⟩, m, b, off, by simp, fun h => ?_, fun i hi => ?_, by simpa using hl, hm'⟩
    · simp only [List.length_map, List.length_range] at h
      have := (hf' 0 (by omega)).1
      subst this
      refine ⟨rfl, hlt (.cell b off) (List.mem_append_left _ (MemPlace.mem_row.2 ⟨0, ?_, by simp⟩))⟩
      rw [cellsLSlot]; omega
    · simp only [List.length_map, List.length_range] at hi
      have e : ((List.range len).map f).getD i (0,0) = f i := by simp [List.getD, hi]
      rw [e]
      exact (hf' i (by omega)).2
end Go.Proofs.Ytepjbcgkjcgfbaa
