import Derived.Test.YtgbnoljmmenlbaaCur2
namespace Go.Proofs.Ytgbnoljmmenlbaa
open Go.RowKit

/-! ## What the laws draw: codes -/
theorem below_of_grown_new {w w1 w' : World} {B g : Nat} (hb : Below B w w1) (hg : w1.grownBy w' (some g)) (h1 : B ≤ w1.heap.size) (h2 : B ≤ g) : Below B w w' :=
  hb.grown hg h1 (fun k hk => by cases hk; exact h2)
theorem own_keep {w w' : World} {B g : Nat} {v : Value} {xs : List Int} (h : OwnI w B v xs) (hg : w.grownBy w' (some g)) (_hB : g < B) : OwnI w' B v xs :=
  h.kept hg (by
    cases hv : v.ownBlock with
    | none => exact .inl rfl
    | some k =>
      right
      intro e
      have h1 := (World.ownsRow.lt h k hv).1
      simp only [Option.some.injEq] at e
      omega)

theorem grown_below' {w w1 w' : World} {g B : Nat} (h : w.grownBy w1 (some g)) (hb : Below B w1 w') (_hB : g < w.heap.size) (hBw : B = w.heap.size := by rfl) : w.grownBy w' (some g) := by
  subst hBw
  exact ⟨hb.os.trans h.os, hb.tape.trans h.tape, hb.output.trans h.output, Nat.le_trans h.size hb.size, fun k hk hr => (hb.block k hk).trans (h.block k hk hr)⟩


end Go.Proofs.Ytgbnoljmmenlbaa
