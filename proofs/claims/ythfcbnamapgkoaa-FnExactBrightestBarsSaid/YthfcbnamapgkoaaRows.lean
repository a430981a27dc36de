/-
  No cell of these rows narrows 'for every input' (looked for: loops, veiled, ifaces, maps, wideKeys, modest, calm, conditions, laid).
  DERIVED. THE GIVEN ROWS OF THIS SEAT. 12 by the template 'for every input the law returns true; each argument reads behind the call as it read before'; 0 by the template 'total and deterministic' (their statements: YthfcbnamapgkoaaTotals.lean).
  GIVEN WITH THE SEED: the statements are not yours to turn. If you find one false, say at which input.
  Laid BY PROGRAM, IN A SANDBOX (cutbox-rows.mjs): the forced cells as the released guide's own fill.sh prints them over the translation 0cad9417ff215ebf… (all of the seat's roots in one cut). By AI agents, Wed Nov 11 2026. No macro, syntax, notation, axiom, sorry.
-/
import Derived.Test.YthfcbnamapgkoaaChecked
import GoSem.Claim
import GoSem.ClaimJoined
import GoSem.ClaimMapViews
import Derived.JoinedTies
import Derived.KernelRfl
namespace Go.Proofs.Ythfcbnamapgkoaa
/- THE CELL 'sum', in the pinned program and in every row, IS THE sha256 OF THE DUMP (.gsa) THAT YthfcbnamapgkoaaProg.lean LOADS. Nothing in Lean hashes anything: it is a label: what it is worth is what the hold of that sum in a sandbox is worth. -/
noncomputable def Try.pinned : Pinned := { name := "ythfcbnamapgkoaa", sum := "0cad9417ff215ebf2e112a2767914b573c372dc2f9ab33f9fb8fee6375a19c2b", checked := Try.checked }
namespace Rows
def none {H : Type} : Left H := { results := [], args := [] }

/-- 'laws.FnExactFarthestCell': WHATEVER THE INPUT: true; the input reads as it did. -/
def fnExactFarthestCellSpec : ChangeSpec := { name := "fnExactFarthestCell", fn := fun _ => fun
  | [d] => { results := [.lit (.bool true)], args := [d] }
  | _ => none }
def fnExactFarthestCellRow : OpenClaim := { program := "ythfcbnamapgkoaa", sum := "0cad9417ff215ebf2e112a2767914b573c372dc2f9ab33f9fb8fee6375a19c2b", func := "loop.example/g01265/laws.FnExactFarthestCell", spec := "fnExactFarthestCell", apart := false }
def FnExactFarthestCellSaid : Prop := fnExactFarthestCellRow.holds Try.pinned (OpenSpec.ofChange fnExactFarthestCellSpec)

/-- ITS FALSE NEIGHBOUR: 'it returns false'. Refute it at one input. -/
def fnExactFarthestCellWrong : ChangeSpec := { name := "fnExactFarthestCell", fn := fun _ => fun
  | [d] => { results := [.lit (.bool false)], args := [d] }
  | _ => none }
def FnExactFarthestCellWrongFalsely : Prop := fnExactFarthestCellRow.holds Try.pinned (OpenSpec.ofChange fnExactFarthestCellWrong)

/-- 'laws.FnExactGreedyCode': WHATEVER THE INPUT: true; the input reads as it did. -/
def fnExactGreedyCodeSpec : ChangeSpec := { name := "fnExactGreedyCode", fn := fun _ => fun
  | [d1, d2] => { results := [.lit (.bool true)], args := [d1, d2] }
  | _ => none }
def fnExactGreedyCodeRow : OpenClaim := { program := "ythfcbnamapgkoaa", sum := "0cad9417ff215ebf2e112a2767914b573c372dc2f9ab33f9fb8fee6375a19c2b", func := "loop.example/g01265/laws.FnExactGreedyCode", spec := "fnExactGreedyCode", apart := false }
def FnExactGreedyCodeSaid : Prop := fnExactGreedyCodeRow.holds Try.pinned (OpenSpec.ofChange fnExactGreedyCodeSpec)

/-- ITS FALSE NEIGHBOUR: 'it returns false'. Refute it at one input. -/
def fnExactGreedyCodeWrong : ChangeSpec := { name := "fnExactGreedyCode", fn := fun _ => fun
  | [d1, d2] => { results := [.lit (.bool false)], args := [d1, d2] }
  | _ => none }
def FnExactGreedyCodeWrongFalsely : Prop := fnExactGreedyCodeRow.holds Try.pinned (OpenSpec.ofChange fnExactGreedyCodeWrong)

/-- 'laws.FnExactSpreadPart': WHATEVER THE INPUT: true; the input reads as it did. -/
def fnExactSpreadPartSpec : ChangeSpec := { name := "fnExactSpreadPart", fn := fun _ => fun
  | [d1, d2] => { results := [.lit (.bool true)], args := [d1, d2] }
  | _ => none }
def fnExactSpreadPartRow : OpenClaim := { program := "ythfcbnamapgkoaa", sum := "0cad9417ff215ebf2e112a2767914b573c372dc2f9ab33f9fb8fee6375a19c2b", func := "loop.example/g01265/laws.FnExactSpreadPart", spec := "fnExactSpreadPart", unfollowed := true, recurses := true, apart := false }
def FnExactSpreadPartSaid : Prop := fnExactSpreadPartRow.holds Try.pinned (OpenSpec.ofChange fnExactSpreadPartSpec)

/-- ITS FALSE NEIGHBOUR: 'it returns false'. Refute it at one input. -/
def fnExactSpreadPartWrong : ChangeSpec := { name := "fnExactSpreadPart", fn := fun _ => fun
  | [d1, d2] => { results := [.lit (.bool false)], args := [d1, d2] }
  | _ => none }
def FnExactSpreadPartWrongFalsely : Prop := fnExactSpreadPartRow.holds Try.pinned (OpenSpec.ofChange fnExactSpreadPartWrong)

/-- 'laws.FnExactFullBars': WHATEVER THE INPUT: true; the input reads as it did. -/
def fnExactFullBarsSpec : ChangeSpec := { name := "fnExactFullBars", fn := fun _ => fun
  | [d1, d2] => { results := [.lit (.bool true)], args := [d1, d2] }
  | _ => none }
def fnExactFullBarsRow : OpenClaim := { program := "ythfcbnamapgkoaa", sum := "0cad9417ff215ebf2e112a2767914b573c372dc2f9ab33f9fb8fee6375a19c2b", func := "loop.example/g01265/laws.FnExactFullBars", spec := "fnExactFullBars", unfollowed := true, recurses := true, apart := false }
def FnExactFullBarsSaid : Prop := fnExactFullBarsRow.holds Try.pinned (OpenSpec.ofChange fnExactFullBarsSpec)

/-- ITS FALSE NEIGHBOUR: 'it returns false'. Refute it at one input. -/
def fnExactFullBarsWrong : ChangeSpec := { name := "fnExactFullBars", fn := fun _ => fun
  | [d1, d2] => { results := [.lit (.bool false)], args := [d1, d2] }
  | _ => none }
def FnExactFullBarsWrongFalsely : Prop := fnExactFullBarsRow.holds Try.pinned (OpenSpec.ofChange fnExactFullBarsWrong)

/-- 'laws.FnExactIsFrame': WHATEVER THE INPUT: true; the input reads as it did. -/
def fnExactIsFrameSpec : ChangeSpec := { name := "fnExactIsFrame", fn := fun _ => fun
  | [d1, d2] => { results := [.lit (.bool true)], args := [d1, d2] }
  | _ => none }
def fnExactIsFrameRow : OpenClaim := { program := "ythfcbnamapgkoaa", sum := "0cad9417ff215ebf2e112a2767914b573c372dc2f9ab33f9fb8fee6375a19c2b", func := "loop.example/g01265/laws.FnExactIsFrame", spec := "fnExactIsFrame", unfollowed := true, recurses := true, apart := false }
def FnExactIsFrameSaid : Prop := fnExactIsFrameRow.holds Try.pinned (OpenSpec.ofChange fnExactIsFrameSpec)

/-- ITS FALSE NEIGHBOUR: 'it returns false'. Refute it at one input. -/
def fnExactIsFrameWrong : ChangeSpec := { name := "fnExactIsFrame", fn := fun _ => fun
  | [d1, d2] => { results := [.lit (.bool false)], args := [d1, d2] }
  | _ => none }
def FnExactIsFrameWrongFalsely : Prop := fnExactIsFrameRow.holds Try.pinned (OpenSpec.ofChange fnExactIsFrameWrong)

/-- 'laws.FnExactWithBlanks': WHATEVER THE INPUT: true; the input reads as it did. -/
def fnExactWithBlanksSpec : ChangeSpec := { name := "fnExactWithBlanks", fn := fun _ => fun
  | [d1, d2] => { results := [.lit (.bool true)], args := [d1, d2] }
  | _ => none }
def fnExactWithBlanksRow : OpenClaim := { program := "ythfcbnamapgkoaa", sum := "0cad9417ff215ebf2e112a2767914b573c372dc2f9ab33f9fb8fee6375a19c2b", func := "loop.example/g01265/laws.FnExactWithBlanks", spec := "fnExactWithBlanks", unfollowed := true, recurses := true, apart := false }
def FnExactWithBlanksSaid : Prop := fnExactWithBlanksRow.holds Try.pinned (OpenSpec.ofChange fnExactWithBlanksSpec)

/-- ITS FALSE NEIGHBOUR: 'it returns false'. Refute it at one input. -/
def fnExactWithBlanksWrong : ChangeSpec := { name := "fnExactWithBlanks", fn := fun _ => fun
  | [d1, d2] => { results := [.lit (.bool false)], args := [d1, d2] }
  | _ => none }
def FnExactWithBlanksWrongFalsely : Prop := fnExactWithBlanksRow.holds Try.pinned (OpenSpec.ofChange fnExactWithBlanksWrong)

/-- 'laws.FnExactPlainFrame': WHATEVER THE INPUT: true; the input reads as it did. -/
def fnExactPlainFrameSpec : ChangeSpec := { name := "fnExactPlainFrame", fn := fun _ => fun
  | [d] => { results := [.lit (.bool true)], args := [d] }
  | _ => none }
def fnExactPlainFrameRow : OpenClaim := { program := "ythfcbnamapgkoaa", sum := "0cad9417ff215ebf2e112a2767914b573c372dc2f9ab33f9fb8fee6375a19c2b", func := "loop.example/g01265/laws.FnExactPlainFrame", spec := "fnExactPlainFrame", unfollowed := true, recurses := true, apart := false }
def FnExactPlainFrameSaid : Prop := fnExactPlainFrameRow.holds Try.pinned (OpenSpec.ofChange fnExactPlainFrameSpec)

/-- ITS FALSE NEIGHBOUR: 'it returns false'. Refute it at one input. -/
def fnExactPlainFrameWrong : ChangeSpec := { name := "fnExactPlainFrame", fn := fun _ => fun
  | [d] => { results := [.lit (.bool false)], args := [d] }
  | _ => none }
def FnExactPlainFrameWrongFalsely : Prop := fnExactPlainFrameRow.holds Try.pinned (OpenSpec.ofChange fnExactPlainFrameWrong)

/-- 'laws.FnExactSeenOf': WHATEVER THE INPUT: true; the input reads as it did. -/
def fnExactSeenOfSpec : ChangeSpec := { name := "fnExactSeenOf", fn := fun _ => fun
  | [d1, d2] => { results := [.lit (.bool true)], args := [d1, d2] }
  | _ => none }
def fnExactSeenOfRow : OpenClaim := { program := "ythfcbnamapgkoaa", sum := "0cad9417ff215ebf2e112a2767914b573c372dc2f9ab33f9fb8fee6375a19c2b", func := "loop.example/g01265/laws.FnExactSeenOf", spec := "fnExactSeenOf", unfollowed := true, recurses := true, apart := false }
def FnExactSeenOfSaid : Prop := fnExactSeenOfRow.holds Try.pinned (OpenSpec.ofChange fnExactSeenOfSpec)

/-- ITS FALSE NEIGHBOUR: 'it returns false'. Refute it at one input. -/
def fnExactSeenOfWrong : ChangeSpec := { name := "fnExactSeenOf", fn := fun _ => fun
  | [d1, d2] => { results := [.lit (.bool false)], args := [d1, d2] }
  | _ => none }
def FnExactSeenOfWrongFalsely : Prop := fnExactSeenOfRow.holds Try.pinned (OpenSpec.ofChange fnExactSeenOfWrong)

/-- 'laws.FnExactDutyOf': WHATEVER THE INPUT: true; the input reads as it did. -/
def fnExactDutyOfSpec : ChangeSpec := { name := "fnExactDutyOf", fn := fun _ => fun
  | [d1, d2] => { results := [.lit (.bool true)], args := [d1, d2] }
  | _ => none }
def fnExactDutyOfRow : OpenClaim := { program := "ythfcbnamapgkoaa", sum := "0cad9417ff215ebf2e112a2767914b573c372dc2f9ab33f9fb8fee6375a19c2b", func := "loop.example/g01265/laws.FnExactDutyOf", spec := "fnExactDutyOf", unfollowed := true, recurses := true, apart := false }
def FnExactDutyOfSaid : Prop := fnExactDutyOfRow.holds Try.pinned (OpenSpec.ofChange fnExactDutyOfSpec)

/-- ITS FALSE NEIGHBOUR: 'it returns false'. Refute it at one input. -/
def fnExactDutyOfWrong : ChangeSpec := { name := "fnExactDutyOf", fn := fun _ => fun
  | [d1, d2] => { results := [.lit (.bool false)], args := [d1, d2] }
  | _ => none }
def FnExactDutyOfWrongFalsely : Prop := fnExactDutyOfRow.holds Try.pinned (OpenSpec.ofChange fnExactDutyOfWrong)

/-- 'laws.FnExactBrightestBars': WHATEVER THE INPUT: true; the input reads as it did. -/
def fnExactBrightestBarsSpec : ChangeSpec := { name := "fnExactBrightestBars", fn := fun _ => fun
  | [d1, d2] => { results := [.lit (.bool true)], args := [d1, d2] }
  | _ => none }
def fnExactBrightestBarsRow : OpenClaim := { program := "ythfcbnamapgkoaa", sum := "0cad9417ff215ebf2e112a2767914b573c372dc2f9ab33f9fb8fee6375a19c2b", func := "loop.example/g01265/laws.FnExactBrightestBars", spec := "fnExactBrightestBars", unfollowed := true, recurses := true, apart := false }
def FnExactBrightestBarsSaid : Prop := fnExactBrightestBarsRow.holds Try.pinned (OpenSpec.ofChange fnExactBrightestBarsSpec)

/-- ITS FALSE NEIGHBOUR: 'it returns false'. Refute it at one input. -/
def fnExactBrightestBarsWrong : ChangeSpec := { name := "fnExactBrightestBars", fn := fun _ => fun
  | [d1, d2] => { results := [.lit (.bool false)], args := [d1, d2] }
  | _ => none }
def FnExactBrightestBarsWrongFalsely : Prop := fnExactBrightestBarsRow.holds Try.pinned (OpenSpec.ofChange fnExactBrightestBarsWrong)

/-- 'laws.FnExactSwitchesOf': WHATEVER THE INPUT: true; the input reads as it did. -/
def fnExactSwitchesOfSpec : ChangeSpec := { name := "fnExactSwitchesOf", fn := fun _ => fun
  | [d1, d2] => { results := [.lit (.bool true)], args := [d1, d2] }
  | _ => none }
def fnExactSwitchesOfRow : OpenClaim := { program := "ythfcbnamapgkoaa", sum := "0cad9417ff215ebf2e112a2767914b573c372dc2f9ab33f9fb8fee6375a19c2b", func := "loop.example/g01265/laws.FnExactSwitchesOf", spec := "fnExactSwitchesOf", unfollowed := true, recurses := true, apart := false }
def FnExactSwitchesOfSaid : Prop := fnExactSwitchesOfRow.holds Try.pinned (OpenSpec.ofChange fnExactSwitchesOfSpec)

/-- ITS FALSE NEIGHBOUR: 'it returns false'. Refute it at one input. -/
def fnExactSwitchesOfWrong : ChangeSpec := { name := "fnExactSwitchesOf", fn := fun _ => fun
  | [d1, d2] => { results := [.lit (.bool false)], args := [d1, d2] }
  | _ => none }
def FnExactSwitchesOfWrongFalsely : Prop := fnExactSwitchesOfRow.holds Try.pinned (OpenSpec.ofChange fnExactSwitchesOfWrong)

/-- 'laws.FnExactGhostsOf': WHATEVER THE INPUT: true; the input reads as it did. -/
def fnExactGhostsOfSpec : ChangeSpec := { name := "fnExactGhostsOf", fn := fun _ => fun
  | [d1, d2] => { results := [.lit (.bool true)], args := [d1, d2] }
  | _ => none }
def fnExactGhostsOfRow : OpenClaim := { program := "ythfcbnamapgkoaa", sum := "0cad9417ff215ebf2e112a2767914b573c372dc2f9ab33f9fb8fee6375a19c2b", func := "loop.example/g01265/laws.FnExactGhostsOf", spec := "fnExactGhostsOf", unfollowed := true, recurses := true, apart := false }
def FnExactGhostsOfSaid : Prop := fnExactGhostsOfRow.holds Try.pinned (OpenSpec.ofChange fnExactGhostsOfSpec)

/-- ITS FALSE NEIGHBOUR: 'it returns false'. Refute it at one input. -/
def fnExactGhostsOfWrong : ChangeSpec := { name := "fnExactGhostsOf", fn := fun _ => fun
  | [d1, d2] => { results := [.lit (.bool false)], args := [d1, d2] }
  | _ => none }
def FnExactGhostsOfWrongFalsely : Prop := fnExactGhostsOfRow.holds Try.pinned (OpenSpec.ofChange fnExactGhostsOfWrong)

/- THE SECOND FORM. 'bulk': how many values and letters a reading holds, each counted each time it is reached (what is shared counts as often as it is met; a slice's spare places count too). A statement '..UptoSaid' is the law's where the arguments, and the package variables that the reading takes, are together of bulk at most 1048576: NARROWER than '..Said'. Prove '..Said' where nothing that the law and all that it calls make is longer than what came in: it says more and counts as full. Else prove '..UptoSaid'. A law counts once. -/
mutual
def uptoBulk {H : Type} : DataW H → Nat
  | .lit (.string bytes) => bytes.length + 1
  | .lit _ => 1
  | .nil => 1
  | .ptr d => uptoBulk d + 1
  | .slice elems spare => uptoBulkAll elems + uptoBulkAll spare + 1
  | .agg parts => uptoBulkAll parts + 1
  | .iface _ d => uptoBulk d + 1
  | .map entries => uptoBulkEntries entries + 1
  | .held _ => 1
def uptoBulkAll {H : Type} : List (DataW H) → Nat
  | [] => 0
  | d :: r => uptoBulk d + uptoBulkAll r
def uptoBulkEntries {H : Type} : List (Lit × DataW H) → Nat
  | [] => 0
  | x :: r => uptoBulkEntry x + uptoBulkEntries r
def uptoBulkEntry {H : Type} : Lit × DataW H → Nat
  | (.string bytes, d) => bytes.length + uptoBulk d + 1
  | (_, d) => uptoBulk d + 1
 end
def uptoSmall : (H : Type) → List (DataW H) → Bool := fun _ ds => decide (uptoBulkAll ds ≤ 1048576)
def OpenSpec.upto (s : _root_.Go.ChangeSpec) : _root_.Go.OpenSpec := { _root_.Go.OpenSpec.ofChange s with cond := some uptoSmall }

/-- 'laws.FnExactFarthestCell', WHERE WHAT IT READS IS OF BULK AT MOST 1048576: true; the input reads as it did. -/
def fnExactFarthestCellUptoRow : OpenClaim := { program := "ythfcbnamapgkoaa", sum := "0cad9417ff215ebf2e112a2767914b573c372dc2f9ab33f9fb8fee6375a19c2b", func := "loop.example/g01265/laws.FnExactFarthestCell", spec := "fnExactFarthestCell", apart := false, narrowed := true }
def FnExactFarthestCellUptoSaid : Prop := fnExactFarthestCellUptoRow.holds Try.pinned (OpenSpec.upto fnExactFarthestCellSpec)

/-- 'laws.FnExactGreedyCode', WHERE WHAT IT READS IS OF BULK AT MOST 1048576: true; the input reads as it did. -/
def fnExactGreedyCodeUptoRow : OpenClaim := { program := "ythfcbnamapgkoaa", sum := "0cad9417ff215ebf2e112a2767914b573c372dc2f9ab33f9fb8fee6375a19c2b", func := "loop.example/g01265/laws.FnExactGreedyCode", spec := "fnExactGreedyCode", apart := false, narrowed := true }
def FnExactGreedyCodeUptoSaid : Prop := fnExactGreedyCodeUptoRow.holds Try.pinned (OpenSpec.upto fnExactGreedyCodeSpec)

/-- 'laws.FnExactSpreadPart', WHERE WHAT IT READS IS OF BULK AT MOST 1048576: true; the input reads as it did. -/
def fnExactSpreadPartUptoRow : OpenClaim := { program := "ythfcbnamapgkoaa", sum := "0cad9417ff215ebf2e112a2767914b573c372dc2f9ab33f9fb8fee6375a19c2b", func := "loop.example/g01265/laws.FnExactSpreadPart", spec := "fnExactSpreadPart", unfollowed := true, recurses := true, apart := false, narrowed := true }
def FnExactSpreadPartUptoSaid : Prop := fnExactSpreadPartUptoRow.holds Try.pinned (OpenSpec.upto fnExactSpreadPartSpec)

/-- 'laws.FnExactFullBars', WHERE WHAT IT READS IS OF BULK AT MOST 1048576: true; the input reads as it did. -/
def fnExactFullBarsUptoRow : OpenClaim := { program := "ythfcbnamapgkoaa", sum := "0cad9417ff215ebf2e112a2767914b573c372dc2f9ab33f9fb8fee6375a19c2b", func := "loop.example/g01265/laws.FnExactFullBars", spec := "fnExactFullBars", unfollowed := true, recurses := true, apart := false, narrowed := true }
def FnExactFullBarsUptoSaid : Prop := fnExactFullBarsUptoRow.holds Try.pinned (OpenSpec.upto fnExactFullBarsSpec)

/-- 'laws.FnExactIsFrame', WHERE WHAT IT READS IS OF BULK AT MOST 1048576: true; the input reads as it did. -/
def fnExactIsFrameUptoRow : OpenClaim := { program := "ythfcbnamapgkoaa", sum := "0cad9417ff215ebf2e112a2767914b573c372dc2f9ab33f9fb8fee6375a19c2b", func := "loop.example/g01265/laws.FnExactIsFrame", spec := "fnExactIsFrame", unfollowed := true, recurses := true, apart := false, narrowed := true }
def FnExactIsFrameUptoSaid : Prop := fnExactIsFrameUptoRow.holds Try.pinned (OpenSpec.upto fnExactIsFrameSpec)

/-- 'laws.FnExactWithBlanks', WHERE WHAT IT READS IS OF BULK AT MOST 1048576: true; the input reads as it did. -/
def fnExactWithBlanksUptoRow : OpenClaim := { program := "ythfcbnamapgkoaa", sum := "0cad9417ff215ebf2e112a2767914b573c372dc2f9ab33f9fb8fee6375a19c2b", func := "loop.example/g01265/laws.FnExactWithBlanks", spec := "fnExactWithBlanks", unfollowed := true, recurses := true, apart := false, narrowed := true }
def FnExactWithBlanksUptoSaid : Prop := fnExactWithBlanksUptoRow.holds Try.pinned (OpenSpec.upto fnExactWithBlanksSpec)

/-- 'laws.FnExactPlainFrame', WHERE WHAT IT READS IS OF BULK AT MOST 1048576: true; the input reads as it did. -/
def fnExactPlainFrameUptoRow : OpenClaim := { program := "ythfcbnamapgkoaa", sum := "0cad9417ff215ebf2e112a2767914b573c372dc2f9ab33f9fb8fee6375a19c2b", func := "loop.example/g01265/laws.FnExactPlainFrame", spec := "fnExactPlainFrame", unfollowed := true, recurses := true, apart := false, narrowed := true }
def FnExactPlainFrameUptoSaid : Prop := fnExactPlainFrameUptoRow.holds Try.pinned (OpenSpec.upto fnExactPlainFrameSpec)

/-- 'laws.FnExactSeenOf', WHERE WHAT IT READS IS OF BULK AT MOST 1048576: true; the input reads as it did. -/
def fnExactSeenOfUptoRow : OpenClaim := { program := "ythfcbnamapgkoaa", sum := "0cad9417ff215ebf2e112a2767914b573c372dc2f9ab33f9fb8fee6375a19c2b", func := "loop.example/g01265/laws.FnExactSeenOf", spec := "fnExactSeenOf", unfollowed := true, recurses := true, apart := false, narrowed := true }
def FnExactSeenOfUptoSaid : Prop := fnExactSeenOfUptoRow.holds Try.pinned (OpenSpec.upto fnExactSeenOfSpec)

/-- 'laws.FnExactDutyOf', WHERE WHAT IT READS IS OF BULK AT MOST 1048576: true; the input reads as it did. -/
def fnExactDutyOfUptoRow : OpenClaim := { program := "ythfcbnamapgkoaa", sum := "0cad9417ff215ebf2e112a2767914b573c372dc2f9ab33f9fb8fee6375a19c2b", func := "loop.example/g01265/laws.FnExactDutyOf", spec := "fnExactDutyOf", unfollowed := true, recurses := true, apart := false, narrowed := true }
def FnExactDutyOfUptoSaid : Prop := fnExactDutyOfUptoRow.holds Try.pinned (OpenSpec.upto fnExactDutyOfSpec)

/-- 'laws.FnExactBrightestBars', WHERE WHAT IT READS IS OF BULK AT MOST 1048576: true; the input reads as it did. -/
def fnExactBrightestBarsUptoRow : OpenClaim := { program := "ythfcbnamapgkoaa", sum := "0cad9417ff215ebf2e112a2767914b573c372dc2f9ab33f9fb8fee6375a19c2b", func := "loop.example/g01265/laws.FnExactBrightestBars", spec := "fnExactBrightestBars", unfollowed := true, recurses := true, apart := false, narrowed := true }
def FnExactBrightestBarsUptoSaid : Prop := fnExactBrightestBarsUptoRow.holds Try.pinned (OpenSpec.upto fnExactBrightestBarsSpec)

/-- 'laws.FnExactSwitchesOf', WHERE WHAT IT READS IS OF BULK AT MOST 1048576: true; the input reads as it did. -/
def fnExactSwitchesOfUptoRow : OpenClaim := { program := "ythfcbnamapgkoaa", sum := "0cad9417ff215ebf2e112a2767914b573c372dc2f9ab33f9fb8fee6375a19c2b", func := "loop.example/g01265/laws.FnExactSwitchesOf", spec := "fnExactSwitchesOf", unfollowed := true, recurses := true, apart := false, narrowed := true }
def FnExactSwitchesOfUptoSaid : Prop := fnExactSwitchesOfUptoRow.holds Try.pinned (OpenSpec.upto fnExactSwitchesOfSpec)

/-- 'laws.FnExactGhostsOf', WHERE WHAT IT READS IS OF BULK AT MOST 1048576: true; the input reads as it did. -/
def fnExactGhostsOfUptoRow : OpenClaim := { program := "ythfcbnamapgkoaa", sum := "0cad9417ff215ebf2e112a2767914b573c372dc2f9ab33f9fb8fee6375a19c2b", func := "loop.example/g01265/laws.FnExactGhostsOf", spec := "fnExactGhostsOf", unfollowed := true, recurses := true, apart := false, narrowed := true }
def FnExactGhostsOfUptoSaid : Prop := fnExactGhostsOfUptoRow.holds Try.pinned (OpenSpec.upto fnExactGhostsOfSpec)

end Rows
end Go.Proofs.Ythfcbnamapgkoaa
