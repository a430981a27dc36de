/-
  No cell of these rows narrows 'for every input' (looked for: loops, veiled, ifaces, maps, wideKeys, modest, calm, conditions, laid).
  DERIVED. THE GIVEN ROWS OF THIS SEAT. 12 by the template 'for every input the law returns true; each argument reads behind the call as it read before'; 0 by the template 'total and deterministic' (their statements: YtbemoldaolfemaaTotals.lean).
  GIVEN WITH THE SEED: the statements are not yours to turn. If you find one false, say at which input.
  Laid BY PROGRAM, IN A SANDBOX (cutbox-rows.mjs): the forced cells as the released guide's own fill.sh prints them over the translation a1b5ad5d974abb95… (all of the seat's roots in one cut). By AI agents, Wed Nov 11 2026. No macro, syntax, notation, axiom, sorry.
-/
import Derived.Test.YtbemoldaolfemaaChecked
import GoSem.Claim
import GoSem.ClaimJoined
import GoSem.ClaimMapViews
import Derived.JoinedTies
import Derived.KernelRfl
namespace Go.Proofs.Ytbemoldaolfemaa
/- THE CELL 'sum', in the pinned program and in every row, IS THE sha256 OF THE DUMP (.gsa) THAT YtbemoldaolfemaaProg.lean LOADS. Nothing in Lean hashes anything: it is a label: what it is worth is what the hold of that sum in a sandbox is worth. -/
noncomputable def Try.pinned : Pinned := { name := "ytbemoldaolfemaa", sum := "a1b5ad5d974abb9567894f342378495f8af8e134a5487bf4faadab7be3e3662a", checked := Try.checked }
namespace Rows
def none {H : Type} : Left H := { results := [], args := [] }

/-- 'laws.FnExactClockRow': WHATEVER THE INPUT: true; the input reads as it did. -/
def fnExactClockRowSpec : ChangeSpec := { name := "fnExactClockRow", fn := fun _ => fun
  | [d] => { results := [.lit (.bool true)], args := [d] }
  | _ => none }
def fnExactClockRowRow : OpenClaim := { program := "ytbemoldaolfemaa", sum := "a1b5ad5d974abb9567894f342378495f8af8e134a5487bf4faadab7be3e3662a", func := "loop.example/g01265/laws.FnExactClockRow", spec := "fnExactClockRow", apart := false }
def FnExactClockRowSaid : Prop := fnExactClockRowRow.holds Try.pinned (OpenSpec.ofChange fnExactClockRowSpec)

/-- ITS FALSE NEIGHBOUR: 'it returns false'. Refute it at one input. -/
def fnExactClockRowWrong : ChangeSpec := { name := "fnExactClockRow", fn := fun _ => fun
  | [d] => { results := [.lit (.bool false)], args := [d] }
  | _ => none }
def FnExactClockRowWrongFalsely : Prop := fnExactClockRowRow.holds Try.pinned (OpenSpec.ofChange fnExactClockRowWrong)

/-- 'laws.FnExactMinuteChanges': WHATEVER THE INPUT: true; the input reads as it did. -/
def fnExactMinuteChangesSpec : ChangeSpec := { name := "fnExactMinuteChanges", fn := fun _ => fun
  | [d] => { results := [.lit (.bool true)], args := [d] }
  | _ => none }
def fnExactMinuteChangesRow : OpenClaim := { program := "ytbemoldaolfemaa", sum := "a1b5ad5d974abb9567894f342378495f8af8e134a5487bf4faadab7be3e3662a", func := "loop.example/g01265/laws.FnExactMinuteChanges", spec := "fnExactMinuteChanges", apart := false }
def FnExactMinuteChangesSaid : Prop := fnExactMinuteChangesRow.holds Try.pinned (OpenSpec.ofChange fnExactMinuteChangesSpec)

/-- ITS FALSE NEIGHBOUR: 'it returns false'. Refute it at one input. -/
def fnExactMinuteChangesWrong : ChangeSpec := { name := "fnExactMinuteChanges", fn := fun _ => fun
  | [d] => { results := [.lit (.bool false)], args := [d] }
  | _ => none }
def FnExactMinuteChangesWrongFalsely : Prop := fnExactMinuteChangesRow.holds Try.pinned (OpenSpec.ofChange fnExactMinuteChangesWrong)

/-- 'laws.FnExactTimesLike': WHATEVER THE INPUT: true; the input reads as it did. -/
def fnExactTimesLikeSpec : ChangeSpec := { name := "fnExactTimesLike", fn := fun _ => fun
  | [d] => { results := [.lit (.bool true)], args := [d] }
  | _ => none }
def fnExactTimesLikeRow : OpenClaim := { program := "ytbemoldaolfemaa", sum := "a1b5ad5d974abb9567894f342378495f8af8e134a5487bf4faadab7be3e3662a", func := "loop.example/g01265/laws.FnExactTimesLike", spec := "fnExactTimesLike", unfollowed := true, recurses := true, apart := false }
def FnExactTimesLikeSaid : Prop := fnExactTimesLikeRow.holds Try.pinned (OpenSpec.ofChange fnExactTimesLikeSpec)

/-- ITS FALSE NEIGHBOUR: 'it returns false'. Refute it at one input. -/
def fnExactTimesLikeWrong : ChangeSpec := { name := "fnExactTimesLike", fn := fun _ => fun
  | [d] => { results := [.lit (.bool false)], args := [d] }
  | _ => none }
def FnExactTimesLikeWrongFalsely : Prop := fnExactTimesLikeRow.holds Try.pinned (OpenSpec.ofChange fnExactTimesLikeWrong)

/-- 'laws.FnExactTimeOfRow': WHATEVER THE INPUT: true; the input reads as it did. -/
def fnExactTimeOfRowSpec : ChangeSpec := { name := "fnExactTimeOfRow", fn := fun _ => fun
  | [d] => { results := [.lit (.bool true)], args := [d] }
  | _ => none }
def fnExactTimeOfRowRow : OpenClaim := { program := "ytbemoldaolfemaa", sum := "a1b5ad5d974abb9567894f342378495f8af8e134a5487bf4faadab7be3e3662a", func := "loop.example/g01265/laws.FnExactTimeOfRow", spec := "fnExactTimeOfRow", unfollowed := true, recurses := true, apart := false }
def FnExactTimeOfRowSaid : Prop := fnExactTimeOfRowRow.holds Try.pinned (OpenSpec.ofChange fnExactTimeOfRowSpec)

/-- ITS FALSE NEIGHBOUR: 'it returns false'. Refute it at one input. -/
def fnExactTimeOfRowWrong : ChangeSpec := { name := "fnExactTimeOfRow", fn := fun _ => fun
  | [d] => { results := [.lit (.bool false)], args := [d] }
  | _ => none }
def FnExactTimeOfRowWrongFalsely : Prop := fnExactTimeOfRowRow.holds Try.pinned (OpenSpec.ofChange fnExactTimeOfRowWrong)

/-- 'laws.FnExactLitAt': WHATEVER THE INPUT: true; the input reads as it did. -/
def fnExactLitAtSpec : ChangeSpec := { name := "fnExactLitAt", fn := fun _ => fun
  | [d] => { results := [.lit (.bool true)], args := [d] }
  | _ => none }
def fnExactLitAtRow : OpenClaim := { program := "ytbemoldaolfemaa", sum := "a1b5ad5d974abb9567894f342378495f8af8e134a5487bf4faadab7be3e3662a", func := "loop.example/g01265/laws.FnExactLitAt", spec := "fnExactLitAt", unfollowed := true, recurses := true, apart := false }
def FnExactLitAtSaid : Prop := fnExactLitAtRow.holds Try.pinned (OpenSpec.ofChange fnExactLitAtSpec)

/-- ITS FALSE NEIGHBOUR: 'it returns false'. Refute it at one input. -/
def fnExactLitAtWrong : ChangeSpec := { name := "fnExactLitAt", fn := fun _ => fun
  | [d] => { results := [.lit (.bool false)], args := [d] }
  | _ => none }
def FnExactLitAtWrongFalsely : Prop := fnExactLitAtRow.holds Try.pinned (OpenSpec.ofChange fnExactLitAtWrong)

/-- 'laws.FnExactBrightestTime': WHATEVER THE INPUT: true; the input reads as it did. -/
def fnExactBrightestTimeSpec : ChangeSpec := { name := "fnExactBrightestTime", fn := fun _ => fun
  | [] => { results := [.lit (.bool true)], args := [] }
  | _ => none }
def fnExactBrightestTimeRow : OpenClaim := { program := "ytbemoldaolfemaa", sum := "a1b5ad5d974abb9567894f342378495f8af8e134a5487bf4faadab7be3e3662a", func := "loop.example/g01265/laws.FnExactBrightestTime", spec := "fnExactBrightestTime", unfollowed := true, recurses := true, apart := false }
def FnExactBrightestTimeSaid : Prop := fnExactBrightestTimeRow.holds Try.pinned (OpenSpec.ofChange fnExactBrightestTimeSpec)

/-- ITS FALSE NEIGHBOUR: 'it returns false'. Refute it at one input. -/
def fnExactBrightestTimeWrong : ChangeSpec := { name := "fnExactBrightestTime", fn := fun _ => fun
  | [] => { results := [.lit (.bool false)], args := [] }
  | _ => none }
def FnExactBrightestTimeWrongFalsely : Prop := fnExactBrightestTimeRow.holds Try.pinned (OpenSpec.ofChange fnExactBrightestTimeWrong)

/-- 'laws.FnExactDarkestTime': WHATEVER THE INPUT: true; the input reads as it did. -/
def fnExactDarkestTimeSpec : ChangeSpec := { name := "fnExactDarkestTime", fn := fun _ => fun
  | [] => { results := [.lit (.bool true)], args := [] }
  | _ => none }
def fnExactDarkestTimeRow : OpenClaim := { program := "ytbemoldaolfemaa", sum := "a1b5ad5d974abb9567894f342378495f8af8e134a5487bf4faadab7be3e3662a", func := "loop.example/g01265/laws.FnExactDarkestTime", spec := "fnExactDarkestTime", unfollowed := true, recurses := true, apart := false }
def FnExactDarkestTimeSaid : Prop := fnExactDarkestTimeRow.holds Try.pinned (OpenSpec.ofChange fnExactDarkestTimeSpec)

/-- ITS FALSE NEIGHBOUR: 'it returns false'. Refute it at one input. -/
def fnExactDarkestTimeWrong : ChangeSpec := { name := "fnExactDarkestTime", fn := fun _ => fun
  | [] => { results := [.lit (.bool false)], args := [] }
  | _ => none }
def FnExactDarkestTimeWrongFalsely : Prop := fnExactDarkestTimeRow.holds Try.pinned (OpenSpec.ofChange fnExactDarkestTimeWrong)

/-- 'laws.FnExactTimesOfBars': WHATEVER THE INPUT: true; the input reads as it did. -/
def fnExactTimesOfBarsSpec : ChangeSpec := { name := "fnExactTimesOfBars", fn := fun _ => fun
  | [d] => { results := [.lit (.bool true)], args := [d] }
  | _ => none }
def fnExactTimesOfBarsRow : OpenClaim := { program := "ytbemoldaolfemaa", sum := "a1b5ad5d974abb9567894f342378495f8af8e134a5487bf4faadab7be3e3662a", func := "loop.example/g01265/laws.FnExactTimesOfBars", spec := "fnExactTimesOfBars", unfollowed := true, recurses := true, apart := false }
def FnExactTimesOfBarsSaid : Prop := fnExactTimesOfBarsRow.holds Try.pinned (OpenSpec.ofChange fnExactTimesOfBarsSpec)

/-- ITS FALSE NEIGHBOUR: 'it returns false'. Refute it at one input. -/
def fnExactTimesOfBarsWrong : ChangeSpec := { name := "fnExactTimesOfBars", fn := fun _ => fun
  | [d] => { results := [.lit (.bool false)], args := [d] }
  | _ => none }
def FnExactTimesOfBarsWrongFalsely : Prop := fnExactTimesOfBarsRow.holds Try.pinned (OpenSpec.ofChange fnExactTimesOfBarsWrong)

/-- 'laws.FnExactMirrorTime': WHATEVER THE INPUT: true; the input reads as it did. -/
def fnExactMirrorTimeSpec : ChangeSpec := { name := "fnExactMirrorTime", fn := fun _ => fun
  | [d] => { results := [.lit (.bool true)], args := [d] }
  | _ => none }
def fnExactMirrorTimeRow : OpenClaim := { program := "ytbemoldaolfemaa", sum := "a1b5ad5d974abb9567894f342378495f8af8e134a5487bf4faadab7be3e3662a", func := "loop.example/g01265/laws.FnExactMirrorTime", spec := "fnExactMirrorTime", unfollowed := true, recurses := true, apart := false }
def FnExactMirrorTimeSaid : Prop := fnExactMirrorTimeRow.holds Try.pinned (OpenSpec.ofChange fnExactMirrorTimeSpec)

/-- ITS FALSE NEIGHBOUR: 'it returns false'. Refute it at one input. -/
def fnExactMirrorTimeWrong : ChangeSpec := { name := "fnExactMirrorTime", fn := fun _ => fun
  | [d] => { results := [.lit (.bool false)], args := [d] }
  | _ => none }
def FnExactMirrorTimeWrongFalsely : Prop := fnExactMirrorTimeRow.holds Try.pinned (OpenSpec.ofChange fnExactMirrorTimeWrong)

/-- 'laws.FnExactTurnTime': WHATEVER THE INPUT: true; the input reads as it did. -/
def fnExactTurnTimeSpec : ChangeSpec := { name := "fnExactTurnTime", fn := fun _ => fun
  | [d] => { results := [.lit (.bool true)], args := [d] }
  | _ => none }
def fnExactTurnTimeRow : OpenClaim := { program := "ytbemoldaolfemaa", sum := "a1b5ad5d974abb9567894f342378495f8af8e134a5487bf4faadab7be3e3662a", func := "loop.example/g01265/laws.FnExactTurnTime", spec := "fnExactTurnTime", unfollowed := true, recurses := true, apart := false }
def FnExactTurnTimeSaid : Prop := fnExactTurnTimeRow.holds Try.pinned (OpenSpec.ofChange fnExactTurnTimeSpec)

/-- ITS FALSE NEIGHBOUR: 'it returns false'. Refute it at one input. -/
def fnExactTurnTimeWrong : ChangeSpec := { name := "fnExactTurnTime", fn := fun _ => fun
  | [d] => { results := [.lit (.bool false)], args := [d] }
  | _ => none }
def FnExactTurnTimeWrongFalsely : Prop := fnExactTurnTimeRow.holds Try.pinned (OpenSpec.ofChange fnExactTurnTimeWrong)

/-- 'laws.FnExactWaitForMirror': WHATEVER THE INPUT: true; the input reads as it did. -/
def fnExactWaitForMirrorSpec : ChangeSpec := { name := "fnExactWaitForMirror", fn := fun _ => fun
  | [d] => { results := [.lit (.bool true)], args := [d] }
  | _ => none }
def fnExactWaitForMirrorRow : OpenClaim := { program := "ytbemoldaolfemaa", sum := "a1b5ad5d974abb9567894f342378495f8af8e134a5487bf4faadab7be3e3662a", func := "loop.example/g01265/laws.FnExactWaitForMirror", spec := "fnExactWaitForMirror", unfollowed := true, recurses := true, apart := false }
def FnExactWaitForMirrorSaid : Prop := fnExactWaitForMirrorRow.holds Try.pinned (OpenSpec.ofChange fnExactWaitForMirrorSpec)

/-- ITS FALSE NEIGHBOUR: 'it returns false'. Refute it at one input. -/
def fnExactWaitForMirrorWrong : ChangeSpec := { name := "fnExactWaitForMirror", fn := fun _ => fun
  | [d] => { results := [.lit (.bool false)], args := [d] }
  | _ => none }
def FnExactWaitForMirrorWrongFalsely : Prop := fnExactWaitForMirrorRow.holds Try.pinned (OpenSpec.ofChange fnExactWaitForMirrorWrong)

/-- 'laws.FnExactSameInMirror': WHATEVER THE INPUT: true; the input reads as it did. -/
def fnExactSameInMirrorSpec : ChangeSpec := { name := "fnExactSameInMirror", fn := fun _ => fun
  | [] => { results := [.lit (.bool true)], args := [] }
  | _ => none }
def fnExactSameInMirrorRow : OpenClaim := { program := "ytbemoldaolfemaa", sum := "a1b5ad5d974abb9567894f342378495f8af8e134a5487bf4faadab7be3e3662a", func := "loop.example/g01265/laws.FnExactSameInMirror", spec := "fnExactSameInMirror", unfollowed := true, recurses := true, apart := false }
def FnExactSameInMirrorSaid : Prop := fnExactSameInMirrorRow.holds Try.pinned (OpenSpec.ofChange fnExactSameInMirrorSpec)

/-- ITS FALSE NEIGHBOUR: 'it returns false'. Refute it at one input. -/
def fnExactSameInMirrorWrong : ChangeSpec := { name := "fnExactSameInMirror", fn := fun _ => fun
  | [] => { results := [.lit (.bool false)], args := [] }
  | _ => none }
def FnExactSameInMirrorWrongFalsely : Prop := fnExactSameInMirrorRow.holds Try.pinned (OpenSpec.ofChange fnExactSameInMirrorWrong)

/- THE SECOND FORM. 'bulk': how many values and letters a reading holds, each counted each time it is reached (what is shared counts as often as it is met; a slice's spare places count too). A statement '..UptoSaid' is the law's where the arguments, and the package variables that the reading takes, are together of bulk at most 1048576: NARROWER than '..Said'. Prove '..Said' where nothing that the law and all that it calls make is longer than what came in: it says more and counts as full. Else prove '..UptoSaid'. A law counts once. -/
mutual
def uptoBulk {H : Type} : DataW H → Nat
  | .lit (.string bytes) => bytes.length + 1
  | .lit _ => 1
  | .nil => 1
  | .ptr d => uptoBulk d + 1
  | .slice elems spare => uptoBulkAll elems + uptoBulkAll spare + 1
  | .agg parts => uptoBulkAll parts + 1
  | .iface _ d => uptoBulk d + 1
  | .map entries => uptoBulkEntries entries + 1
  | .held _ => 1
def uptoBulkAll {H : Type} : List (DataW H) → Nat
  | [] => 0
  | d :: r => uptoBulk d + uptoBulkAll r
def uptoBulkEntries {H : Type} : List (Lit × DataW H) → Nat
  | [] => 0
  | x :: r => uptoBulkEntry x + uptoBulkEntries r
def uptoBulkEntry {H : Type} : Lit × DataW H → Nat
  | (.string bytes, d) => bytes.length + uptoBulk d + 1
  | (_, d) => uptoBulk d + 1
 end
def uptoSmall : (H : Type) → List (DataW H) → Bool := fun _ ds => decide (uptoBulkAll ds ≤ 1048576)
def OpenSpec.upto (s : _root_.Go.ChangeSpec) : _root_.Go.OpenSpec := { _root_.Go.OpenSpec.ofChange s with cond := some uptoSmall }

/-- 'laws.FnExactClockRow', WHERE WHAT IT READS IS OF BULK AT MOST 1048576: true; the input reads as it did. -/
def fnExactClockRowUptoRow : OpenClaim := { program := "ytbemoldaolfemaa", sum := "a1b5ad5d974abb9567894f342378495f8af8e134a5487bf4faadab7be3e3662a", func := "loop.example/g01265/laws.FnExactClockRow", spec := "fnExactClockRow", apart := false, narrowed := true }
def FnExactClockRowUptoSaid : Prop := fnExactClockRowUptoRow.holds Try.pinned (OpenSpec.upto fnExactClockRowSpec)

/-- 'laws.FnExactMinuteChanges', WHERE WHAT IT READS IS OF BULK AT MOST 1048576: true; the input reads as it did. -/
def fnExactMinuteChangesUptoRow : OpenClaim := { program := "ytbemoldaolfemaa", sum := "a1b5ad5d974abb9567894f342378495f8af8e134a5487bf4faadab7be3e3662a", func := "loop.example/g01265/laws.FnExactMinuteChanges", spec := "fnExactMinuteChanges", apart := false, narrowed := true }
def FnExactMinuteChangesUptoSaid : Prop := fnExactMinuteChangesUptoRow.holds Try.pinned (OpenSpec.upto fnExactMinuteChangesSpec)

/-- 'laws.FnExactTimesLike', WHERE WHAT IT READS IS OF BULK AT MOST 1048576: true; the input reads as it did. -/
def fnExactTimesLikeUptoRow : OpenClaim := { program := "ytbemoldaolfemaa", sum := "a1b5ad5d974abb9567894f342378495f8af8e134a5487bf4faadab7be3e3662a", func := "loop.example/g01265/laws.FnExactTimesLike", spec := "fnExactTimesLike", unfollowed := true, recurses := true, apart := false, narrowed := true }
def FnExactTimesLikeUptoSaid : Prop := fnExactTimesLikeUptoRow.holds Try.pinned (OpenSpec.upto fnExactTimesLikeSpec)

/-- 'laws.FnExactTimeOfRow', WHERE WHAT IT READS IS OF BULK AT MOST 1048576: true; the input reads as it did. -/
def fnExactTimeOfRowUptoRow : OpenClaim := { program := "ytbemoldaolfemaa", sum := "a1b5ad5d974abb9567894f342378495f8af8e134a5487bf4faadab7be3e3662a", func := "loop.example/g01265/laws.FnExactTimeOfRow", spec := "fnExactTimeOfRow", unfollowed := true, recurses := true, apart := false, narrowed := true }
def FnExactTimeOfRowUptoSaid : Prop := fnExactTimeOfRowUptoRow.holds Try.pinned (OpenSpec.upto fnExactTimeOfRowSpec)

/-- 'laws.FnExactLitAt', WHERE WHAT IT READS IS OF BULK AT MOST 1048576: true; the input reads as it did. -/
def fnExactLitAtUptoRow : OpenClaim := { program := "ytbemoldaolfemaa", sum := "a1b5ad5d974abb9567894f342378495f8af8e134a5487bf4faadab7be3e3662a", func := "loop.example/g01265/laws.FnExactLitAt", spec := "fnExactLitAt", unfollowed := true, recurses := true, apart := false, narrowed := true }
def FnExactLitAtUptoSaid : Prop := fnExactLitAtUptoRow.holds Try.pinned (OpenSpec.upto fnExactLitAtSpec)

/-- 'laws.FnExactBrightestTime', WHERE WHAT IT READS IS OF BULK AT MOST 1048576: true; the input reads as it did. -/
def fnExactBrightestTimeUptoRow : OpenClaim := { program := "ytbemoldaolfemaa", sum := "a1b5ad5d974abb9567894f342378495f8af8e134a5487bf4faadab7be3e3662a", func := "loop.example/g01265/laws.FnExactBrightestTime", spec := "fnExactBrightestTime", unfollowed := true, recurses := true, apart := false, narrowed := true }
def FnExactBrightestTimeUptoSaid : Prop := fnExactBrightestTimeUptoRow.holds Try.pinned (OpenSpec.upto fnExactBrightestTimeSpec)

/-- 'laws.FnExactDarkestTime', WHERE WHAT IT READS IS OF BULK AT MOST 1048576: true; the input reads as it did. -/
def fnExactDarkestTimeUptoRow : OpenClaim := { program := "ytbemoldaolfemaa", sum := "a1b5ad5d974abb9567894f342378495f8af8e134a5487bf4faadab7be3e3662a", func := "loop.example/g01265/laws.FnExactDarkestTime", spec := "fnExactDarkestTime", unfollowed := true, recurses := true, apart := false, narrowed := true }
def FnExactDarkestTimeUptoSaid : Prop := fnExactDarkestTimeUptoRow.holds Try.pinned (OpenSpec.upto fnExactDarkestTimeSpec)

/-- 'laws.FnExactTimesOfBars', WHERE WHAT IT READS IS OF BULK AT MOST 1048576: true; the input reads as it did. -/
def fnExactTimesOfBarsUptoRow : OpenClaim := { program := "ytbemoldaolfemaa", sum := "a1b5ad5d974abb9567894f342378495f8af8e134a5487bf4faadab7be3e3662a", func := "loop.example/g01265/laws.FnExactTimesOfBars", spec := "fnExactTimesOfBars", unfollowed := true, recurses := true, apart := false, narrowed := true }
def FnExactTimesOfBarsUptoSaid : Prop := fnExactTimesOfBarsUptoRow.holds Try.pinned (OpenSpec.upto fnExactTimesOfBarsSpec)

/-- 'laws.FnExactMirrorTime', WHERE WHAT IT READS IS OF BULK AT MOST 1048576: true; the input reads as it did. -/
def fnExactMirrorTimeUptoRow : OpenClaim := { program := "ytbemoldaolfemaa", sum := "a1b5ad5d974abb9567894f342378495f8af8e134a5487bf4faadab7be3e3662a", func := "loop.example/g01265/laws.FnExactMirrorTime", spec := "fnExactMirrorTime", unfollowed := true, recurses := true, apart := false, narrowed := true }
def FnExactMirrorTimeUptoSaid : Prop := fnExactMirrorTimeUptoRow.holds Try.pinned (OpenSpec.upto fnExactMirrorTimeSpec)

/-- 'laws.FnExactTurnTime', WHERE WHAT IT READS IS OF BULK AT MOST 1048576: true; the input reads as it did. -/
def fnExactTurnTimeUptoRow : OpenClaim := { program := "ytbemoldaolfemaa", sum := "a1b5ad5d974abb9567894f342378495f8af8e134a5487bf4faadab7be3e3662a", func := "loop.example/g01265/laws.FnExactTurnTime", spec := "fnExactTurnTime", unfollowed := true, recurses := true, apart := false, narrowed := true }
def FnExactTurnTimeUptoSaid : Prop := fnExactTurnTimeUptoRow.holds Try.pinned (OpenSpec.upto fnExactTurnTimeSpec)

/-- 'laws.FnExactWaitForMirror', WHERE WHAT IT READS IS OF BULK AT MOST 1048576: true; the input reads as it did. -/
def fnExactWaitForMirrorUptoRow : OpenClaim := { program := "ytbemoldaolfemaa", sum := "a1b5ad5d974abb9567894f342378495f8af8e134a5487bf4faadab7be3e3662a", func := "loop.example/g01265/laws.FnExactWaitForMirror", spec := "fnExactWaitForMirror", unfollowed := true, recurses := true, apart := false, narrowed := true }
def FnExactWaitForMirrorUptoSaid : Prop := fnExactWaitForMirrorUptoRow.holds Try.pinned (OpenSpec.upto fnExactWaitForMirrorSpec)

/-- 'laws.FnExactSameInMirror', WHERE WHAT IT READS IS OF BULK AT MOST 1048576: true; the input reads as it did. -/
def fnExactSameInMirrorUptoRow : OpenClaim := { program := "ytbemoldaolfemaa", sum := "a1b5ad5d974abb9567894f342378495f8af8e134a5487bf4faadab7be3e3662a", func := "loop.example/g01265/laws.FnExactSameInMirror", spec := "fnExactSameInMirror", unfollowed := true, recurses := true, apart := false, narrowed := true }
def FnExactSameInMirrorUptoSaid : Prop := fnExactSameInMirrorUptoRow.holds Try.pinned (OpenSpec.upto fnExactSameInMirrorSpec)

end Rows
end Go.Proofs.Ytbemoldaolfemaa
