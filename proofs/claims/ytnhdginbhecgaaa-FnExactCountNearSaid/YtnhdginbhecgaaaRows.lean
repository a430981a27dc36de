/-
  No cell of these rows narrows 'for every input' (looked for: loops, veiled, ifaces, maps, wideKeys, modest, calm, conditions, laid).
  DERIVED. THE GIVEN ROWS OF THIS SEAT. 12 by the template 'for every input the law returns true; each argument reads behind the call as it read before'; 0 by the template 'total and deterministic' (their statements: YtnhdginbhecgaaaTotals.lean).
  GIVEN WITH THE SEED: the statements are not yours to turn. If you find one false, say at which input.
  Laid BY PROGRAM, IN A SANDBOX (cutbox-rows.mjs): the forced cells as the released guide's own fill.sh prints them over the translation 94612b602a9e35b8… (all of the seat's roots in one cut). By AI agents, Wed Nov 11 2026. No macro, syntax, notation, axiom, sorry.
-/
import Derived.Test.YtnhdginbhecgaaaChecked
import GoSem.Claim
import GoSem.ClaimJoined
import GoSem.ClaimMapViews
import Derived.JoinedTies
import Derived.KernelRfl
namespace Go.Proofs.Ytnhdginbhecgaaa
/- THE CELL 'sum', in the pinned program and in every row, IS THE sha256 OF THE DUMP (.gsa) THAT YtnhdginbhecgaaaProg.lean LOADS. Nothing in Lean hashes anything: it is a label: what it is worth is what the hold of that sum in a sandbox is worth. -/
noncomputable def Try.pinned : Pinned := { name := "ytnhdginbhecgaaa", sum := "94612b602a9e35b89a900c8a601369f10012f0209482a1242516f62b3aa28c44", checked := Try.checked }
namespace Rows
def none {H : Type} : Left H := { results := [], args := [] }

/-- 'laws.FnExactIsState': WHATEVER THE INPUT: true; the input reads as it did. -/
def fnExactIsStateSpec : ChangeSpec := { name := "fnExactIsState", fn := fun _ => fun
  | [d] => { results := [.lit (.bool true)], args := [d] }
  | _ => none }
def fnExactIsStateRow : OpenClaim := { program := "ytnhdginbhecgaaa", sum := "94612b602a9e35b89a900c8a601369f10012f0209482a1242516f62b3aa28c44", func := "loop.example/g01265/laws.FnExactIsState", spec := "fnExactIsState", apart := false }
def FnExactIsStateSaid : Prop := fnExactIsStateRow.holds Try.pinned (OpenSpec.ofChange fnExactIsStateSpec)

/-- ITS FALSE NEIGHBOUR: 'it returns false'. Refute it at one input. -/
def fnExactIsStateWrong : ChangeSpec := { name := "fnExactIsState", fn := fun _ => fun
  | [d] => { results := [.lit (.bool false)], args := [d] }
  | _ => none }
def FnExactIsStateWrongFalsely : Prop := fnExactIsStateRow.holds Try.pinned (OpenSpec.ofChange fnExactIsStateWrong)

/-- 'laws.FnExactIsCode': WHATEVER THE INPUT: true; the input reads as it did. -/
def fnExactIsCodeSpec : ChangeSpec := { name := "fnExactIsCode", fn := fun _ => fun
  | [d] => { results := [.lit (.bool true)], args := [d] }
  | _ => none }
def fnExactIsCodeRow : OpenClaim := { program := "ytnhdginbhecgaaa", sum := "94612b602a9e35b89a900c8a601369f10012f0209482a1242516f62b3aa28c44", func := "loop.example/g01265/laws.FnExactIsCode", spec := "fnExactIsCode", apart := false }
def FnExactIsCodeSaid : Prop := fnExactIsCodeRow.holds Try.pinned (OpenSpec.ofChange fnExactIsCodeSpec)

/-- ITS FALSE NEIGHBOUR: 'it returns false'. Refute it at one input. -/
def fnExactIsCodeWrong : ChangeSpec := { name := "fnExactIsCode", fn := fun _ => fun
  | [d] => { results := [.lit (.bool false)], args := [d] }
  | _ => none }
def FnExactIsCodeWrongFalsely : Prop := fnExactIsCodeRow.holds Try.pinned (OpenSpec.ofChange fnExactIsCodeWrong)

/-- 'laws.FnExactDigitCode': WHATEVER THE INPUT: true; the input reads as it did. -/
def fnExactDigitCodeSpec : ChangeSpec := { name := "fnExactDigitCode", fn := fun _ => fun
  | [d] => { results := [.lit (.bool true)], args := [d] }
  | _ => none }
def fnExactDigitCodeRow : OpenClaim := { program := "ytnhdginbhecgaaa", sum := "94612b602a9e35b89a900c8a601369f10012f0209482a1242516f62b3aa28c44", func := "loop.example/g01265/laws.FnExactDigitCode", spec := "fnExactDigitCode", apart := false }
def FnExactDigitCodeSaid : Prop := fnExactDigitCodeRow.holds Try.pinned (OpenSpec.ofChange fnExactDigitCodeSpec)

/-- ITS FALSE NEIGHBOUR: 'it returns false'. Refute it at one input. -/
def fnExactDigitCodeWrong : ChangeSpec := { name := "fnExactDigitCode", fn := fun _ => fun
  | [d] => { results := [.lit (.bool false)], args := [d] }
  | _ => none }
def FnExactDigitCodeWrongFalsely : Prop := fnExactDigitCodeRow.holds Try.pinned (OpenSpec.ofChange fnExactDigitCodeWrong)

/-- 'laws.FnExactFlipCode': WHATEVER THE INPUT: true; the input reads as it did. -/
def fnExactFlipCodeSpec : ChangeSpec := { name := "fnExactFlipCode", fn := fun _ => fun
  | [d1, d2] => { results := [.lit (.bool true)], args := [d1, d2] }
  | _ => none }
def fnExactFlipCodeRow : OpenClaim := { program := "ytnhdginbhecgaaa", sum := "94612b602a9e35b89a900c8a601369f10012f0209482a1242516f62b3aa28c44", func := "loop.example/g01265/laws.FnExactFlipCode", spec := "fnExactFlipCode", apart := false }
def FnExactFlipCodeSaid : Prop := fnExactFlipCodeRow.holds Try.pinned (OpenSpec.ofChange fnExactFlipCodeSpec)

/-- ITS FALSE NEIGHBOUR: 'it returns false'. Refute it at one input. -/
def fnExactFlipCodeWrong : ChangeSpec := { name := "fnExactFlipCode", fn := fun _ => fun
  | [d1, d2] => { results := [.lit (.bool false)], args := [d1, d2] }
  | _ => none }
def FnExactFlipCodeWrongFalsely : Prop := fnExactFlipCodeRow.holds Try.pinned (OpenSpec.ofChange fnExactFlipCodeWrong)

/-- 'laws.FnExactCountFar': WHATEVER THE INPUT: true; the input reads as it did. -/
def fnExactCountFarSpec : ChangeSpec := { name := "fnExactCountFar", fn := fun _ => fun
  | [d1, d2] => { results := [.lit (.bool true)], args := [d1, d2] }
  | _ => none }
def fnExactCountFarRow : OpenClaim := { program := "ytnhdginbhecgaaa", sum := "94612b602a9e35b89a900c8a601369f10012f0209482a1242516f62b3aa28c44", func := "loop.example/g01265/laws.FnExactCountFar", spec := "fnExactCountFar", unfollowed := true, recurses := true, apart := false }
def FnExactCountFarSaid : Prop := fnExactCountFarRow.holds Try.pinned (OpenSpec.ofChange fnExactCountFarSpec)

/-- ITS FALSE NEIGHBOUR: 'it returns false'. Refute it at one input. -/
def fnExactCountFarWrong : ChangeSpec := { name := "fnExactCountFar", fn := fun _ => fun
  | [d1, d2] => { results := [.lit (.bool false)], args := [d1, d2] }
  | _ => none }
def FnExactCountFarWrongFalsely : Prop := fnExactCountFarRow.holds Try.pinned (OpenSpec.ofChange fnExactCountFarWrong)

/-- 'laws.FnExactGapOf': WHATEVER THE INPUT: true; the input reads as it did. -/
def fnExactGapOfSpec : ChangeSpec := { name := "fnExactGapOf", fn := fun _ => fun
  | [d] => { results := [.lit (.bool true)], args := [d] }
  | _ => none }
def fnExactGapOfRow : OpenClaim := { program := "ytnhdginbhecgaaa", sum := "94612b602a9e35b89a900c8a601369f10012f0209482a1242516f62b3aa28c44", func := "loop.example/g01265/laws.FnExactGapOf", spec := "fnExactGapOf", unfollowed := true, recurses := true, apart := false }
def FnExactGapOfSaid : Prop := fnExactGapOfRow.holds Try.pinned (OpenSpec.ofChange fnExactGapOfSpec)

/-- ITS FALSE NEIGHBOUR: 'it returns false'. Refute it at one input. -/
def fnExactGapOfWrong : ChangeSpec := { name := "fnExactGapOf", fn := fun _ => fun
  | [d] => { results := [.lit (.bool false)], args := [d] }
  | _ => none }
def FnExactGapOfWrongFalsely : Prop := fnExactGapOfRow.holds Try.pinned (OpenSpec.ofChange fnExactGapOfWrong)

/-- 'laws.FnExactGapPairs': WHATEVER THE INPUT: true; the input reads as it did. -/
def fnExactGapPairsSpec : ChangeSpec := { name := "fnExactGapPairs", fn := fun _ => fun
  | [d] => { results := [.lit (.bool true)], args := [d] }
  | _ => none }
def fnExactGapPairsRow : OpenClaim := { program := "ytnhdginbhecgaaa", sum := "94612b602a9e35b89a900c8a601369f10012f0209482a1242516f62b3aa28c44", func := "loop.example/g01265/laws.FnExactGapPairs", spec := "fnExactGapPairs", unfollowed := true, recurses := true, apart := false }
def FnExactGapPairsSaid : Prop := fnExactGapPairsRow.holds Try.pinned (OpenSpec.ofChange fnExactGapPairsSpec)

/-- ITS FALSE NEIGHBOUR: 'it returns false'. Refute it at one input. -/
def fnExactGapPairsWrong : ChangeSpec := { name := "fnExactGapPairs", fn := fun _ => fun
  | [d] => { results := [.lit (.bool false)], args := [d] }
  | _ => none }
def FnExactGapPairsWrongFalsely : Prop := fnExactGapPairsRow.holds Try.pinned (OpenSpec.ofChange fnExactGapPairsWrong)

/-- 'laws.FnExactMendsUpTo': WHATEVER THE INPUT: true; the input reads as it did. -/
def fnExactMendsUpToSpec : ChangeSpec := { name := "fnExactMendsUpTo", fn := fun _ => fun
  | [d] => { results := [.lit (.bool true)], args := [d] }
  | _ => none }
def fnExactMendsUpToRow : OpenClaim := { program := "ytnhdginbhecgaaa", sum := "94612b602a9e35b89a900c8a601369f10012f0209482a1242516f62b3aa28c44", func := "loop.example/g01265/laws.FnExactMendsUpTo", spec := "fnExactMendsUpTo", unfollowed := true, recurses := true, apart := false }
def FnExactMendsUpToSaid : Prop := fnExactMendsUpToRow.holds Try.pinned (OpenSpec.ofChange fnExactMendsUpToSpec)

/-- ITS FALSE NEIGHBOUR: 'it returns false'. Refute it at one input. -/
def fnExactMendsUpToWrong : ChangeSpec := { name := "fnExactMendsUpTo", fn := fun _ => fun
  | [d] => { results := [.lit (.bool false)], args := [d] }
  | _ => none }
def FnExactMendsUpToWrongFalsely : Prop := fnExactMendsUpToRow.holds Try.pinned (OpenSpec.ofChange fnExactMendsUpToWrong)

/-- 'laws.FnExactSeesUpTo': WHATEVER THE INPUT: true; the input reads as it did. -/
def fnExactSeesUpToSpec : ChangeSpec := { name := "fnExactSeesUpTo", fn := fun _ => fun
  | [d] => { results := [.lit (.bool true)], args := [d] }
  | _ => none }
def fnExactSeesUpToRow : OpenClaim := { program := "ytnhdginbhecgaaa", sum := "94612b602a9e35b89a900c8a601369f10012f0209482a1242516f62b3aa28c44", func := "loop.example/g01265/laws.FnExactSeesUpTo", spec := "fnExactSeesUpTo", unfollowed := true, recurses := true, apart := false }
def FnExactSeesUpToSaid : Prop := fnExactSeesUpToRow.holds Try.pinned (OpenSpec.ofChange fnExactSeesUpToSpec)

/-- ITS FALSE NEIGHBOUR: 'it returns false'. Refute it at one input. -/
def fnExactSeesUpToWrong : ChangeSpec := { name := "fnExactSeesUpTo", fn := fun _ => fun
  | [d] => { results := [.lit (.bool false)], args := [d] }
  | _ => none }
def FnExactSeesUpToWrongFalsely : Prop := fnExactSeesUpToRow.holds Try.pinned (OpenSpec.ofChange fnExactSeesUpToWrong)

/-- 'laws.FnExactNearestOf': WHATEVER THE INPUT: true; the input reads as it did. -/
def fnExactNearestOfSpec : ChangeSpec := { name := "fnExactNearestOf", fn := fun _ => fun
  | [d1, d2] => { results := [.lit (.bool true)], args := [d1, d2] }
  | _ => none }
def fnExactNearestOfRow : OpenClaim := { program := "ytnhdginbhecgaaa", sum := "94612b602a9e35b89a900c8a601369f10012f0209482a1242516f62b3aa28c44", func := "loop.example/g01265/laws.FnExactNearestOf", spec := "fnExactNearestOf", apart := false }
def FnExactNearestOfSaid : Prop := fnExactNearestOfRow.holds Try.pinned (OpenSpec.ofChange fnExactNearestOfSpec)

/-- ITS FALSE NEIGHBOUR: 'it returns false'. Refute it at one input. -/
def fnExactNearestOfWrong : ChangeSpec := { name := "fnExactNearestOf", fn := fun _ => fun
  | [d1, d2] => { results := [.lit (.bool false)], args := [d1, d2] }
  | _ => none }
def FnExactNearestOfWrongFalsely : Prop := fnExactNearestOfRow.holds Try.pinned (OpenSpec.ofChange fnExactNearestOfWrong)

/-- 'laws.FnExactCountNear': WHATEVER THE INPUT: true; the input reads as it did. -/
def fnExactCountNearSpec : ChangeSpec := { name := "fnExactCountNear", fn := fun _ => fun
  | [d1, d2] => { results := [.lit (.bool true)], args := [d1, d2] }
  | _ => none }
def fnExactCountNearRow : OpenClaim := { program := "ytnhdginbhecgaaa", sum := "94612b602a9e35b89a900c8a601369f10012f0209482a1242516f62b3aa28c44", func := "loop.example/g01265/laws.FnExactCountNear", spec := "fnExactCountNear", apart := false }
def FnExactCountNearSaid : Prop := fnExactCountNearRow.holds Try.pinned (OpenSpec.ofChange fnExactCountNearSpec)

/-- ITS FALSE NEIGHBOUR: 'it returns false'. Refute it at one input. -/
def fnExactCountNearWrong : ChangeSpec := { name := "fnExactCountNear", fn := fun _ => fun
  | [d1, d2] => { results := [.lit (.bool false)], args := [d1, d2] }
  | _ => none }
def FnExactCountNearWrongFalsely : Prop := fnExactCountNearRow.holds Try.pinned (OpenSpec.ofChange fnExactCountNearWrong)

/-- 'laws.FnExactCoverOf': WHATEVER THE INPUT: true; the input reads as it did. -/
def fnExactCoverOfSpec : ChangeSpec := { name := "fnExactCoverOf", fn := fun _ => fun
  | [d] => { results := [.lit (.bool true)], args := [d] }
  | _ => none }
def fnExactCoverOfRow : OpenClaim := { program := "ytnhdginbhecgaaa", sum := "94612b602a9e35b89a900c8a601369f10012f0209482a1242516f62b3aa28c44", func := "loop.example/g01265/laws.FnExactCoverOf", spec := "fnExactCoverOf", apart := false }
def FnExactCoverOfSaid : Prop := fnExactCoverOfRow.holds Try.pinned (OpenSpec.ofChange fnExactCoverOfSpec)

/-- ITS FALSE NEIGHBOUR: 'it returns false'. Refute it at one input. -/
def fnExactCoverOfWrong : ChangeSpec := { name := "fnExactCoverOf", fn := fun _ => fun
  | [d] => { results := [.lit (.bool false)], args := [d] }
  | _ => none }
def FnExactCoverOfWrongFalsely : Prop := fnExactCoverOfRow.holds Try.pinned (OpenSpec.ofChange fnExactCoverOfWrong)

/- THE SECOND FORM. 'bulk': how many values and letters a reading holds, each counted each time it is reached (what is shared counts as often as it is met; a slice's spare places count too). A statement '..UptoSaid' is the law's where the arguments, and the package variables that the reading takes, are together of bulk at most 1048576: NARROWER than '..Said'. Prove '..Said' where nothing that the law and all that it calls make is longer than what came in: it says more and counts as full. Else prove '..UptoSaid'. A law counts once. -/
mutual
def uptoBulk {H : Type} : DataW H → Nat
  | .lit (.string bytes) => bytes.length + 1
  | .lit _ => 1
  | .nil => 1
  | .ptr d => uptoBulk d + 1
  | .slice elems spare => uptoBulkAll elems + uptoBulkAll spare + 1
  | .agg parts => uptoBulkAll parts + 1
  | .iface _ d => uptoBulk d + 1
  | .map entries => uptoBulkEntries entries + 1
  | .held _ => 1
def uptoBulkAll {H : Type} : List (DataW H) → Nat
  | [] => 0
  | d :: r => uptoBulk d + uptoBulkAll r
def uptoBulkEntries {H : Type} : List (Lit × DataW H) → Nat
  | [] => 0
  | x :: r => uptoBulkEntry x + uptoBulkEntries r
def uptoBulkEntry {H : Type} : Lit × DataW H → Nat
  | (.string bytes, d) => bytes.length + uptoBulk d + 1
  | (_, d) => uptoBulk d + 1
 end
def uptoSmall : (H : Type) → List (DataW H) → Bool := fun _ ds => decide (uptoBulkAll ds ≤ 1048576)
def OpenSpec.upto (s : _root_.Go.ChangeSpec) : _root_.Go.OpenSpec := { _root_.Go.OpenSpec.ofChange s with cond := some uptoSmall }

/-- 'laws.FnExactIsState', WHERE WHAT IT READS IS OF BULK AT MOST 1048576: true; the input reads as it did. -/
def fnExactIsStateUptoRow : OpenClaim := { program := "ytnhdginbhecgaaa", sum := "94612b602a9e35b89a900c8a601369f10012f0209482a1242516f62b3aa28c44", func := "loop.example/g01265/laws.FnExactIsState", spec := "fnExactIsState", apart := false, narrowed := true }
def FnExactIsStateUptoSaid : Prop := fnExactIsStateUptoRow.holds Try.pinned (OpenSpec.upto fnExactIsStateSpec)

/-- 'laws.FnExactIsCode', WHERE WHAT IT READS IS OF BULK AT MOST 1048576: true; the input reads as it did. -/
def fnExactIsCodeUptoRow : OpenClaim := { program := "ytnhdginbhecgaaa", sum := "94612b602a9e35b89a900c8a601369f10012f0209482a1242516f62b3aa28c44", func := "loop.example/g01265/laws.FnExactIsCode", spec := "fnExactIsCode", apart := false, narrowed := true }
def FnExactIsCodeUptoSaid : Prop := fnExactIsCodeUptoRow.holds Try.pinned (OpenSpec.upto fnExactIsCodeSpec)

/-- 'laws.FnExactDigitCode', WHERE WHAT IT READS IS OF BULK AT MOST 1048576: true; the input reads as it did. -/
def fnExactDigitCodeUptoRow : OpenClaim := { program := "ytnhdginbhecgaaa", sum := "94612b602a9e35b89a900c8a601369f10012f0209482a1242516f62b3aa28c44", func := "loop.example/g01265/laws.FnExactDigitCode", spec := "fnExactDigitCode", apart := false, narrowed := true }
def FnExactDigitCodeUptoSaid : Prop := fnExactDigitCodeUptoRow.holds Try.pinned (OpenSpec.upto fnExactDigitCodeSpec)

/-- 'laws.FnExactFlipCode', WHERE WHAT IT READS IS OF BULK AT MOST 1048576: true; the input reads as it did. -/
def fnExactFlipCodeUptoRow : OpenClaim := { program := "ytnhdginbhecgaaa", sum := "94612b602a9e35b89a900c8a601369f10012f0209482a1242516f62b3aa28c44", func := "loop.example/g01265/laws.FnExactFlipCode", spec := "fnExactFlipCode", apart := false, narrowed := true }
def FnExactFlipCodeUptoSaid : Prop := fnExactFlipCodeUptoRow.holds Try.pinned (OpenSpec.upto fnExactFlipCodeSpec)

/-- 'laws.FnExactCountFar', WHERE WHAT IT READS IS OF BULK AT MOST 1048576: true; the input reads as it did. -/
def fnExactCountFarUptoRow : OpenClaim := { program := "ytnhdginbhecgaaa", sum := "94612b602a9e35b89a900c8a601369f10012f0209482a1242516f62b3aa28c44", func := "loop.example/g01265/laws.FnExactCountFar", spec := "fnExactCountFar", unfollowed := true, recurses := true, apart := false, narrowed := true }
def FnExactCountFarUptoSaid : Prop := fnExactCountFarUptoRow.holds Try.pinned (OpenSpec.upto fnExactCountFarSpec)

/-- 'laws.FnExactGapOf', WHERE WHAT IT READS IS OF BULK AT MOST 1048576: true; the input reads as it did. -/
def fnExactGapOfUptoRow : OpenClaim := { program := "ytnhdginbhecgaaa", sum := "94612b602a9e35b89a900c8a601369f10012f0209482a1242516f62b3aa28c44", func := "loop.example/g01265/laws.FnExactGapOf", spec := "fnExactGapOf", unfollowed := true, recurses := true, apart := false, narrowed := true }
def FnExactGapOfUptoSaid : Prop := fnExactGapOfUptoRow.holds Try.pinned (OpenSpec.upto fnExactGapOfSpec)

/-- 'laws.FnExactGapPairs', WHERE WHAT IT READS IS OF BULK AT MOST 1048576: true; the input reads as it did. -/
def fnExactGapPairsUptoRow : OpenClaim := { program := "ytnhdginbhecgaaa", sum := "94612b602a9e35b89a900c8a601369f10012f0209482a1242516f62b3aa28c44", func := "loop.example/g01265/laws.FnExactGapPairs", spec := "fnExactGapPairs", unfollowed := true, recurses := true, apart := false, narrowed := true }
def FnExactGapPairsUptoSaid : Prop := fnExactGapPairsUptoRow.holds Try.pinned (OpenSpec.upto fnExactGapPairsSpec)

/-- 'laws.FnExactMendsUpTo', WHERE WHAT IT READS IS OF BULK AT MOST 1048576: true; the input reads as it did. -/
def fnExactMendsUpToUptoRow : OpenClaim := { program := "ytnhdginbhecgaaa", sum := "94612b602a9e35b89a900c8a601369f10012f0209482a1242516f62b3aa28c44", func := "loop.example/g01265/laws.FnExactMendsUpTo", spec := "fnExactMendsUpTo", unfollowed := true, recurses := true, apart := false, narrowed := true }
def FnExactMendsUpToUptoSaid : Prop := fnExactMendsUpToUptoRow.holds Try.pinned (OpenSpec.upto fnExactMendsUpToSpec)

/-- 'laws.FnExactSeesUpTo', WHERE WHAT IT READS IS OF BULK AT MOST 1048576: true; the input reads as it did. -/
def fnExactSeesUpToUptoRow : OpenClaim := { program := "ytnhdginbhecgaaa", sum := "94612b602a9e35b89a900c8a601369f10012f0209482a1242516f62b3aa28c44", func := "loop.example/g01265/laws.FnExactSeesUpTo", spec := "fnExactSeesUpTo", unfollowed := true, recurses := true, apart := false, narrowed := true }
def FnExactSeesUpToUptoSaid : Prop := fnExactSeesUpToUptoRow.holds Try.pinned (OpenSpec.upto fnExactSeesUpToSpec)

/-- 'laws.FnExactNearestOf', WHERE WHAT IT READS IS OF BULK AT MOST 1048576: true; the input reads as it did. -/
def fnExactNearestOfUptoRow : OpenClaim := { program := "ytnhdginbhecgaaa", sum := "94612b602a9e35b89a900c8a601369f10012f0209482a1242516f62b3aa28c44", func := "loop.example/g01265/laws.FnExactNearestOf", spec := "fnExactNearestOf", apart := false, narrowed := true }
def FnExactNearestOfUptoSaid : Prop := fnExactNearestOfUptoRow.holds Try.pinned (OpenSpec.upto fnExactNearestOfSpec)

/-- 'laws.FnExactCountNear', WHERE WHAT IT READS IS OF BULK AT MOST 1048576: true; the input reads as it did. -/
def fnExactCountNearUptoRow : OpenClaim := { program := "ytnhdginbhecgaaa", sum := "94612b602a9e35b89a900c8a601369f10012f0209482a1242516f62b3aa28c44", func := "loop.example/g01265/laws.FnExactCountNear", spec := "fnExactCountNear", apart := false, narrowed := true }
def FnExactCountNearUptoSaid : Prop := fnExactCountNearUptoRow.holds Try.pinned (OpenSpec.upto fnExactCountNearSpec)

/-- 'laws.FnExactCoverOf', WHERE WHAT IT READS IS OF BULK AT MOST 1048576: true; the input reads as it did. -/
def fnExactCoverOfUptoRow : OpenClaim := { program := "ytnhdginbhecgaaa", sum := "94612b602a9e35b89a900c8a601369f10012f0209482a1242516f62b3aa28c44", func := "loop.example/g01265/laws.FnExactCoverOf", spec := "fnExactCoverOf", apart := false, narrowed := true }
def FnExactCoverOfUptoSaid : Prop := fnExactCoverOfUptoRow.holds Try.pinned (OpenSpec.upto fnExactCoverOfSpec)

end Rows
end Go.Proofs.Ytnhdginbhecgaaa
