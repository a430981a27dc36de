/-
  No cell of these rows narrows 'for every input' (looked for: loops, veiled, ifaces, maps, wideKeys, modest, calm, conditions, laid).
  DERIVED. THE GIVEN ROWS OF THIS SEAT. 8 by the template 'for every input the law returns true; each argument reads behind the call as it read before'; 0 by the template 'total and deterministic' (their statements: YtepjbcgkjcgfbaaTotals.lean).
  GIVEN WITH THE SEED: the statements are not yours to turn. If you find one false, say at which input.
  Laid BY PROGRAM, IN A SANDBOX (cutbox-rows.mjs): the forced cells as the released guide's own fill.sh prints them over the translation a5f99cdf193c7853… (all of the seat's roots in one cut). By AI agents, Wed Nov 11 2026. No macro, syntax, notation, axiom, sorry.
-/
import Derived.Test.YtepjbcgkjcgfbaaChecked
import GoSem.Claim
import GoSem.ClaimJoined
import GoSem.ClaimMapViews
import Derived.JoinedTies
import Derived.KernelRfl
namespace Go.Proofs.Ytepjbcgkjcgfbaa
/- THE CELL 'sum', in the pinned program and in every row, IS THE sha256 OF THE DUMP (.gsa) THAT YtepjbcgkjcgfbaaProg.lean LOADS. Nothing in Lean hashes anything: it is a label: what it is worth is what the hold of that sum in a sandbox is worth. -/
noncomputable def Try.pinned : Pinned := { name := "ytepjbcgkjcgfbaa", sum := "a5f99cdf193c78534e14381f9a75c758f0209454262fad5b9de6add9cd50ef04", checked := Try.checked }
namespace Rows
def none {H : Type} : Left H := { results := [], args := [] }

/-- 'laws.FnExactSameTurned': WHATEVER THE INPUT: true; the input reads as it did. -/
def fnExactSameTurnedSpec : ChangeSpec := { name := "fnExactSameTurned", fn := fun _ => fun
  | [] => { results := [.lit (.bool true)], args := [] }
  | _ => none }
def fnExactSameTurnedRow : OpenClaim := { program := "ytepjbcgkjcgfbaa", sum := "a5f99cdf193c78534e14381f9a75c758f0209454262fad5b9de6add9cd50ef04", func := "loop.example/g01265/laws.FnExactSameTurned", spec := "fnExactSameTurned", unfollowed := true, recurses := true, apart := false }
def FnExactSameTurnedSaid : Prop := fnExactSameTurnedRow.holds Try.pinned (OpenSpec.ofChange fnExactSameTurnedSpec)

/-- ITS FALSE NEIGHBOUR: 'it returns false'. Refute it at one input. -/
def fnExactSameTurnedWrong : ChangeSpec := { name := "fnExactSameTurned", fn := fun _ => fun
  | [] => { results := [.lit (.bool false)], args := [] }
  | _ => none }
def FnExactSameTurnedWrongFalsely : Prop := fnExactSameTurnedRow.holds Try.pinned (OpenSpec.ofChange fnExactSameTurnedWrong)

/-- 'laws.FnExactMirrorPairs': WHATEVER THE INPUT: true; the input reads as it did. -/
def fnExactMirrorPairsSpec : ChangeSpec := { name := "fnExactMirrorPairs", fn := fun _ => fun
  | [] => { results := [.lit (.bool true)], args := [] }
  | _ => none }
def fnExactMirrorPairsRow : OpenClaim := { program := "ytepjbcgkjcgfbaa", sum := "a5f99cdf193c78534e14381f9a75c758f0209454262fad5b9de6add9cd50ef04", func := "loop.example/g01265/laws.FnExactMirrorPairs", spec := "fnExactMirrorPairs", unfollowed := true, recurses := true, apart := false }
def FnExactMirrorPairsSaid : Prop := fnExactMirrorPairsRow.holds Try.pinned (OpenSpec.ofChange fnExactMirrorPairsSpec)

/-- ITS FALSE NEIGHBOUR: 'it returns false'. Refute it at one input. -/
def fnExactMirrorPairsWrong : ChangeSpec := { name := "fnExactMirrorPairs", fn := fun _ => fun
  | [] => { results := [.lit (.bool false)], args := [] }
  | _ => none }
def FnExactMirrorPairsWrongFalsely : Prop := fnExactMirrorPairsRow.holds Try.pinned (OpenSpec.ofChange fnExactMirrorPairsWrong)

/-- 'laws.FnExactApartInMirror': WHATEVER THE INPUT: true; the input reads as it did. -/
def fnExactApartInMirrorSpec : ChangeSpec := { name := "fnExactApartInMirror", fn := fun _ => fun
  | [d] => { results := [.lit (.bool true)], args := [d] }
  | _ => none }
def fnExactApartInMirrorRow : OpenClaim := { program := "ytepjbcgkjcgfbaa", sum := "a5f99cdf193c78534e14381f9a75c758f0209454262fad5b9de6add9cd50ef04", func := "loop.example/g01265/laws.FnExactApartInMirror", spec := "fnExactApartInMirror", unfollowed := true, recurses := true, apart := false }
def FnExactApartInMirrorSaid : Prop := fnExactApartInMirrorRow.holds Try.pinned (OpenSpec.ofChange fnExactApartInMirrorSpec)

/-- ITS FALSE NEIGHBOUR: 'it returns false'. Refute it at one input. -/
def fnExactApartInMirrorWrong : ChangeSpec := { name := "fnExactApartInMirror", fn := fun _ => fun
  | [d] => { results := [.lit (.bool false)], args := [d] }
  | _ => none }
def FnExactApartInMirrorWrongFalsely : Prop := fnExactApartInMirrorRow.holds Try.pinned (OpenSpec.ofChange fnExactApartInMirrorWrong)

/-- 'laws.FnExactChangesOf': WHATEVER THE INPUT: true; the input reads as it did. -/
def fnExactChangesOfSpec : ChangeSpec := { name := "fnExactChangesOf", fn := fun _ => fun
  | [d] => { results := [.lit (.bool true)], args := [d] }
  | _ => none }
def fnExactChangesOfRow : OpenClaim := { program := "ytepjbcgkjcgfbaa", sum := "a5f99cdf193c78534e14381f9a75c758f0209454262fad5b9de6add9cd50ef04", func := "loop.example/g01265/laws.FnExactChangesOf", spec := "fnExactChangesOf", unfollowed := true, recurses := true, apart := false }
def FnExactChangesOfSaid : Prop := fnExactChangesOfRow.holds Try.pinned (OpenSpec.ofChange fnExactChangesOfSpec)

/-- ITS FALSE NEIGHBOUR: 'it returns false'. Refute it at one input. -/
def fnExactChangesOfWrong : ChangeSpec := { name := "fnExactChangesOf", fn := fun _ => fun
  | [d] => { results := [.lit (.bool false)], args := [d] }
  | _ => none }
def FnExactChangesOfWrongFalsely : Prop := fnExactChangesOfRow.holds Try.pinned (OpenSpec.ofChange fnExactChangesOfWrong)

/-- 'laws.FnExactLeastSlots': WHATEVER THE INPUT: true; the input reads as it did. -/
def fnExactLeastSlotsSpec : ChangeSpec := { name := "fnExactLeastSlots", fn := fun _ => fun
  | [d] => { results := [.lit (.bool true)], args := [d] }
  | _ => none }
def fnExactLeastSlotsRow : OpenClaim := { program := "ytepjbcgkjcgfbaa", sum := "a5f99cdf193c78534e14381f9a75c758f0209454262fad5b9de6add9cd50ef04", func := "loop.example/g01265/laws.FnExactLeastSlots", spec := "fnExactLeastSlots", unfollowed := true, recurses := true, apart := false }
def FnExactLeastSlotsSaid : Prop := fnExactLeastSlotsRow.holds Try.pinned (OpenSpec.ofChange fnExactLeastSlotsSpec)

/-- ITS FALSE NEIGHBOUR: 'it returns false'. Refute it at one input. -/
def fnExactLeastSlotsWrong : ChangeSpec := { name := "fnExactLeastSlots", fn := fun _ => fun
  | [d] => { results := [.lit (.bool false)], args := [d] }
  | _ => none }
def FnExactLeastSlotsWrongFalsely : Prop := fnExactLeastSlotsRow.holds Try.pinned (OpenSpec.ofChange fnExactLeastSlotsWrong)

/-- 'laws.FnExactVainSlots': WHATEVER THE INPUT: true; the input reads as it did. -/
def fnExactVainSlotsSpec : ChangeSpec := { name := "fnExactVainSlots", fn := fun _ => fun
  | [d1, d2] => { results := [.lit (.bool true)], args := [d1, d2] }
  | _ => none }
def fnExactVainSlotsRow : OpenClaim := { program := "ytepjbcgkjcgfbaa", sum := "a5f99cdf193c78534e14381f9a75c758f0209454262fad5b9de6add9cd50ef04", func := "loop.example/g01265/laws.FnExactVainSlots", spec := "fnExactVainSlots", unfollowed := true, recurses := true, apart := false }
def FnExactVainSlotsSaid : Prop := fnExactVainSlotsRow.holds Try.pinned (OpenSpec.ofChange fnExactVainSlotsSpec)

/-- ITS FALSE NEIGHBOUR: 'it returns false'. Refute it at one input. -/
def fnExactVainSlotsWrong : ChangeSpec := { name := "fnExactVainSlots", fn := fun _ => fun
  | [d1, d2] => { results := [.lit (.bool false)], args := [d1, d2] }
  | _ => none }
def FnExactVainSlotsWrongFalsely : Prop := fnExactVainSlotsRow.holds Try.pinned (OpenSpec.ofChange fnExactVainSlotsWrong)

/-- 'laws.FnExactDropVain': WHATEVER THE INPUT: true; the input reads as it did. -/
def fnExactDropVainSpec : ChangeSpec := { name := "fnExactDropVain", fn := fun _ => fun
  | [d1, d2] => { results := [.lit (.bool true)], args := [d1, d2] }
  | _ => none }
def fnExactDropVainRow : OpenClaim := { program := "ytepjbcgkjcgfbaa", sum := "a5f99cdf193c78534e14381f9a75c758f0209454262fad5b9de6add9cd50ef04", func := "loop.example/g01265/laws.FnExactDropVain", spec := "fnExactDropVain", unfollowed := true, recurses := true, apart := false }
def FnExactDropVainSaid : Prop := fnExactDropVainRow.holds Try.pinned (OpenSpec.ofChange fnExactDropVainSpec)

/-- ITS FALSE NEIGHBOUR: 'it returns false'. Refute it at one input. -/
def fnExactDropVainWrong : ChangeSpec := { name := "fnExactDropVain", fn := fun _ => fun
  | [d1, d2] => { results := [.lit (.bool false)], args := [d1, d2] }
  | _ => none }
def FnExactDropVainWrongFalsely : Prop := fnExactDropVainRow.holds Try.pinned (OpenSpec.ofChange fnExactDropVainWrong)

/-- 'laws.FnExactQuietOrder': WHATEVER THE INPUT: true; the input reads as it did. -/
def fnExactQuietOrderSpec : ChangeSpec := { name := "fnExactQuietOrder", fn := fun _ => fun
  | [d] => { results := [.lit (.bool true)], args := [d] }
  | _ => none }
def fnExactQuietOrderRow : OpenClaim := { program := "ytepjbcgkjcgfbaa", sum := "a5f99cdf193c78534e14381f9a75c758f0209454262fad5b9de6add9cd50ef04", func := "loop.example/g01265/laws.FnExactQuietOrder", spec := "fnExactQuietOrder", unfollowed := true, recurses := true, apart := false }
def FnExactQuietOrderSaid : Prop := fnExactQuietOrderRow.holds Try.pinned (OpenSpec.ofChange fnExactQuietOrderSpec)

/-- ITS FALSE NEIGHBOUR: 'it returns false'. Refute it at one input. -/
def fnExactQuietOrderWrong : ChangeSpec := { name := "fnExactQuietOrder", fn := fun _ => fun
  | [d] => { results := [.lit (.bool false)], args := [d] }
  | _ => none }
def FnExactQuietOrderWrongFalsely : Prop := fnExactQuietOrderRow.holds Try.pinned (OpenSpec.ofChange fnExactQuietOrderWrong)

/- THE SECOND FORM. 'bulk': how many values and letters a reading holds, each counted each time it is reached (what is shared counts as often as it is met; a slice's spare places count too). A statement '..UptoSaid' is the law's where the arguments, and the package variables that the reading takes, are together of bulk at most 1048576: NARROWER than '..Said'. Prove '..Said' where nothing that the law and all that it calls make is longer than what came in: it says more and counts as full. Else prove '..UptoSaid'. A law counts once. -/
mutual
def uptoBulk {H : Type} : DataW H → Nat
  | .lit (.string bytes) => bytes.length + 1
  | .lit _ => 1
  | .nil => 1
  | .ptr d => uptoBulk d + 1
  | .slice elems spare => uptoBulkAll elems + uptoBulkAll spare + 1
  | .agg parts => uptoBulkAll parts + 1
  | .iface _ d => uptoBulk d + 1
  | .map entries => uptoBulkEntries entries + 1
  | .held _ => 1
def uptoBulkAll {H : Type} : List (DataW H) → Nat
  | [] => 0
  | d :: r => uptoBulk d + uptoBulkAll r
def uptoBulkEntries {H : Type} : List (Lit × DataW H) → Nat
  | [] => 0
  | x :: r => uptoBulkEntry x + uptoBulkEntries r
def uptoBulkEntry {H : Type} : Lit × DataW H → Nat
  | (.string bytes, d) => bytes.length + uptoBulk d + 1
  | (_, d) => uptoBulk d + 1
 end
def uptoSmall : (H : Type) → List (DataW H) → Bool := fun _ ds => decide (uptoBulkAll ds ≤ 1048576)
def OpenSpec.upto (s : _root_.Go.ChangeSpec) : _root_.Go.OpenSpec := { _root_.Go.OpenSpec.ofChange s with cond := some uptoSmall }

/-- 'laws.FnExactSameTurned', WHERE WHAT IT READS IS OF BULK AT MOST 1048576: true; the input reads as it did. -/
def fnExactSameTurnedUptoRow : OpenClaim := { program := "ytepjbcgkjcgfbaa", sum := "a5f99cdf193c78534e14381f9a75c758f0209454262fad5b9de6add9cd50ef04", func := "loop.example/g01265/laws.FnExactSameTurned", spec := "fnExactSameTurned", unfollowed := true, recurses := true, apart := false, narrowed := true }
def FnExactSameTurnedUptoSaid : Prop := fnExactSameTurnedUptoRow.holds Try.pinned (OpenSpec.upto fnExactSameTurnedSpec)

/-- 'laws.FnExactMirrorPairs', WHERE WHAT IT READS IS OF BULK AT MOST 1048576: true; the input reads as it did. -/
def fnExactMirrorPairsUptoRow : OpenClaim := { program := "ytepjbcgkjcgfbaa", sum := "a5f99cdf193c78534e14381f9a75c758f0209454262fad5b9de6add9cd50ef04", func := "loop.example/g01265/laws.FnExactMirrorPairs", spec := "fnExactMirrorPairs", unfollowed := true, recurses := true, apart := false, narrowed := true }
def FnExactMirrorPairsUptoSaid : Prop := fnExactMirrorPairsUptoRow.holds Try.pinned (OpenSpec.upto fnExactMirrorPairsSpec)

/-- 'laws.FnExactApartInMirror', WHERE WHAT IT READS IS OF BULK AT MOST 1048576: true; the input reads as it did. -/
def fnExactApartInMirrorUptoRow : OpenClaim := { program := "ytepjbcgkjcgfbaa", sum := "a5f99cdf193c78534e14381f9a75c758f0209454262fad5b9de6add9cd50ef04", func := "loop.example/g01265/laws.FnExactApartInMirror", spec := "fnExactApartInMirror", unfollowed := true, recurses := true, apart := false, narrowed := true }
def FnExactApartInMirrorUptoSaid : Prop := fnExactApartInMirrorUptoRow.holds Try.pinned (OpenSpec.upto fnExactApartInMirrorSpec)

/-- 'laws.FnExactChangesOf', WHERE WHAT IT READS IS OF BULK AT MOST 1048576: true; the input reads as it did. -/
def fnExactChangesOfUptoRow : OpenClaim := { program := "ytepjbcgkjcgfbaa", sum := "a5f99cdf193c78534e14381f9a75c758f0209454262fad5b9de6add9cd50ef04", func := "loop.example/g01265/laws.FnExactChangesOf", spec := "fnExactChangesOf", unfollowed := true, recurses := true, apart := false, narrowed := true }
def FnExactChangesOfUptoSaid : Prop := fnExactChangesOfUptoRow.holds Try.pinned (OpenSpec.upto fnExactChangesOfSpec)

/-- 'laws.FnExactLeastSlots', WHERE WHAT IT READS IS OF BULK AT MOST 1048576: true; the input reads as it did. -/
def fnExactLeastSlotsUptoRow : OpenClaim := { program := "ytepjbcgkjcgfbaa", sum := "a5f99cdf193c78534e14381f9a75c758f0209454262fad5b9de6add9cd50ef04", func := "loop.example/g01265/laws.FnExactLeastSlots", spec := "fnExactLeastSlots", unfollowed := true, recurses := true, apart := false, narrowed := true }
def FnExactLeastSlotsUptoSaid : Prop := fnExactLeastSlotsUptoRow.holds Try.pinned (OpenSpec.upto fnExactLeastSlotsSpec)

/-- 'laws.FnExactVainSlots', WHERE WHAT IT READS IS OF BULK AT MOST 1048576: true; the input reads as it did. -/
def fnExactVainSlotsUptoRow : OpenClaim := { program := "ytepjbcgkjcgfbaa", sum := "a5f99cdf193c78534e14381f9a75c758f0209454262fad5b9de6add9cd50ef04", func := "loop.example/g01265/laws.FnExactVainSlots", spec := "fnExactVainSlots", unfollowed := true, recurses := true, apart := false, narrowed := true }
def FnExactVainSlotsUptoSaid : Prop := fnExactVainSlotsUptoRow.holds Try.pinned (OpenSpec.upto fnExactVainSlotsSpec)

/-- 'laws.FnExactDropVain', WHERE WHAT IT READS IS OF BULK AT MOST 1048576: true; the input reads as it did. -/
def fnExactDropVainUptoRow : OpenClaim := { program := "ytepjbcgkjcgfbaa", sum := "a5f99cdf193c78534e14381f9a75c758f0209454262fad5b9de6add9cd50ef04", func := "loop.example/g01265/laws.FnExactDropVain", spec := "fnExactDropVain", unfollowed := true, recurses := true, apart := false, narrowed := true }
def FnExactDropVainUptoSaid : Prop := fnExactDropVainUptoRow.holds Try.pinned (OpenSpec.upto fnExactDropVainSpec)

/-- 'laws.FnExactQuietOrder', WHERE WHAT IT READS IS OF BULK AT MOST 1048576: true; the input reads as it did. -/
def fnExactQuietOrderUptoRow : OpenClaim := { program := "ytepjbcgkjcgfbaa", sum := "a5f99cdf193c78534e14381f9a75c758f0209454262fad5b9de6add9cd50ef04", func := "loop.example/g01265/laws.FnExactQuietOrder", spec := "fnExactQuietOrder", unfollowed := true, recurses := true, apart := false, narrowed := true }
def FnExactQuietOrderUptoSaid : Prop := fnExactQuietOrderUptoRow.holds Try.pinned (OpenSpec.upto fnExactQuietOrderSpec)

end Rows
end Go.Proofs.Ytepjbcgkjcgfbaa
