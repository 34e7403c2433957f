/-
  No cell of these rows narrows 'for every input' (looked for: loops, veiled, ifaces, maps, wideKeys, modest, calm, conditions, laid).
  DERIVED. THE GIVEN ROWS OF THIS SEAT. 14 by the template 'for every input the law returns true; each argument reads behind the call as it read before'; 0 by the template 'total and deterministic' (their statements: YtdkklkpegnblnaaTotals.lean).
  GIVEN WITH THE SEED: the statements are not yours to turn. If you find one false, say at which input.
  Laid BY PROGRAM, IN A SANDBOX (cutbox-rows.mjs): the forced cells as the released guide's own fill.sh prints them over the translation 56568e7a01809e72… (all of the seat's roots in one cut). By AI agents, Wed Nov 11 2026. No macro, syntax, notation, axiom, sorry.
-/
import Derived.Test.YtdkklkpegnblnaaChecked
import GoSem.Claim
import GoSem.ClaimJoined
import GoSem.ClaimMapViews
import Derived.JoinedTies
import Derived.KernelRfl
namespace Go.Proofs.Ytdkklkpegnblnaa
/- THE CELL 'sum', in the pinned program and in every row, IS THE sha256 OF THE DUMP (.gsa) THAT YtdkklkpegnblnaaProg.lean LOADS. Nothing in Lean hashes anything: it is a label: what it is worth is what the hold of that sum in a sandbox is worth. -/
noncomputable def Try.pinned : Pinned := { name := "ytdkklkpegnblnaa", sum := "56568e7a01809e72a2ba13fa3a0e7b0ce858f6c3ba02797d04170d2920cb5658", checked := Try.checked }
namespace Rows
def none {H : Type} : Left H := { results := [], args := [] }

/-- 'laws.FnExactValidLeather': WHATEVER THE INPUT: true; the input reads as it did. -/
def fnExactValidLeatherSpec : ChangeSpec := { name := "fnExactValidLeather", fn := fun _ => fun
  | [d] => { results := [.lit (.bool true)], args := [d] }
  | _ => none }
def fnExactValidLeatherRow : OpenClaim := { program := "ytdkklkpegnblnaa", sum := "56568e7a01809e72a2ba13fa3a0e7b0ce858f6c3ba02797d04170d2920cb5658", func := "loop.example/g01043/laws.FnExactValidLeather", spec := "fnExactValidLeather", apart := false }
def FnExactValidLeatherSaid : Prop := fnExactValidLeatherRow.holds Try.pinned (OpenSpec.ofChange fnExactValidLeatherSpec)

/-- ITS FALSE NEIGHBOUR: 'it returns false'. Refute it at one input. -/
def fnExactValidLeatherWrong : ChangeSpec := { name := "fnExactValidLeather", fn := fun _ => fun
  | [d] => { results := [.lit (.bool false)], args := [d] }
  | _ => none }
def FnExactValidLeatherWrongFalsely : Prop := fnExactValidLeatherRow.holds Try.pinned (OpenSpec.ofChange fnExactValidLeatherWrong)

/-- 'laws.FnExactStitchesFor': WHATEVER THE INPUT: true; the input reads as it did. -/
def fnExactStitchesForSpec : ChangeSpec := { name := "fnExactStitchesFor", fn := fun _ => fun
  | [d1, d2] => { results := [.lit (.bool true)], args := [d1, d2] }
  | _ => none }
def fnExactStitchesForRow : OpenClaim := { program := "ytdkklkpegnblnaa", sum := "56568e7a01809e72a2ba13fa3a0e7b0ce858f6c3ba02797d04170d2920cb5658", func := "loop.example/g01043/laws.FnExactStitchesFor", spec := "fnExactStitchesFor", apart := false }
def FnExactStitchesForSaid : Prop := fnExactStitchesForRow.holds Try.pinned (OpenSpec.ofChange fnExactStitchesForSpec)

/-- ITS FALSE NEIGHBOUR: 'it returns false'. Refute it at one input. -/
def fnExactStitchesForWrong : ChangeSpec := { name := "fnExactStitchesFor", fn := fun _ => fun
  | [d1, d2] => { results := [.lit (.bool false)], args := [d1, d2] }
  | _ => none }
def FnExactStitchesForWrongFalsely : Prop := fnExactStitchesForRow.holds Try.pinned (OpenSpec.ofChange fnExactStitchesForWrong)

/-- 'laws.FnExactValidSides': WHATEVER THE INPUT: true; the input reads as it did. -/
def fnExactValidSidesSpec : ChangeSpec := { name := "fnExactValidSides", fn := fun _ => fun
  | [d] => { results := [.lit (.bool true)], args := [d] }
  | _ => none }
def fnExactValidSidesRow : OpenClaim := { program := "ytdkklkpegnblnaa", sum := "56568e7a01809e72a2ba13fa3a0e7b0ce858f6c3ba02797d04170d2920cb5658", func := "loop.example/g01043/laws.FnExactValidSides", spec := "fnExactValidSides", unfollowed := true, recurses := true, apart := false }
def FnExactValidSidesSaid : Prop := fnExactValidSidesRow.holds Try.pinned (OpenSpec.ofChange fnExactValidSidesSpec)

/-- ITS FALSE NEIGHBOUR: 'it returns false'. Refute it at one input. -/
def fnExactValidSidesWrong : ChangeSpec := { name := "fnExactValidSides", fn := fun _ => fun
  | [d] => { results := [.lit (.bool false)], args := [d] }
  | _ => none }
def FnExactValidSidesWrongFalsely : Prop := fnExactValidSidesRow.holds Try.pinned (OpenSpec.ofChange fnExactValidSidesWrong)

/-- 'laws.FnExactGreatestPull': WHATEVER THE INPUT: true; the input reads as it did. -/
def fnExactGreatestPullSpec : ChangeSpec := { name := "fnExactGreatestPull", fn := fun _ => fun
  | [d1, d2] => { results := [.lit (.bool true)], args := [d1, d2] }
  | _ => none }
def fnExactGreatestPullRow : OpenClaim := { program := "ytdkklkpegnblnaa", sum := "56568e7a01809e72a2ba13fa3a0e7b0ce858f6c3ba02797d04170d2920cb5658", func := "loop.example/g01043/laws.FnExactGreatestPull", spec := "fnExactGreatestPull", apart := false }
def FnExactGreatestPullSaid : Prop := fnExactGreatestPullRow.holds Try.pinned (OpenSpec.ofChange fnExactGreatestPullSpec)

/-- ITS FALSE NEIGHBOUR: 'it returns false'. Refute it at one input. -/
def fnExactGreatestPullWrong : ChangeSpec := { name := "fnExactGreatestPull", fn := fun _ => fun
  | [d1, d2] => { results := [.lit (.bool false)], args := [d1, d2] }
  | _ => none }
def FnExactGreatestPullWrongFalsely : Prop := fnExactGreatestPullRow.holds Try.pinned (OpenSpec.ofChange fnExactGreatestPullWrong)

/-- 'laws.FnExactMatchDirections': WHATEVER THE INPUT: true; the input reads as it did. -/
def fnExactMatchDirectionsSpec : ChangeSpec := { name := "fnExactMatchDirections", fn := fun _ => fun
  | [d1, d2] => { results := [.lit (.bool true)], args := [d1, d2] }
  | _ => none }
def fnExactMatchDirectionsRow : OpenClaim := { program := "ytdkklkpegnblnaa", sum := "56568e7a01809e72a2ba13fa3a0e7b0ce858f6c3ba02797d04170d2920cb5658", func := "loop.example/g01043/laws.FnExactMatchDirections", spec := "fnExactMatchDirections", apart := false }
def FnExactMatchDirectionsSaid : Prop := fnExactMatchDirectionsRow.holds Try.pinned (OpenSpec.ofChange fnExactMatchDirectionsSpec)

/-- ITS FALSE NEIGHBOUR: 'it returns false'. Refute it at one input. -/
def fnExactMatchDirectionsWrong : ChangeSpec := { name := "fnExactMatchDirections", fn := fun _ => fun
  | [d1, d2] => { results := [.lit (.bool false)], args := [d1, d2] }
  | _ => none }
def FnExactMatchDirectionsWrongFalsely : Prop := fnExactMatchDirectionsRow.holds Try.pinned (OpenSpec.ofChange fnExactMatchDirectionsWrong)

/-- 'laws.FnExactBestDirection': WHATEVER THE INPUT: true; the input reads as it did. -/
def fnExactBestDirectionSpec : ChangeSpec := { name := "fnExactBestDirection", fn := fun _ => fun
  | [d1, d2, d3, d4] => { results := [.lit (.bool true)], args := [d1, d2, d3, d4] }
  | _ => none }
def fnExactBestDirectionRow : OpenClaim := { program := "ytdkklkpegnblnaa", sum := "56568e7a01809e72a2ba13fa3a0e7b0ce858f6c3ba02797d04170d2920cb5658", func := "loop.example/g01043/laws.FnExactBestDirection", spec := "fnExactBestDirection", apart := false }
def FnExactBestDirectionSaid : Prop := fnExactBestDirectionRow.holds Try.pinned (OpenSpec.ofChange fnExactBestDirectionSpec)

/-- ITS FALSE NEIGHBOUR: 'it returns false'. Refute it at one input. -/
def fnExactBestDirectionWrong : ChangeSpec := { name := "fnExactBestDirection", fn := fun _ => fun
  | [d1, d2, d3, d4] => { results := [.lit (.bool false)], args := [d1, d2, d3, d4] }
  | _ => none }
def FnExactBestDirectionWrongFalsely : Prop := fnExactBestDirectionRow.holds Try.pinned (OpenSpec.ofChange fnExactBestDirectionWrong)

/-- 'laws.FnStretches': WHATEVER THE INPUT: true; the input reads as it did. -/
def fnStretchesSpec : ChangeSpec := { name := "fnStretches", fn := fun _ => fun
  | [d1, d2] => { results := [.lit (.bool true)], args := [d1, d2] }
  | _ => none }
def fnStretchesRow : OpenClaim := { program := "ytdkklkpegnblnaa", sum := "56568e7a01809e72a2ba13fa3a0e7b0ce858f6c3ba02797d04170d2920cb5658", func := "loop.example/g01043/laws.FnStretches", spec := "fnStretches", apart := false }
def FnStretchesSaid : Prop := fnStretchesRow.holds Try.pinned (OpenSpec.ofChange fnStretchesSpec)

/-- ITS FALSE NEIGHBOUR: 'it returns false'. Refute it at one input. -/
def fnStretchesWrong : ChangeSpec := { name := "fnStretches", fn := fun _ => fun
  | [d1, d2] => { results := [.lit (.bool false)], args := [d1, d2] }
  | _ => none }
def FnStretchesWrongFalsely : Prop := fnStretchesRow.holds Try.pinned (OpenSpec.ofChange fnStretchesWrong)

/-- 'laws.FnExactPullFor': WHATEVER THE INPUT: true; the input reads as it did. -/
def fnExactPullForSpec : ChangeSpec := { name := "fnExactPullFor", fn := fun _ => fun
  | [d1, d2, d3, d4] => { results := [.lit (.bool true)], args := [d1, d2, d3, d4] }
  | _ => none }
def fnExactPullForRow : OpenClaim := { program := "ytdkklkpegnblnaa", sum := "56568e7a01809e72a2ba13fa3a0e7b0ce858f6c3ba02797d04170d2920cb5658", func := "loop.example/g01043/laws.FnExactPullFor", spec := "fnExactPullFor", apart := false }
def FnExactPullForSaid : Prop := fnExactPullForRow.holds Try.pinned (OpenSpec.ofChange fnExactPullForSpec)

/-- ITS FALSE NEIGHBOUR: 'it returns false'. Refute it at one input. -/
def fnExactPullForWrong : ChangeSpec := { name := "fnExactPullFor", fn := fun _ => fun
  | [d1, d2, d3, d4] => { results := [.lit (.bool false)], args := [d1, d2, d3, d4] }
  | _ => none }
def FnExactPullForWrongFalsely : Prop := fnExactPullForRow.holds Try.pinned (OpenSpec.ofChange fnExactPullForWrong)

/-- 'laws.FnExactCutLength': WHATEVER THE INPUT: true; the input reads as it did. -/
def fnExactCutLengthSpec : ChangeSpec := { name := "fnExactCutLength", fn := fun _ => fun
  | [d1, d2, d3, d4] => { results := [.lit (.bool true)], args := [d1, d2, d3, d4] }
  | _ => none }
def fnExactCutLengthRow : OpenClaim := { program := "ytdkklkpegnblnaa", sum := "56568e7a01809e72a2ba13fa3a0e7b0ce858f6c3ba02797d04170d2920cb5658", func := "loop.example/g01043/laws.FnExactCutLength", spec := "fnExactCutLength", apart := false }
def FnExactCutLengthSaid : Prop := fnExactCutLengthRow.holds Try.pinned (OpenSpec.ofChange fnExactCutLengthSpec)

/-- ITS FALSE NEIGHBOUR: 'it returns false'. Refute it at one input. -/
def fnExactCutLengthWrong : ChangeSpec := { name := "fnExactCutLength", fn := fun _ => fun
  | [d1, d2, d3, d4] => { results := [.lit (.bool false)], args := [d1, d2, d3, d4] }
  | _ => none }
def FnExactCutLengthWrongFalsely : Prop := fnExactCutLengthRow.holds Try.pinned (OpenSpec.ofChange fnExactCutLengthWrong)

/-- 'laws.FnExactLengthAfter': WHATEVER THE INPUT: true; the input reads as it did. -/
def fnExactLengthAfterSpec : ChangeSpec := { name := "fnExactLengthAfter", fn := fun _ => fun
  | [d1, d2, d3, d4] => { results := [.lit (.bool true)], args := [d1, d2, d3, d4] }
  | _ => none }
def fnExactLengthAfterRow : OpenClaim := { program := "ytdkklkpegnblnaa", sum := "56568e7a01809e72a2ba13fa3a0e7b0ce858f6c3ba02797d04170d2920cb5658", func := "loop.example/g01043/laws.FnExactLengthAfter", spec := "fnExactLengthAfter", apart := false }
def FnExactLengthAfterSaid : Prop := fnExactLengthAfterRow.holds Try.pinned (OpenSpec.ofChange fnExactLengthAfterSpec)

/-- ITS FALSE NEIGHBOUR: 'it returns false'. Refute it at one input. -/
def fnExactLengthAfterWrong : ChangeSpec := { name := "fnExactLengthAfter", fn := fun _ => fun
  | [d1, d2, d3, d4] => { results := [.lit (.bool false)], args := [d1, d2, d3, d4] }
  | _ => none }
def FnExactLengthAfterWrongFalsely : Prop := fnExactLengthAfterRow.holds Try.pinned (OpenSpec.ofChange fnExactLengthAfterWrong)

/-- 'laws.FnExactLengthUnder': WHATEVER THE INPUT: true; the input reads as it did. -/
def fnExactLengthUnderSpec : ChangeSpec := { name := "fnExactLengthUnder", fn := fun _ => fun
  | [d1, d2, d3, d4] => { results := [.lit (.bool true)], args := [d1, d2, d3, d4] }
  | _ => none }
def fnExactLengthUnderRow : OpenClaim := { program := "ytdkklkpegnblnaa", sum := "56568e7a01809e72a2ba13fa3a0e7b0ce858f6c3ba02797d04170d2920cb5658", func := "loop.example/g01043/laws.FnExactLengthUnder", spec := "fnExactLengthUnder", apart := false }
def FnExactLengthUnderSaid : Prop := fnExactLengthUnderRow.holds Try.pinned (OpenSpec.ofChange fnExactLengthUnderSpec)

/-- ITS FALSE NEIGHBOUR: 'it returns false'. Refute it at one input. -/
def fnExactLengthUnderWrong : ChangeSpec := { name := "fnExactLengthUnder", fn := fun _ => fun
  | [d1, d2, d3, d4] => { results := [.lit (.bool false)], args := [d1, d2, d3, d4] }
  | _ => none }
def FnExactLengthUnderWrongFalsely : Prop := fnExactLengthUnderRow.holds Try.pinned (OpenSpec.ofChange fnExactLengthUnderWrong)

/-- 'laws.FnExactStretchOf': WHATEVER THE INPUT: true; the input reads as it did. -/
def fnExactStretchOfSpec : ChangeSpec := { name := "fnExactStretchOf", fn := fun _ => fun
  | [d1, d2, d3] => { results := [.lit (.bool true)], args := [d1, d2, d3] }
  | _ => none }
def fnExactStretchOfRow : OpenClaim := { program := "ytdkklkpegnblnaa", sum := "56568e7a01809e72a2ba13fa3a0e7b0ce858f6c3ba02797d04170d2920cb5658", func := "loop.example/g01043/laws.FnExactStretchOf", spec := "fnExactStretchOf", apart := false }
def FnExactStretchOfSaid : Prop := fnExactStretchOfRow.holds Try.pinned (OpenSpec.ofChange fnExactStretchOfSpec)

/-- ITS FALSE NEIGHBOUR: 'it returns false'. Refute it at one input. -/
def fnExactStretchOfWrong : ChangeSpec := { name := "fnExactStretchOf", fn := fun _ => fun
  | [d1, d2, d3] => { results := [.lit (.bool false)], args := [d1, d2, d3] }
  | _ => none }
def FnExactStretchOfWrongFalsely : Prop := fnExactStretchOfRow.holds Try.pinned (OpenSpec.ofChange fnExactStretchOfWrong)

/-- 'laws.FnPulls': WHATEVER THE INPUT: true; the input reads as it did. -/
def fnPullsSpec : ChangeSpec := { name := "fnPulls", fn := fun _ => fun
  | [d1, d2] => { results := [.lit (.bool true)], args := [d1, d2] }
  | _ => none }
def fnPullsRow : OpenClaim := { program := "ytdkklkpegnblnaa", sum := "56568e7a01809e72a2ba13fa3a0e7b0ce858f6c3ba02797d04170d2920cb5658", func := "loop.example/g01043/laws.FnPulls", spec := "fnPulls", unfollowed := true, recurses := true, apart := false }
def FnPullsSaid : Prop := fnPullsRow.holds Try.pinned (OpenSpec.ofChange fnPullsSpec)

/-- ITS FALSE NEIGHBOUR: 'it returns false'. Refute it at one input. -/
def fnPullsWrong : ChangeSpec := { name := "fnPulls", fn := fun _ => fun
  | [d1, d2] => { results := [.lit (.bool false)], args := [d1, d2] }
  | _ => none }
def FnPullsWrongFalsely : Prop := fnPullsRow.holds Try.pinned (OpenSpec.ofChange fnPullsWrong)

/-- 'laws.FnExactRunPulls': WHATEVER THE INPUT: true; the input reads as it did. -/
def fnExactRunPullsSpec : ChangeSpec := { name := "fnExactRunPulls", fn := fun _ => fun
  | [d1, d2, d3, d4] => { results := [.lit (.bool true)], args := [d1, d2, d3, d4] }
  | _ => none }
def fnExactRunPullsRow : OpenClaim := { program := "ytdkklkpegnblnaa", sum := "56568e7a01809e72a2ba13fa3a0e7b0ce858f6c3ba02797d04170d2920cb5658", func := "loop.example/g01043/laws.FnExactRunPulls", spec := "fnExactRunPulls", unfollowed := true, recurses := true, apart := false }
def FnExactRunPullsSaid : Prop := fnExactRunPullsRow.holds Try.pinned (OpenSpec.ofChange fnExactRunPullsSpec)

/-- ITS FALSE NEIGHBOUR: 'it returns false'. Refute it at one input. -/
def fnExactRunPullsWrong : ChangeSpec := { name := "fnExactRunPulls", fn := fun _ => fun
  | [d1, d2, d3, d4] => { results := [.lit (.bool false)], args := [d1, d2, d3, d4] }
  | _ => none }
def FnExactRunPullsWrongFalsely : Prop := fnExactRunPullsRow.holds Try.pinned (OpenSpec.ofChange fnExactRunPullsWrong)

/- THE SECOND FORM. 'bulk': how many values and letters a reading holds, each counted each time it is reached (what is shared counts as often as it is met; a slice's spare places count too). A statement '..UptoSaid' is the law's where the arguments, and the package variables that the reading takes, are together of bulk at most 1048576: NARROWER than '..Said'. Prove '..Said' where nothing that the law and all that it calls make is longer than what came in: it says more and counts as full. Else prove '..UptoSaid'. A law counts once. -/
mutual
def uptoBulk {H : Type} : DataW H → Nat
  | .lit (.string bytes) => bytes.length + 1
  | .lit _ => 1
  | .nil => 1
  | .ptr d => uptoBulk d + 1
  | .slice elems spare => uptoBulkAll elems + uptoBulkAll spare + 1
  | .agg parts => uptoBulkAll parts + 1
  | .iface _ d => uptoBulk d + 1
  | .map entries => uptoBulkEntries entries + 1
  | .held _ => 1
def uptoBulkAll {H : Type} : List (DataW H) → Nat
  | [] => 0
  | d :: r => uptoBulk d + uptoBulkAll r
def uptoBulkEntries {H : Type} : List (Lit × DataW H) → Nat
  | [] => 0
  | x :: r => uptoBulkEntry x + uptoBulkEntries r
def uptoBulkEntry {H : Type} : Lit × DataW H → Nat
  | (.string bytes, d) => bytes.length + uptoBulk d + 1
  | (_, d) => uptoBulk d + 1
 end
def uptoSmall : (H : Type) → List (DataW H) → Bool := fun _ ds => decide (uptoBulkAll ds ≤ 1048576)
def OpenSpec.upto (s : _root_.Go.ChangeSpec) : _root_.Go.OpenSpec := { _root_.Go.OpenSpec.ofChange s with cond := some uptoSmall }

/-- 'laws.FnExactValidLeather', WHERE WHAT IT READS IS OF BULK AT MOST 1048576: true; the input reads as it did. -/
def fnExactValidLeatherUptoRow : OpenClaim := { program := "ytdkklkpegnblnaa", sum := "56568e7a01809e72a2ba13fa3a0e7b0ce858f6c3ba02797d04170d2920cb5658", func := "loop.example/g01043/laws.FnExactValidLeather", spec := "fnExactValidLeather", apart := false, narrowed := true }
def FnExactValidLeatherUptoSaid : Prop := fnExactValidLeatherUptoRow.holds Try.pinned (OpenSpec.upto fnExactValidLeatherSpec)

/-- 'laws.FnExactStitchesFor', WHERE WHAT IT READS IS OF BULK AT MOST 1048576: true; the input reads as it did. -/
def fnExactStitchesForUptoRow : OpenClaim := { program := "ytdkklkpegnblnaa", sum := "56568e7a01809e72a2ba13fa3a0e7b0ce858f6c3ba02797d04170d2920cb5658", func := "loop.example/g01043/laws.FnExactStitchesFor", spec := "fnExactStitchesFor", apart := false, narrowed := true }
def FnExactStitchesForUptoSaid : Prop := fnExactStitchesForUptoRow.holds Try.pinned (OpenSpec.upto fnExactStitchesForSpec)

/-- 'laws.FnExactValidSides', WHERE WHAT IT READS IS OF BULK AT MOST 1048576: true; the input reads as it did. -/
def fnExactValidSidesUptoRow : OpenClaim := { program := "ytdkklkpegnblnaa", sum := "56568e7a01809e72a2ba13fa3a0e7b0ce858f6c3ba02797d04170d2920cb5658", func := "loop.example/g01043/laws.FnExactValidSides", spec := "fnExactValidSides", unfollowed := true, recurses := true, apart := false, narrowed := true }
def FnExactValidSidesUptoSaid : Prop := fnExactValidSidesUptoRow.holds Try.pinned (OpenSpec.upto fnExactValidSidesSpec)

/-- 'laws.FnExactGreatestPull', WHERE WHAT IT READS IS OF BULK AT MOST 1048576: true; the input reads as it did. -/
def fnExactGreatestPullUptoRow : OpenClaim := { program := "ytdkklkpegnblnaa", sum := "56568e7a01809e72a2ba13fa3a0e7b0ce858f6c3ba02797d04170d2920cb5658", func := "loop.example/g01043/laws.FnExactGreatestPull", spec := "fnExactGreatestPull", apart := false, narrowed := true }
def FnExactGreatestPullUptoSaid : Prop := fnExactGreatestPullUptoRow.holds Try.pinned (OpenSpec.upto fnExactGreatestPullSpec)

/-- 'laws.FnExactMatchDirections', WHERE WHAT IT READS IS OF BULK AT MOST 1048576: true; the input reads as it did. -/
def fnExactMatchDirectionsUptoRow : OpenClaim := { program := "ytdkklkpegnblnaa", sum := "56568e7a01809e72a2ba13fa3a0e7b0ce858f6c3ba02797d04170d2920cb5658", func := "loop.example/g01043/laws.FnExactMatchDirections", spec := "fnExactMatchDirections", apart := false, narrowed := true }
def FnExactMatchDirectionsUptoSaid : Prop := fnExactMatchDirectionsUptoRow.holds Try.pinned (OpenSpec.upto fnExactMatchDirectionsSpec)

/-- 'laws.FnExactBestDirection', WHERE WHAT IT READS IS OF BULK AT MOST 1048576: true; the input reads as it did. -/
def fnExactBestDirectionUptoRow : OpenClaim := { program := "ytdkklkpegnblnaa", sum := "56568e7a01809e72a2ba13fa3a0e7b0ce858f6c3ba02797d04170d2920cb5658", func := "loop.example/g01043/laws.FnExactBestDirection", spec := "fnExactBestDirection", apart := false, narrowed := true }
def FnExactBestDirectionUptoSaid : Prop := fnExactBestDirectionUptoRow.holds Try.pinned (OpenSpec.upto fnExactBestDirectionSpec)

/-- 'laws.FnStretches', WHERE WHAT IT READS IS OF BULK AT MOST 1048576: true; the input reads as it did. -/
def fnStretchesUptoRow : OpenClaim := { program := "ytdkklkpegnblnaa", sum := "56568e7a01809e72a2ba13fa3a0e7b0ce858f6c3ba02797d04170d2920cb5658", func := "loop.example/g01043/laws.FnStretches", spec := "fnStretches", apart := false, narrowed := true }
def FnStretchesUptoSaid : Prop := fnStretchesUptoRow.holds Try.pinned (OpenSpec.upto fnStretchesSpec)

/-- 'laws.FnExactPullFor', WHERE WHAT IT READS IS OF BULK AT MOST 1048576: true; the input reads as it did. -/
def fnExactPullForUptoRow : OpenClaim := { program := "ytdkklkpegnblnaa", sum := "56568e7a01809e72a2ba13fa3a0e7b0ce858f6c3ba02797d04170d2920cb5658", func := "loop.example/g01043/laws.FnExactPullFor", spec := "fnExactPullFor", apart := false, narrowed := true }
def FnExactPullForUptoSaid : Prop := fnExactPullForUptoRow.holds Try.pinned (OpenSpec.upto fnExactPullForSpec)

/-- 'laws.FnExactCutLength', WHERE WHAT IT READS IS OF BULK AT MOST 1048576: true; the input reads as it did. -/
def fnExactCutLengthUptoRow : OpenClaim := { program := "ytdkklkpegnblnaa", sum := "56568e7a01809e72a2ba13fa3a0e7b0ce858f6c3ba02797d04170d2920cb5658", func := "loop.example/g01043/laws.FnExactCutLength", spec := "fnExactCutLength", apart := false, narrowed := true }
def FnExactCutLengthUptoSaid : Prop := fnExactCutLengthUptoRow.holds Try.pinned (OpenSpec.upto fnExactCutLengthSpec)

/-- 'laws.FnExactLengthAfter', WHERE WHAT IT READS IS OF BULK AT MOST 1048576: true; the input reads as it did. -/
def fnExactLengthAfterUptoRow : OpenClaim := { program := "ytdkklkpegnblnaa", sum := "56568e7a01809e72a2ba13fa3a0e7b0ce858f6c3ba02797d04170d2920cb5658", func := "loop.example/g01043/laws.FnExactLengthAfter", spec := "fnExactLengthAfter", apart := false, narrowed := true }
def FnExactLengthAfterUptoSaid : Prop := fnExactLengthAfterUptoRow.holds Try.pinned (OpenSpec.upto fnExactLengthAfterSpec)

/-- 'laws.FnExactLengthUnder', WHERE WHAT IT READS IS OF BULK AT MOST 1048576: true; the input reads as it did. -/
def fnExactLengthUnderUptoRow : OpenClaim := { program := "ytdkklkpegnblnaa", sum := "56568e7a01809e72a2ba13fa3a0e7b0ce858f6c3ba02797d04170d2920cb5658", func := "loop.example/g01043/laws.FnExactLengthUnder", spec := "fnExactLengthUnder", apart := false, narrowed := true }
def FnExactLengthUnderUptoSaid : Prop := fnExactLengthUnderUptoRow.holds Try.pinned (OpenSpec.upto fnExactLengthUnderSpec)

/-- 'laws.FnExactStretchOf', WHERE WHAT IT READS IS OF BULK AT MOST 1048576: true; the input reads as it did. -/
def fnExactStretchOfUptoRow : OpenClaim := { program := "ytdkklkpegnblnaa", sum := "56568e7a01809e72a2ba13fa3a0e7b0ce858f6c3ba02797d04170d2920cb5658", func := "loop.example/g01043/laws.FnExactStretchOf", spec := "fnExactStretchOf", apart := false, narrowed := true }
def FnExactStretchOfUptoSaid : Prop := fnExactStretchOfUptoRow.holds Try.pinned (OpenSpec.upto fnExactStretchOfSpec)

/-- 'laws.FnPulls', WHERE WHAT IT READS IS OF BULK AT MOST 1048576: true; the input reads as it did. -/
def fnPullsUptoRow : OpenClaim := { program := "ytdkklkpegnblnaa", sum := "56568e7a01809e72a2ba13fa3a0e7b0ce858f6c3ba02797d04170d2920cb5658", func := "loop.example/g01043/laws.FnPulls", spec := "fnPulls", unfollowed := true, recurses := true, apart := false, narrowed := true }
def FnPullsUptoSaid : Prop := fnPullsUptoRow.holds Try.pinned (OpenSpec.upto fnPullsSpec)

/-- 'laws.FnExactRunPulls', WHERE WHAT IT READS IS OF BULK AT MOST 1048576: true; the input reads as it did. -/
def fnExactRunPullsUptoRow : OpenClaim := { program := "ytdkklkpegnblnaa", sum := "56568e7a01809e72a2ba13fa3a0e7b0ce858f6c3ba02797d04170d2920cb5658", func := "loop.example/g01043/laws.FnExactRunPulls", spec := "fnExactRunPulls", unfollowed := true, recurses := true, apart := false, narrowed := true }
def FnExactRunPullsUptoSaid : Prop := fnExactRunPullsUptoRow.holds Try.pinned (OpenSpec.upto fnExactRunPullsSpec)

end Rows
end Go.Proofs.Ytdkklkpegnblnaa
