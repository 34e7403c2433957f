/-
  No cell of these rows narrows 'for every input' (looked for: loops, veiled, ifaces, maps, wideKeys, modest, calm, conditions, laid).
  DERIVED. THE GIVEN ROWS OF THIS SEAT. 13 by the template 'for every input the law returns true; each argument reads behind the call as it read before'; 0 by the template 'total and deterministic' (their statements: YtfjmohnlllbgmaaTotals.lean).
  GIVEN WITH THE SEED: the statements are not yours to turn. If you find one false, say at which input.
  Laid BY PROGRAM, IN A SANDBOX (cutbox-rows.mjs): the forced cells as the released guide's own fill.sh prints them over the translation be12065d7bb1a6bb… (all of the seat's roots in one cut). By AI agents, Wed Nov 11 2026. No macro, syntax, notation, axiom, sorry.
-/
import Derived.Test.YtfjmohnlllbgmaaChecked
import GoSem.Claim
import GoSem.ClaimJoined
import GoSem.ClaimMapViews
import Derived.JoinedTies
import Derived.KernelRfl
namespace Go.Proofs.Ytfjmohnlllbgmaa
/- THE CELL 'sum', in the pinned program and in every row, IS THE sha256 OF THE DUMP (.gsa) THAT YtfjmohnlllbgmaaProg.lean LOADS. Nothing in Lean hashes anything: it is a label: what it is worth is what the hold of that sum in a sandbox is worth. -/
noncomputable def Try.pinned : Pinned := { name := "ytfjmohnlllbgmaa", sum := "be12065d7bb1a6bb8d7cc8df515778418fc2596ccaf030160a2685913f43c34c", checked := Try.checked }
namespace Rows
def none {H : Type} : Left H := { results := [], args := [] }

/-- 'laws.FnExactValidJobs': WHATEVER THE INPUT: true; the input reads as it did. -/
def fnExactValidJobsSpec : ChangeSpec := { name := "fnExactValidJobs", fn := fun _ => fun
  | [d] => { results := [.lit (.bool true)], args := [d] }
  | _ => none }
def fnExactValidJobsRow : OpenClaim := { program := "ytfjmohnlllbgmaa", sum := "be12065d7bb1a6bb8d7cc8df515778418fc2596ccaf030160a2685913f43c34c", func := "loop.example/g01043/laws.FnExactValidJobs", spec := "fnExactValidJobs", unfollowed := true, recurses := true, apart := false }
def FnExactValidJobsSaid : Prop := fnExactValidJobsRow.holds Try.pinned (OpenSpec.ofChange fnExactValidJobsSpec)

/-- ITS FALSE NEIGHBOUR: 'it returns false'. Refute it at one input. -/
def fnExactValidJobsWrong : ChangeSpec := { name := "fnExactValidJobs", fn := fun _ => fun
  | [d] => { results := [.lit (.bool false)], args := [d] }
  | _ => none }
def FnExactValidJobsWrongFalsely : Prop := fnExactValidJobsRow.holds Try.pinned (OpenSpec.ofChange fnExactValidJobsWrong)

/-- 'laws.FnExactBoundOf': WHATEVER THE INPUT: true; the input reads as it did. -/
def fnExactBoundOfSpec : ChangeSpec := { name := "fnExactBoundOf", fn := fun _ => fun
  | [d] => { results := [.lit (.bool true)], args := [d] }
  | _ => none }
def fnExactBoundOfRow : OpenClaim := { program := "ytfjmohnlllbgmaa", sum := "be12065d7bb1a6bb8d7cc8df515778418fc2596ccaf030160a2685913f43c34c", func := "loop.example/g01043/laws.FnExactBoundOf", spec := "fnExactBoundOf", unfollowed := true, recurses := true, apart := false }
def FnExactBoundOfSaid : Prop := fnExactBoundOfRow.holds Try.pinned (OpenSpec.ofChange fnExactBoundOfSpec)

/-- ITS FALSE NEIGHBOUR: 'it returns false'. Refute it at one input. -/
def fnExactBoundOfWrong : ChangeSpec := { name := "fnExactBoundOf", fn := fun _ => fun
  | [d] => { results := [.lit (.bool false)], args := [d] }
  | _ => none }
def FnExactBoundOfWrongFalsely : Prop := fnExactBoundOfRow.holds Try.pinned (OpenSpec.ofChange fnExactBoundOfWrong)

/-- 'laws.FnBenches': WHATEVER THE INPUT: true; the input reads as it did. -/
def fnBenchesSpec : ChangeSpec := { name := "fnBenches", fn := fun _ => fun
  | [d1, d2] => { results := [.lit (.bool true)], args := [d1, d2] }
  | _ => none }
def fnBenchesRow : OpenClaim := { program := "ytfjmohnlllbgmaa", sum := "be12065d7bb1a6bb8d7cc8df515778418fc2596ccaf030160a2685913f43c34c", func := "loop.example/g01043/laws.FnBenches", spec := "fnBenches", unfollowed := true, recurses := true, apart := false }
def FnBenchesSaid : Prop := fnBenchesRow.holds Try.pinned (OpenSpec.ofChange fnBenchesSpec)

/-- ITS FALSE NEIGHBOUR: 'it returns false'. Refute it at one input. -/
def fnBenchesWrong : ChangeSpec := { name := "fnBenches", fn := fun _ => fun
  | [d1, d2] => { results := [.lit (.bool false)], args := [d1, d2] }
  | _ => none }
def FnBenchesWrongFalsely : Prop := fnBenchesRow.holds Try.pinned (OpenSpec.ofChange fnBenchesWrong)

/-- 'laws.FnExactRuleOrder': WHATEVER THE INPUT: true; the input reads as it did. -/
def fnExactRuleOrderSpec : ChangeSpec := { name := "fnExactRuleOrder", fn := fun _ => fun
  | [d] => { results := [.lit (.bool true)], args := [d] }
  | _ => none }
def fnExactRuleOrderRow : OpenClaim := { program := "ytfjmohnlllbgmaa", sum := "be12065d7bb1a6bb8d7cc8df515778418fc2596ccaf030160a2685913f43c34c", func := "loop.example/g01043/laws.FnExactRuleOrder", spec := "fnExactRuleOrder", unfollowed := true, recurses := true, apart := false }
def FnExactRuleOrderSaid : Prop := fnExactRuleOrderRow.holds Try.pinned (OpenSpec.ofChange fnExactRuleOrderSpec)

/-- ITS FALSE NEIGHBOUR: 'it returns false'. Refute it at one input. -/
def fnExactRuleOrderWrong : ChangeSpec := { name := "fnExactRuleOrder", fn := fun _ => fun
  | [d] => { results := [.lit (.bool false)], args := [d] }
  | _ => none }
def FnExactRuleOrderWrongFalsely : Prop := fnExactRuleOrderRow.holds Try.pinned (OpenSpec.ofChange fnExactRuleOrderWrong)

/-- 'laws.FnExactLeastSpan': WHATEVER THE INPUT: true; the input reads as it did. -/
def fnExactLeastSpanSpec : ChangeSpec := { name := "fnExactLeastSpan", fn := fun _ => fun
  | [d] => { results := [.lit (.bool true)], args := [d] }
  | _ => none }
def fnExactLeastSpanRow : OpenClaim := { program := "ytfjmohnlllbgmaa", sum := "be12065d7bb1a6bb8d7cc8df515778418fc2596ccaf030160a2685913f43c34c", func := "loop.example/g01043/laws.FnExactLeastSpan", spec := "fnExactLeastSpan", unfollowed := true, recurses := true, apart := false }
def FnExactLeastSpanSaid : Prop := fnExactLeastSpanRow.holds Try.pinned (OpenSpec.ofChange fnExactLeastSpanSpec)

/-- ITS FALSE NEIGHBOUR: 'it returns false'. Refute it at one input. -/
def fnExactLeastSpanWrong : ChangeSpec := { name := "fnExactLeastSpan", fn := fun _ => fun
  | [d] => { results := [.lit (.bool false)], args := [d] }
  | _ => none }
def FnExactLeastSpanWrongFalsely : Prop := fnExactLeastSpanRow.holds Try.pinned (OpenSpec.ofChange fnExactLeastSpanWrong)

/-- 'laws.FnExactShortestOrder': WHATEVER THE INPUT: true; the input reads as it did. -/
def fnExactShortestOrderSpec : ChangeSpec := { name := "fnExactShortestOrder", fn := fun _ => fun
  | [d] => { results := [.lit (.bool true)], args := [d] }
  | _ => none }
def fnExactShortestOrderRow : OpenClaim := { program := "ytfjmohnlllbgmaa", sum := "be12065d7bb1a6bb8d7cc8df515778418fc2596ccaf030160a2685913f43c34c", func := "loop.example/g01043/laws.FnExactShortestOrder", spec := "fnExactShortestOrder", unfollowed := true, recurses := true, apart := false }
def FnExactShortestOrderSaid : Prop := fnExactShortestOrderRow.holds Try.pinned (OpenSpec.ofChange fnExactShortestOrderSpec)

/-- ITS FALSE NEIGHBOUR: 'it returns false'. Refute it at one input. -/
def fnExactShortestOrderWrong : ChangeSpec := { name := "fnExactShortestOrder", fn := fun _ => fun
  | [d] => { results := [.lit (.bool false)], args := [d] }
  | _ => none }
def FnExactShortestOrderWrongFalsely : Prop := fnExactShortestOrderRow.holds Try.pinned (OpenSpec.ofChange fnExactShortestOrderWrong)

/-- 'laws.FnExactSpanOf': WHATEVER THE INPUT: true; the input reads as it did. -/
def fnExactSpanOfSpec : ChangeSpec := { name := "fnExactSpanOf", fn := fun _ => fun
  | [d1, d2] => { results := [.lit (.bool true)], args := [d1, d2] }
  | _ => none }
def fnExactSpanOfRow : OpenClaim := { program := "ytfjmohnlllbgmaa", sum := "be12065d7bb1a6bb8d7cc8df515778418fc2596ccaf030160a2685913f43c34c", func := "loop.example/g01043/laws.FnExactSpanOf", spec := "fnExactSpanOf", unfollowed := true, recurses := true, apart := false }
def FnExactSpanOfSaid : Prop := fnExactSpanOfRow.holds Try.pinned (OpenSpec.ofChange fnExactSpanOfSpec)

/-- ITS FALSE NEIGHBOUR: 'it returns false'. Refute it at one input. -/
def fnExactSpanOfWrong : ChangeSpec := { name := "fnExactSpanOf", fn := fun _ => fun
  | [d1, d2] => { results := [.lit (.bool false)], args := [d1, d2] }
  | _ => none }
def FnExactSpanOfWrongFalsely : Prop := fnExactSpanOfRow.holds Try.pinned (OpenSpec.ofChange fnExactSpanOfWrong)

/-- 'laws.FnExactIdleOf': WHATEVER THE INPUT: true; the input reads as it did. -/
def fnExactIdleOfSpec : ChangeSpec := { name := "fnExactIdleOf", fn := fun _ => fun
  | [d1, d2] => { results := [.lit (.bool true)], args := [d1, d2] }
  | _ => none }
def fnExactIdleOfRow : OpenClaim := { program := "ytfjmohnlllbgmaa", sum := "be12065d7bb1a6bb8d7cc8df515778418fc2596ccaf030160a2685913f43c34c", func := "loop.example/g01043/laws.FnExactIdleOf", spec := "fnExactIdleOf", unfollowed := true, recurses := true, apart := false }
def FnExactIdleOfSaid : Prop := fnExactIdleOfRow.holds Try.pinned (OpenSpec.ofChange fnExactIdleOfSpec)

/-- ITS FALSE NEIGHBOUR: 'it returns false'. Refute it at one input. -/
def fnExactIdleOfWrong : ChangeSpec := { name := "fnExactIdleOf", fn := fun _ => fun
  | [d1, d2] => { results := [.lit (.bool false)], args := [d1, d2] }
  | _ => none }
def FnExactIdleOfWrongFalsely : Prop := fnExactIdleOfRow.holds Try.pinned (OpenSpec.ofChange fnExactIdleOfWrong)

/-- 'laws.FnExactEndsOf': WHATEVER THE INPUT: true; the input reads as it did. -/
def fnExactEndsOfSpec : ChangeSpec := { name := "fnExactEndsOf", fn := fun _ => fun
  | [d1, d2] => { results := [.lit (.bool true)], args := [d1, d2] }
  | _ => none }
def fnExactEndsOfRow : OpenClaim := { program := "ytfjmohnlllbgmaa", sum := "be12065d7bb1a6bb8d7cc8df515778418fc2596ccaf030160a2685913f43c34c", func := "loop.example/g01043/laws.FnExactEndsOf", spec := "fnExactEndsOf", unfollowed := true, recurses := true, apart := false }
def FnExactEndsOfSaid : Prop := fnExactEndsOfRow.holds Try.pinned (OpenSpec.ofChange fnExactEndsOfSpec)

/-- ITS FALSE NEIGHBOUR: 'it returns false'. Refute it at one input. -/
def fnExactEndsOfWrong : ChangeSpec := { name := "fnExactEndsOf", fn := fun _ => fun
  | [d1, d2] => { results := [.lit (.bool false)], args := [d1, d2] }
  | _ => none }
def FnExactEndsOfWrongFalsely : Prop := fnExactEndsOfRow.holds Try.pinned (OpenSpec.ofChange fnExactEndsOfWrong)

/-- 'laws.FnBenchTimes': WHATEVER THE INPUT: true; the input reads as it did. -/
def fnBenchTimesSpec : ChangeSpec := { name := "fnBenchTimes", fn := fun _ => fun
  | [d1, d2] => { results := [.lit (.bool true)], args := [d1, d2] }
  | _ => none }
def fnBenchTimesRow : OpenClaim := { program := "ytfjmohnlllbgmaa", sum := "be12065d7bb1a6bb8d7cc8df515778418fc2596ccaf030160a2685913f43c34c", func := "loop.example/g01043/laws.FnBenchTimes", spec := "fnBenchTimes", unfollowed := true, recurses := true, apart := false }
def FnBenchTimesSaid : Prop := fnBenchTimesRow.holds Try.pinned (OpenSpec.ofChange fnBenchTimesSpec)

/-- ITS FALSE NEIGHBOUR: 'it returns false'. Refute it at one input. -/
def fnBenchTimesWrong : ChangeSpec := { name := "fnBenchTimes", fn := fun _ => fun
  | [d1, d2] => { results := [.lit (.bool false)], args := [d1, d2] }
  | _ => none }
def FnBenchTimesWrongFalsely : Prop := fnBenchTimesRow.holds Try.pinned (OpenSpec.ofChange fnBenchTimesWrong)

/-- 'laws.FnExactWaitsOf': WHATEVER THE INPUT: true; the input reads as it did. -/
def fnExactWaitsOfSpec : ChangeSpec := { name := "fnExactWaitsOf", fn := fun _ => fun
  | [d1, d2] => { results := [.lit (.bool true)], args := [d1, d2] }
  | _ => none }
def fnExactWaitsOfRow : OpenClaim := { program := "ytfjmohnlllbgmaa", sum := "be12065d7bb1a6bb8d7cc8df515778418fc2596ccaf030160a2685913f43c34c", func := "loop.example/g01043/laws.FnExactWaitsOf", spec := "fnExactWaitsOf", unfollowed := true, recurses := true, apart := false }
def FnExactWaitsOfSaid : Prop := fnExactWaitsOfRow.holds Try.pinned (OpenSpec.ofChange fnExactWaitsOfSpec)

/-- ITS FALSE NEIGHBOUR: 'it returns false'. Refute it at one input. -/
def fnExactWaitsOfWrong : ChangeSpec := { name := "fnExactWaitsOf", fn := fun _ => fun
  | [d1, d2] => { results := [.lit (.bool false)], args := [d1, d2] }
  | _ => none }
def FnExactWaitsOfWrongFalsely : Prop := fnExactWaitsOfRow.holds Try.pinned (OpenSpec.ofChange fnExactWaitsOfWrong)

/-- 'laws.FnExactLateJobs': WHATEVER THE INPUT: true; the input reads as it did. -/
def fnExactLateJobsSpec : ChangeSpec := { name := "fnExactLateJobs", fn := fun _ => fun
  | [d1, d2, d3] => { results := [.lit (.bool true)], args := [d1, d2, d3] }
  | _ => none }
def fnExactLateJobsRow : OpenClaim := { program := "ytfjmohnlllbgmaa", sum := "be12065d7bb1a6bb8d7cc8df515778418fc2596ccaf030160a2685913f43c34c", func := "loop.example/g01043/laws.FnExactLateJobs", spec := "fnExactLateJobs", unfollowed := true, recurses := true, apart := false }
def FnExactLateJobsSaid : Prop := fnExactLateJobsRow.holds Try.pinned (OpenSpec.ofChange fnExactLateJobsSpec)

/-- ITS FALSE NEIGHBOUR: 'it returns false'. Refute it at one input. -/
def fnExactLateJobsWrong : ChangeSpec := { name := "fnExactLateJobs", fn := fun _ => fun
  | [d1, d2, d3] => { results := [.lit (.bool false)], args := [d1, d2, d3] }
  | _ => none }
def FnExactLateJobsWrongFalsely : Prop := fnExactLateJobsRow.holds Try.pinned (OpenSpec.ofChange fnExactLateJobsWrong)

/-- 'laws.FnExactChartLines': WHATEVER THE INPUT: true; the input reads as it did. -/
def fnExactChartLinesSpec : ChangeSpec := { name := "fnExactChartLines", fn := fun _ => fun
  | [d1, d2] => { results := [.lit (.bool true)], args := [d1, d2] }
  | _ => none }
def fnExactChartLinesRow : OpenClaim := { program := "ytfjmohnlllbgmaa", sum := "be12065d7bb1a6bb8d7cc8df515778418fc2596ccaf030160a2685913f43c34c", func := "loop.example/g01043/laws.FnExactChartLines", spec := "fnExactChartLines", unfollowed := true, recurses := true, apart := false }
def FnExactChartLinesSaid : Prop := fnExactChartLinesRow.holds Try.pinned (OpenSpec.ofChange fnExactChartLinesSpec)

/-- ITS FALSE NEIGHBOUR: 'it returns false'. Refute it at one input. -/
def fnExactChartLinesWrong : ChangeSpec := { name := "fnExactChartLines", fn := fun _ => fun
  | [d1, d2] => { results := [.lit (.bool false)], args := [d1, d2] }
  | _ => none }
def FnExactChartLinesWrongFalsely : Prop := fnExactChartLinesRow.holds Try.pinned (OpenSpec.ofChange fnExactChartLinesWrong)

/- THE SECOND FORM. 'bulk': how many values and letters a reading holds, each counted each time it is reached (what is shared counts as often as it is met; a slice's spare places count too). A statement '..UptoSaid' is the law's where the arguments, and the package variables that the reading takes, are together of bulk at most 1048576: NARROWER than '..Said'. Prove '..Said' where nothing that the law and all that it calls make is longer than what came in: it says more and counts as full. Else prove '..UptoSaid'. A law counts once. -/
mutual
def uptoBulk {H : Type} : DataW H → Nat
  | .lit (.string bytes) => bytes.length + 1
  | .lit _ => 1
  | .nil => 1
  | .ptr d => uptoBulk d + 1
  | .slice elems spare => uptoBulkAll elems + uptoBulkAll spare + 1
  | .agg parts => uptoBulkAll parts + 1
  | .iface _ d => uptoBulk d + 1
  | .map entries => uptoBulkEntries entries + 1
  | .held _ => 1
def uptoBulkAll {H : Type} : List (DataW H) → Nat
  | [] => 0
  | d :: r => uptoBulk d + uptoBulkAll r
def uptoBulkEntries {H : Type} : List (Lit × DataW H) → Nat
  | [] => 0
  | x :: r => uptoBulkEntry x + uptoBulkEntries r
def uptoBulkEntry {H : Type} : Lit × DataW H → Nat
  | (.string bytes, d) => bytes.length + uptoBulk d + 1
  | (_, d) => uptoBulk d + 1
 end
def uptoSmall : (H : Type) → List (DataW H) → Bool := fun _ ds => decide (uptoBulkAll ds ≤ 1048576)
def OpenSpec.upto (s : _root_.Go.ChangeSpec) : _root_.Go.OpenSpec := { _root_.Go.OpenSpec.ofChange s with cond := some uptoSmall }

/-- 'laws.FnExactValidJobs', WHERE WHAT IT READS IS OF BULK AT MOST 1048576: true; the input reads as it did. -/
def fnExactValidJobsUptoRow : OpenClaim := { program := "ytfjmohnlllbgmaa", sum := "be12065d7bb1a6bb8d7cc8df515778418fc2596ccaf030160a2685913f43c34c", func := "loop.example/g01043/laws.FnExactValidJobs", spec := "fnExactValidJobs", unfollowed := true, recurses := true, apart := false, narrowed := true }
def FnExactValidJobsUptoSaid : Prop := fnExactValidJobsUptoRow.holds Try.pinned (OpenSpec.upto fnExactValidJobsSpec)

/-- 'laws.FnExactBoundOf', WHERE WHAT IT READS IS OF BULK AT MOST 1048576: true; the input reads as it did. -/
def fnExactBoundOfUptoRow : OpenClaim := { program := "ytfjmohnlllbgmaa", sum := "be12065d7bb1a6bb8d7cc8df515778418fc2596ccaf030160a2685913f43c34c", func := "loop.example/g01043/laws.FnExactBoundOf", spec := "fnExactBoundOf", unfollowed := true, recurses := true, apart := false, narrowed := true }
def FnExactBoundOfUptoSaid : Prop := fnExactBoundOfUptoRow.holds Try.pinned (OpenSpec.upto fnExactBoundOfSpec)

/-- 'laws.FnBenches', WHERE WHAT IT READS IS OF BULK AT MOST 1048576: true; the input reads as it did. -/
def fnBenchesUptoRow : OpenClaim := { program := "ytfjmohnlllbgmaa", sum := "be12065d7bb1a6bb8d7cc8df515778418fc2596ccaf030160a2685913f43c34c", func := "loop.example/g01043/laws.FnBenches", spec := "fnBenches", unfollowed := true, recurses := true, apart := false, narrowed := true }
def FnBenchesUptoSaid : Prop := fnBenchesUptoRow.holds Try.pinned (OpenSpec.upto fnBenchesSpec)

/-- 'laws.FnExactRuleOrder', WHERE WHAT IT READS IS OF BULK AT MOST 1048576: true; the input reads as it did. -/
def fnExactRuleOrderUptoRow : OpenClaim := { program := "ytfjmohnlllbgmaa", sum := "be12065d7bb1a6bb8d7cc8df515778418fc2596ccaf030160a2685913f43c34c", func := "loop.example/g01043/laws.FnExactRuleOrder", spec := "fnExactRuleOrder", unfollowed := true, recurses := true, apart := false, narrowed := true }
def FnExactRuleOrderUptoSaid : Prop := fnExactRuleOrderUptoRow.holds Try.pinned (OpenSpec.upto fnExactRuleOrderSpec)

/-- 'laws.FnExactLeastSpan', WHERE WHAT IT READS IS OF BULK AT MOST 1048576: true; the input reads as it did. -/
def fnExactLeastSpanUptoRow : OpenClaim := { program := "ytfjmohnlllbgmaa", sum := "be12065d7bb1a6bb8d7cc8df515778418fc2596ccaf030160a2685913f43c34c", func := "loop.example/g01043/laws.FnExactLeastSpan", spec := "fnExactLeastSpan", unfollowed := true, recurses := true, apart := false, narrowed := true }
def FnExactLeastSpanUptoSaid : Prop := fnExactLeastSpanUptoRow.holds Try.pinned (OpenSpec.upto fnExactLeastSpanSpec)

/-- 'laws.FnExactShortestOrder', WHERE WHAT IT READS IS OF BULK AT MOST 1048576: true; the input reads as it did. -/
def fnExactShortestOrderUptoRow : OpenClaim := { program := "ytfjmohnlllbgmaa", sum := "be12065d7bb1a6bb8d7cc8df515778418fc2596ccaf030160a2685913f43c34c", func := "loop.example/g01043/laws.FnExactShortestOrder", spec := "fnExactShortestOrder", unfollowed := true, recurses := true, apart := false, narrowed := true }
def FnExactShortestOrderUptoSaid : Prop := fnExactShortestOrderUptoRow.holds Try.pinned (OpenSpec.upto fnExactShortestOrderSpec)

/-- 'laws.FnExactSpanOf', WHERE WHAT IT READS IS OF BULK AT MOST 1048576: true; the input reads as it did. -/
def fnExactSpanOfUptoRow : OpenClaim := { program := "ytfjmohnlllbgmaa", sum := "be12065d7bb1a6bb8d7cc8df515778418fc2596ccaf030160a2685913f43c34c", func := "loop.example/g01043/laws.FnExactSpanOf", spec := "fnExactSpanOf", unfollowed := true, recurses := true, apart := false, narrowed := true }
def FnExactSpanOfUptoSaid : Prop := fnExactSpanOfUptoRow.holds Try.pinned (OpenSpec.upto fnExactSpanOfSpec)

/-- 'laws.FnExactIdleOf', WHERE WHAT IT READS IS OF BULK AT MOST 1048576: true; the input reads as it did. -/
def fnExactIdleOfUptoRow : OpenClaim := { program := "ytfjmohnlllbgmaa", sum := "be12065d7bb1a6bb8d7cc8df515778418fc2596ccaf030160a2685913f43c34c", func := "loop.example/g01043/laws.FnExactIdleOf", spec := "fnExactIdleOf", unfollowed := true, recurses := true, apart := false, narrowed := true }
def FnExactIdleOfUptoSaid : Prop := fnExactIdleOfUptoRow.holds Try.pinned (OpenSpec.upto fnExactIdleOfSpec)

/-- 'laws.FnExactEndsOf', WHERE WHAT IT READS IS OF BULK AT MOST 1048576: true; the input reads as it did. -/
def fnExactEndsOfUptoRow : OpenClaim := { program := "ytfjmohnlllbgmaa", sum := "be12065d7bb1a6bb8d7cc8df515778418fc2596ccaf030160a2685913f43c34c", func := "loop.example/g01043/laws.FnExactEndsOf", spec := "fnExactEndsOf", unfollowed := true, recurses := true, apart := false, narrowed := true }
def FnExactEndsOfUptoSaid : Prop := fnExactEndsOfUptoRow.holds Try.pinned (OpenSpec.upto fnExactEndsOfSpec)

/-- 'laws.FnBenchTimes', WHERE WHAT IT READS IS OF BULK AT MOST 1048576: true; the input reads as it did. -/
def fnBenchTimesUptoRow : OpenClaim := { program := "ytfjmohnlllbgmaa", sum := "be12065d7bb1a6bb8d7cc8df515778418fc2596ccaf030160a2685913f43c34c", func := "loop.example/g01043/laws.FnBenchTimes", spec := "fnBenchTimes", unfollowed := true, recurses := true, apart := false, narrowed := true }
def FnBenchTimesUptoSaid : Prop := fnBenchTimesUptoRow.holds Try.pinned (OpenSpec.upto fnBenchTimesSpec)

/-- 'laws.FnExactWaitsOf', WHERE WHAT IT READS IS OF BULK AT MOST 1048576: true; the input reads as it did. -/
def fnExactWaitsOfUptoRow : OpenClaim := { program := "ytfjmohnlllbgmaa", sum := "be12065d7bb1a6bb8d7cc8df515778418fc2596ccaf030160a2685913f43c34c", func := "loop.example/g01043/laws.FnExactWaitsOf", spec := "fnExactWaitsOf", unfollowed := true, recurses := true, apart := false, narrowed := true }
def FnExactWaitsOfUptoSaid : Prop := fnExactWaitsOfUptoRow.holds Try.pinned (OpenSpec.upto fnExactWaitsOfSpec)

/-- 'laws.FnExactLateJobs', WHERE WHAT IT READS IS OF BULK AT MOST 1048576: true; the input reads as it did. -/
def fnExactLateJobsUptoRow : OpenClaim := { program := "ytfjmohnlllbgmaa", sum := "be12065d7bb1a6bb8d7cc8df515778418fc2596ccaf030160a2685913f43c34c", func := "loop.example/g01043/laws.FnExactLateJobs", spec := "fnExactLateJobs", unfollowed := true, recurses := true, apart := false, narrowed := true }
def FnExactLateJobsUptoSaid : Prop := fnExactLateJobsUptoRow.holds Try.pinned (OpenSpec.upto fnExactLateJobsSpec)

/-- 'laws.FnExactChartLines', WHERE WHAT IT READS IS OF BULK AT MOST 1048576: true; the input reads as it did. -/
def fnExactChartLinesUptoRow : OpenClaim := { program := "ytfjmohnlllbgmaa", sum := "be12065d7bb1a6bb8d7cc8df515778418fc2596ccaf030160a2685913f43c34c", func := "loop.example/g01043/laws.FnExactChartLines", spec := "fnExactChartLines", unfollowed := true, recurses := true, apart := false, narrowed := true }
def FnExactChartLinesUptoSaid : Prop := fnExactChartLinesUptoRow.holds Try.pinned (OpenSpec.upto fnExactChartLinesSpec)

end Rows
end Go.Proofs.Ytfjmohnlllbgmaa
