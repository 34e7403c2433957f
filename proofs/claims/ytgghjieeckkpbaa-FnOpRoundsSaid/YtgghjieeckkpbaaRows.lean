/-
  No cell of these rows narrows 'for every input' (looked for: loops, veiled, ifaces, maps, wideKeys, modest, calm, conditions, laid).
  DERIVED. THE GIVEN ROWS OF THIS SEAT. 12 by the template 'for every input the law returns true; each argument reads behind the call as it read before'; 0 by the template 'total and deterministic' (their statements: YtgghjieeckkpbaaTotals.lean).
  GIVEN WITH THE SEED: the statements are not yours to turn. If you find one false, say at which input.
  Laid BY PROGRAM, IN A SANDBOX (cutbox-rows.mjs): the forced cells as the released guide's own fill.sh prints them over the translation 6761e6e5da84dfbc… (all of the seat's roots in one cut). By AI agents, Wed Nov 11 2026. No macro, syntax, notation, axiom, sorry.
-/
import Derived.Test.YtgghjieeckkpbaaChecked
import GoSem.Claim
import GoSem.ClaimJoined
import GoSem.ClaimMapViews
import Derived.JoinedTies
import Derived.KernelRfl
namespace Go.Proofs.Ytgghjieeckkpbaa
/- THE CELL 'sum', in the pinned program and in every row, IS THE sha256 OF THE DUMP (.gsa) THAT YtgghjieeckkpbaaProg.lean LOADS. Nothing in Lean hashes anything: it is a label: what it is worth is what the hold of that sum in a sandbox is worth. -/
noncomputable def Try.pinned : Pinned := { name := "ytgghjieeckkpbaa", sum := "6761e6e5da84dfbc701ca4fce9abe9bbb3787520d54335252eb21c9ce918933a", checked := Try.checked }
namespace Rows
def none {H : Type} : Left H := { results := [], args := [] }

/-- 'laws.FnOpRounds': WHATEVER THE INPUT: true; the input reads as it did. -/
def fnOpRoundsSpec : ChangeSpec := { name := "fnOpRounds", fn := fun _ => fun
  | [d] => { results := [.lit (.bool true)], args := [d] }
  | _ => none }
def fnOpRoundsRow : OpenClaim := { program := "ytgghjieeckkpbaa", sum := "6761e6e5da84dfbc701ca4fce9abe9bbb3787520d54335252eb21c9ce918933a", func := "loop.example/g01043/laws.FnOpRounds", spec := "fnOpRounds", unfollowed := true, recurses := true, apart := false }
def FnOpRoundsSaid : Prop := fnOpRoundsRow.holds Try.pinned (OpenSpec.ofChange fnOpRoundsSpec)

/-- ITS FALSE NEIGHBOUR: 'it returns false'. Refute it at one input. -/
def fnOpRoundsWrong : ChangeSpec := { name := "fnOpRounds", fn := fun _ => fun
  | [d] => { results := [.lit (.bool false)], args := [d] }
  | _ => none }
def FnOpRoundsWrongFalsely : Prop := fnOpRoundsRow.holds Try.pinned (OpenSpec.ofChange fnOpRoundsWrong)

/-- 'laws.FnExactSameOps': WHATEVER THE INPUT: true; the input reads as it did. -/
def fnExactSameOpsSpec : ChangeSpec := { name := "fnExactSameOps", fn := fun _ => fun
  | [d1, d2] => { results := [.lit (.bool true)], args := [d1, d2] }
  | _ => none }
def fnExactSameOpsRow : OpenClaim := { program := "ytgghjieeckkpbaa", sum := "6761e6e5da84dfbc701ca4fce9abe9bbb3787520d54335252eb21c9ce918933a", func := "loop.example/g01043/laws.FnExactSameOps", spec := "fnExactSameOps", unfollowed := true, recurses := true, apart := false }
def FnExactSameOpsSaid : Prop := fnExactSameOpsRow.holds Try.pinned (OpenSpec.ofChange fnExactSameOpsSpec)

/-- ITS FALSE NEIGHBOUR: 'it returns false'. Refute it at one input. -/
def fnExactSameOpsWrong : ChangeSpec := { name := "fnExactSameOps", fn := fun _ => fun
  | [d1, d2] => { results := [.lit (.bool false)], args := [d1, d2] }
  | _ => none }
def FnExactSameOpsWrongFalsely : Prop := fnExactSameOpsRow.holds Try.pinned (OpenSpec.ofChange fnExactSameOpsWrong)

/-- 'laws.FnExactValidOps': WHATEVER THE INPUT: true; the input reads as it did. -/
def fnExactValidOpsSpec : ChangeSpec := { name := "fnExactValidOps", fn := fun _ => fun
  | [d] => { results := [.lit (.bool true)], args := [d] }
  | _ => none }
def fnExactValidOpsRow : OpenClaim := { program := "ytgghjieeckkpbaa", sum := "6761e6e5da84dfbc701ca4fce9abe9bbb3787520d54335252eb21c9ce918933a", func := "loop.example/g01043/laws.FnExactValidOps", spec := "fnExactValidOps", unfollowed := true, recurses := true, apart := false }
def FnExactValidOpsSaid : Prop := fnExactValidOpsRow.holds Try.pinned (OpenSpec.ofChange fnExactValidOpsSpec)

/-- ITS FALSE NEIGHBOUR: 'it returns false'. Refute it at one input. -/
def fnExactValidOpsWrong : ChangeSpec := { name := "fnExactValidOps", fn := fun _ => fun
  | [d] => { results := [.lit (.bool false)], args := [d] }
  | _ => none }
def FnExactValidOpsWrongFalsely : Prop := fnExactValidOpsRow.holds Try.pinned (OpenSpec.ofChange fnExactValidOpsWrong)

/-- 'laws.FnExactIsOpOrder': WHATEVER THE INPUT: true; the input reads as it did. -/
def fnExactIsOpOrderSpec : ChangeSpec := { name := "fnExactIsOpOrder", fn := fun _ => fun
  | [d1, d2] => { results := [.lit (.bool true)], args := [d1, d2] }
  | _ => none }
def fnExactIsOpOrderRow : OpenClaim := { program := "ytgghjieeckkpbaa", sum := "6761e6e5da84dfbc701ca4fce9abe9bbb3787520d54335252eb21c9ce918933a", func := "loop.example/g01043/laws.FnExactIsOpOrder", spec := "fnExactIsOpOrder", unfollowed := true, recurses := true, apart := false }
def FnExactIsOpOrderSaid : Prop := fnExactIsOpOrderRow.holds Try.pinned (OpenSpec.ofChange fnExactIsOpOrderSpec)

/-- ITS FALSE NEIGHBOUR: 'it returns false'. Refute it at one input. -/
def fnExactIsOpOrderWrong : ChangeSpec := { name := "fnExactIsOpOrder", fn := fun _ => fun
  | [d1, d2] => { results := [.lit (.bool false)], args := [d1, d2] }
  | _ => none }
def FnExactIsOpOrderWrongFalsely : Prop := fnExactIsOpOrderRow.holds Try.pinned (OpenSpec.ofChange fnExactIsOpOrderWrong)

/-- 'laws.FnExactCircleOf': WHATEVER THE INPUT: true; the input reads as it did. -/
def fnExactCircleOfSpec : ChangeSpec := { name := "fnExactCircleOf", fn := fun _ => fun
  | [d] => { results := [.lit (.bool true)], args := [d] }
  | _ => none }
def fnExactCircleOfRow : OpenClaim := { program := "ytgghjieeckkpbaa", sum := "6761e6e5da84dfbc701ca4fce9abe9bbb3787520d54335252eb21c9ce918933a", func := "loop.example/g01043/laws.FnExactCircleOf", spec := "fnExactCircleOf", unfollowed := true, recurses := true, apart := false }
def FnExactCircleOfSaid : Prop := fnExactCircleOfRow.holds Try.pinned (OpenSpec.ofChange fnExactCircleOfSpec)

/-- ITS FALSE NEIGHBOUR: 'it returns false'. Refute it at one input. -/
def fnExactCircleOfWrong : ChangeSpec := { name := "fnExactCircleOf", fn := fun _ => fun
  | [d] => { results := [.lit (.bool false)], args := [d] }
  | _ => none }
def FnExactCircleOfWrongFalsely : Prop := fnExactCircleOfRow.holds Try.pinned (OpenSpec.ofChange fnExactCircleOfWrong)

/-- 'laws.FnExactReadyOps': WHATEVER THE INPUT: true; the input reads as it did. -/
def fnExactReadyOpsSpec : ChangeSpec := { name := "fnExactReadyOps", fn := fun _ => fun
  | [d1, d2] => { results := [.lit (.bool true)], args := [d1, d2] }
  | _ => none }
def fnExactReadyOpsRow : OpenClaim := { program := "ytgghjieeckkpbaa", sum := "6761e6e5da84dfbc701ca4fce9abe9bbb3787520d54335252eb21c9ce918933a", func := "loop.example/g01043/laws.FnExactReadyOps", spec := "fnExactReadyOps", unfollowed := true, recurses := true, apart := false }
def FnExactReadyOpsSaid : Prop := fnExactReadyOpsRow.holds Try.pinned (OpenSpec.ofChange fnExactReadyOpsSpec)

/-- ITS FALSE NEIGHBOUR: 'it returns false'. Refute it at one input. -/
def fnExactReadyOpsWrong : ChangeSpec := { name := "fnExactReadyOps", fn := fun _ => fun
  | [d1, d2] => { results := [.lit (.bool false)], args := [d1, d2] }
  | _ => none }
def FnExactReadyOpsWrongFalsely : Prop := fnExactReadyOpsRow.holds Try.pinned (OpenSpec.ofChange fnExactReadyOpsWrong)

/-- 'laws.FnExactAllBefore': WHATEVER THE INPUT: true; the input reads as it did. -/
def fnExactAllBeforeSpec : ChangeSpec := { name := "fnExactAllBefore", fn := fun _ => fun
  | [d1, d2] => { results := [.lit (.bool true)], args := [d1, d2] }
  | _ => none }
def fnExactAllBeforeRow : OpenClaim := { program := "ytgghjieeckkpbaa", sum := "6761e6e5da84dfbc701ca4fce9abe9bbb3787520d54335252eb21c9ce918933a", func := "loop.example/g01043/laws.FnExactAllBefore", spec := "fnExactAllBefore", unfollowed := true, recurses := true, apart := false }
def FnExactAllBeforeSaid : Prop := fnExactAllBeforeRow.holds Try.pinned (OpenSpec.ofChange fnExactAllBeforeSpec)

/-- ITS FALSE NEIGHBOUR: 'it returns false'. Refute it at one input. -/
def fnExactAllBeforeWrong : ChangeSpec := { name := "fnExactAllBefore", fn := fun _ => fun
  | [d1, d2] => { results := [.lit (.bool false)], args := [d1, d2] }
  | _ => none }
def FnExactAllBeforeWrongFalsely : Prop := fnExactAllBeforeRow.holds Try.pinned (OpenSpec.ofChange fnExactAllBeforeWrong)

/-- 'laws.FnExactCountOpOrders': WHATEVER THE INPUT: true; the input reads as it did. -/
def fnExactCountOpOrdersSpec : ChangeSpec := { name := "fnExactCountOpOrders", fn := fun _ => fun
  | [d] => { results := [.lit (.bool true)], args := [d] }
  | _ => none }
def fnExactCountOpOrdersRow : OpenClaim := { program := "ytgghjieeckkpbaa", sum := "6761e6e5da84dfbc701ca4fce9abe9bbb3787520d54335252eb21c9ce918933a", func := "loop.example/g01043/laws.FnExactCountOpOrders", spec := "fnExactCountOpOrders", unfollowed := true, recurses := true, apart := false }
def FnExactCountOpOrdersSaid : Prop := fnExactCountOpOrdersRow.holds Try.pinned (OpenSpec.ofChange fnExactCountOpOrdersSpec)

/-- ITS FALSE NEIGHBOUR: 'it returns false'. Refute it at one input. -/
def fnExactCountOpOrdersWrong : ChangeSpec := { name := "fnExactCountOpOrders", fn := fun _ => fun
  | [d] => { results := [.lit (.bool false)], args := [d] }
  | _ => none }
def FnExactCountOpOrdersWrongFalsely : Prop := fnExactCountOpOrdersRow.holds Try.pinned (OpenSpec.ofChange fnExactCountOpOrdersWrong)

/-- 'laws.FnExactLeastMinutes': WHATEVER THE INPUT: true; the input reads as it did. -/
def fnExactLeastMinutesSpec : ChangeSpec := { name := "fnExactLeastMinutes", fn := fun _ => fun
  | [d] => { results := [.lit (.bool true)], args := [d] }
  | _ => none }
def fnExactLeastMinutesRow : OpenClaim := { program := "ytgghjieeckkpbaa", sum := "6761e6e5da84dfbc701ca4fce9abe9bbb3787520d54335252eb21c9ce918933a", func := "loop.example/g01043/laws.FnExactLeastMinutes", spec := "fnExactLeastMinutes", unfollowed := true, recurses := true, apart := false }
def FnExactLeastMinutesSaid : Prop := fnExactLeastMinutesRow.holds Try.pinned (OpenSpec.ofChange fnExactLeastMinutesSpec)

/-- ITS FALSE NEIGHBOUR: 'it returns false'. Refute it at one input. -/
def fnExactLeastMinutesWrong : ChangeSpec := { name := "fnExactLeastMinutes", fn := fun _ => fun
  | [d] => { results := [.lit (.bool false)], args := [d] }
  | _ => none }
def FnExactLeastMinutesWrongFalsely : Prop := fnExactLeastMinutesRow.holds Try.pinned (OpenSpec.ofChange fnExactLeastMinutesWrong)

/-- 'laws.FnExactOrderOfOps': WHATEVER THE INPUT: true; the input reads as it did. -/
def fnExactOrderOfOpsSpec : ChangeSpec := { name := "fnExactOrderOfOps", fn := fun _ => fun
  | [d] => { results := [.lit (.bool true)], args := [d] }
  | _ => none }
def fnExactOrderOfOpsRow : OpenClaim := { program := "ytgghjieeckkpbaa", sum := "6761e6e5da84dfbc701ca4fce9abe9bbb3787520d54335252eb21c9ce918933a", func := "loop.example/g01043/laws.FnExactOrderOfOps", spec := "fnExactOrderOfOps", unfollowed := true, recurses := true, apart := false }
def FnExactOrderOfOpsSaid : Prop := fnExactOrderOfOpsRow.holds Try.pinned (OpenSpec.ofChange fnExactOrderOfOpsSpec)

/-- ITS FALSE NEIGHBOUR: 'it returns false'. Refute it at one input. -/
def fnExactOrderOfOpsWrong : ChangeSpec := { name := "fnExactOrderOfOps", fn := fun _ => fun
  | [d] => { results := [.lit (.bool false)], args := [d] }
  | _ => none }
def FnExactOrderOfOpsWrongFalsely : Prop := fnExactOrderOfOpsRow.holds Try.pinned (OpenSpec.ofChange fnExactOrderOfOpsWrong)

/-- 'laws.FnExactNeedlessBefore': WHATEVER THE INPUT: true; the input reads as it did. -/
def fnExactNeedlessBeforeSpec : ChangeSpec := { name := "fnExactNeedlessBefore", fn := fun _ => fun
  | [d] => { results := [.lit (.bool true)], args := [d] }
  | _ => none }
def fnExactNeedlessBeforeRow : OpenClaim := { program := "ytgghjieeckkpbaa", sum := "6761e6e5da84dfbc701ca4fce9abe9bbb3787520d54335252eb21c9ce918933a", func := "loop.example/g01043/laws.FnExactNeedlessBefore", spec := "fnExactNeedlessBefore", unfollowed := true, recurses := true, apart := false }
def FnExactNeedlessBeforeSaid : Prop := fnExactNeedlessBeforeRow.holds Try.pinned (OpenSpec.ofChange fnExactNeedlessBeforeSpec)

/-- ITS FALSE NEIGHBOUR: 'it returns false'. Refute it at one input. -/
def fnExactNeedlessBeforeWrong : ChangeSpec := { name := "fnExactNeedlessBefore", fn := fun _ => fun
  | [d] => { results := [.lit (.bool false)], args := [d] }
  | _ => none }
def FnExactNeedlessBeforeWrongFalsely : Prop := fnExactNeedlessBeforeRow.holds Try.pinned (OpenSpec.ofChange fnExactNeedlessBeforeWrong)

/-- 'laws.FnExactRoundsOf': WHATEVER THE INPUT: true; the input reads as it did. -/
def fnExactRoundsOfSpec : ChangeSpec := { name := "fnExactRoundsOf", fn := fun _ => fun
  | [d] => { results := [.lit (.bool true)], args := [d] }
  | _ => none }
def fnExactRoundsOfRow : OpenClaim := { program := "ytgghjieeckkpbaa", sum := "6761e6e5da84dfbc701ca4fce9abe9bbb3787520d54335252eb21c9ce918933a", func := "loop.example/g01043/laws.FnExactRoundsOf", spec := "fnExactRoundsOf", unfollowed := true, recurses := true, apart := false }
def FnExactRoundsOfSaid : Prop := fnExactRoundsOfRow.holds Try.pinned (OpenSpec.ofChange fnExactRoundsOfSpec)

/-- ITS FALSE NEIGHBOUR: 'it returns false'. Refute it at one input. -/
def fnExactRoundsOfWrong : ChangeSpec := { name := "fnExactRoundsOf", fn := fun _ => fun
  | [d] => { results := [.lit (.bool false)], args := [d] }
  | _ => none }
def FnExactRoundsOfWrongFalsely : Prop := fnExactRoundsOfRow.holds Try.pinned (OpenSpec.ofChange fnExactRoundsOfWrong)

/- THE SECOND FORM. 'bulk': how many values and letters a reading holds, each counted each time it is reached (what is shared counts as often as it is met; a slice's spare places count too). A statement '..UptoSaid' is the law's where the arguments, and the package variables that the reading takes, are together of bulk at most 1048576: NARROWER than '..Said'. Prove '..Said' where nothing that the law and all that it calls make is longer than what came in: it says more and counts as full. Else prove '..UptoSaid'. A law counts once. -/
mutual
def uptoBulk {H : Type} : DataW H → Nat
  | .lit (.string bytes) => bytes.length + 1
  | .lit _ => 1
  | .nil => 1
  | .ptr d => uptoBulk d + 1
  | .slice elems spare => uptoBulkAll elems + uptoBulkAll spare + 1
  | .agg parts => uptoBulkAll parts + 1
  | .iface _ d => uptoBulk d + 1
  | .map entries => uptoBulkEntries entries + 1
  | .held _ => 1
def uptoBulkAll {H : Type} : List (DataW H) → Nat
  | [] => 0
  | d :: r => uptoBulk d + uptoBulkAll r
def uptoBulkEntries {H : Type} : List (Lit × DataW H) → Nat
  | [] => 0
  | x :: r => uptoBulkEntry x + uptoBulkEntries r
def uptoBulkEntry {H : Type} : Lit × DataW H → Nat
  | (.string bytes, d) => bytes.length + uptoBulk d + 1
  | (_, d) => uptoBulk d + 1
 end
def uptoSmall : (H : Type) → List (DataW H) → Bool := fun _ ds => decide (uptoBulkAll ds ≤ 1048576)
def OpenSpec.upto (s : _root_.Go.ChangeSpec) : _root_.Go.OpenSpec := { _root_.Go.OpenSpec.ofChange s with cond := some uptoSmall }

/-- 'laws.FnOpRounds', WHERE WHAT IT READS IS OF BULK AT MOST 1048576: true; the input reads as it did. -/
def fnOpRoundsUptoRow : OpenClaim := { program := "ytgghjieeckkpbaa", sum := "6761e6e5da84dfbc701ca4fce9abe9bbb3787520d54335252eb21c9ce918933a", func := "loop.example/g01043/laws.FnOpRounds", spec := "fnOpRounds", unfollowed := true, recurses := true, apart := false, narrowed := true }
def FnOpRoundsUptoSaid : Prop := fnOpRoundsUptoRow.holds Try.pinned (OpenSpec.upto fnOpRoundsSpec)

/-- 'laws.FnExactSameOps', WHERE WHAT IT READS IS OF BULK AT MOST 1048576: true; the input reads as it did. -/
def fnExactSameOpsUptoRow : OpenClaim := { program := "ytgghjieeckkpbaa", sum := "6761e6e5da84dfbc701ca4fce9abe9bbb3787520d54335252eb21c9ce918933a", func := "loop.example/g01043/laws.FnExactSameOps", spec := "fnExactSameOps", unfollowed := true, recurses := true, apart := false, narrowed := true }
def FnExactSameOpsUptoSaid : Prop := fnExactSameOpsUptoRow.holds Try.pinned (OpenSpec.upto fnExactSameOpsSpec)

/-- 'laws.FnExactValidOps', WHERE WHAT IT READS IS OF BULK AT MOST 1048576: true; the input reads as it did. -/
def fnExactValidOpsUptoRow : OpenClaim := { program := "ytgghjieeckkpbaa", sum := "6761e6e5da84dfbc701ca4fce9abe9bbb3787520d54335252eb21c9ce918933a", func := "loop.example/g01043/laws.FnExactValidOps", spec := "fnExactValidOps", unfollowed := true, recurses := true, apart := false, narrowed := true }
def FnExactValidOpsUptoSaid : Prop := fnExactValidOpsUptoRow.holds Try.pinned (OpenSpec.upto fnExactValidOpsSpec)

/-- 'laws.FnExactIsOpOrder', WHERE WHAT IT READS IS OF BULK AT MOST 1048576: true; the input reads as it did. -/
def fnExactIsOpOrderUptoRow : OpenClaim := { program := "ytgghjieeckkpbaa", sum := "6761e6e5da84dfbc701ca4fce9abe9bbb3787520d54335252eb21c9ce918933a", func := "loop.example/g01043/laws.FnExactIsOpOrder", spec := "fnExactIsOpOrder", unfollowed := true, recurses := true, apart := false, narrowed := true }
def FnExactIsOpOrderUptoSaid : Prop := fnExactIsOpOrderUptoRow.holds Try.pinned (OpenSpec.upto fnExactIsOpOrderSpec)

/-- 'laws.FnExactCircleOf', WHERE WHAT IT READS IS OF BULK AT MOST 1048576: true; the input reads as it did. -/
def fnExactCircleOfUptoRow : OpenClaim := { program := "ytgghjieeckkpbaa", sum := "6761e6e5da84dfbc701ca4fce9abe9bbb3787520d54335252eb21c9ce918933a", func := "loop.example/g01043/laws.FnExactCircleOf", spec := "fnExactCircleOf", unfollowed := true, recurses := true, apart := false, narrowed := true }
def FnExactCircleOfUptoSaid : Prop := fnExactCircleOfUptoRow.holds Try.pinned (OpenSpec.upto fnExactCircleOfSpec)

/-- 'laws.FnExactReadyOps', WHERE WHAT IT READS IS OF BULK AT MOST 1048576: true; the input reads as it did. -/
def fnExactReadyOpsUptoRow : OpenClaim := { program := "ytgghjieeckkpbaa", sum := "6761e6e5da84dfbc701ca4fce9abe9bbb3787520d54335252eb21c9ce918933a", func := "loop.example/g01043/laws.FnExactReadyOps", spec := "fnExactReadyOps", unfollowed := true, recurses := true, apart := false, narrowed := true }
def FnExactReadyOpsUptoSaid : Prop := fnExactReadyOpsUptoRow.holds Try.pinned (OpenSpec.upto fnExactReadyOpsSpec)

/-- 'laws.FnExactAllBefore', WHERE WHAT IT READS IS OF BULK AT MOST 1048576: true; the input reads as it did. -/
def fnExactAllBeforeUptoRow : OpenClaim := { program := "ytgghjieeckkpbaa", sum := "6761e6e5da84dfbc701ca4fce9abe9bbb3787520d54335252eb21c9ce918933a", func := "loop.example/g01043/laws.FnExactAllBefore", spec := "fnExactAllBefore", unfollowed := true, recurses := true, apart := false, narrowed := true }
def FnExactAllBeforeUptoSaid : Prop := fnExactAllBeforeUptoRow.holds Try.pinned (OpenSpec.upto fnExactAllBeforeSpec)

/-- 'laws.FnExactCountOpOrders', WHERE WHAT IT READS IS OF BULK AT MOST 1048576: true; the input reads as it did. -/
def fnExactCountOpOrdersUptoRow : OpenClaim := { program := "ytgghjieeckkpbaa", sum := "6761e6e5da84dfbc701ca4fce9abe9bbb3787520d54335252eb21c9ce918933a", func := "loop.example/g01043/laws.FnExactCountOpOrders", spec := "fnExactCountOpOrders", unfollowed := true, recurses := true, apart := false, narrowed := true }
def FnExactCountOpOrdersUptoSaid : Prop := fnExactCountOpOrdersUptoRow.holds Try.pinned (OpenSpec.upto fnExactCountOpOrdersSpec)

/-- 'laws.FnExactLeastMinutes', WHERE WHAT IT READS IS OF BULK AT MOST 1048576: true; the input reads as it did. -/
def fnExactLeastMinutesUptoRow : OpenClaim := { program := "ytgghjieeckkpbaa", sum := "6761e6e5da84dfbc701ca4fce9abe9bbb3787520d54335252eb21c9ce918933a", func := "loop.example/g01043/laws.FnExactLeastMinutes", spec := "fnExactLeastMinutes", unfollowed := true, recurses := true, apart := false, narrowed := true }
def FnExactLeastMinutesUptoSaid : Prop := fnExactLeastMinutesUptoRow.holds Try.pinned (OpenSpec.upto fnExactLeastMinutesSpec)

/-- 'laws.FnExactOrderOfOps', WHERE WHAT IT READS IS OF BULK AT MOST 1048576: true; the input reads as it did. -/
def fnExactOrderOfOpsUptoRow : OpenClaim := { program := "ytgghjieeckkpbaa", sum := "6761e6e5da84dfbc701ca4fce9abe9bbb3787520d54335252eb21c9ce918933a", func := "loop.example/g01043/laws.FnExactOrderOfOps", spec := "fnExactOrderOfOps", unfollowed := true, recurses := true, apart := false, narrowed := true }
def FnExactOrderOfOpsUptoSaid : Prop := fnExactOrderOfOpsUptoRow.holds Try.pinned (OpenSpec.upto fnExactOrderOfOpsSpec)

/-- 'laws.FnExactNeedlessBefore', WHERE WHAT IT READS IS OF BULK AT MOST 1048576: true; the input reads as it did. -/
def fnExactNeedlessBeforeUptoRow : OpenClaim := { program := "ytgghjieeckkpbaa", sum := "6761e6e5da84dfbc701ca4fce9abe9bbb3787520d54335252eb21c9ce918933a", func := "loop.example/g01043/laws.FnExactNeedlessBefore", spec := "fnExactNeedlessBefore", unfollowed := true, recurses := true, apart := false, narrowed := true }
def FnExactNeedlessBeforeUptoSaid : Prop := fnExactNeedlessBeforeUptoRow.holds Try.pinned (OpenSpec.upto fnExactNeedlessBeforeSpec)

/-- 'laws.FnExactRoundsOf', WHERE WHAT IT READS IS OF BULK AT MOST 1048576: true; the input reads as it did. -/
def fnExactRoundsOfUptoRow : OpenClaim := { program := "ytgghjieeckkpbaa", sum := "6761e6e5da84dfbc701ca4fce9abe9bbb3787520d54335252eb21c9ce918933a", func := "loop.example/g01043/laws.FnExactRoundsOf", spec := "fnExactRoundsOf", unfollowed := true, recurses := true, apart := false, narrowed := true }
def FnExactRoundsOfUptoSaid : Prop := fnExactRoundsOfUptoRow.holds Try.pinned (OpenSpec.upto fnExactRoundsOfSpec)

end Rows
end Go.Proofs.Ytgghjieeckkpbaa
