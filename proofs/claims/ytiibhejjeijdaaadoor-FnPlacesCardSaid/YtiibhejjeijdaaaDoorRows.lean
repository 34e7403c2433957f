/-
  NARROWER THAN 'FOR EVERY INPUT', by the rows' own cells (each row's printed sentence says how): FnExactMirrorHide: laid · FnPlaces: laid · FnExactLargestCut: laid · FnExactPlacesOf: laid · FnExactPlanFault: laid · FnExactPlanWorth: laid · FnExactPlanLines: laid · FnExactUsedShare: laid.
  DERIVED. THE GIVEN ROWS OF THIS SEAT. 8 by the template 'for every input the law returns true; each argument reads behind the call as it read before'; 0 by the template 'total and deterministic' (their statements: YtiibhejjeijdaaaDoorTotals.lean).
  GIVEN WITH THE SEED: the statements are not yours to turn. If you find one false, say at which input.
  Laid BY PROGRAM, IN A SANDBOX (cutbox-rows.mjs): the forced cells as the released guide's own fill.sh prints them over the translation 58b5d34e57eded55… (all of the seat's roots in one cut). By AI agents, Wed Nov 11 2026. No macro, syntax, notation, axiom, sorry.
-/
import Derived.Test.YtiibhejjeijdaaaDoorChecked
import GoSem.PinnedTables
import GoSem.Claim
import GoSem.ClaimJoined
import GoSem.ClaimMapViews
import Derived.JoinedTies
import Derived.KernelRfl
namespace Go.Proofs.YtiibhejjeijdaaaDoor
/- THE CELL 'sum', in the pinned program and in every row, IS THE sha256 OF THE DUMP (.gsa) THAT YtiibhejjeijdaaaDoorProg.lean LOADS. Nothing in Lean hashes anything: it is a label: what it is worth is what the hold of that sum in a sandbox is worth. -/
noncomputable def Tryd.pinned : Pinned := { name := "ytiibhejjeijdaaadoor", sum := "58b5d34e57eded556640c941e5c0e081276942414a1d613906ec7a640a5364ac", checked := Tryd.checked }
namespace Rows
def none {H : Type} : Left H := { results := [], args := [] }

/- WHAT THE LISTED PACKAGE-LEVEL VARIABLES READ AS WHEN THE CALL BEGINS. Each datum BY PROGRAM (the guide's laid-datum.mjs) off the statement by which the dump's own 'gosem.cut.vars' lays the variable. In a bare row this is a premise. The card (YtiibhejjeijdaaaDoorCards.lean) ties it to the program's text. -/
def laid_unicode_utf8_acceptRanges {H : Type} : DataW H := .agg [.agg [.lit (.int .u8 128), .lit (.int .u8 191)], .agg [.lit (.int .u8 160), .lit (.int .u8 191)], .agg [.lit (.int .u8 128), .lit (.int .u8 159)], .agg [.lit (.int .u8 144), .lit (.int .u8 191)], .agg [.lit (.int .u8 128), .lit (.int .u8 143)], .agg [.lit (.int .u8 0), .lit (.int .u8 0)], .agg [.lit (.int .u8 0), .lit (.int .u8 0)], .agg [.lit (.int .u8 0), .lit (.int .u8 0)], .agg [.lit (.int .u8 0), .lit (.int .u8 0)], .agg [.lit (.int .u8 0), .lit (.int .u8 0)], .agg [.lit (.int .u8 0), .lit (.int .u8 0)], .agg [.lit (.int .u8 0), .lit (.int .u8 0)], .agg [.lit (.int .u8 0), .lit (.int .u8 0)], .agg [.lit (.int .u8 0), .lit (.int .u8 0)], .agg [.lit (.int .u8 0), .lit (.int .u8 0)], .agg [.lit (.int .u8 0), .lit (.int .u8 0)]]
/-- One of Go's own tables, pinned by name: the form's constant. -/
def laid_unicode_utf8_first : DataW Unit := Go.Pinned.utf8First

/-- 'laws.FnExactMirrorHide': WHATEVER THE INPUT: true; the input reads as it did. -/
def fnExactMirrorHideSpec : ChangeSpec := { name := "fnExactMirrorHide", fn := fun _ => fun
  | [d] => { results := [.lit (.bool true)], args := [d] }
  | _ => none }
def fnExactMirrorHideRow : OpenClaim := { program := "ytiibhejjeijdaaadoor", sum := "58b5d34e57eded556640c941e5c0e081276942414a1d613906ec7a640a5364ac", func := "loop.example/g01043/laws.FnExactMirrorHide", spec := "fnExactMirrorHide", inPlace := ["internal/bytealg.IndexByteString", "internal/bytealg.IndexString"], unfollowed := true, recurses := true, named := ["unicode/utf8.first", "unicode/utf8.acceptRanges", "internal/bytealg.MaxLen"], apart := false, laid := [("unicode/utf8.acceptRanges", laid_unicode_utf8_acceptRanges), ("unicode/utf8.first", laid_unicode_utf8_first)] }
def FnExactMirrorHideSaid : Prop := fnExactMirrorHideRow.holds Tryd.pinned (OpenSpec.ofChange fnExactMirrorHideSpec)

/-- ITS FALSE NEIGHBOUR: 'it returns false'. Refute it at one input. -/
def fnExactMirrorHideWrong : ChangeSpec := { name := "fnExactMirrorHide", fn := fun _ => fun
  | [d] => { results := [.lit (.bool false)], args := [d] }
  | _ => none }
def FnExactMirrorHideWrongFalsely : Prop := fnExactMirrorHideRow.holds Tryd.pinned (OpenSpec.ofChange fnExactMirrorHideWrong)

/-- 'laws.FnPlaces': WHATEVER THE INPUT: true; the input reads as it did. -/
def fnPlacesSpec : ChangeSpec := { name := "fnPlaces", fn := fun _ => fun
  | [d1, d2] => { results := [.lit (.bool true)], args := [d1, d2] }
  | _ => none }
def fnPlacesRow : OpenClaim := { program := "ytiibhejjeijdaaadoor", sum := "58b5d34e57eded556640c941e5c0e081276942414a1d613906ec7a640a5364ac", func := "loop.example/g01043/laws.FnPlaces", spec := "fnPlaces", inPlace := ["internal/bytealg.IndexByteString", "internal/bytealg.IndexString"], unfollowed := true, recurses := true, named := ["unicode/utf8.first", "unicode/utf8.acceptRanges", "internal/bytealg.MaxLen"], apart := false, laid := [("unicode/utf8.acceptRanges", laid_unicode_utf8_acceptRanges), ("unicode/utf8.first", laid_unicode_utf8_first)] }
def FnPlacesSaid : Prop := fnPlacesRow.holds Tryd.pinned (OpenSpec.ofChange fnPlacesSpec)

/-- ITS FALSE NEIGHBOUR: 'it returns false'. Refute it at one input. -/
def fnPlacesWrong : ChangeSpec := { name := "fnPlaces", fn := fun _ => fun
  | [d1, d2] => { results := [.lit (.bool false)], args := [d1, d2] }
  | _ => none }
def FnPlacesWrongFalsely : Prop := fnPlacesRow.holds Tryd.pinned (OpenSpec.ofChange fnPlacesWrong)

/-- 'laws.FnExactLargestCut': WHATEVER THE INPUT: true; the input reads as it did. -/
def fnExactLargestCutSpec : ChangeSpec := { name := "fnExactLargestCut", fn := fun _ => fun
  | [d1, d2] => { results := [.lit (.bool true)], args := [d1, d2] }
  | _ => none }
def fnExactLargestCutRow : OpenClaim := { program := "ytiibhejjeijdaaadoor", sum := "58b5d34e57eded556640c941e5c0e081276942414a1d613906ec7a640a5364ac", func := "loop.example/g01043/laws.FnExactLargestCut", spec := "fnExactLargestCut", inPlace := ["internal/bytealg.IndexByteString", "internal/bytealg.IndexString"], unfollowed := true, recurses := true, named := ["unicode/utf8.first", "unicode/utf8.acceptRanges", "internal/bytealg.MaxLen"], apart := false, laid := [("unicode/utf8.acceptRanges", laid_unicode_utf8_acceptRanges), ("unicode/utf8.first", laid_unicode_utf8_first)] }
def FnExactLargestCutSaid : Prop := fnExactLargestCutRow.holds Tryd.pinned (OpenSpec.ofChange fnExactLargestCutSpec)

/-- ITS FALSE NEIGHBOUR: 'it returns false'. Refute it at one input. -/
def fnExactLargestCutWrong : ChangeSpec := { name := "fnExactLargestCut", fn := fun _ => fun
  | [d1, d2] => { results := [.lit (.bool false)], args := [d1, d2] }
  | _ => none }
def FnExactLargestCutWrongFalsely : Prop := fnExactLargestCutRow.holds Tryd.pinned (OpenSpec.ofChange fnExactLargestCutWrong)

/-- 'laws.FnExactPlacesOf': WHATEVER THE INPUT: true; the input reads as it did. -/
def fnExactPlacesOfSpec : ChangeSpec := { name := "fnExactPlacesOf", fn := fun _ => fun
  | [d1, d2] => { results := [.lit (.bool true)], args := [d1, d2] }
  | _ => none }
def fnExactPlacesOfRow : OpenClaim := { program := "ytiibhejjeijdaaadoor", sum := "58b5d34e57eded556640c941e5c0e081276942414a1d613906ec7a640a5364ac", func := "loop.example/g01043/laws.FnExactPlacesOf", spec := "fnExactPlacesOf", inPlace := ["internal/bytealg.IndexByteString", "internal/bytealg.IndexString"], unfollowed := true, recurses := true, named := ["unicode/utf8.first", "unicode/utf8.acceptRanges", "internal/bytealg.MaxLen"], apart := false, laid := [("unicode/utf8.acceptRanges", laid_unicode_utf8_acceptRanges), ("unicode/utf8.first", laid_unicode_utf8_first)] }
def FnExactPlacesOfSaid : Prop := fnExactPlacesOfRow.holds Tryd.pinned (OpenSpec.ofChange fnExactPlacesOfSpec)

/-- ITS FALSE NEIGHBOUR: 'it returns false'. Refute it at one input. -/
def fnExactPlacesOfWrong : ChangeSpec := { name := "fnExactPlacesOf", fn := fun _ => fun
  | [d1, d2] => { results := [.lit (.bool false)], args := [d1, d2] }
  | _ => none }
def FnExactPlacesOfWrongFalsely : Prop := fnExactPlacesOfRow.holds Tryd.pinned (OpenSpec.ofChange fnExactPlacesOfWrong)

/-- 'laws.FnExactPlanFault': WHATEVER THE INPUT: true; the input reads as it did. -/
def fnExactPlanFaultSpec : ChangeSpec := { name := "fnExactPlanFault", fn := fun _ => fun
  | [d1, d2, d3] => { results := [.lit (.bool true)], args := [d1, d2, d3] }
  | _ => none }
def fnExactPlanFaultRow : OpenClaim := { program := "ytiibhejjeijdaaadoor", sum := "58b5d34e57eded556640c941e5c0e081276942414a1d613906ec7a640a5364ac", func := "loop.example/g01043/laws.FnExactPlanFault", spec := "fnExactPlanFault", inPlace := ["internal/bytealg.IndexByteString", "internal/bytealg.IndexString"], unfollowed := true, recurses := true, named := ["unicode/utf8.first", "unicode/utf8.acceptRanges", "internal/bytealg.MaxLen"], apart := false, laid := [("unicode/utf8.acceptRanges", laid_unicode_utf8_acceptRanges), ("unicode/utf8.first", laid_unicode_utf8_first)] }
def FnExactPlanFaultSaid : Prop := fnExactPlanFaultRow.holds Tryd.pinned (OpenSpec.ofChange fnExactPlanFaultSpec)

/-- ITS FALSE NEIGHBOUR: 'it returns false'. Refute it at one input. -/
def fnExactPlanFaultWrong : ChangeSpec := { name := "fnExactPlanFault", fn := fun _ => fun
  | [d1, d2, d3] => { results := [.lit (.bool false)], args := [d1, d2, d3] }
  | _ => none }
def FnExactPlanFaultWrongFalsely : Prop := fnExactPlanFaultRow.holds Tryd.pinned (OpenSpec.ofChange fnExactPlanFaultWrong)

/-- 'laws.FnExactPlanWorth': WHATEVER THE INPUT: true; the input reads as it did. -/
def fnExactPlanWorthSpec : ChangeSpec := { name := "fnExactPlanWorth", fn := fun _ => fun
  | [d1, d2, d3] => { results := [.lit (.bool true)], args := [d1, d2, d3] }
  | _ => none }
def fnExactPlanWorthRow : OpenClaim := { program := "ytiibhejjeijdaaadoor", sum := "58b5d34e57eded556640c941e5c0e081276942414a1d613906ec7a640a5364ac", func := "loop.example/g01043/laws.FnExactPlanWorth", spec := "fnExactPlanWorth", inPlace := ["internal/bytealg.IndexByteString", "internal/bytealg.IndexString"], unfollowed := true, recurses := true, named := ["unicode/utf8.first", "unicode/utf8.acceptRanges", "internal/bytealg.MaxLen"], apart := false, laid := [("unicode/utf8.acceptRanges", laid_unicode_utf8_acceptRanges), ("unicode/utf8.first", laid_unicode_utf8_first)] }
def FnExactPlanWorthSaid : Prop := fnExactPlanWorthRow.holds Tryd.pinned (OpenSpec.ofChange fnExactPlanWorthSpec)

/-- ITS FALSE NEIGHBOUR: 'it returns false'. Refute it at one input. -/
def fnExactPlanWorthWrong : ChangeSpec := { name := "fnExactPlanWorth", fn := fun _ => fun
  | [d1, d2, d3] => { results := [.lit (.bool false)], args := [d1, d2, d3] }
  | _ => none }
def FnExactPlanWorthWrongFalsely : Prop := fnExactPlanWorthRow.holds Tryd.pinned (OpenSpec.ofChange fnExactPlanWorthWrong)

/-- 'laws.FnExactPlanLines': WHATEVER THE INPUT: true; the input reads as it did. -/
def fnExactPlanLinesSpec : ChangeSpec := { name := "fnExactPlanLines", fn := fun _ => fun
  | [d1, d2, d3] => { results := [.lit (.bool true)], args := [d1, d2, d3] }
  | _ => none }
def fnExactPlanLinesRow : OpenClaim := { program := "ytiibhejjeijdaaadoor", sum := "58b5d34e57eded556640c941e5c0e081276942414a1d613906ec7a640a5364ac", func := "loop.example/g01043/laws.FnExactPlanLines", spec := "fnExactPlanLines", inPlace := ["internal/bytealg.IndexByteString", "internal/bytealg.IndexString", "internal/abi.NoEscape", "internal/bytealg.MakeNoZero"], unfollowed := true, recurses := true, named := ["unicode/utf8.first", "unicode/utf8.acceptRanges", "internal/bytealg.MaxLen"], apart := false, laid := [("unicode/utf8.acceptRanges", laid_unicode_utf8_acceptRanges), ("unicode/utf8.first", laid_unicode_utf8_first)] }
def FnExactPlanLinesSaid : Prop := fnExactPlanLinesRow.holds Tryd.pinned (OpenSpec.ofChange fnExactPlanLinesSpec)

/-- ITS FALSE NEIGHBOUR: 'it returns false'. Refute it at one input. -/
def fnExactPlanLinesWrong : ChangeSpec := { name := "fnExactPlanLines", fn := fun _ => fun
  | [d1, d2, d3] => { results := [.lit (.bool false)], args := [d1, d2, d3] }
  | _ => none }
def FnExactPlanLinesWrongFalsely : Prop := fnExactPlanLinesRow.holds Tryd.pinned (OpenSpec.ofChange fnExactPlanLinesWrong)

/-- 'laws.FnExactUsedShare': WHATEVER THE INPUT: true; the input reads as it did. -/
def fnExactUsedShareSpec : ChangeSpec := { name := "fnExactUsedShare", fn := fun _ => fun
  | [d1, d2, d3] => { results := [.lit (.bool true)], args := [d1, d2, d3] }
  | _ => none }
def fnExactUsedShareRow : OpenClaim := { program := "ytiibhejjeijdaaadoor", sum := "58b5d34e57eded556640c941e5c0e081276942414a1d613906ec7a640a5364ac", func := "loop.example/g01043/laws.FnExactUsedShare", spec := "fnExactUsedShare", inPlace := ["internal/bytealg.IndexByteString", "internal/bytealg.IndexString", "internal/bytealg.CountString"], unfollowed := true, recurses := true, named := ["unicode/utf8.first", "unicode/utf8.acceptRanges", "internal/bytealg.MaxLen"], apart := false, laid := [("unicode/utf8.acceptRanges", laid_unicode_utf8_acceptRanges), ("unicode/utf8.first", laid_unicode_utf8_first)] }
def FnExactUsedShareSaid : Prop := fnExactUsedShareRow.holds Tryd.pinned (OpenSpec.ofChange fnExactUsedShareSpec)

/-- ITS FALSE NEIGHBOUR: 'it returns false'. Refute it at one input. -/
def fnExactUsedShareWrong : ChangeSpec := { name := "fnExactUsedShare", fn := fun _ => fun
  | [d1, d2, d3] => { results := [.lit (.bool false)], args := [d1, d2, d3] }
  | _ => none }
def FnExactUsedShareWrongFalsely : Prop := fnExactUsedShareRow.holds Tryd.pinned (OpenSpec.ofChange fnExactUsedShareWrong)

/- THE SECOND FORM. 'bulk': how many values and letters a reading holds, each counted each time it is reached (what is shared counts as often as it is met; a slice's spare places count too). A statement '..UptoSaid' is the law's where the arguments, and the package variables that the reading takes, are together of bulk at most 1048576: NARROWER than '..Said'. Prove '..Said' where nothing that the law and all that it calls make is longer than what came in: it says more and counts as full. Else prove '..UptoSaid'. A law counts once. -/
mutual
def uptoBulk {H : Type} : DataW H → Nat
  | .lit (.string bytes) => bytes.length + 1
  | .lit _ => 1
  | .nil => 1
  | .ptr d => uptoBulk d + 1
  | .slice elems spare => uptoBulkAll elems + uptoBulkAll spare + 1
  | .agg parts => uptoBulkAll parts + 1
  | .iface _ d => uptoBulk d + 1
  | .map entries => uptoBulkEntries entries + 1
  | .held _ => 1
def uptoBulkAll {H : Type} : List (DataW H) → Nat
  | [] => 0
  | d :: r => uptoBulk d + uptoBulkAll r
def uptoBulkEntries {H : Type} : List (Lit × DataW H) → Nat
  | [] => 0
  | x :: r => uptoBulkEntry x + uptoBulkEntries r
def uptoBulkEntry {H : Type} : Lit × DataW H → Nat
  | (.string bytes, d) => bytes.length + uptoBulk d + 1
  | (_, d) => uptoBulk d + 1
 end
def uptoSmall : (H : Type) → List (DataW H) → Bool := fun _ ds => decide (uptoBulkAll ds ≤ 1048576)
def OpenSpec.upto (s : _root_.Go.ChangeSpec) : _root_.Go.OpenSpec := { _root_.Go.OpenSpec.ofChange s with cond := some uptoSmall }

/-- 'laws.FnExactMirrorHide', WHERE WHAT IT READS IS OF BULK AT MOST 1048576: true; the input reads as it did. -/
def fnExactMirrorHideUptoRow : OpenClaim := { program := "ytiibhejjeijdaaadoor", sum := "58b5d34e57eded556640c941e5c0e081276942414a1d613906ec7a640a5364ac", func := "loop.example/g01043/laws.FnExactMirrorHide", spec := "fnExactMirrorHide", inPlace := ["internal/bytealg.IndexByteString", "internal/bytealg.IndexString"], unfollowed := true, recurses := true, named := ["unicode/utf8.first", "unicode/utf8.acceptRanges", "internal/bytealg.MaxLen"], apart := false, laid := [("unicode/utf8.acceptRanges", laid_unicode_utf8_acceptRanges), ("unicode/utf8.first", laid_unicode_utf8_first)], narrowed := true }
def FnExactMirrorHideUptoSaid : Prop := fnExactMirrorHideUptoRow.holds Tryd.pinned (OpenSpec.upto fnExactMirrorHideSpec)

/-- 'laws.FnPlaces', WHERE WHAT IT READS IS OF BULK AT MOST 1048576: true; the input reads as it did. -/
def fnPlacesUptoRow : OpenClaim := { program := "ytiibhejjeijdaaadoor", sum := "58b5d34e57eded556640c941e5c0e081276942414a1d613906ec7a640a5364ac", func := "loop.example/g01043/laws.FnPlaces", spec := "fnPlaces", inPlace := ["internal/bytealg.IndexByteString", "internal/bytealg.IndexString"], unfollowed := true, recurses := true, named := ["unicode/utf8.first", "unicode/utf8.acceptRanges", "internal/bytealg.MaxLen"], apart := false, laid := [("unicode/utf8.acceptRanges", laid_unicode_utf8_acceptRanges), ("unicode/utf8.first", laid_unicode_utf8_first)], narrowed := true }
def FnPlacesUptoSaid : Prop := fnPlacesUptoRow.holds Tryd.pinned (OpenSpec.upto fnPlacesSpec)

/-- 'laws.FnExactLargestCut', WHERE WHAT IT READS IS OF BULK AT MOST 1048576: true; the input reads as it did. -/
def fnExactLargestCutUptoRow : OpenClaim := { program := "ytiibhejjeijdaaadoor", sum := "58b5d34e57eded556640c941e5c0e081276942414a1d613906ec7a640a5364ac", func := "loop.example/g01043/laws.FnExactLargestCut", spec := "fnExactLargestCut", inPlace := ["internal/bytealg.IndexByteString", "internal/bytealg.IndexString"], unfollowed := true, recurses := true, named := ["unicode/utf8.first", "unicode/utf8.acceptRanges", "internal/bytealg.MaxLen"], apart := false, laid := [("unicode/utf8.acceptRanges", laid_unicode_utf8_acceptRanges), ("unicode/utf8.first", laid_unicode_utf8_first)], narrowed := true }
def FnExactLargestCutUptoSaid : Prop := fnExactLargestCutUptoRow.holds Tryd.pinned (OpenSpec.upto fnExactLargestCutSpec)

/-- 'laws.FnExactPlacesOf', WHERE WHAT IT READS IS OF BULK AT MOST 1048576: true; the input reads as it did. -/
def fnExactPlacesOfUptoRow : OpenClaim := { program := "ytiibhejjeijdaaadoor", sum := "58b5d34e57eded556640c941e5c0e081276942414a1d613906ec7a640a5364ac", func := "loop.example/g01043/laws.FnExactPlacesOf", spec := "fnExactPlacesOf", inPlace := ["internal/bytealg.IndexByteString", "internal/bytealg.IndexString"], unfollowed := true, recurses := true, named := ["unicode/utf8.first", "unicode/utf8.acceptRanges", "internal/bytealg.MaxLen"], apart := false, laid := [("unicode/utf8.acceptRanges", laid_unicode_utf8_acceptRanges), ("unicode/utf8.first", laid_unicode_utf8_first)], narrowed := true }
def FnExactPlacesOfUptoSaid : Prop := fnExactPlacesOfUptoRow.holds Tryd.pinned (OpenSpec.upto fnExactPlacesOfSpec)

/-- 'laws.FnExactPlanFault', WHERE WHAT IT READS IS OF BULK AT MOST 1048576: true; the input reads as it did. -/
def fnExactPlanFaultUptoRow : OpenClaim := { program := "ytiibhejjeijdaaadoor", sum := "58b5d34e57eded556640c941e5c0e081276942414a1d613906ec7a640a5364ac", func := "loop.example/g01043/laws.FnExactPlanFault", spec := "fnExactPlanFault", inPlace := ["internal/bytealg.IndexByteString", "internal/bytealg.IndexString"], unfollowed := true, recurses := true, named := ["unicode/utf8.first", "unicode/utf8.acceptRanges", "internal/bytealg.MaxLen"], apart := false, laid := [("unicode/utf8.acceptRanges", laid_unicode_utf8_acceptRanges), ("unicode/utf8.first", laid_unicode_utf8_first)], narrowed := true }
def FnExactPlanFaultUptoSaid : Prop := fnExactPlanFaultUptoRow.holds Tryd.pinned (OpenSpec.upto fnExactPlanFaultSpec)

/-- 'laws.FnExactPlanWorth', WHERE WHAT IT READS IS OF BULK AT MOST 1048576: true; the input reads as it did. -/
def fnExactPlanWorthUptoRow : OpenClaim := { program := "ytiibhejjeijdaaadoor", sum := "58b5d34e57eded556640c941e5c0e081276942414a1d613906ec7a640a5364ac", func := "loop.example/g01043/laws.FnExactPlanWorth", spec := "fnExactPlanWorth", inPlace := ["internal/bytealg.IndexByteString", "internal/bytealg.IndexString"], unfollowed := true, recurses := true, named := ["unicode/utf8.first", "unicode/utf8.acceptRanges", "internal/bytealg.MaxLen"], apart := false, laid := [("unicode/utf8.acceptRanges", laid_unicode_utf8_acceptRanges), ("unicode/utf8.first", laid_unicode_utf8_first)], narrowed := true }
def FnExactPlanWorthUptoSaid : Prop := fnExactPlanWorthUptoRow.holds Tryd.pinned (OpenSpec.upto fnExactPlanWorthSpec)

/-- 'laws.FnExactPlanLines', WHERE WHAT IT READS IS OF BULK AT MOST 1048576: true; the input reads as it did. -/
def fnExactPlanLinesUptoRow : OpenClaim := { program := "ytiibhejjeijdaaadoor", sum := "58b5d34e57eded556640c941e5c0e081276942414a1d613906ec7a640a5364ac", func := "loop.example/g01043/laws.FnExactPlanLines", spec := "fnExactPlanLines", inPlace := ["internal/bytealg.IndexByteString", "internal/bytealg.IndexString", "internal/abi.NoEscape", "internal/bytealg.MakeNoZero"], unfollowed := true, recurses := true, named := ["unicode/utf8.first", "unicode/utf8.acceptRanges", "internal/bytealg.MaxLen"], apart := false, laid := [("unicode/utf8.acceptRanges", laid_unicode_utf8_acceptRanges), ("unicode/utf8.first", laid_unicode_utf8_first)], narrowed := true }
def FnExactPlanLinesUptoSaid : Prop := fnExactPlanLinesUptoRow.holds Tryd.pinned (OpenSpec.upto fnExactPlanLinesSpec)

/-- 'laws.FnExactUsedShare', WHERE WHAT IT READS IS OF BULK AT MOST 1048576: true; the input reads as it did. -/
def fnExactUsedShareUptoRow : OpenClaim := { program := "ytiibhejjeijdaaadoor", sum := "58b5d34e57eded556640c941e5c0e081276942414a1d613906ec7a640a5364ac", func := "loop.example/g01043/laws.FnExactUsedShare", spec := "fnExactUsedShare", inPlace := ["internal/bytealg.IndexByteString", "internal/bytealg.IndexString", "internal/bytealg.CountString"], unfollowed := true, recurses := true, named := ["unicode/utf8.first", "unicode/utf8.acceptRanges", "internal/bytealg.MaxLen"], apart := false, laid := [("unicode/utf8.acceptRanges", laid_unicode_utf8_acceptRanges), ("unicode/utf8.first", laid_unicode_utf8_first)], narrowed := true }
def FnExactUsedShareUptoSaid : Prop := fnExactUsedShareUptoRow.holds Tryd.pinned (OpenSpec.upto fnExactUsedShareSpec)

end Rows
end Go.Proofs.YtiibhejjeijdaaaDoor
