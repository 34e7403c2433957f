/-
  DERIVED. GIVEN WITH THE SEED: THE CARDS: each row of YtgghjieeckkpbaaDoorRows.lean that lists a variable, with what it lists TIED to the program's text (the seventh form; the later family's looks); each row that meets fmt, with fmt's text TOLD by the authors' own Lean function (tested against real Go, not proved from fmt's source: count such statements apart). THE CARD IS WHAT COUNTS. Prove the row's statement (the work); the ties are given (YtgghjieeckkpbaaDoorTie.lean); close each card by the builder's one call (the guide's Derived/Test/ToyasCard.lean, 'card_holds'). Laid BY PROGRAM, IN A SANDBOX (cutbox-door.mjs). By AI agents, Wed Nov 11 2026. No macro, syntax, notation, axiom, sorry.
-/
import Derived.Test.YtgghjieeckkpbaaDoorRows
import GoSem.ClaimSeven
namespace Go.Proofs.YtgghjieeckkpbaaDoor
namespace Rows

/-- THE TIED CARD OF 'laws.FnExactOpText'. -/
def fnExactOpTextCard : Claim7 := { stood := { row := fnExactOpTextRow, standIns := [], harness := (true, "b972e1e7f70a10562136dcdcdc13f4cb2f0c45a6effef779f28870d871b1e45d"), looks := false }, kinds := [], alts := [], laidByText := true, laidKinds := [.data, .data, .data], laidTests := true, laidLooks := .later }
def FnExactOpTextCardSaid : Prop := Claim7.holds Tryd.pinned (.plain (OpenSpec.ofChange fnExactOpTextSpec)) fnExactOpTextCard

/-- THE TIED CARD OF 'laws.FnOps'. -/
def fnOpsCard : Claim7 := { stood := { row := fnOpsRow, standIns := [], harness := (true, "b972e1e7f70a10562136dcdcdc13f4cb2f0c45a6effef779f28870d871b1e45d"), looks := false }, kinds := [], alts := [], laidByText := true, laidKinds := [.data, .data, .data], laidTests := true, laidLooks := .later }
def FnOpsCardSaid : Prop := Claim7.holds Tryd.pinned (.plain (OpenSpec.ofChange fnOpsSpec)) fnOpsCard

/-- THE SECOND FORM's CARD OF 'laws.FnExactOpText'. -/
def fnExactOpTextUptoCard : Claim7 := { stood := { row := fnExactOpTextUptoRow, standIns := [], harness := (true, "b972e1e7f70a10562136dcdcdc13f4cb2f0c45a6effef779f28870d871b1e45d"), looks := false }, kinds := [], alts := [], laidByText := true, laidKinds := [.data, .data, .data], laidTests := true, laidLooks := .later }
def FnExactOpTextUptoCardSaid : Prop := Claim7.holds Tryd.pinned (.plain (OpenSpec.upto fnExactOpTextSpec)) fnExactOpTextUptoCard

/-- THE SECOND FORM's CARD OF 'laws.FnOps'. -/
def fnOpsUptoCard : Claim7 := { stood := { row := fnOpsUptoRow, standIns := [], harness := (true, "b972e1e7f70a10562136dcdcdc13f4cb2f0c45a6effef779f28870d871b1e45d"), looks := false }, kinds := [], alts := [], laidByText := true, laidKinds := [.data, .data, .data], laidTests := true, laidLooks := .later }
def FnOpsUptoCardSaid : Prop := Claim7.holds Tryd.pinned (.plain (OpenSpec.upto fnOpsSpec)) fnOpsUptoCard
end Rows
end Go.Proofs.YtgghjieeckkpbaaDoor
