/-
  DERIVED. GIVEN WITH THE SEED: THE CARDS: each row of YthdbaflihgkomaaDoorRows.lean that lists a variable, with what it lists TIED to the program's text (the seventh form; the later family's looks); each row that meets fmt, with fmt's text TOLD by the authors' own Lean function (tested against real Go, not proved from fmt's source: count such statements apart). THE CARD IS WHAT COUNTS. Prove the row's statement (the work); the ties are given (YthdbaflihgkomaaDoorTie.lean); close each card by the builder's one call (the guide's Derived/Test/ToyasCard.lean, 'card_holds'). Laid BY PROGRAM, IN A SANDBOX (cutbox-door.mjs). By AI agents, Wed Nov 11 2026. No macro, syntax, notation, axiom, sorry.
-/
import Derived.Test.YthdbaflihgkomaaDoorRows
import GoSem.ClaimSeven
namespace Go.Proofs.YthdbaflihgkomaaDoor
namespace Rows

/-- THE TIED CARD OF 'laws.FnExactBlocksText'. -/
def fnExactBlocksTextCard : Claim7 := { stood := { row := fnExactBlocksTextRow, standIns := [], harness := (true, "f1105c64ac13da499c0e6f673fe1e2ddbaa7f6688b28f856803504795af49d94"), looks := false }, kinds := [], alts := [], laidByText := true, laidKinds := [.data, .data, .data], laidTests := true, laidLooks := .later }
def FnExactBlocksTextCardSaid : Prop := Claim7.holds Tryd.pinned (.plain (OpenSpec.ofChange fnExactBlocksTextSpec)) fnExactBlocksTextCard

/-- THE TIED CARD OF 'laws.FnPlacedBlocks'. -/
def fnPlacedBlocksCard : Claim7 := { stood := { row := fnPlacedBlocksRow, standIns := [], harness := (true, "f1105c64ac13da499c0e6f673fe1e2ddbaa7f6688b28f856803504795af49d94"), looks := false }, kinds := [], alts := [], laidByText := true, laidKinds := [.data, .data, .data], laidTests := true, laidLooks := .later }
def FnPlacedBlocksCardSaid : Prop := Claim7.holds Tryd.pinned (.plain (OpenSpec.ofChange fnPlacedBlocksSpec)) fnPlacedBlocksCard

/-- THE SECOND FORM's CARD OF 'laws.FnExactBlocksText'. -/
def fnExactBlocksTextUptoCard : Claim7 := { stood := { row := fnExactBlocksTextUptoRow, standIns := [], harness := (true, "f1105c64ac13da499c0e6f673fe1e2ddbaa7f6688b28f856803504795af49d94"), looks := false }, kinds := [], alts := [], laidByText := true, laidKinds := [.data, .data, .data], laidTests := true, laidLooks := .later }
def FnExactBlocksTextUptoCardSaid : Prop := Claim7.holds Tryd.pinned (.plain (OpenSpec.upto fnExactBlocksTextSpec)) fnExactBlocksTextUptoCard

/-- THE SECOND FORM's CARD OF 'laws.FnPlacedBlocks'. -/
def fnPlacedBlocksUptoCard : Claim7 := { stood := { row := fnPlacedBlocksUptoRow, standIns := [], harness := (true, "f1105c64ac13da499c0e6f673fe1e2ddbaa7f6688b28f856803504795af49d94"), looks := false }, kinds := [], alts := [], laidByText := true, laidKinds := [.data, .data, .data], laidTests := true, laidLooks := .later }
def FnPlacedBlocksUptoCardSaid : Prop := Claim7.holds Tryd.pinned (.plain (OpenSpec.upto fnPlacedBlocksSpec)) fnPlacedBlocksUptoCard
end Rows
end Go.Proofs.YthdbaflihgkomaaDoor
