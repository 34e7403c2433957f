/-
  DERIVED. GIVEN WITH THE SEED: THE CARDS: each row of YtiibhejjeijdaaaDoorRows.lean that lists a variable, with what it lists TIED to the program's text (the seventh form; the later family's looks); each row that meets fmt, with fmt's text TOLD by the authors' own Lean function (tested against real Go, not proved from fmt's source: count such statements apart). THE CARD IS WHAT COUNTS. Prove the row's statement (the work); the ties are given (YtiibhejjeijdaaaDoorTie.lean); close each card by the builder's one call (the guide's Derived/Test/ToyasCard.lean, 'card_holds'). Laid BY PROGRAM, IN A SANDBOX (cutbox-door.mjs). By AI agents, Wed Nov 11 2026. No macro, syntax, notation, axiom, sorry.
-/
import Derived.Test.YtiibhejjeijdaaaDoorRows
import GoSem.ClaimSeven
namespace Go.Proofs.YtiibhejjeijdaaaDoor
namespace Rows

/-- THE TIED CARD OF 'laws.FnExactMirrorHide'. -/
def fnExactMirrorHideCard : Claim7 := { stood := { row := fnExactMirrorHideRow, standIns := [], harness := (true, "5489de91f87394eeae27d9642d8dd03b2024c60aa0e310781e5a0db8f3c476e6"), looks := false }, kinds := [], alts := [], laidByText := true, laidKinds := [.data, .pinned], laidTests := true, laidLooks := .later }
def FnExactMirrorHideCardSaid : Prop := Claim7.holds Tryd.pinned (.plain (OpenSpec.ofChange fnExactMirrorHideSpec)) fnExactMirrorHideCard

/-- THE TIED CARD OF 'laws.FnPlaces'. -/
def fnPlacesCard : Claim7 := { stood := { row := fnPlacesRow, standIns := [], harness := (true, "5489de91f87394eeae27d9642d8dd03b2024c60aa0e310781e5a0db8f3c476e6"), looks := false }, kinds := [], alts := [], laidByText := true, laidKinds := [.data, .pinned], laidTests := true, laidLooks := .later }
def FnPlacesCardSaid : Prop := Claim7.holds Tryd.pinned (.plain (OpenSpec.ofChange fnPlacesSpec)) fnPlacesCard

/-- THE TIED CARD OF 'laws.FnExactLargestCut'. -/
def fnExactLargestCutCard : Claim7 := { stood := { row := fnExactLargestCutRow, standIns := [], harness := (true, "5489de91f87394eeae27d9642d8dd03b2024c60aa0e310781e5a0db8f3c476e6"), looks := false }, kinds := [], alts := [], laidByText := true, laidKinds := [.data, .pinned], laidTests := true, laidLooks := .later }
def FnExactLargestCutCardSaid : Prop := Claim7.holds Tryd.pinned (.plain (OpenSpec.ofChange fnExactLargestCutSpec)) fnExactLargestCutCard

/-- THE TIED CARD OF 'laws.FnExactPlacesOf'. -/
def fnExactPlacesOfCard : Claim7 := { stood := { row := fnExactPlacesOfRow, standIns := [], harness := (true, "5489de91f87394eeae27d9642d8dd03b2024c60aa0e310781e5a0db8f3c476e6"), looks := false }, kinds := [], alts := [], laidByText := true, laidKinds := [.data, .pinned], laidTests := true, laidLooks := .later }
def FnExactPlacesOfCardSaid : Prop := Claim7.holds Tryd.pinned (.plain (OpenSpec.ofChange fnExactPlacesOfSpec)) fnExactPlacesOfCard

/-- THE TIED CARD OF 'laws.FnExactPlanFault'. -/
def fnExactPlanFaultCard : Claim7 := { stood := { row := fnExactPlanFaultRow, standIns := [], harness := (true, "5489de91f87394eeae27d9642d8dd03b2024c60aa0e310781e5a0db8f3c476e6"), looks := false }, kinds := [], alts := [], laidByText := true, laidKinds := [.data, .pinned], laidTests := true, laidLooks := .later }
def FnExactPlanFaultCardSaid : Prop := Claim7.holds Tryd.pinned (.plain (OpenSpec.ofChange fnExactPlanFaultSpec)) fnExactPlanFaultCard

/-- THE TIED CARD OF 'laws.FnExactPlanWorth'. -/
def fnExactPlanWorthCard : Claim7 := { stood := { row := fnExactPlanWorthRow, standIns := [], harness := (true, "5489de91f87394eeae27d9642d8dd03b2024c60aa0e310781e5a0db8f3c476e6"), looks := false }, kinds := [], alts := [], laidByText := true, laidKinds := [.data, .pinned], laidTests := true, laidLooks := .later }
def FnExactPlanWorthCardSaid : Prop := Claim7.holds Tryd.pinned (.plain (OpenSpec.ofChange fnExactPlanWorthSpec)) fnExactPlanWorthCard

/-- THE TIED CARD OF 'laws.FnExactPlanLines'. -/
def fnExactPlanLinesCard : Claim7 := { stood := { row := fnExactPlanLinesRow, standIns := [], harness := (true, "5489de91f87394eeae27d9642d8dd03b2024c60aa0e310781e5a0db8f3c476e6"), looks := false }, kinds := [], alts := [], laidByText := true, laidKinds := [.data, .pinned], laidTests := true, laidLooks := .later }
def FnExactPlanLinesCardSaid : Prop := Claim7.holds Tryd.pinned (.plain (OpenSpec.ofChange fnExactPlanLinesSpec)) fnExactPlanLinesCard

/-- THE TIED CARD OF 'laws.FnExactUsedShare'. -/
def fnExactUsedShareCard : Claim7 := { stood := { row := fnExactUsedShareRow, standIns := [], harness := (true, "5489de91f87394eeae27d9642d8dd03b2024c60aa0e310781e5a0db8f3c476e6"), looks := false }, kinds := [], alts := [], laidByText := true, laidKinds := [.data, .pinned], laidTests := true, laidLooks := .later }
def FnExactUsedShareCardSaid : Prop := Claim7.holds Tryd.pinned (.plain (OpenSpec.ofChange fnExactUsedShareSpec)) fnExactUsedShareCard

/-- THE SECOND FORM's CARD OF 'laws.FnExactMirrorHide'. -/
def fnExactMirrorHideUptoCard : Claim7 := { stood := { row := fnExactMirrorHideUptoRow, standIns := [], harness := (true, "5489de91f87394eeae27d9642d8dd03b2024c60aa0e310781e5a0db8f3c476e6"), looks := false }, kinds := [], alts := [], laidByText := true, laidKinds := [.data, .pinned], laidTests := true, laidLooks := .later }
def FnExactMirrorHideUptoCardSaid : Prop := Claim7.holds Tryd.pinned (.plain (OpenSpec.upto fnExactMirrorHideSpec)) fnExactMirrorHideUptoCard

/-- THE SECOND FORM's CARD OF 'laws.FnPlaces'. -/
def fnPlacesUptoCard : Claim7 := { stood := { row := fnPlacesUptoRow, standIns := [], harness := (true, "5489de91f87394eeae27d9642d8dd03b2024c60aa0e310781e5a0db8f3c476e6"), looks := false }, kinds := [], alts := [], laidByText := true, laidKinds := [.data, .pinned], laidTests := true, laidLooks := .later }
def FnPlacesUptoCardSaid : Prop := Claim7.holds Tryd.pinned (.plain (OpenSpec.upto fnPlacesSpec)) fnPlacesUptoCard

/-- THE SECOND FORM's CARD OF 'laws.FnExactLargestCut'. -/
def fnExactLargestCutUptoCard : Claim7 := { stood := { row := fnExactLargestCutUptoRow, standIns := [], harness := (true, "5489de91f87394eeae27d9642d8dd03b2024c60aa0e310781e5a0db8f3c476e6"), looks := false }, kinds := [], alts := [], laidByText := true, laidKinds := [.data, .pinned], laidTests := true, laidLooks := .later }
def FnExactLargestCutUptoCardSaid : Prop := Claim7.holds Tryd.pinned (.plain (OpenSpec.upto fnExactLargestCutSpec)) fnExactLargestCutUptoCard

/-- THE SECOND FORM's CARD OF 'laws.FnExactPlacesOf'. -/
def fnExactPlacesOfUptoCard : Claim7 := { stood := { row := fnExactPlacesOfUptoRow, standIns := [], harness := (true, "5489de91f87394eeae27d9642d8dd03b2024c60aa0e310781e5a0db8f3c476e6"), looks := false }, kinds := [], alts := [], laidByText := true, laidKinds := [.data, .pinned], laidTests := true, laidLooks := .later }
def FnExactPlacesOfUptoCardSaid : Prop := Claim7.holds Tryd.pinned (.plain (OpenSpec.upto fnExactPlacesOfSpec)) fnExactPlacesOfUptoCard

/-- THE SECOND FORM's CARD OF 'laws.FnExactPlanFault'. -/
def fnExactPlanFaultUptoCard : Claim7 := { stood := { row := fnExactPlanFaultUptoRow, standIns := [], harness := (true, "5489de91f87394eeae27d9642d8dd03b2024c60aa0e310781e5a0db8f3c476e6"), looks := false }, kinds := [], alts := [], laidByText := true, laidKinds := [.data, .pinned], laidTests := true, laidLooks := .later }
def FnExactPlanFaultUptoCardSaid : Prop := Claim7.holds Tryd.pinned (.plain (OpenSpec.upto fnExactPlanFaultSpec)) fnExactPlanFaultUptoCard

/-- THE SECOND FORM's CARD OF 'laws.FnExactPlanWorth'. -/
def fnExactPlanWorthUptoCard : Claim7 := { stood := { row := fnExactPlanWorthUptoRow, standIns := [], harness := (true, "5489de91f87394eeae27d9642d8dd03b2024c60aa0e310781e5a0db8f3c476e6"), looks := false }, kinds := [], alts := [], laidByText := true, laidKinds := [.data, .pinned], laidTests := true, laidLooks := .later }
def FnExactPlanWorthUptoCardSaid : Prop := Claim7.holds Tryd.pinned (.plain (OpenSpec.upto fnExactPlanWorthSpec)) fnExactPlanWorthUptoCard

/-- THE SECOND FORM's CARD OF 'laws.FnExactPlanLines'. -/
def fnExactPlanLinesUptoCard : Claim7 := { stood := { row := fnExactPlanLinesUptoRow, standIns := [], harness := (true, "5489de91f87394eeae27d9642d8dd03b2024c60aa0e310781e5a0db8f3c476e6"), looks := false }, kinds := [], alts := [], laidByText := true, laidKinds := [.data, .pinned], laidTests := true, laidLooks := .later }
def FnExactPlanLinesUptoCardSaid : Prop := Claim7.holds Tryd.pinned (.plain (OpenSpec.upto fnExactPlanLinesSpec)) fnExactPlanLinesUptoCard

/-- THE SECOND FORM's CARD OF 'laws.FnExactUsedShare'. -/
def fnExactUsedShareUptoCard : Claim7 := { stood := { row := fnExactUsedShareUptoRow, standIns := [], harness := (true, "5489de91f87394eeae27d9642d8dd03b2024c60aa0e310781e5a0db8f3c476e6"), looks := false }, kinds := [], alts := [], laidByText := true, laidKinds := [.data, .pinned], laidTests := true, laidLooks := .later }
def FnExactUsedShareUptoCardSaid : Prop := Claim7.holds Tryd.pinned (.plain (OpenSpec.upto fnExactUsedShareSpec)) fnExactUsedShareUptoCard
end Rows
end Go.Proofs.YtiibhejjeijdaaaDoor
