/-
  DERIVED. GIVEN WITH THE SEED: THE CARDS: each row of YtolpmdmcbciccaaDoorRows.lean that lists a variable, with what it lists TIED to the program's text (the seventh form; the later family's looks); each row that meets fmt, with fmt's text TOLD by the authors' own Lean function (tested against real Go, not proved from fmt's source: count such statements apart). THE CARD IS WHAT COUNTS. Prove the row's statement (the work); the ties are given (YtolpmdmcbciccaaDoorTie.lean); close each card by the builder's one call (the guide's Derived/Test/ToyasCard.lean, 'card_holds'). Laid BY PROGRAM, IN A SANDBOX (cutbox-door.mjs). By AI agents, Wed Nov 11 2026. No macro, syntax, notation, axiom, sorry.
-/
import Derived.Test.YtolpmdmcbciccaaDoorRows
import GoSem.ClaimSeven
namespace Go.Proofs.YtolpmdmcbciccaaDoor
namespace Rows

/-- THE TIED CARD OF 'samaritanlaw45.SurgeLevel'. -/
def surgeLevelCard : Claim7 := { stood := { row := surgeLevelRow, standIns := [], harness := (true, "78234702a0cbdad6e79645c4088f982d14f4b37458bfff9f9906028201a214e6"), looks := false }, kinds := [], alts := [], laidByText := true, laidKinds := [.data, .data, .data], laidTests := true, laidLooks := .later }
def SurgeLevelCardSaid : Prop := Claim7.holds Tryd.pinned (.plain (OpenSpec.ofChange surgeLevelSpec)) surgeLevelCard

/-- THE TIED CARD OF 'samaritanlaw45.SurgeMonotonic'. -/
def surgeMonotonicCard : Claim7 := { stood := { row := surgeMonotonicRow, standIns := [], harness := (true, "78234702a0cbdad6e79645c4088f982d14f4b37458bfff9f9906028201a214e6"), looks := false }, kinds := [], alts := [], laidByText := true, laidKinds := [.data, .data, .data], laidTests := true, laidLooks := .later }
def SurgeMonotonicCardSaid : Prop := Claim7.holds Tryd.pinned (.plain (OpenSpec.ofChange surgeMonotonicSpec)) surgeMonotonicCard

/-- THE TIED CARD OF 'samaritanlaw45.SurgeValidate'. -/
def surgeValidateCard : Claim7 := { stood := { row := surgeValidateRow, standIns := [], harness := (true, "78234702a0cbdad6e79645c4088f982d14f4b37458bfff9f9906028201a214e6"), looks := false }, kinds := [], alts := [], laidByText := true, laidKinds := [.data, .data, .data], laidTests := true, laidLooks := .later }
def SurgeValidateCardSaid : Prop := Claim7.holds Tryd.pinned (.plain (OpenSpec.ofChange surgeValidateSpec)) surgeValidateCard

/-- THE TIED CARD OF 'samaritanlaw45.SurgeMatchesModel'. -/
def surgeMatchesModelCard : Claim7 := { stood := { row := surgeMatchesModelRow, standIns := [], harness := (true, "78234702a0cbdad6e79645c4088f982d14f4b37458bfff9f9906028201a214e6"), looks := false }, kinds := [], alts := [], laidByText := true, laidKinds := [.data, .data, .data], laidTests := true, laidLooks := .later }
def SurgeMatchesModelCardSaid : Prop := Claim7.holds Tryd.pinned (.plain (OpenSpec.ofChange surgeMatchesModelSpec)) surgeMatchesModelCard

/-- THE TIED CARD OF 'samaritanlaw45.SurgeHysteresis'. -/
def surgeHysteresisCard : Claim7 := { stood := { row := surgeHysteresisRow, standIns := [], harness := (true, "78234702a0cbdad6e79645c4088f982d14f4b37458bfff9f9906028201a214e6"), looks := false }, kinds := [], alts := [], laidByText := true, laidKinds := [.data, .data, .data], laidTests := true, laidLooks := .later }
def SurgeHysteresisCardSaid : Prop := Claim7.holds Tryd.pinned (.plain (OpenSpec.ofChange surgeHysteresisSpec)) surgeHysteresisCard

/-- THE TIED CARD OF 'samaritanlaw45.SurgeDrill'. -/
def surgeDrillCard : Claim7 := { stood := { row := surgeDrillRow, standIns := [], harness := (true, "78234702a0cbdad6e79645c4088f982d14f4b37458bfff9f9906028201a214e6"), looks := false }, kinds := [], alts := [], laidByText := true, laidKinds := [.data, .data, .data], laidTests := true, laidLooks := .later }
def SurgeDrillCardSaid : Prop := Claim7.holds Tryd.pinned (.plain (OpenSpec.ofChange surgeDrillSpec)) surgeDrillCard

/-- THE TIED CARD OF 'samaritanlaw45.SurgeFormat'. -/
def surgeFormatCard : Claim7 := { stood := { row := surgeFormatRow, standIns := [], harness := (true, "78234702a0cbdad6e79645c4088f982d14f4b37458bfff9f9906028201a214e6"), looks := false }, kinds := [], alts := [], laidByText := true, laidKinds := [.data, .data, .data], laidTests := true, laidLooks := .later }
def SurgeFormatCardSaid : Prop := Claim7.holds Tryd.pinned (.plain (OpenSpec.ofChange surgeFormatSpec)) surgeFormatCard

/-- THE TIED CARD OF 'samaritanlaw45.SurgeParse'. -/
def surgeParseCard : Claim7 := { stood := { row := surgeParseRow, standIns := [], harness := (true, "78234702a0cbdad6e79645c4088f982d14f4b37458bfff9f9906028201a214e6"), looks := false }, kinds := [], alts := [], laidByText := true, laidKinds := [.data, .data, .data], laidTests := true, laidLooks := .later }
def SurgeParseCardSaid : Prop := Claim7.holds Tryd.pinned (.plain (OpenSpec.ofChange surgeParseSpec)) surgeParseCard

/-- THE SECOND FORM's CARD OF 'samaritanlaw45.SurgeLevel'. -/
def surgeLevelUptoCard : Claim7 := { stood := { row := surgeLevelUptoRow, standIns := [], harness := (true, "78234702a0cbdad6e79645c4088f982d14f4b37458bfff9f9906028201a214e6"), looks := false }, kinds := [], alts := [], laidByText := true, laidKinds := [.data, .data, .data], laidTests := true, laidLooks := .later }
def SurgeLevelUptoCardSaid : Prop := Claim7.holds Tryd.pinned (.plain (OpenSpec.upto surgeLevelSpec)) surgeLevelUptoCard

/-- THE SECOND FORM's CARD OF 'samaritanlaw45.SurgeMonotonic'. -/
def surgeMonotonicUptoCard : Claim7 := { stood := { row := surgeMonotonicUptoRow, standIns := [], harness := (true, "78234702a0cbdad6e79645c4088f982d14f4b37458bfff9f9906028201a214e6"), looks := false }, kinds := [], alts := [], laidByText := true, laidKinds := [.data, .data, .data], laidTests := true, laidLooks := .later }
def SurgeMonotonicUptoCardSaid : Prop := Claim7.holds Tryd.pinned (.plain (OpenSpec.upto surgeMonotonicSpec)) surgeMonotonicUptoCard

/-- THE SECOND FORM's CARD OF 'samaritanlaw45.SurgeValidate'. -/
def surgeValidateUptoCard : Claim7 := { stood := { row := surgeValidateUptoRow, standIns := [], harness := (true, "78234702a0cbdad6e79645c4088f982d14f4b37458bfff9f9906028201a214e6"), looks := false }, kinds := [], alts := [], laidByText := true, laidKinds := [.data, .data, .data], laidTests := true, laidLooks := .later }
def SurgeValidateUptoCardSaid : Prop := Claim7.holds Tryd.pinned (.plain (OpenSpec.upto surgeValidateSpec)) surgeValidateUptoCard

/-- THE SECOND FORM's CARD OF 'samaritanlaw45.SurgeMatchesModel'. -/
def surgeMatchesModelUptoCard : Claim7 := { stood := { row := surgeMatchesModelUptoRow, standIns := [], harness := (true, "78234702a0cbdad6e79645c4088f982d14f4b37458bfff9f9906028201a214e6"), looks := false }, kinds := [], alts := [], laidByText := true, laidKinds := [.data, .data, .data], laidTests := true, laidLooks := .later }
def SurgeMatchesModelUptoCardSaid : Prop := Claim7.holds Tryd.pinned (.plain (OpenSpec.upto surgeMatchesModelSpec)) surgeMatchesModelUptoCard

/-- THE SECOND FORM's CARD OF 'samaritanlaw45.SurgeHysteresis'. -/
def surgeHysteresisUptoCard : Claim7 := { stood := { row := surgeHysteresisUptoRow, standIns := [], harness := (true, "78234702a0cbdad6e79645c4088f982d14f4b37458bfff9f9906028201a214e6"), looks := false }, kinds := [], alts := [], laidByText := true, laidKinds := [.data, .data, .data], laidTests := true, laidLooks := .later }
def SurgeHysteresisUptoCardSaid : Prop := Claim7.holds Tryd.pinned (.plain (OpenSpec.upto surgeHysteresisSpec)) surgeHysteresisUptoCard

/-- THE SECOND FORM's CARD OF 'samaritanlaw45.SurgeDrill'. -/
def surgeDrillUptoCard : Claim7 := { stood := { row := surgeDrillUptoRow, standIns := [], harness := (true, "78234702a0cbdad6e79645c4088f982d14f4b37458bfff9f9906028201a214e6"), looks := false }, kinds := [], alts := [], laidByText := true, laidKinds := [.data, .data, .data], laidTests := true, laidLooks := .later }
def SurgeDrillUptoCardSaid : Prop := Claim7.holds Tryd.pinned (.plain (OpenSpec.upto surgeDrillSpec)) surgeDrillUptoCard

/-- THE SECOND FORM's CARD OF 'samaritanlaw45.SurgeFormat'. -/
def surgeFormatUptoCard : Claim7 := { stood := { row := surgeFormatUptoRow, standIns := [], harness := (true, "78234702a0cbdad6e79645c4088f982d14f4b37458bfff9f9906028201a214e6"), looks := false }, kinds := [], alts := [], laidByText := true, laidKinds := [.data, .data, .data], laidTests := true, laidLooks := .later }
def SurgeFormatUptoCardSaid : Prop := Claim7.holds Tryd.pinned (.plain (OpenSpec.upto surgeFormatSpec)) surgeFormatUptoCard

/-- THE SECOND FORM's CARD OF 'samaritanlaw45.SurgeParse'. -/
def surgeParseUptoCard : Claim7 := { stood := { row := surgeParseUptoRow, standIns := [], harness := (true, "78234702a0cbdad6e79645c4088f982d14f4b37458bfff9f9906028201a214e6"), looks := false }, kinds := [], alts := [], laidByText := true, laidKinds := [.data, .data, .data], laidTests := true, laidLooks := .later }
def SurgeParseUptoCardSaid : Prop := Claim7.holds Tryd.pinned (.plain (OpenSpec.upto surgeParseSpec)) surgeParseUptoCard
end Rows
end Go.Proofs.YtolpmdmcbciccaaDoor
