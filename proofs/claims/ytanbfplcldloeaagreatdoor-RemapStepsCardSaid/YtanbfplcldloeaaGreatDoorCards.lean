/-
  DERIVED. GIVEN WITH THE SEED: THE CARDS: each row of YtanbfplcldloeaaGreatDoorRows.lean that lists a variable, with what it lists TIED to the program's text (the seventh form; the later family's looks); each row that meets fmt, with fmt's text TOLD by the authors' own Lean function (tested against real Go, not proved from fmt's source: count such statements apart). THE CARD IS WHAT COUNTS. Prove the row's statement (the work); the ties are given (YtanbfplcldloeaaGreatDoorTie.lean); close each card by the builder's one call (the guide's Derived/Test/ToyasCard.lean, 'card_holds'). Laid BY PROGRAM, IN A SANDBOX (cutbox-door.mjs). By AI agents, Wed Nov 11 2026. No macro, syntax, notation, axiom, sorry.
-/
import Derived.Test.YtanbfplcldloeaaGreatDoorRows
import GoSem.ClaimSeven
namespace Go.Proofs.YtanbfplcldloeaaGreatDoor
namespace Rows

/-- THE TIED CARD OF 'emenderlaw10.RemapSteps'. -/
def remapStepsCard : Claim7 := { stood := { row := remapStepsRow, standIns := [], harness := (true, "a6e4e3272ed1e139740667e76c95d9c2908ddbbe23ae3a738d1b1e7bbe47d0a1"), looks := true }, kinds := [], alts := [], laidByText := true, laidKinds := [.handle], laidTests := true, laidLooks := .later }
def RemapStepsCardSaid : Prop := Claim7.holds Tryz.pinned (.plain (OpenSpec.ofChange remapStepsSpec)) remapStepsCard

/-- THE TIED CARD OF 'emenderlaw10.RemapRebases'. -/
def remapRebasesCard : Claim7 := { stood := { row := remapRebasesRow, standIns := [], harness := (true, "a6e4e3272ed1e139740667e76c95d9c2908ddbbe23ae3a738d1b1e7bbe47d0a1"), looks := true }, kinds := [], alts := [], laidByText := true, laidKinds := [.handle], laidTests := true, laidLooks := .later }
def RemapRebasesCardSaid : Prop := Claim7.holds Tryz.pinned (.plain (OpenSpec.ofChange remapRebasesSpec)) remapRebasesCard

/-- THE TIED CARD OF 'emenderlaw10.RemapFolds'. -/
def remapFoldsCard : Claim7 := { stood := { row := remapFoldsRow, standIns := [], harness := (true, "a6e4e3272ed1e139740667e76c95d9c2908ddbbe23ae3a738d1b1e7bbe47d0a1"), looks := true }, kinds := [], alts := [], laidByText := true, laidKinds := [.handle], laidTests := true, laidLooks := .later }
def RemapFoldsCardSaid : Prop := Claim7.holds Tryz.pinned (.plain (OpenSpec.ofChange remapFoldsSpec)) remapFoldsCard

/-- THE TIED CARD OF 'emenderlaw10.RemapNone'. -/
def remapNoneCard : Claim7 := { stood := { row := remapNoneRow, standIns := [], harness := (true, "a6e4e3272ed1e139740667e76c95d9c2908ddbbe23ae3a738d1b1e7bbe47d0a1"), looks := true }, kinds := [], alts := [], laidByText := true, laidKinds := [.handle], laidTests := true, laidLooks := .later }
def RemapNoneCardSaid : Prop := Claim7.holds Tryz.pinned (.plain (OpenSpec.ofChange remapNoneSpec)) remapNoneCard

/-- THE TIED CARD OF 'emenderlaw10.RemapTexts'. -/
def remapTextsCard : Claim7 := { stood := { row := remapTextsRow, standIns := [], harness := (true, "a6e4e3272ed1e139740667e76c95d9c2908ddbbe23ae3a738d1b1e7bbe47d0a1"), looks := true }, kinds := [], alts := [], laidByText := true, laidKinds := [.handle], laidTests := true, laidLooks := .later }
def RemapTextsCardSaid : Prop := Claim7.holds Tryz.pinned (.plain (OpenSpec.ofChange remapTextsSpec)) remapTextsCard

/-- THE TIED CARD OF 'emenderlaw10.RemapApart'. -/
def remapApartCard : Claim7 := { stood := { row := remapApartRow, standIns := [], harness := (true, "a6e4e3272ed1e139740667e76c95d9c2908ddbbe23ae3a738d1b1e7bbe47d0a1"), looks := true }, kinds := [], alts := [], laidByText := true, laidKinds := [.handle], laidTests := true, laidLooks := .later }
def RemapApartCardSaid : Prop := Claim7.holds Tryz.pinned (.plain (OpenSpec.ofChange remapApartSpec)) remapApartCard

/-- THE SECOND FORM's CARD OF 'emenderlaw10.RemapSteps'. -/
def remapStepsUptoCard : Claim7 := { stood := { row := remapStepsUptoRow, standIns := [], harness := (true, "a6e4e3272ed1e139740667e76c95d9c2908ddbbe23ae3a738d1b1e7bbe47d0a1"), looks := true }, kinds := [], alts := [], laidByText := true, laidKinds := [.handle], laidTests := true, laidLooks := .later }
def RemapStepsUptoCardSaid : Prop := Claim7.holds Tryz.pinned (.plain (OpenSpec.upto remapStepsSpec)) remapStepsUptoCard

/-- THE SECOND FORM's CARD OF 'emenderlaw10.RemapRebases'. -/
def remapRebasesUptoCard : Claim7 := { stood := { row := remapRebasesUptoRow, standIns := [], harness := (true, "a6e4e3272ed1e139740667e76c95d9c2908ddbbe23ae3a738d1b1e7bbe47d0a1"), looks := true }, kinds := [], alts := [], laidByText := true, laidKinds := [.handle], laidTests := true, laidLooks := .later }
def RemapRebasesUptoCardSaid : Prop := Claim7.holds Tryz.pinned (.plain (OpenSpec.upto remapRebasesSpec)) remapRebasesUptoCard

/-- THE SECOND FORM's CARD OF 'emenderlaw10.RemapFolds'. -/
def remapFoldsUptoCard : Claim7 := { stood := { row := remapFoldsUptoRow, standIns := [], harness := (true, "a6e4e3272ed1e139740667e76c95d9c2908ddbbe23ae3a738d1b1e7bbe47d0a1"), looks := true }, kinds := [], alts := [], laidByText := true, laidKinds := [.handle], laidTests := true, laidLooks := .later }
def RemapFoldsUptoCardSaid : Prop := Claim7.holds Tryz.pinned (.plain (OpenSpec.upto remapFoldsSpec)) remapFoldsUptoCard

/-- THE SECOND FORM's CARD OF 'emenderlaw10.RemapNone'. -/
def remapNoneUptoCard : Claim7 := { stood := { row := remapNoneUptoRow, standIns := [], harness := (true, "a6e4e3272ed1e139740667e76c95d9c2908ddbbe23ae3a738d1b1e7bbe47d0a1"), looks := true }, kinds := [], alts := [], laidByText := true, laidKinds := [.handle], laidTests := true, laidLooks := .later }
def RemapNoneUptoCardSaid : Prop := Claim7.holds Tryz.pinned (.plain (OpenSpec.upto remapNoneSpec)) remapNoneUptoCard

/-- THE SECOND FORM's CARD OF 'emenderlaw10.RemapTexts'. -/
def remapTextsUptoCard : Claim7 := { stood := { row := remapTextsUptoRow, standIns := [], harness := (true, "a6e4e3272ed1e139740667e76c95d9c2908ddbbe23ae3a738d1b1e7bbe47d0a1"), looks := true }, kinds := [], alts := [], laidByText := true, laidKinds := [.handle], laidTests := true, laidLooks := .later }
def RemapTextsUptoCardSaid : Prop := Claim7.holds Tryz.pinned (.plain (OpenSpec.upto remapTextsSpec)) remapTextsUptoCard

/-- THE SECOND FORM's CARD OF 'emenderlaw10.RemapApart'. -/
def remapApartUptoCard : Claim7 := { stood := { row := remapApartUptoRow, standIns := [], harness := (true, "a6e4e3272ed1e139740667e76c95d9c2908ddbbe23ae3a738d1b1e7bbe47d0a1"), looks := true }, kinds := [], alts := [], laidByText := true, laidKinds := [.handle], laidTests := true, laidLooks := .later }
def RemapApartUptoCardSaid : Prop := Claim7.holds Tryz.pinned (.plain (OpenSpec.upto remapApartSpec)) remapApartUptoCard
end Rows
end Go.Proofs.YtanbfplcldloeaaGreatDoor
