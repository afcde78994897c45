/-
  DERIVED. GIVEN WITH THE SEED: THE CARDS: each row of YtldcffonfidbcaaGreatDoorRows.lean that lists a variable, with what it lists TIED to the program's text (the seventh form; the later family's looks); each row that meets fmt, with fmt's text TOLD by the authors' own Lean function (tested against real Go, not proved from fmt's source: count such statements apart). THE CARD IS WHAT COUNTS. Prove the row's statement (the work); the ties are given (YtldcffonfidbcaaGreatDoorTie.lean); close each card by the builder's one call (the guide's Derived/Test/ToyasCard.lean, 'card_holds'). Laid BY PROGRAM, IN A SANDBOX (cutbox-door.mjs). By AI agents, Wed Nov 11 2026. No macro, syntax, notation, axiom, sorry.
-/
import Derived.Test.YtldcffonfidbcaaGreatDoorRows
import GoSem.ClaimSeven
namespace Go.Proofs.YtldcffonfidbcaaGreatDoor
namespace Rows

/-- THE TIED CARD OF 'emenderlaw24.HistoryBack'. -/
def historyBackCard : Claim7 := { stood := { row := historyBackRow, standIns := [], harness := (true, "f3db7878af242e0d7b33d79b2aacc892f6df8f0d5d4d3d5cca1a1e323d9b10d3"), looks := true }, kinds := [], alts := [], laidByText := true, laidKinds := [.handle], laidTests := true, laidLooks := .later }
def HistoryBackCardSaid : Prop := Claim7.holds Tryz.pinned (.plain (OpenSpec.ofChange historyBackSpec)) historyBackCard

/-- THE TIED CARD OF 'emenderlaw24.HistoryTyped'. -/
def historyTypedCard : Claim7 := { stood := { row := historyTypedRow, standIns := [], harness := (true, "f3db7878af242e0d7b33d79b2aacc892f6df8f0d5d4d3d5cca1a1e323d9b10d3"), looks := true }, kinds := [], alts := [], laidByText := true, laidKinds := [.handle], laidTests := true, laidLooks := .later }
def HistoryTypedCardSaid : Prop := Claim7.holds Tryz.pinned (.plain (OpenSpec.ofChange historyTypedSpec)) historyTypedCard

/-- THE TIED CARD OF 'emenderlaw24.HistoryValid'. -/
def historyValidCard : Claim7 := { stood := { row := historyValidRow, standIns := [], harness := (true, "f3db7878af242e0d7b33d79b2aacc892f6df8f0d5d4d3d5cca1a1e323d9b10d3"), looks := true }, kinds := [], alts := [], laidByText := true, laidKinds := [.handle], laidTests := true, laidLooks := .later }
def HistoryValidCardSaid : Prop := Claim7.holds Tryz.pinned (.plain (OpenSpec.ofChange historyValidSpec)) historyValidCard

/-- THE TIED CARD OF 'emenderlaw24.HistoryPlays'. -/
def historyPlaysCard : Claim7 := { stood := { row := historyPlaysRow, standIns := [], harness := (true, "f3db7878af242e0d7b33d79b2aacc892f6df8f0d5d4d3d5cca1a1e323d9b10d3"), looks := true }, kinds := [], alts := [], laidByText := true, laidKinds := [.handle], laidTests := true, laidLooks := .later }
def HistoryPlaysCardSaid : Prop := Claim7.holds Tryz.pinned (.plain (OpenSpec.ofChange historyPlaysSpec)) historyPlaysCard

/-- THE SECOND FORM's CARD OF 'emenderlaw24.HistoryBack'. -/
def historyBackUptoCard : Claim7 := { stood := { row := historyBackUptoRow, standIns := [], harness := (true, "f3db7878af242e0d7b33d79b2aacc892f6df8f0d5d4d3d5cca1a1e323d9b10d3"), looks := true }, kinds := [], alts := [], laidByText := true, laidKinds := [.handle], laidTests := true, laidLooks := .later }
def HistoryBackUptoCardSaid : Prop := Claim7.holds Tryz.pinned (.plain (OpenSpec.upto historyBackSpec)) historyBackUptoCard

/-- THE SECOND FORM's CARD OF 'emenderlaw24.HistoryTyped'. -/
def historyTypedUptoCard : Claim7 := { stood := { row := historyTypedUptoRow, standIns := [], harness := (true, "f3db7878af242e0d7b33d79b2aacc892f6df8f0d5d4d3d5cca1a1e323d9b10d3"), looks := true }, kinds := [], alts := [], laidByText := true, laidKinds := [.handle], laidTests := true, laidLooks := .later }
def HistoryTypedUptoCardSaid : Prop := Claim7.holds Tryz.pinned (.plain (OpenSpec.upto historyTypedSpec)) historyTypedUptoCard

/-- THE SECOND FORM's CARD OF 'emenderlaw24.HistoryValid'. -/
def historyValidUptoCard : Claim7 := { stood := { row := historyValidUptoRow, standIns := [], harness := (true, "f3db7878af242e0d7b33d79b2aacc892f6df8f0d5d4d3d5cca1a1e323d9b10d3"), looks := true }, kinds := [], alts := [], laidByText := true, laidKinds := [.handle], laidTests := true, laidLooks := .later }
def HistoryValidUptoCardSaid : Prop := Claim7.holds Tryz.pinned (.plain (OpenSpec.upto historyValidSpec)) historyValidUptoCard

/-- THE SECOND FORM's CARD OF 'emenderlaw24.HistoryPlays'. -/
def historyPlaysUptoCard : Claim7 := { stood := { row := historyPlaysUptoRow, standIns := [], harness := (true, "f3db7878af242e0d7b33d79b2aacc892f6df8f0d5d4d3d5cca1a1e323d9b10d3"), looks := true }, kinds := [], alts := [], laidByText := true, laidKinds := [.handle], laidTests := true, laidLooks := .later }
def HistoryPlaysUptoCardSaid : Prop := Claim7.holds Tryz.pinned (.plain (OpenSpec.upto historyPlaysSpec)) historyPlaysUptoCard
end Rows
end Go.Proofs.YtldcffonfidbcaaGreatDoor
