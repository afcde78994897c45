/-
  DERIVED. GIVEN WITH THE SEED: THE CARDS: each row of YtiapjnpkalpapaaGreatDoorRows.lean that lists a variable, with what it lists TIED to the program's text (the seventh form; the later family's looks); each row that meets fmt, with fmt's text TOLD by the authors' own Lean function (tested against real Go, not proved from fmt's source: count such statements apart). THE CARD IS WHAT COUNTS. Prove the row's statement (the work); the ties are given (YtiapjnpkalpapaaGreatDoorTie.lean); close each card by the builder's one call (the guide's Derived/Test/ToyasCard.lean, 'card_holds'). Laid BY PROGRAM, IN A SANDBOX (cutbox-door.mjs). By AI agents, Wed Nov 11 2026. No macro, syntax, notation, axiom, sorry.
-/
import Derived.Test.YtiapjnpkalpapaaGreatDoorRows
import GoSem.ClaimSeven
namespace Go.Proofs.YtiapjnpkalpapaaGreatDoor
namespace Rows

/-- THE TIED CARD OF 'emenderlaw21.WorldZero'. -/
def worldZeroCard : Claim7 := { stood := { row := worldZeroRow, standIns := [], harness := (true, "f3470b8773444bc766a4822ee128d7f19f25162084d691c0898c8749919aae64"), looks := true }, kinds := [], alts := [], laidByText := true, laidKinds := [.handle], laidTests := true, laidLooks := .later }
def WorldZeroCardSaid : Prop := Claim7.holds Tryz.pinned (.plain (OpenSpec.ofChange worldZeroSpec)) worldZeroCard

/-- THE TIED CARD OF 'emenderlaw33.RoomZero'. -/
def roomZeroCard : Claim7 := { stood := { row := roomZeroRow, standIns := [], harness := (true, "f3470b8773444bc766a4822ee128d7f19f25162084d691c0898c8749919aae64"), looks := true }, kinds := [], alts := [], laidByText := true, laidKinds := [.handle], laidTests := true, laidLooks := .later }
def RoomZeroCardSaid : Prop := Claim7.holds Tryz.pinned (.plain (OpenSpec.ofChange roomZeroSpec)) roomZeroCard

/-- THE SECOND FORM's CARD OF 'emenderlaw21.WorldZero'. -/
def worldZeroUptoCard : Claim7 := { stood := { row := worldZeroUptoRow, standIns := [], harness := (true, "f3470b8773444bc766a4822ee128d7f19f25162084d691c0898c8749919aae64"), looks := true }, kinds := [], alts := [], laidByText := true, laidKinds := [.handle], laidTests := true, laidLooks := .later }
def WorldZeroUptoCardSaid : Prop := Claim7.holds Tryz.pinned (.plain (OpenSpec.upto worldZeroSpec)) worldZeroUptoCard

/-- THE SECOND FORM's CARD OF 'emenderlaw33.RoomZero'. -/
def roomZeroUptoCard : Claim7 := { stood := { row := roomZeroUptoRow, standIns := [], harness := (true, "f3470b8773444bc766a4822ee128d7f19f25162084d691c0898c8749919aae64"), looks := true }, kinds := [], alts := [], laidByText := true, laidKinds := [.handle], laidTests := true, laidLooks := .later }
def RoomZeroUptoCardSaid : Prop := Claim7.holds Tryz.pinned (.plain (OpenSpec.upto roomZeroSpec)) roomZeroUptoCard
end Rows
end Go.Proofs.YtiapjnpkalpapaaGreatDoor
