/-
  DERIVED. GIVEN WITH THE SEED: THE CARDS: each row of YtpmgipgdicaioaaGreatDoorRows.lean that lists a variable, with what it lists TIED to the program's text (the seventh form; the later family's looks); each row that meets fmt, with fmt's text TOLD by the authors' own Lean function (tested against real Go, not proved from fmt's source: count such statements apart). THE CARD IS WHAT COUNTS. Prove the row's statement (the work); the ties are given (YtpmgipgdicaioaaGreatDoorTie.lean); close each card by the builder's one call (the guide's Derived/Test/ToyasCard.lean, 'card_holds'). Laid BY PROGRAM, IN A SANDBOX (cutbox-door.mjs). By AI agents, Wed Nov 11 2026. No macro, syntax, notation, axiom, sorry.
-/
import Derived.Test.YtpmgipgdicaioaaGreatDoorRows
import GoSem.ClaimSeven
namespace Go.Proofs.YtpmgipgdicaioaaGreatDoor
namespace Rows

/-- THE TIED CARD OF 'emenderlaw19.KeeperZero'. -/
def keeperZeroCard : Claim7 := { stood := { row := keeperZeroRow, standIns := [], harness := (true, "a2990d0c3f0e0b084e6b568d55ee20cfae30275767e9f6c0e2172cc2fb1efc2e"), looks := true }, kinds := [], alts := [], laidByText := true, laidKinds := [.handle], laidTests := true, laidLooks := .later }
def KeeperZeroCardSaid : Prop := Claim7.holds Tryz.pinned (.plain (OpenSpec.ofChange keeperZeroSpec)) keeperZeroCard

/-- THE TIED CARD OF 'emenderlaw31.VaultZero'. -/
def vaultZeroCard : Claim7 := { stood := { row := vaultZeroRow, standIns := [], harness := (true, "a2990d0c3f0e0b084e6b568d55ee20cfae30275767e9f6c0e2172cc2fb1efc2e"), looks := true }, kinds := [], alts := [], laidByText := true, laidKinds := [.handle], laidTests := true, laidLooks := .later }
def VaultZeroCardSaid : Prop := Claim7.holds Tryz.pinned (.plain (OpenSpec.ofChange vaultZeroSpec)) vaultZeroCard

/-- THE SECOND FORM's CARD OF 'emenderlaw19.KeeperZero'. -/
def keeperZeroUptoCard : Claim7 := { stood := { row := keeperZeroUptoRow, standIns := [], harness := (true, "a2990d0c3f0e0b084e6b568d55ee20cfae30275767e9f6c0e2172cc2fb1efc2e"), looks := true }, kinds := [], alts := [], laidByText := true, laidKinds := [.handle], laidTests := true, laidLooks := .later }
def KeeperZeroUptoCardSaid : Prop := Claim7.holds Tryz.pinned (.plain (OpenSpec.upto keeperZeroSpec)) keeperZeroUptoCard

/-- THE SECOND FORM's CARD OF 'emenderlaw31.VaultZero'. -/
def vaultZeroUptoCard : Claim7 := { stood := { row := vaultZeroUptoRow, standIns := [], harness := (true, "a2990d0c3f0e0b084e6b568d55ee20cfae30275767e9f6c0e2172cc2fb1efc2e"), looks := true }, kinds := [], alts := [], laidByText := true, laidKinds := [.handle], laidTests := true, laidLooks := .later }
def VaultZeroUptoCardSaid : Prop := Claim7.holds Tryz.pinned (.plain (OpenSpec.upto vaultZeroSpec)) vaultZeroUptoCard
end Rows
end Go.Proofs.YtpmgipgdicaioaaGreatDoor
