/-
  DERIVED. GIVEN WITH THE SEED: THE CARDS: each row of YtnfolemblnnejaaGreatDoorRows.lean that lists a variable, with what it lists TIED to the program's text (the seventh form; the later family's looks); each row that meets fmt, with fmt's text TOLD by the authors' own Lean function (tested against real Go, not proved from fmt's source: count such statements apart). THE CARD IS WHAT COUNTS. Prove the row's statement (the work); the ties are given (YtnfolemblnnejaaGreatDoorTie.lean); close each card by the builder's one call (the guide's Derived/Test/ToyasCard.lean, 'card_holds'). Laid BY PROGRAM, IN A SANDBOX (cutbox-door.mjs). By AI agents, Wed Nov 11 2026. No macro, syntax, notation, axiom, sorry.
-/
import Derived.Test.YtnfolemblnnejaaGreatDoorRows
import GoSem.ClaimSeven
namespace Go.Proofs.YtnfolemblnnejaaGreatDoor
namespace Rows

/-- THE TIED CARD OF 'tidewrightlaw24.VaultNothing'. -/
def vaultNothingCard : Claim7 := { stood := { row := vaultNothingRow, standIns := [], harness := (true, "215ee7b87de8571f951548e008f1c63cecd346f03ee2a0f437d6df9c721522ff"), looks := true }, kinds := [], alts := [], laidByText := true, laidKinds := [.data, .data, .data, .data, .pinned, .pinned, .pinned, .pinned, .pinned, .pinned], laidTests := true, laidLooks := .later }
def VaultNothingCardSaid : Prop := Claim7.holds Tryz.pinned (.plain (OpenSpec.ofChange vaultNothingSpec)) vaultNothingCard

/-- THE TIED CARD OF 'tidewrightlaw24.VaultBack'. -/
def vaultBackCard : Claim7 := { stood := { row := vaultBackRow, standIns := [], harness := (true, "215ee7b87de8571f951548e008f1c63cecd346f03ee2a0f437d6df9c721522ff"), looks := true }, kinds := [], alts := [], laidByText := true, laidKinds := [.data, .data, .data, .data, .sentinel, .sentinel, .pinned, .pinned, .pinned, .pinned, .pinned, .pinned], laidTests := true, laidLooks := .later }
def VaultBackCardSaid : Prop := Claim7.holds Tryz.pinned (.plain (OpenSpec.ofChange vaultBackSpec)) vaultBackCard

/-- THE SECOND FORM's CARD OF 'tidewrightlaw24.VaultNothing'. -/
def vaultNothingUptoCard : Claim7 := { stood := { row := vaultNothingUptoRow, standIns := [], harness := (true, "215ee7b87de8571f951548e008f1c63cecd346f03ee2a0f437d6df9c721522ff"), looks := true }, kinds := [], alts := [], laidByText := true, laidKinds := [.data, .data, .data, .data, .pinned, .pinned, .pinned, .pinned, .pinned, .pinned], laidTests := true, laidLooks := .later }
def VaultNothingUptoCardSaid : Prop := Claim7.holds Tryz.pinned (.plain (OpenSpec.upto vaultNothingSpec)) vaultNothingUptoCard

/-- THE SECOND FORM's CARD OF 'tidewrightlaw24.VaultBack'. -/
def vaultBackUptoCard : Claim7 := { stood := { row := vaultBackUptoRow, standIns := [], harness := (true, "215ee7b87de8571f951548e008f1c63cecd346f03ee2a0f437d6df9c721522ff"), looks := true }, kinds := [], alts := [], laidByText := true, laidKinds := [.data, .data, .data, .data, .sentinel, .sentinel, .pinned, .pinned, .pinned, .pinned, .pinned, .pinned], laidTests := true, laidLooks := .later }
def VaultBackUptoCardSaid : Prop := Claim7.holds Tryz.pinned (.plain (OpenSpec.upto vaultBackSpec)) vaultBackUptoCard
end Rows
end Go.Proofs.YtnfolemblnnejaaGreatDoor
