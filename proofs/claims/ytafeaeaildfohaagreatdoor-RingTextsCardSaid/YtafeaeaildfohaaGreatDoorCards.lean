/-
  DERIVED. GIVEN WITH THE SEED: THE CARDS: each row of YtafeaeaildfohaaGreatDoorRows.lean that lists a variable, with what it lists TIED to the program's text (the seventh form; the later family's looks); each row that meets fmt, with fmt's text TOLD by the authors' own Lean function (tested against real Go, not proved from fmt's source: count such statements apart). THE CARD IS WHAT COUNTS. Prove the row's statement (the work); the ties are given (YtafeaeaildfohaaGreatDoorTie.lean); close each card by the builder's one call (the guide's Derived/Test/ToyasCard.lean, 'card_holds'). Laid BY PROGRAM, IN A SANDBOX (cutbox-door.mjs). By AI agents, Wed Nov 11 2026. No macro, syntax, notation, axiom, sorry.
-/
import Derived.Test.YtafeaeaildfohaaGreatDoorRows
import GoSem.ClaimSeven
namespace Go.Proofs.YtafeaeaildfohaaGreatDoor
namespace Rows

/-- THE TIED CARD OF 'tidewrightlaw11.RingTexts'. -/
def ringTextsCard : Claim7 := { stood := { row := ringTextsRow, standIns := [], harness := (true, "06dea6befa58772eb471395545c653e93cb8a0169bad05c07c83abc5f598add4"), looks := false }, kinds := [], alts := [], laidByText := true, laidKinds := [.data, .pinned], laidTests := true, laidLooks := .later }
def RingTextsCardSaid : Prop := Claim7.holds Tryz.pinned (.plain (OpenSpec.ofChange ringTextsSpec)) ringTextsCard

/-- THE SECOND FORM's CARD OF 'tidewrightlaw11.RingTexts'. -/
def ringTextsUptoCard : Claim7 := { stood := { row := ringTextsUptoRow, standIns := [], harness := (true, "06dea6befa58772eb471395545c653e93cb8a0169bad05c07c83abc5f598add4"), looks := false }, kinds := [], alts := [], laidByText := true, laidKinds := [.data, .pinned], laidTests := true, laidLooks := .later }
def RingTextsUptoCardSaid : Prop := Claim7.holds Tryz.pinned (.plain (OpenSpec.upto ringTextsSpec)) ringTextsUptoCard
end Rows
end Go.Proofs.YtafeaeaildfohaaGreatDoor
