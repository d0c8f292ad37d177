/-
  DERIVED. GIVEN WITH THE SEED: THE CARDS: each row of YtkldimaoafgolaaDoorRows.lean that lists a variable, with what it lists TIED to the program's text (the seventh form; the later family's looks); each row that meets fmt, with fmt's text TOLD by the authors' own Lean function (tested against real Go, not proved from fmt's source: count such statements apart). THE CARD IS WHAT COUNTS. Prove the row's statement (the work); the ties are given (YtkldimaoafgolaaDoorTie.lean); close each card by the builder's one call (the guide's Derived/Test/ToyasCard.lean, 'card_holds'). Laid BY PROGRAM, IN A SANDBOX (cutbox-door.mjs). By AI agents, Wed Nov 11 2026. No macro, syntax, notation, axiom, sorry.
-/
import Derived.Test.YtkldimaoafgolaaDoorRows
import GoSem.ClaimSeven
namespace Go.Proofs.YtkldimaoafgolaaDoor
namespace Rows

/-- THE TIED CARD OF 'tidewrightlaw02.RowValid'. -/
def rowValidCard : Claim7 := { stood := { row := rowValidRow, standIns := [], harness := (true, "718b1419d89d877ad68b123b3d69cc057d85fc9f6f5952b1d13b39a922ff2b17"), looks := true }, kinds := [], alts := [], laidByText := true, laidKinds := [.data, .data, .data], laidTests := true, laidLooks := .later }
def RowValidCardSaid : Prop := Claim7.holds Tryd.pinned (.plain (OpenSpec.ofChange rowValidSpec)) rowValidCard

/-- THE TIED CARD OF 'tidewrightlaw02.RowPicks'. -/
def rowPicksCard : Claim7 := { stood := { row := rowPicksRow, standIns := [], harness := (true, "718b1419d89d877ad68b123b3d69cc057d85fc9f6f5952b1d13b39a922ff2b17"), looks := true }, kinds := [], alts := [], laidByText := true, laidKinds := [.data, .data, .data], laidTests := true, laidLooks := .later }
def RowPicksCardSaid : Prop := Claim7.holds Tryd.pinned (.plain (OpenSpec.ofChange rowPicksSpec)) rowPicksCard

/-- THE TIED CARD OF 'tidewrightlaw02.RowOrder'. -/
def rowOrderCard : Claim7 := { stood := { row := rowOrderRow, standIns := [], harness := (true, "718b1419d89d877ad68b123b3d69cc057d85fc9f6f5952b1d13b39a922ff2b17"), looks := true }, kinds := [], alts := [], laidByText := true, laidKinds := [.data, .data, .data], laidTests := true, laidLooks := .later }
def RowOrderCardSaid : Prop := Claim7.holds Tryd.pinned (.plain (OpenSpec.ofChange rowOrderSpec)) rowOrderCard

/-- THE TIED CARD OF 'tidewrightlaw02.RowSchemas'. -/
def rowSchemasCard : Claim7 := { stood := { row := rowSchemasRow, standIns := [], harness := (true, "718b1419d89d877ad68b123b3d69cc057d85fc9f6f5952b1d13b39a922ff2b17"), looks := true }, kinds := [], alts := [], laidByText := true, laidKinds := [.data, .data, .data], laidTests := true, laidLooks := .later }
def RowSchemasCardSaid : Prop := Claim7.holds Tryd.pinned (.plain (OpenSpec.ofChange rowSchemasSpec)) rowSchemasCard

/-- THE TIED CARD OF 'tidewrightlaw02.RowSorts'. -/
def rowSortsCard : Claim7 := { stood := { row := rowSortsRow, standIns := [], harness := (true, "718b1419d89d877ad68b123b3d69cc057d85fc9f6f5952b1d13b39a922ff2b17"), looks := true }, kinds := [], alts := [], laidByText := true, laidKinds := [.data, .data, .data], laidTests := true, laidLooks := .later }
def RowSortsCardSaid : Prop := Claim7.holds Tryd.pinned (.plain (OpenSpec.ofChange rowSortsSpec)) rowSortsCard

/-- THE TIED CARD OF 'tidewrightlaw02.RowSchemaTexts'. -/
def rowSchemaTextsCard : Claim7 := { stood := { row := rowSchemaTextsRow, standIns := [], harness := (true, "718b1419d89d877ad68b123b3d69cc057d85fc9f6f5952b1d13b39a922ff2b17"), looks := true }, kinds := [], alts := [], laidByText := true, laidKinds := [.data, .data, .data, .data, .pinned], laidTests := true, laidLooks := .later }
def RowSchemaTextsCardSaid : Prop := Claim7.holds Tryd.pinned (.plain (OpenSpec.ofChange rowSchemaTextsSpec)) rowSchemaTextsCard

/-- THE TIED CARD OF 'tidewrightlaw02.RowTexts'. -/
def rowTextsCard : Claim7 := { stood := { row := rowTextsRow, standIns := [], harness := (true, "718b1419d89d877ad68b123b3d69cc057d85fc9f6f5952b1d13b39a922ff2b17"), looks := true }, kinds := [], alts := [], laidByText := true, laidKinds := [.data, .data, .data, .sentinel, .sentinel], laidTests := true, laidLooks := .later }
def RowTextsCardSaid : Prop := Claim7.holds Tryd.pinned (.plain (OpenSpec.ofChange rowTextsSpec)) rowTextsCard

/-- THE TIED CARD OF 'tidewrightlaw02.RowReads'. -/
def rowReadsCard : Claim7 := { stood := { row := rowReadsRow, standIns := [], harness := (true, "718b1419d89d877ad68b123b3d69cc057d85fc9f6f5952b1d13b39a922ff2b17"), looks := true }, kinds := [], alts := [], laidByText := true, laidKinds := [.data, .data, .data, .sentinel, .sentinel], laidTests := true, laidLooks := .later }
def RowReadsCardSaid : Prop := Claim7.holds Tryd.pinned (.plain (OpenSpec.ofChange rowReadsSpec)) rowReadsCard

/-- THE SECOND FORM's CARD OF 'tidewrightlaw02.RowValid'. -/
def rowValidUptoCard : Claim7 := { stood := { row := rowValidUptoRow, standIns := [], harness := (true, "718b1419d89d877ad68b123b3d69cc057d85fc9f6f5952b1d13b39a922ff2b17"), looks := true }, kinds := [], alts := [], laidByText := true, laidKinds := [.data, .data, .data], laidTests := true, laidLooks := .later }
def RowValidUptoCardSaid : Prop := Claim7.holds Tryd.pinned (.plain (OpenSpec.upto rowValidSpec)) rowValidUptoCard

/-- THE SECOND FORM's CARD OF 'tidewrightlaw02.RowPicks'. -/
def rowPicksUptoCard : Claim7 := { stood := { row := rowPicksUptoRow, standIns := [], harness := (true, "718b1419d89d877ad68b123b3d69cc057d85fc9f6f5952b1d13b39a922ff2b17"), looks := true }, kinds := [], alts := [], laidByText := true, laidKinds := [.data, .data, .data], laidTests := true, laidLooks := .later }
def RowPicksUptoCardSaid : Prop := Claim7.holds Tryd.pinned (.plain (OpenSpec.upto rowPicksSpec)) rowPicksUptoCard

/-- THE SECOND FORM's CARD OF 'tidewrightlaw02.RowOrder'. -/
def rowOrderUptoCard : Claim7 := { stood := { row := rowOrderUptoRow, standIns := [], harness := (true, "718b1419d89d877ad68b123b3d69cc057d85fc9f6f5952b1d13b39a922ff2b17"), looks := true }, kinds := [], alts := [], laidByText := true, laidKinds := [.data, .data, .data], laidTests := true, laidLooks := .later }
def RowOrderUptoCardSaid : Prop := Claim7.holds Tryd.pinned (.plain (OpenSpec.upto rowOrderSpec)) rowOrderUptoCard

/-- THE SECOND FORM's CARD OF 'tidewrightlaw02.RowSchemas'. -/
def rowSchemasUptoCard : Claim7 := { stood := { row := rowSchemasUptoRow, standIns := [], harness := (true, "718b1419d89d877ad68b123b3d69cc057d85fc9f6f5952b1d13b39a922ff2b17"), looks := true }, kinds := [], alts := [], laidByText := true, laidKinds := [.data, .data, .data], laidTests := true, laidLooks := .later }
def RowSchemasUptoCardSaid : Prop := Claim7.holds Tryd.pinned (.plain (OpenSpec.upto rowSchemasSpec)) rowSchemasUptoCard

/-- THE SECOND FORM's CARD OF 'tidewrightlaw02.RowSorts'. -/
def rowSortsUptoCard : Claim7 := { stood := { row := rowSortsUptoRow, standIns := [], harness := (true, "718b1419d89d877ad68b123b3d69cc057d85fc9f6f5952b1d13b39a922ff2b17"), looks := true }, kinds := [], alts := [], laidByText := true, laidKinds := [.data, .data, .data], laidTests := true, laidLooks := .later }
def RowSortsUptoCardSaid : Prop := Claim7.holds Tryd.pinned (.plain (OpenSpec.upto rowSortsSpec)) rowSortsUptoCard

/-- THE SECOND FORM's CARD OF 'tidewrightlaw02.RowSchemaTexts'. -/
def rowSchemaTextsUptoCard : Claim7 := { stood := { row := rowSchemaTextsUptoRow, standIns := [], harness := (true, "718b1419d89d877ad68b123b3d69cc057d85fc9f6f5952b1d13b39a922ff2b17"), looks := true }, kinds := [], alts := [], laidByText := true, laidKinds := [.data, .data, .data, .data, .pinned], laidTests := true, laidLooks := .later }
def RowSchemaTextsUptoCardSaid : Prop := Claim7.holds Tryd.pinned (.plain (OpenSpec.upto rowSchemaTextsSpec)) rowSchemaTextsUptoCard

/-- THE SECOND FORM's CARD OF 'tidewrightlaw02.RowTexts'. -/
def rowTextsUptoCard : Claim7 := { stood := { row := rowTextsUptoRow, standIns := [], harness := (true, "718b1419d89d877ad68b123b3d69cc057d85fc9f6f5952b1d13b39a922ff2b17"), looks := true }, kinds := [], alts := [], laidByText := true, laidKinds := [.data, .data, .data, .sentinel, .sentinel], laidTests := true, laidLooks := .later }
def RowTextsUptoCardSaid : Prop := Claim7.holds Tryd.pinned (.plain (OpenSpec.upto rowTextsSpec)) rowTextsUptoCard

/-- THE SECOND FORM's CARD OF 'tidewrightlaw02.RowReads'. -/
def rowReadsUptoCard : Claim7 := { stood := { row := rowReadsUptoRow, standIns := [], harness := (true, "718b1419d89d877ad68b123b3d69cc057d85fc9f6f5952b1d13b39a922ff2b17"), looks := true }, kinds := [], alts := [], laidByText := true, laidKinds := [.data, .data, .data, .sentinel, .sentinel], laidTests := true, laidLooks := .later }
def RowReadsUptoCardSaid : Prop := Claim7.holds Tryd.pinned (.plain (OpenSpec.upto rowReadsSpec)) rowReadsUptoCard
end Rows
end Go.Proofs.YtkldimaoafgolaaDoor
