/-
  DERIVED. GIVEN WITH THE SEED: THE CARDS: each row of YthfgghenofpbjaaGreatDoorRows.lean that lists a variable, with what it lists TIED to the program's text (the seventh form; the later family's looks); each row that meets fmt, with fmt's text TOLD by the authors' own Lean function (tested against real Go, not proved from fmt's source: count such statements apart). THE CARD IS WHAT COUNTS. Prove the row's statement (the work); the ties are given (YthfgghenofpbjaaGreatDoorTie.lean); close each card by the builder's one call (the guide's Derived/Test/ToyasCard.lean, 'card_holds'). Laid BY PROGRAM, IN A SANDBOX (cutbox-door.mjs). By AI agents, Wed Nov 11 2026. No macro, syntax, notation, axiom, sorry.
-/
import Derived.Test.YthfgghenofpbjaaGreatDoorRows
import GoSem.ClaimSeven
namespace Go.Proofs.YthfgghenofpbjaaGreatDoor
namespace Rows

/-- THE TIED CARD OF 'cowrielaw12.UtilsMay'. -/
def utilsMayCard : Claim7 := { stood := { row := utilsMayRow, standIns := [], harness := (true, "ad225b1c936d5dc182bd0668ed52496d7cd1f40a76ef5efd3c23968751ee4feb"), looks := true }, kinds := [], alts := [], laidByText := true, laidKinds := [.data, .listed, .data, .pinned], laidTests := true, laidLooks := .later }
def UtilsMayCardSaid : Prop := Claim7.holds Tryz.pinned (.plain (OpenSpec.ofChange utilsMaySpec)) utilsMayCard

/-- THE TIED CARD OF 'cowrielaw12.UtilsFiles'. -/
def utilsFilesCard : Claim7 := { stood := { row := utilsFilesRow, standIns := [], harness := (true, "ad225b1c936d5dc182bd0668ed52496d7cd1f40a76ef5efd3c23968751ee4feb"), looks := true }, kinds := [], alts := [], laidByText := true, laidKinds := [.data, .listed, .data, .pinned], laidTests := true, laidLooks := .later }
def UtilsFilesCardSaid : Prop := Claim7.holds Tryz.pinned (.plain (OpenSpec.ofChange utilsFilesSpec)) utilsFilesCard

/-- THE TIED CARD OF 'cowrielaw12.UtilsPipes'. -/
def utilsPipesCard : Claim7 := { stood := { row := utilsPipesRow, standIns := [], harness := (true, "ad225b1c936d5dc182bd0668ed52496d7cd1f40a76ef5efd3c23968751ee4feb"), looks := true }, kinds := [], alts := [], laidByText := true, laidKinds := [.data, .listed, .data, .pinned], laidTests := true, laidLooks := .later }
def UtilsPipesCardSaid : Prop := Claim7.holds Tryz.pinned (.plain (OpenSpec.ofChange utilsPipesSpec)) utilsPipesCard

/-- THE TIED CARD OF 'cowrielaw12.UtilsNames'. -/
def utilsNamesCard : Claim7 := { stood := { row := utilsNamesRow, standIns := [], harness := (true, "ad225b1c936d5dc182bd0668ed52496d7cd1f40a76ef5efd3c23968751ee4feb"), looks := true }, kinds := [], alts := [], laidByText := true, laidKinds := [.data, .listed, .data, .pinned], laidTests := true, laidLooks := .later }
def UtilsNamesCardSaid : Prop := Claim7.holds Tryz.pinned (.plain (OpenSpec.ofChange utilsNamesSpec)) utilsNamesCard

/-- THE TIED CARD OF 'cowrielaw12.UtilsOwn'. -/
def utilsOwnCard : Claim7 := { stood := { row := utilsOwnRow, standIns := [], harness := (true, "ad225b1c936d5dc182bd0668ed52496d7cd1f40a76ef5efd3c23968751ee4feb"), looks := true }, kinds := [], alts := [], laidByText := true, laidKinds := [.data, .listed, .data, .pinned], laidTests := true, laidLooks := .later }
def UtilsOwnCardSaid : Prop := Claim7.holds Tryz.pinned (.plain (OpenSpec.ofChange utilsOwnSpec)) utilsOwnCard

/-- THE SECOND FORM's CARD OF 'cowrielaw12.UtilsMay'. -/
def utilsMayUptoCard : Claim7 := { stood := { row := utilsMayUptoRow, standIns := [], harness := (true, "ad225b1c936d5dc182bd0668ed52496d7cd1f40a76ef5efd3c23968751ee4feb"), looks := true }, kinds := [], alts := [], laidByText := true, laidKinds := [.data, .listed, .data, .pinned], laidTests := true, laidLooks := .later }
def UtilsMayUptoCardSaid : Prop := Claim7.holds Tryz.pinned (.plain (OpenSpec.upto utilsMaySpec)) utilsMayUptoCard

/-- THE SECOND FORM's CARD OF 'cowrielaw12.UtilsFiles'. -/
def utilsFilesUptoCard : Claim7 := { stood := { row := utilsFilesUptoRow, standIns := [], harness := (true, "ad225b1c936d5dc182bd0668ed52496d7cd1f40a76ef5efd3c23968751ee4feb"), looks := true }, kinds := [], alts := [], laidByText := true, laidKinds := [.data, .listed, .data, .pinned], laidTests := true, laidLooks := .later }
def UtilsFilesUptoCardSaid : Prop := Claim7.holds Tryz.pinned (.plain (OpenSpec.upto utilsFilesSpec)) utilsFilesUptoCard

/-- THE SECOND FORM's CARD OF 'cowrielaw12.UtilsPipes'. -/
def utilsPipesUptoCard : Claim7 := { stood := { row := utilsPipesUptoRow, standIns := [], harness := (true, "ad225b1c936d5dc182bd0668ed52496d7cd1f40a76ef5efd3c23968751ee4feb"), looks := true }, kinds := [], alts := [], laidByText := true, laidKinds := [.data, .listed, .data, .pinned], laidTests := true, laidLooks := .later }
def UtilsPipesUptoCardSaid : Prop := Claim7.holds Tryz.pinned (.plain (OpenSpec.upto utilsPipesSpec)) utilsPipesUptoCard

/-- THE SECOND FORM's CARD OF 'cowrielaw12.UtilsNames'. -/
def utilsNamesUptoCard : Claim7 := { stood := { row := utilsNamesUptoRow, standIns := [], harness := (true, "ad225b1c936d5dc182bd0668ed52496d7cd1f40a76ef5efd3c23968751ee4feb"), looks := true }, kinds := [], alts := [], laidByText := true, laidKinds := [.data, .listed, .data, .pinned], laidTests := true, laidLooks := .later }
def UtilsNamesUptoCardSaid : Prop := Claim7.holds Tryz.pinned (.plain (OpenSpec.upto utilsNamesSpec)) utilsNamesUptoCard

/-- THE SECOND FORM's CARD OF 'cowrielaw12.UtilsOwn'. -/
def utilsOwnUptoCard : Claim7 := { stood := { row := utilsOwnUptoRow, standIns := [], harness := (true, "ad225b1c936d5dc182bd0668ed52496d7cd1f40a76ef5efd3c23968751ee4feb"), looks := true }, kinds := [], alts := [], laidByText := true, laidKinds := [.data, .listed, .data, .pinned], laidTests := true, laidLooks := .later }
def UtilsOwnUptoCardSaid : Prop := Claim7.holds Tryz.pinned (.plain (OpenSpec.upto utilsOwnSpec)) utilsOwnUptoCard
end Rows
end Go.Proofs.YthfgghenofpbjaaGreatDoor
