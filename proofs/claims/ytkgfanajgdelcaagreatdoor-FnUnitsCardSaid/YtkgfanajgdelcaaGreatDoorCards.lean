/-
  DERIVED. GIVEN WITH THE SEED: THE CARDS: each row of YtkgfanajgdelcaaGreatDoorRows.lean that lists a variable, with what it lists TIED to the program's text (the seventh form; the later family's looks); each row that meets fmt, with fmt's text TOLD by the authors' own Lean function (tested against real Go, not proved from fmt's source: count such statements apart). THE CARD IS WHAT COUNTS. Prove the row's statement (the work); the ties are given (YtkgfanajgdelcaaGreatDoorTie.lean); close each card by the builder's one call (the guide's Derived/Test/ToyasCard.lean, 'card_holds'). Laid BY PROGRAM, IN A SANDBOX (cutbox-door.mjs). By AI agents, Wed Nov 11 2026. No macro, syntax, notation, axiom, sorry.
-/
import Derived.Test.YtkgfanajgdelcaaGreatDoorRows
import GoSem.ClaimSeven
namespace Go.Proofs.YtkgfanajgdelcaaGreatDoor
namespace Rows

/-- THE TIED CARD OF 'laws.FnLibraries'. -/
def fnLibrariesCard : Claim7 := { stood := { row := fnLibrariesRow, standIns := [], harness := (true, "84d5159a3d87964f262805ba044b5adbaa679c9c98956df23aba6f56ea096e60"), looks := false }, kinds := [], alts := [], laidByText := true, laidKinds := [.data, .data, .data], laidTests := true, laidLooks := .later }
def FnLibrariesCardSaid : Prop := Claim7.holds Tryz.pinned (.plain (OpenSpec.ofChange fnLibrariesSpec)) fnLibrariesCard

/-- THE TIED CARD OF 'laws.FnDefinitions'. -/
def fnDefinitionsCard : Claim7 := { stood := { row := fnDefinitionsRow, standIns := [], harness := (true, "84d5159a3d87964f262805ba044b5adbaa679c9c98956df23aba6f56ea096e60"), looks := false }, kinds := [], alts := [], laidByText := true, laidKinds := [.data, .data, .data], laidTests := true, laidLooks := .later }
def FnDefinitionsCardSaid : Prop := Claim7.holds Tryz.pinned (.plain (OpenSpec.ofChange fnDefinitionsSpec)) fnDefinitionsCard

/-- THE TIED CARD OF 'laws.FnUnits'. -/
def fnUnitsCard : Claim7 := { stood := { row := fnUnitsRow, standIns := [], harness := (true, "84d5159a3d87964f262805ba044b5adbaa679c9c98956df23aba6f56ea096e60"), looks := false }, kinds := [], alts := [], laidByText := true, laidKinds := [.data, .pinned], laidTests := true, laidLooks := .later }
def FnUnitsCardSaid : Prop := Claim7.holds Tryz.pinned (.plain (OpenSpec.ofChange fnUnitsSpec)) fnUnitsCard

/-- THE SECOND FORM's CARD OF 'laws.FnLibraries'. -/
def fnLibrariesUptoCard : Claim7 := { stood := { row := fnLibrariesUptoRow, standIns := [], harness := (true, "84d5159a3d87964f262805ba044b5adbaa679c9c98956df23aba6f56ea096e60"), looks := false }, kinds := [], alts := [], laidByText := true, laidKinds := [.data, .data, .data], laidTests := true, laidLooks := .later }
def FnLibrariesUptoCardSaid : Prop := Claim7.holds Tryz.pinned (.plain (OpenSpec.upto fnLibrariesSpec)) fnLibrariesUptoCard

/-- THE SECOND FORM's CARD OF 'laws.FnDefinitions'. -/
def fnDefinitionsUptoCard : Claim7 := { stood := { row := fnDefinitionsUptoRow, standIns := [], harness := (true, "84d5159a3d87964f262805ba044b5adbaa679c9c98956df23aba6f56ea096e60"), looks := false }, kinds := [], alts := [], laidByText := true, laidKinds := [.data, .data, .data], laidTests := true, laidLooks := .later }
def FnDefinitionsUptoCardSaid : Prop := Claim7.holds Tryz.pinned (.plain (OpenSpec.upto fnDefinitionsSpec)) fnDefinitionsUptoCard

/-- THE SECOND FORM's CARD OF 'laws.FnUnits'. -/
def fnUnitsUptoCard : Claim7 := { stood := { row := fnUnitsUptoRow, standIns := [], harness := (true, "84d5159a3d87964f262805ba044b5adbaa679c9c98956df23aba6f56ea096e60"), looks := false }, kinds := [], alts := [], laidByText := true, laidKinds := [.data, .pinned], laidTests := true, laidLooks := .later }
def FnUnitsUptoCardSaid : Prop := Claim7.holds Tryz.pinned (.plain (OpenSpec.upto fnUnitsSpec)) fnUnitsUptoCard
end Rows
end Go.Proofs.YtkgfanajgdelcaaGreatDoor
