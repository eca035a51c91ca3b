/-
  DERIVED. GIVEN WITH THE SEED: THE CARDS: each row of YtimpkjiglioflaaGreatDoorRows.lean that lists a variable, with what it lists TIED to the program's text (the seventh form; the later family's looks); each row that meets fmt, with fmt's text TOLD by the authors' own Lean function (tested against real Go, not proved from fmt's source: count such statements apart). THE CARD IS WHAT COUNTS. Prove the row's statement (the work); the ties are given (YtimpkjiglioflaaGreatDoorTie.lean); close each card by the builder's one call (the guide's Derived/Test/ToyasCard.lean, 'card_holds'). Laid BY PROGRAM, IN A SANDBOX (cutbox-door.mjs). By AI agents, Wed Nov 11 2026. No macro, syntax, notation, axiom, sorry.
-/
import Derived.Test.YtimpkjiglioflaaGreatDoorRows
import GoSem.ClaimSeven
namespace Go.Proofs.YtimpkjiglioflaaGreatDoor
namespace Rows

/-- THE TIED CARD OF 'laws.FnExactParseUnit'. -/
def fnExactParseUnitCard : Claim7 := { stood := { row := fnExactParseUnitRow, standIns := [], harness := (true, "07a0301ad5093c544253a13893ba1d6fe6bf8701d103aba11bbcf4a7959f6cb3"), looks := false }, kinds := [], alts := [], laidByText := true, laidKinds := [.data, .pinned], laidTests := true, laidLooks := .later }
def FnExactParseUnitCardSaid : Prop := Claim7.holds Tryz.pinned (.plain (OpenSpec.ofChange fnExactParseUnitSpec)) fnExactParseUnitCard

/-- THE TIED CARD OF 'laws.FnExactUnitHash'. -/
def fnExactUnitHashCard : Claim7 := { stood := { row := fnExactUnitHashRow, standIns := [], harness := (true, "07a0301ad5093c544253a13893ba1d6fe6bf8701d103aba11bbcf4a7959f6cb3"), looks := false }, kinds := [], alts := [], laidByText := true, laidKinds := [.data, .data, .data], laidTests := true, laidLooks := .later }
def FnExactUnitHashCardSaid : Prop := Claim7.holds Tryz.pinned (.plain (OpenSpec.ofChange fnExactUnitHashSpec)) fnExactUnitHashCard

/-- THE TIED CARD OF 'laws.FnExactStaleUnits'. -/
def fnExactStaleUnitsCard : Claim7 := { stood := { row := fnExactStaleUnitsRow, standIns := [], harness := (true, "07a0301ad5093c544253a13893ba1d6fe6bf8701d103aba11bbcf4a7959f6cb3"), looks := false }, kinds := [], alts := [], laidByText := true, laidKinds := [.data, .data, .data], laidTests := true, laidLooks := .later }
def FnExactStaleUnitsCardSaid : Prop := Claim7.holds Tryz.pinned (.plain (OpenSpec.ofChange fnExactStaleUnitsSpec)) fnExactStaleUnitsCard

/-- THE TIED CARD OF 'laws.FnLibraries'. -/
def fnLibrariesCard : Claim7 := { stood := { row := fnLibrariesRow, standIns := [], harness := (true, "07a0301ad5093c544253a13893ba1d6fe6bf8701d103aba11bbcf4a7959f6cb3"), looks := false }, kinds := [], alts := [], laidByText := true, laidKinds := [.data, .data, .data], laidTests := true, laidLooks := .later }
def FnLibrariesCardSaid : Prop := Claim7.holds Tryz.pinned (.plain (OpenSpec.ofChange fnLibrariesSpec)) fnLibrariesCard

/-- THE TIED CARD OF 'laws.FnUnits'. -/
def fnUnitsCard : Claim7 := { stood := { row := fnUnitsRow, standIns := [], harness := (true, "07a0301ad5093c544253a13893ba1d6fe6bf8701d103aba11bbcf4a7959f6cb3"), looks := false }, kinds := [], alts := [], laidByText := true, laidKinds := [.data, .pinned], laidTests := true, laidLooks := .later }
def FnUnitsCardSaid : Prop := Claim7.holds Tryz.pinned (.plain (OpenSpec.ofChange fnUnitsSpec)) fnUnitsCard

/-- THE SECOND FORM's CARD OF 'laws.FnExactParseUnit'. -/
def fnExactParseUnitUptoCard : Claim7 := { stood := { row := fnExactParseUnitUptoRow, standIns := [], harness := (true, "07a0301ad5093c544253a13893ba1d6fe6bf8701d103aba11bbcf4a7959f6cb3"), looks := false }, kinds := [], alts := [], laidByText := true, laidKinds := [.data, .pinned], laidTests := true, laidLooks := .later }
def FnExactParseUnitUptoCardSaid : Prop := Claim7.holds Tryz.pinned (.plain (OpenSpec.upto fnExactParseUnitSpec)) fnExactParseUnitUptoCard

/-- THE SECOND FORM's CARD OF 'laws.FnExactUnitHash'. -/
def fnExactUnitHashUptoCard : Claim7 := { stood := { row := fnExactUnitHashUptoRow, standIns := [], harness := (true, "07a0301ad5093c544253a13893ba1d6fe6bf8701d103aba11bbcf4a7959f6cb3"), looks := false }, kinds := [], alts := [], laidByText := true, laidKinds := [.data, .data, .data], laidTests := true, laidLooks := .later }
def FnExactUnitHashUptoCardSaid : Prop := Claim7.holds Tryz.pinned (.plain (OpenSpec.upto fnExactUnitHashSpec)) fnExactUnitHashUptoCard

/-- THE SECOND FORM's CARD OF 'laws.FnExactStaleUnits'. -/
def fnExactStaleUnitsUptoCard : Claim7 := { stood := { row := fnExactStaleUnitsUptoRow, standIns := [], harness := (true, "07a0301ad5093c544253a13893ba1d6fe6bf8701d103aba11bbcf4a7959f6cb3"), looks := false }, kinds := [], alts := [], laidByText := true, laidKinds := [.data, .data, .data], laidTests := true, laidLooks := .later }
def FnExactStaleUnitsUptoCardSaid : Prop := Claim7.holds Tryz.pinned (.plain (OpenSpec.upto fnExactStaleUnitsSpec)) fnExactStaleUnitsUptoCard

/-- THE SECOND FORM's CARD OF 'laws.FnLibraries'. -/
def fnLibrariesUptoCard : Claim7 := { stood := { row := fnLibrariesUptoRow, standIns := [], harness := (true, "07a0301ad5093c544253a13893ba1d6fe6bf8701d103aba11bbcf4a7959f6cb3"), looks := false }, kinds := [], alts := [], laidByText := true, laidKinds := [.data, .data, .data], laidTests := true, laidLooks := .later }
def FnLibrariesUptoCardSaid : Prop := Claim7.holds Tryz.pinned (.plain (OpenSpec.upto fnLibrariesSpec)) fnLibrariesUptoCard

/-- THE SECOND FORM's CARD OF 'laws.FnUnits'. -/
def fnUnitsUptoCard : Claim7 := { stood := { row := fnUnitsUptoRow, standIns := [], harness := (true, "07a0301ad5093c544253a13893ba1d6fe6bf8701d103aba11bbcf4a7959f6cb3"), looks := false }, kinds := [], alts := [], laidByText := true, laidKinds := [.data, .pinned], laidTests := true, laidLooks := .later }
def FnUnitsUptoCardSaid : Prop := Claim7.holds Tryz.pinned (.plain (OpenSpec.upto fnUnitsSpec)) fnUnitsUptoCard
end Rows
end Go.Proofs.YtimpkjiglioflaaGreatDoor
