/-
  DERIVED. GIVEN WITH THE SEED: THE CARDS: each row of YtabkdonplmlbcaaGreatDoorRows.lean that lists a variable, with what it lists TIED to the program's text (the seventh form; the later family's looks); each row that meets fmt, with fmt's text TOLD by the authors' own Lean function (tested against real Go, not proved from fmt's source: count such statements apart). THE CARD IS WHAT COUNTS. Prove the row's statement (the work); the ties are given (YtabkdonplmlbcaaGreatDoorTie.lean); close each card by the builder's one call (the guide's Derived/Test/ToyasCard.lean, 'card_holds'). Laid BY PROGRAM, IN A SANDBOX (cutbox-door.mjs). By AI agents, Wed Nov 11 2026. No macro, syntax, notation, axiom, sorry.
-/
import Derived.Test.YtabkdonplmlbcaaGreatDoorRows
import GoSem.ClaimSeven
namespace Go.Proofs.YtabkdonplmlbcaaGreatDoor
namespace Rows

/-- THE TIED CARD OF 'laws.FnExactEnglishToStep'. -/
def fnExactEnglishToStepCard : Claim7 := { stood := { row := fnExactEnglishToStepRow, standIns := [], harness := (true, "9a334b231aae8434a96b1e69e27bdbb861ec8dabec196fbd052ecf8bc8866c01"), looks := true }, kinds := [], alts := [], laidByText := true, laidKinds := [.data, .data, .data, .data, .sentinel, .sentinel, .pinned], laidTests := true, laidLooks := .later }
def FnExactEnglishToStepCardSaid : Prop := Claim7.holds Tryz.pinned (.plain (OpenSpec.ofChange fnExactEnglishToStepSpec)) fnExactEnglishToStepCard

/-- THE SECOND FORM's CARD OF 'laws.FnExactEnglishToStep'. -/
def fnExactEnglishToStepUptoCard : Claim7 := { stood := { row := fnExactEnglishToStepUptoRow, standIns := [], harness := (true, "9a334b231aae8434a96b1e69e27bdbb861ec8dabec196fbd052ecf8bc8866c01"), looks := true }, kinds := [], alts := [], laidByText := true, laidKinds := [.data, .data, .data, .data, .sentinel, .sentinel, .pinned], laidTests := true, laidLooks := .later }
def FnExactEnglishToStepUptoCardSaid : Prop := Claim7.holds Tryz.pinned (.plain (OpenSpec.upto fnExactEnglishToStepSpec)) fnExactEnglishToStepUptoCard
end Rows
end Go.Proofs.YtabkdonplmlbcaaGreatDoor
