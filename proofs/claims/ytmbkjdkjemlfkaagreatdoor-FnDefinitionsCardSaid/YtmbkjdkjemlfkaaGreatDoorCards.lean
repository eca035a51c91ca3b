/-
  DERIVED. GIVEN WITH THE SEED: THE CARDS: each row of YtmbkjdkjemlfkaaGreatDoorRows.lean that lists a variable, with what it lists TIED to the program's text (the seventh form; the later family's looks); each row that meets fmt, with fmt's text TOLD by the authors' own Lean function (tested against real Go, not proved from fmt's source: count such statements apart). THE CARD IS WHAT COUNTS. Prove the row's statement (the work); the ties are given (YtmbkjdkjemlfkaaGreatDoorTie.lean); close each card by the builder's one call (the guide's Derived/Test/ToyasCard.lean, 'card_holds'). Laid BY PROGRAM, IN A SANDBOX (cutbox-door.mjs). By AI agents, Wed Nov 11 2026. No macro, syntax, notation, axiom, sorry.
-/
import Derived.Test.YtmbkjdkjemlfkaaGreatDoorRows
import GoSem.ClaimSeven
namespace Go.Proofs.YtmbkjdkjemlfkaaGreatDoor
namespace Rows

/-- THE TIED CARD OF 'laws.FnDefinitions'. -/
def fnDefinitionsCard : Claim7 := { stood := { row := fnDefinitionsRow, standIns := [], harness := (true, "c7027a47800d8718e167b7189bbb262d8492a22b714a874eb68bdbfcddc08196"), looks := false }, kinds := [], alts := [], laidByText := true, laidKinds := [.data, .data, .data], laidTests := true, laidLooks := .later }
def FnDefinitionsCardSaid : Prop := Claim7.holds Tryz.pinned (.plain (OpenSpec.ofChange fnDefinitionsSpec)) fnDefinitionsCard

/-- THE SECOND FORM's CARD OF 'laws.FnDefinitions'. -/
def fnDefinitionsUptoCard : Claim7 := { stood := { row := fnDefinitionsUptoRow, standIns := [], harness := (true, "c7027a47800d8718e167b7189bbb262d8492a22b714a874eb68bdbfcddc08196"), looks := false }, kinds := [], alts := [], laidByText := true, laidKinds := [.data, .data, .data], laidTests := true, laidLooks := .later }
def FnDefinitionsUptoCardSaid : Prop := Claim7.holds Tryz.pinned (.plain (OpenSpec.upto fnDefinitionsSpec)) fnDefinitionsUptoCard
end Rows
end Go.Proofs.YtmbkjdkjemlfkaaGreatDoor
