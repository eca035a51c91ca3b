/-
  No cell of these rows narrows 'for every input' (looked for: loops, veiled, ifaces, maps, wideKeys, modest, calm, conditions, laid).
  DERIVED. THE GIVEN ROWS OF THIS SEAT. 4 by the template 'for every input the law returns true; each argument reads behind the call as it read before'; 0 by the template 'total and deterministic' (their statements: YtimpkjiglioflaaGreatTotals.lean).
  GIVEN WITH THE SEED: the statements are not yours to turn. If you find one false, say at which input.
  Laid BY PROGRAM, IN A SANDBOX (cutbox-rows.mjs): the forced cells as the released guide's own fill.sh prints them over the translation b064263a0bd1502a… (all of the seat's roots in one cut). By AI agents, Wed Nov 11 2026. No macro, syntax, notation, axiom, sorry.
-/
import Derived.Test.YtimpkjiglioflaaGreatChecked
import GoSem.Claim
import GoSem.ClaimJoined
import GoSem.ClaimMapViews
import Derived.JoinedTies
import Derived.KernelRfl
namespace Go.Proofs.YtimpkjiglioflaaGreat
/- THE CELL 'sum', in the pinned program and in every row, IS THE sha256 OF THE DUMP (.gsa) THAT YtimpkjiglioflaaGreatProg.lean LOADS. Nothing in Lean hashes anything: it is a label: what it is worth is what the hold of that sum in a sandbox is worth. -/
noncomputable def Tryz.pinned : Pinned := { name := "ytimpkjiglioflaagreat", sum := "b064263a0bd1502a6eda43bef1658901f10fd7adb5bf7161748a1ee8f561d259", checked := Tryz.checked }
namespace Rows
def none {H : Type} : Left H := { results := [], args := [] }

/-- 'laws.FnExactIsValidLibrary': WHATEVER THE INPUT: true; the input reads as it did. -/
def fnExactIsValidLibrarySpec : ChangeSpec := { name := "fnExactIsValidLibrary", fn := fun _ => fun
  | [d] => { results := [.lit (.bool true)], args := [d] }
  | _ => none }
def fnExactIsValidLibraryRow : OpenClaim := { program := "ytimpkjiglioflaagreat", sum := "b064263a0bd1502a6eda43bef1658901f10fd7adb5bf7161748a1ee8f561d259", func := "loop.example/g00892/laws.FnExactIsValidLibrary", spec := "fnExactIsValidLibrary", inPlace := ["internal/abi.NoEscape", "internal/bytealg.MakeNoZero"], unfollowed := true, recurses := true, apart := false }
def FnExactIsValidLibrarySaid : Prop := fnExactIsValidLibraryRow.holds Tryz.pinned (OpenSpec.ofChange fnExactIsValidLibrarySpec)

/-- ITS FALSE NEIGHBOUR: 'it returns false'. Refute it at one input. -/
def fnExactIsValidLibraryWrong : ChangeSpec := { name := "fnExactIsValidLibrary", fn := fun _ => fun
  | [d] => { results := [.lit (.bool false)], args := [d] }
  | _ => none }
def FnExactIsValidLibraryWrongFalsely : Prop := fnExactIsValidLibraryRow.holds Tryz.pinned (OpenSpec.ofChange fnExactIsValidLibraryWrong)

/-- 'laws.FnExactLoadOrder': WHATEVER THE INPUT: true; the input reads as it did. -/
def fnExactLoadOrderSpec : ChangeSpec := { name := "fnExactLoadOrder", fn := fun _ => fun
  | [d] => { results := [.lit (.bool true)], args := [d] }
  | _ => none }
def fnExactLoadOrderRow : OpenClaim := { program := "ytimpkjiglioflaagreat", sum := "b064263a0bd1502a6eda43bef1658901f10fd7adb5bf7161748a1ee8f561d259", func := "loop.example/g00892/laws.FnExactLoadOrder", spec := "fnExactLoadOrder", inPlace := ["internal/abi.NoEscape", "internal/bytealg.MakeNoZero"], unfollowed := true, recurses := true, apart := false }
def FnExactLoadOrderSaid : Prop := fnExactLoadOrderRow.holds Tryz.pinned (OpenSpec.ofChange fnExactLoadOrderSpec)

/-- ITS FALSE NEIGHBOUR: 'it returns false'. Refute it at one input. -/
def fnExactLoadOrderWrong : ChangeSpec := { name := "fnExactLoadOrder", fn := fun _ => fun
  | [d] => { results := [.lit (.bool false)], args := [d] }
  | _ => none }
def FnExactLoadOrderWrongFalsely : Prop := fnExactLoadOrderRow.holds Tryz.pinned (OpenSpec.ofChange fnExactLoadOrderWrong)

/-- 'laws.FnExactVisibleAxioms': WHATEVER THE INPUT: true; the input reads as it did. -/
def fnExactVisibleAxiomsSpec : ChangeSpec := { name := "fnExactVisibleAxioms", fn := fun _ => fun
  | [d1, d2] => { results := [.lit (.bool true)], args := [d1, d2] }
  | _ => none }
def fnExactVisibleAxiomsRow : OpenClaim := { program := "ytimpkjiglioflaagreat", sum := "b064263a0bd1502a6eda43bef1658901f10fd7adb5bf7161748a1ee8f561d259", func := "loop.example/g00892/laws.FnExactVisibleAxioms", spec := "fnExactVisibleAxioms", inPlace := ["internal/abi.NoEscape", "internal/bytealg.MakeNoZero"], unfollowed := true, recurses := true, apart := false }
def FnExactVisibleAxiomsSaid : Prop := fnExactVisibleAxiomsRow.holds Tryz.pinned (OpenSpec.ofChange fnExactVisibleAxiomsSpec)

/-- ITS FALSE NEIGHBOUR: 'it returns false'. Refute it at one input. -/
def fnExactVisibleAxiomsWrong : ChangeSpec := { name := "fnExactVisibleAxioms", fn := fun _ => fun
  | [d1, d2] => { results := [.lit (.bool false)], args := [d1, d2] }
  | _ => none }
def FnExactVisibleAxiomsWrongFalsely : Prop := fnExactVisibleAxiomsRow.holds Tryz.pinned (OpenSpec.ofChange fnExactVisibleAxiomsWrong)

/-- 'laws.FnExactRenameUnit': WHATEVER THE INPUT: true; the input reads as it did. -/
def fnExactRenameUnitSpec : ChangeSpec := { name := "fnExactRenameUnit", fn := fun _ => fun
  | [d1, d2, d3] => { results := [.lit (.bool true)], args := [d1, d2, d3] }
  | _ => none }
def fnExactRenameUnitRow : OpenClaim := { program := "ytimpkjiglioflaagreat", sum := "b064263a0bd1502a6eda43bef1658901f10fd7adb5bf7161748a1ee8f561d259", func := "loop.example/g00892/laws.FnExactRenameUnit", spec := "fnExactRenameUnit", inPlace := ["internal/abi.NoEscape", "internal/bytealg.MakeNoZero"], unfollowed := true, recurses := true, apart := false }
def FnExactRenameUnitSaid : Prop := fnExactRenameUnitRow.holds Tryz.pinned (OpenSpec.ofChange fnExactRenameUnitSpec)

/-- ITS FALSE NEIGHBOUR: 'it returns false'. Refute it at one input. -/
def fnExactRenameUnitWrong : ChangeSpec := { name := "fnExactRenameUnit", fn := fun _ => fun
  | [d1, d2, d3] => { results := [.lit (.bool false)], args := [d1, d2, d3] }
  | _ => none }
def FnExactRenameUnitWrongFalsely : Prop := fnExactRenameUnitRow.holds Tryz.pinned (OpenSpec.ofChange fnExactRenameUnitWrong)

/- THE SECOND FORM. 'bulk': how many values and letters a reading holds, each counted each time it is reached (what is shared counts as often as it is met; a slice's spare places count too). A statement '..UptoSaid' is the law's where the arguments, and the package variables that the reading takes, are together of bulk at most 1048576: NARROWER than '..Said'. Prove '..Said' where nothing that the law and all that it calls make is longer than what came in: it says more and counts as full. Else prove '..UptoSaid'. A law counts once. -/
mutual
def uptoBulk {H : Type} : DataW H → Nat
  | .lit (.string bytes) => bytes.length + 1
  | .lit _ => 1
  | .nil => 1
  | .ptr d => uptoBulk d + 1
  | .slice elems spare => uptoBulkAll elems + uptoBulkAll spare + 1
  | .agg parts => uptoBulkAll parts + 1
  | .iface _ d => uptoBulk d + 1
  | .map entries => uptoBulkEntries entries + 1
  | .held _ => 1
def uptoBulkAll {H : Type} : List (DataW H) → Nat
  | [] => 0
  | d :: r => uptoBulk d + uptoBulkAll r
def uptoBulkEntries {H : Type} : List (Lit × DataW H) → Nat
  | [] => 0
  | x :: r => uptoBulkEntry x + uptoBulkEntries r
def uptoBulkEntry {H : Type} : Lit × DataW H → Nat
  | (.string bytes, d) => bytes.length + uptoBulk d + 1
  | (_, d) => uptoBulk d + 1
 end
def uptoSmall : (H : Type) → List (DataW H) → Bool := fun _ ds => decide (uptoBulkAll ds ≤ 1048576)
def OpenSpec.upto (s : _root_.Go.ChangeSpec) : _root_.Go.OpenSpec := { _root_.Go.OpenSpec.ofChange s with cond := some uptoSmall }

/-- 'laws.FnExactIsValidLibrary', WHERE WHAT IT READS IS OF BULK AT MOST 1048576: true; the input reads as it did. -/
def fnExactIsValidLibraryUptoRow : OpenClaim := { program := "ytimpkjiglioflaagreat", sum := "b064263a0bd1502a6eda43bef1658901f10fd7adb5bf7161748a1ee8f561d259", func := "loop.example/g00892/laws.FnExactIsValidLibrary", spec := "fnExactIsValidLibrary", inPlace := ["internal/abi.NoEscape", "internal/bytealg.MakeNoZero"], unfollowed := true, recurses := true, apart := false, narrowed := true }
def FnExactIsValidLibraryUptoSaid : Prop := fnExactIsValidLibraryUptoRow.holds Tryz.pinned (OpenSpec.upto fnExactIsValidLibrarySpec)

/-- 'laws.FnExactLoadOrder', WHERE WHAT IT READS IS OF BULK AT MOST 1048576: true; the input reads as it did. -/
def fnExactLoadOrderUptoRow : OpenClaim := { program := "ytimpkjiglioflaagreat", sum := "b064263a0bd1502a6eda43bef1658901f10fd7adb5bf7161748a1ee8f561d259", func := "loop.example/g00892/laws.FnExactLoadOrder", spec := "fnExactLoadOrder", inPlace := ["internal/abi.NoEscape", "internal/bytealg.MakeNoZero"], unfollowed := true, recurses := true, apart := false, narrowed := true }
def FnExactLoadOrderUptoSaid : Prop := fnExactLoadOrderUptoRow.holds Tryz.pinned (OpenSpec.upto fnExactLoadOrderSpec)

/-- 'laws.FnExactVisibleAxioms', WHERE WHAT IT READS IS OF BULK AT MOST 1048576: true; the input reads as it did. -/
def fnExactVisibleAxiomsUptoRow : OpenClaim := { program := "ytimpkjiglioflaagreat", sum := "b064263a0bd1502a6eda43bef1658901f10fd7adb5bf7161748a1ee8f561d259", func := "loop.example/g00892/laws.FnExactVisibleAxioms", spec := "fnExactVisibleAxioms", inPlace := ["internal/abi.NoEscape", "internal/bytealg.MakeNoZero"], unfollowed := true, recurses := true, apart := false, narrowed := true }
def FnExactVisibleAxiomsUptoSaid : Prop := fnExactVisibleAxiomsUptoRow.holds Tryz.pinned (OpenSpec.upto fnExactVisibleAxiomsSpec)

/-- 'laws.FnExactRenameUnit', WHERE WHAT IT READS IS OF BULK AT MOST 1048576: true; the input reads as it did. -/
def fnExactRenameUnitUptoRow : OpenClaim := { program := "ytimpkjiglioflaagreat", sum := "b064263a0bd1502a6eda43bef1658901f10fd7adb5bf7161748a1ee8f561d259", func := "loop.example/g00892/laws.FnExactRenameUnit", spec := "fnExactRenameUnit", inPlace := ["internal/abi.NoEscape", "internal/bytealg.MakeNoZero"], unfollowed := true, recurses := true, apart := false, narrowed := true }
def FnExactRenameUnitUptoSaid : Prop := fnExactRenameUnitUptoRow.holds Tryz.pinned (OpenSpec.upto fnExactRenameUnitSpec)

end Rows
end Go.Proofs.YtimpkjiglioflaaGreat
