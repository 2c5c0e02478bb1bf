/-
  DERIVED. GIVEN WITH THE SEED: THE CARDS: each row of YthpiiodbmkjmjaaGreatDoorRows.lean that lists a variable, with what it lists TIED to the program's text (the seventh form; the later family's looks); each row that meets fmt, with fmt's text TOLD by the authors' own Lean function (tested against real Go, not proved from fmt's source: count such statements apart). THE CARD IS WHAT COUNTS. Prove the row's statement (the work); the ties are given (YthpiiodbmkjmjaaGreatDoorTie.lean); close each card by the builder's one call (the guide's Derived/Test/ToyasCard.lean, 'card_holds'). Laid BY PROGRAM, IN A SANDBOX (cutbox-door.mjs). By AI agents, Wed Nov 11 2026. No macro, syntax, notation, axiom, sorry.
-/
import Derived.Test.YthpiiodbmkjmjaaGreatDoorRows
import GoSem.ClaimSeven
namespace Go.Proofs.YthpiiodbmkjmjaaGreatDoor
namespace Rows

/-- THE TIED CARD OF 'laws.FnActions'. -/
def fnActionsCard : Claim7 := { stood := { row := fnActionsRow, standIns := [], harness := (true, "c46f00f4deb4c48173a0043831ff1d0a930ff038ae23e559e976318dff1d6b38"), looks := true }, kinds := [], alts := [], laidByText := true, laidKinds := [.pinned, .data, .sentinel, .sentinel, .data, .data, .data], laidTests := true, laidLooks := .later }
def FnActionsCardSaid : Prop := Claim7.holds Tryz.pinned (.plain (OpenSpec.ofChange fnActionsSpec)) fnActionsCard

/-- THE TIED CARD OF 'laws.FnThrifty'. -/
def fnThriftyCard : Claim7 := { stood := { row := fnThriftyRow, standIns := [], harness := (true, "c46f00f4deb4c48173a0043831ff1d0a930ff038ae23e559e976318dff1d6b38"), looks := true }, kinds := [], alts := [], laidByText := true, laidKinds := [.pinned, .data, .sentinel, .sentinel, .data, .data, .data], laidTests := true, laidLooks := .later }
def FnThriftyCardSaid : Prop := Claim7.holds Tryz.pinned (.plain (OpenSpec.ofChange fnThriftySpec)) fnThriftyCard

/-- THE SECOND FORM's CARD OF 'laws.FnActions'. -/
def fnActionsUptoCard : Claim7 := { stood := { row := fnActionsUptoRow, standIns := [], harness := (true, "c46f00f4deb4c48173a0043831ff1d0a930ff038ae23e559e976318dff1d6b38"), looks := true }, kinds := [], alts := [], laidByText := true, laidKinds := [.pinned, .data, .sentinel, .sentinel, .data, .data, .data], laidTests := true, laidLooks := .later }
def FnActionsUptoCardSaid : Prop := Claim7.holds Tryz.pinned (.plain (OpenSpec.upto fnActionsSpec)) fnActionsUptoCard

/-- THE SECOND FORM's CARD OF 'laws.FnThrifty'. -/
def fnThriftyUptoCard : Claim7 := { stood := { row := fnThriftyUptoRow, standIns := [], harness := (true, "c46f00f4deb4c48173a0043831ff1d0a930ff038ae23e559e976318dff1d6b38"), looks := true }, kinds := [], alts := [], laidByText := true, laidKinds := [.pinned, .data, .sentinel, .sentinel, .data, .data, .data], laidTests := true, laidLooks := .later }
def FnThriftyUptoCardSaid : Prop := Claim7.holds Tryz.pinned (.plain (OpenSpec.upto fnThriftySpec)) fnThriftyUptoCard
end Rows
end Go.Proofs.YthpiiodbmkjmjaaGreatDoor
