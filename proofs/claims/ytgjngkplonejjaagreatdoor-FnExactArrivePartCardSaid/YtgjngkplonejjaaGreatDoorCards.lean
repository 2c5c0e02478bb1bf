/-
  DERIVED. GIVEN WITH THE SEED: THE CARDS: each row of YtgjngkplonejjaaGreatDoorRows.lean that lists a variable, with what it lists TIED to the program's text (the seventh form; the later family's looks); each row that meets fmt, with fmt's text TOLD by the authors' own Lean function (tested against real Go, not proved from fmt's source: count such statements apart). THE CARD IS WHAT COUNTS. Prove the row's statement (the work); the ties are given (YtgjngkplonejjaaGreatDoorTie.lean); close each card by the builder's one call (the guide's Derived/Test/ToyasCard.lean, 'card_holds'). Laid BY PROGRAM, IN A SANDBOX (cutbox-door.mjs). By AI agents, Wed Nov 11 2026. No macro, syntax, notation, axiom, sorry.
-/
import Derived.Test.YtgjngkplonejjaaGreatDoorRows
import GoSem.ClaimSeven
namespace Go.Proofs.YtgjngkplonejjaaGreatDoor
namespace Rows

/-- THE TIED CARD OF 'laws.FnExactArrivePart'. -/
def fnExactArrivePartCard : Claim7 := { stood := { row := fnExactArrivePartRow, standIns := [], harness := (true, "0ccbddd55a0adb04f09a9a4e68a9937b6d9e45e6176a3d7638da62ad105eb70a"), looks := true }, kinds := [], alts := [], laidByText := true, laidKinds := [.data, .data, .data, .data, .sentinel, .sentinel, .pinned], laidTests := true, laidLooks := .later }
def FnExactArrivePartCardSaid : Prop := Claim7.holds Tryz.pinned (.plain (OpenSpec.ofChange fnExactArrivePartSpec)) fnExactArrivePartCard

/-- THE SECOND FORM's CARD OF 'laws.FnExactArrivePart'. -/
def fnExactArrivePartUptoCard : Claim7 := { stood := { row := fnExactArrivePartUptoRow, standIns := [], harness := (true, "0ccbddd55a0adb04f09a9a4e68a9937b6d9e45e6176a3d7638da62ad105eb70a"), looks := true }, kinds := [], alts := [], laidByText := true, laidKinds := [.data, .data, .data, .data, .sentinel, .sentinel, .pinned], laidTests := true, laidLooks := .later }
def FnExactArrivePartUptoCardSaid : Prop := Claim7.holds Tryz.pinned (.plain (OpenSpec.upto fnExactArrivePartSpec)) fnExactArrivePartUptoCard
end Rows
end Go.Proofs.YtgjngkplonejjaaGreatDoor
