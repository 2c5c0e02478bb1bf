/-
  DERIVED. GIVEN WITH THE SEED: THE CARDS: each row of YtjgmhdnhlpckeaaGreatDoorRows.lean that lists a variable, with what it lists TIED to the program's text (the seventh form; the later family's looks); each row that meets fmt, with fmt's text TOLD by the authors' own Lean function (tested against real Go, not proved from fmt's source: count such statements apart). THE CARD IS WHAT COUNTS. Prove the row's statement (the work); the ties are given (YtjgmhdnhlpckeaaGreatDoorTie.lean); close each card by the builder's one call (the guide's Derived/Test/ToyasCard.lean, 'card_holds'). Laid BY PROGRAM, IN A SANDBOX (cutbox-door.mjs). By AI agents, Wed Nov 11 2026. No macro, syntax, notation, axiom, sorry.
-/
import Derived.Test.YtjgmhdnhlpckeaaGreatDoorRows
import GoSem.ClaimSeven
namespace Go.Proofs.YtjgmhdnhlpckeaaGreatDoor
namespace Rows

/-- THE TIED CARD OF 'laws.FnExactTransfer'. -/
def fnExactTransferCard : Claim7 := { stood := { row := fnExactTransferRow, standIns := [], harness := (true, "9a6bec028a22fd11b35c2c54f86102b85ba8d4e0ec2a6ebd57beb61c9fcf0ab5"), looks := true }, kinds := [], alts := [], laidByText := true, laidKinds := [.pinned, .data, .data, .data, .data, .sentinel, .sentinel], laidTests := true, laidLooks := .later }
def FnExactTransferCardSaid : Prop := Claim7.holds Tryz.pinned (.plain (OpenSpec.ofChange fnExactTransferSpec)) fnExactTransferCard

/-- THE TIED CARD OF 'laws.FnExactRequestNext'. -/
def fnExactRequestNextCard : Claim7 := { stood := { row := fnExactRequestNextRow, standIns := [], harness := (true, "9a6bec028a22fd11b35c2c54f86102b85ba8d4e0ec2a6ebd57beb61c9fcf0ab5"), looks := true }, kinds := [], alts := [], laidByText := true, laidKinds := [.pinned, .data, .data, .data, .data, .sentinel, .sentinel], laidTests := true, laidLooks := .later }
def FnExactRequestNextCardSaid : Prop := Claim7.holds Tryz.pinned (.plain (OpenSpec.ofChange fnExactRequestNextSpec)) fnExactRequestNextCard

/-- THE SECOND FORM's CARD OF 'laws.FnExactTransfer'. -/
def fnExactTransferUptoCard : Claim7 := { stood := { row := fnExactTransferUptoRow, standIns := [], harness := (true, "9a6bec028a22fd11b35c2c54f86102b85ba8d4e0ec2a6ebd57beb61c9fcf0ab5"), looks := true }, kinds := [], alts := [], laidByText := true, laidKinds := [.pinned, .data, .data, .data, .data, .sentinel, .sentinel], laidTests := true, laidLooks := .later }
def FnExactTransferUptoCardSaid : Prop := Claim7.holds Tryz.pinned (.plain (OpenSpec.upto fnExactTransferSpec)) fnExactTransferUptoCard

/-- THE SECOND FORM's CARD OF 'laws.FnExactRequestNext'. -/
def fnExactRequestNextUptoCard : Claim7 := { stood := { row := fnExactRequestNextUptoRow, standIns := [], harness := (true, "9a6bec028a22fd11b35c2c54f86102b85ba8d4e0ec2a6ebd57beb61c9fcf0ab5"), looks := true }, kinds := [], alts := [], laidByText := true, laidKinds := [.pinned, .data, .data, .data, .data, .sentinel, .sentinel], laidTests := true, laidLooks := .later }
def FnExactRequestNextUptoCardSaid : Prop := Claim7.holds Tryz.pinned (.plain (OpenSpec.upto fnExactRequestNextSpec)) fnExactRequestNextUptoCard
end Rows
end Go.Proofs.YtjgmhdnhlpckeaaGreatDoor
