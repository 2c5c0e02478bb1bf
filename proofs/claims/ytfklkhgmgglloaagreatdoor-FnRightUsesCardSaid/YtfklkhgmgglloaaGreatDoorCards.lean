/-
  DERIVED. GIVEN WITH THE SEED: THE CARDS: each row of YtfklkhgmgglloaaGreatDoorRows.lean that lists a variable, with what it lists TIED to the program's text (the seventh form; the later family's looks); each row that meets fmt, with fmt's text TOLD by the authors' own Lean function (tested against real Go, not proved from fmt's source: count such statements apart). THE CARD IS WHAT COUNTS. Prove the row's statement (the work); the ties are given (YtfklkhgmgglloaaGreatDoorTie.lean); close each card by the builder's one call (the guide's Derived/Test/ToyasCard.lean, 'card_holds'). Laid BY PROGRAM, IN A SANDBOX (cutbox-door.mjs). By AI agents, Wed Nov 11 2026. No macro, syntax, notation, axiom, sorry.
-/
import Derived.Test.YtfklkhgmgglloaaGreatDoorRows
import GoSem.ClaimSeven
namespace Go.Proofs.YtfklkhgmgglloaaGreatDoor
namespace Rows

/-- THE TIED CARD OF 'laws.FnRightUses'. -/
def fnRightUsesCard : Claim7 := { stood := { row := fnRightUsesRow, standIns := [], harness := (true, "11484434f922c7d7daf77ed4e25e96ee48d64557c9702343510b4e044ddf174c"), looks := false }, kinds := [], alts := [], laidByText := true, laidKinds := [.data, .data, .data, .data, .pinned], laidTests := true, laidLooks := .later }
def FnRightUsesCardSaid : Prop := Claim7.holds Tryz.pinned (.plain (OpenSpec.ofChange fnRightUsesSpec)) fnRightUsesCard

/-- THE SECOND FORM's CARD OF 'laws.FnRightUses'. -/
def fnRightUsesUptoCard : Claim7 := { stood := { row := fnRightUsesUptoRow, standIns := [], harness := (true, "11484434f922c7d7daf77ed4e25e96ee48d64557c9702343510b4e044ddf174c"), looks := false }, kinds := [], alts := [], laidByText := true, laidKinds := [.data, .data, .data, .data, .pinned], laidTests := true, laidLooks := .later }
def FnRightUsesUptoCardSaid : Prop := Claim7.holds Tryz.pinned (.plain (OpenSpec.upto fnRightUsesSpec)) fnRightUsesUptoCard
end Rows
end Go.Proofs.YtfklkhgmgglloaaGreatDoor
