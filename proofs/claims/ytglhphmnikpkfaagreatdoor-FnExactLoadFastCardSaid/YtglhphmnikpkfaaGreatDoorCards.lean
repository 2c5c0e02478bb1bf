/-
  DERIVED. GIVEN WITH THE SEED: THE CARDS: each row of YtglhphmnikpkfaaGreatDoorRows.lean that lists a variable, with what it lists TIED to the program's text (the seventh form; the later family's looks); each row that meets fmt, with fmt's text TOLD by the authors' own Lean function (tested against real Go, not proved from fmt's source: count such statements apart). THE CARD IS WHAT COUNTS. Prove the row's statement (the work); the ties are given (YtglhphmnikpkfaaGreatDoorTie.lean); close each card by the builder's one call (the guide's Derived/Test/ToyasCard.lean, 'card_holds'). Laid BY PROGRAM, IN A SANDBOX (cutbox-door.mjs). By AI agents, Wed Nov 11 2026. No macro, syntax, notation, axiom, sorry.
-/
import Derived.Test.YtglhphmnikpkfaaGreatDoorRows
import GoSem.ClaimSeven
namespace Go.Proofs.YtglhphmnikpkfaaGreatDoor
namespace Rows

/-- THE TIED CARD OF 'laws.FnExactLoadFast'. -/
def fnExactLoadFastCard : Claim7 := { stood := { row := fnExactLoadFastRow, standIns := [], harness := (true, "73f6b7eb66929a4775c1d27088fa0fda66e1be21f2841915a267c692d613d897"), looks := true }, kinds := [], alts := [], laidByText := true, laidKinds := [.pinned, .data, .sentinel, .sentinel, .data, .data, .data], laidTests := true, laidLooks := .later }
def FnExactLoadFastCardSaid : Prop := Claim7.holds Tryz.pinned (.plain (OpenSpec.ofChange fnExactLoadFastSpec)) fnExactLoadFastCard

/-- THE SECOND FORM's CARD OF 'laws.FnExactLoadFast'. -/
def fnExactLoadFastUptoCard : Claim7 := { stood := { row := fnExactLoadFastUptoRow, standIns := [], harness := (true, "73f6b7eb66929a4775c1d27088fa0fda66e1be21f2841915a267c692d613d897"), looks := true }, kinds := [], alts := [], laidByText := true, laidKinds := [.pinned, .data, .sentinel, .sentinel, .data, .data, .data], laidTests := true, laidLooks := .later }
def FnExactLoadFastUptoCardSaid : Prop := Claim7.holds Tryz.pinned (.plain (OpenSpec.upto fnExactLoadFastSpec)) fnExactLoadFastUptoCard
end Rows
end Go.Proofs.YtglhphmnikpkfaaGreatDoor
