/-
  DERIVED. GIVEN WITH THE SEED: THE CARDS: each row of YtbdeibnmmdhohaaGreatDoorRows.lean that lists a variable, with what it lists TIED to the program's text (the seventh form; the later family's looks); each row that meets fmt, with fmt's text TOLD by the authors' own Lean function (tested against real Go, not proved from fmt's source: count such statements apart). THE CARD IS WHAT COUNTS. Prove the row's statement (the work); the ties are given (YtbdeibnmmdhohaaGreatDoorTie.lean); close each card by the builder's one call (the guide's Derived/Test/ToyasCard.lean, 'card_holds'). Laid BY PROGRAM, IN A SANDBOX (cutbox-door.mjs). By AI agents, Wed Nov 11 2026. No macro, syntax, notation, axiom, sorry.
-/
import Derived.Test.YtbdeibnmmdhohaaGreatDoorRows
import GoSem.ClaimSeven
namespace Go.Proofs.YtbdeibnmmdhohaaGreatDoor
namespace Rows

/-- THE TIED CARD OF 'laws.FnExactStartLoad'. -/
def fnExactStartLoadCard : Claim7 := { stood := { row := fnExactStartLoadRow, standIns := [], harness := (true, "2768a17cb93a29f19deac7def855307743be05ced85c49e15669d13b241426d0"), looks := false }, kinds := [], alts := [], laidByText := true, laidKinds := [.data, .pinned], laidTests := true, laidLooks := .later }
def FnExactStartLoadCardSaid : Prop := Claim7.holds Tryz.pinned (.plain (OpenSpec.ofChange fnExactStartLoadSpec)) fnExactStartLoadCard

/-- THE SECOND FORM's CARD OF 'laws.FnExactStartLoad'. -/
def fnExactStartLoadUptoCard : Claim7 := { stood := { row := fnExactStartLoadUptoRow, standIns := [], harness := (true, "2768a17cb93a29f19deac7def855307743be05ced85c49e15669d13b241426d0"), looks := false }, kinds := [], alts := [], laidByText := true, laidKinds := [.data, .pinned], laidTests := true, laidLooks := .later }
def FnExactStartLoadUptoCardSaid : Prop := Claim7.holds Tryz.pinned (.plain (OpenSpec.upto fnExactStartLoadSpec)) fnExactStartLoadUptoCard
end Rows
end Go.Proofs.YtbdeibnmmdhohaaGreatDoor
