/-
  DERIVED. GIVEN WITH THE SEED: THE CARDS: each row of YtccooffhmjgjfaaGreatDoorRows.lean that lists a variable, with what it lists TIED to the program's text (the seventh form; the later family's looks); each row that meets fmt, with fmt's text TOLD by the authors' own Lean function (tested against real Go, not proved from fmt's source: count such statements apart). THE CARD IS WHAT COUNTS. Prove the row's statement (the work); the ties are given (YtccooffhmjgjfaaGreatDoorTie.lean); close each card by the builder's one call (the guide's Derived/Test/ToyasCard.lean, 'card_holds'). Laid BY PROGRAM, IN A SANDBOX (cutbox-door.mjs). By AI agents, Wed Nov 11 2026. No macro, syntax, notation, axiom, sorry.
-/
import Derived.Test.YtccooffhmjgjfaaGreatDoorRows
import GoSem.ClaimSeven
namespace Go.Proofs.YtccooffhmjgjfaaGreatDoor
namespace Rows

/-- THE TIED CARD OF 'laws.FnExactGuessNext'. -/
def fnExactGuessNextCard : Claim7 := { stood := { row := fnExactGuessNextRow, standIns := [], harness := (true, "92fc9a3dfac32c44edbb900c3e5d269f4aefd00080e442c8af46fd4619099a11"), looks := false }, kinds := [], alts := [], laidByText := true, laidKinds := [.data, .pinned], laidTests := true, laidLooks := .later }
def FnExactGuessNextCardSaid : Prop := Claim7.holds Tryz.pinned (.plain (OpenSpec.ofChange fnExactGuessNextSpec)) fnExactGuessNextCard

/-- THE SECOND FORM's CARD OF 'laws.FnExactGuessNext'. -/
def fnExactGuessNextUptoCard : Claim7 := { stood := { row := fnExactGuessNextUptoRow, standIns := [], harness := (true, "92fc9a3dfac32c44edbb900c3e5d269f4aefd00080e442c8af46fd4619099a11"), looks := false }, kinds := [], alts := [], laidByText := true, laidKinds := [.data, .pinned], laidTests := true, laidLooks := .later }
def FnExactGuessNextUptoCardSaid : Prop := Claim7.holds Tryz.pinned (.plain (OpenSpec.upto fnExactGuessNextSpec)) fnExactGuessNextUptoCard
end Rows
end Go.Proofs.YtccooffhmjgjfaaGreatDoor
