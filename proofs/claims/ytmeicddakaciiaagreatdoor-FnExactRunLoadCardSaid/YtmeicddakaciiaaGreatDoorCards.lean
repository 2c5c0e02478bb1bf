/-
  DERIVED. GIVEN WITH THE SEED: THE CARDS: each row of YtmeicddakaciiaaGreatDoorRows.lean that lists a variable, with what it lists TIED to the program's text (the seventh form; the later family's looks); each row that meets fmt, with fmt's text TOLD by the authors' own Lean function (tested against real Go, not proved from fmt's source: count such statements apart). THE CARD IS WHAT COUNTS. Prove the row's statement (the work); the ties are given (YtmeicddakaciiaaGreatDoorTie.lean); close each card by the builder's one call (the guide's Derived/Test/ToyasCard.lean, 'card_holds'). Laid BY PROGRAM, IN A SANDBOX (cutbox-door.mjs). By AI agents, Wed Nov 11 2026. No macro, syntax, notation, axiom, sorry.
-/
import Derived.Test.YtmeicddakaciiaaGreatDoorRows
import GoSem.ClaimSeven
namespace Go.Proofs.YtmeicddakaciiaaGreatDoor
namespace Rows

/-- THE TIED CARD OF 'laws.FnExactLoadFast'. -/
def fnExactLoadFastCard : Claim7 := { stood := { row := fnExactLoadFastRow, standIns := [], harness := (true, "26ee634addc6cbac71cb8f9493483f0745a5c33240e48dfdf66ca884b3e99941"), looks := true }, kinds := [], alts := [], laidByText := true, laidKinds := [.pinned, .data, .sentinel, .sentinel, .data, .data, .data], laidTests := true, laidLooks := .later }
def FnExactLoadFastCardSaid : Prop := Claim7.holds Tryz.pinned (.plain (OpenSpec.ofChange fnExactLoadFastSpec)) fnExactLoadFastCard

/-- THE TIED CARD OF 'laws.FnExactStepLoad'. -/
def fnExactStepLoadCard : Claim7 := { stood := { row := fnExactStepLoadRow, standIns := [], harness := (true, "26ee634addc6cbac71cb8f9493483f0745a5c33240e48dfdf66ca884b3e99941"), looks := true }, kinds := [], alts := [], laidByText := true, laidKinds := [.pinned, .data, .sentinel, .sentinel, .data, .data, .data], laidTests := true, laidLooks := .later }
def FnExactStepLoadCardSaid : Prop := Claim7.holds Tryz.pinned (.plain (OpenSpec.ofChange fnExactStepLoadSpec)) fnExactStepLoadCard

/-- THE TIED CARD OF 'laws.FnExactRunLoad'. -/
def fnExactRunLoadCard : Claim7 := { stood := { row := fnExactRunLoadRow, standIns := [], harness := (true, "26ee634addc6cbac71cb8f9493483f0745a5c33240e48dfdf66ca884b3e99941"), looks := true }, kinds := [], alts := [], laidByText := true, laidKinds := [.pinned, .data, .sentinel, .sentinel, .data, .data, .data], laidTests := true, laidLooks := .later }
def FnExactRunLoadCardSaid : Prop := Claim7.holds Tryz.pinned (.plain (OpenSpec.ofChange fnExactRunLoadSpec)) fnExactRunLoadCard

/-- THE TIED CARD OF 'laws.FnExactStepsToFinish'. -/
def fnExactStepsToFinishCard : Claim7 := { stood := { row := fnExactStepsToFinishRow, standIns := [], harness := (true, "26ee634addc6cbac71cb8f9493483f0745a5c33240e48dfdf66ca884b3e99941"), looks := true }, kinds := [], alts := [], laidByText := true, laidKinds := [.pinned, .data, .sentinel, .sentinel, .data, .data, .data], laidTests := true, laidLooks := .later }
def FnExactStepsToFinishCardSaid : Prop := Claim7.holds Tryz.pinned (.plain (OpenSpec.ofChange fnExactStepsToFinishSpec)) fnExactStepsToFinishCard

/-- THE SECOND FORM's CARD OF 'laws.FnExactLoadFast'. -/
def fnExactLoadFastUptoCard : Claim7 := { stood := { row := fnExactLoadFastUptoRow, standIns := [], harness := (true, "26ee634addc6cbac71cb8f9493483f0745a5c33240e48dfdf66ca884b3e99941"), looks := true }, kinds := [], alts := [], laidByText := true, laidKinds := [.pinned, .data, .sentinel, .sentinel, .data, .data, .data], laidTests := true, laidLooks := .later }
def FnExactLoadFastUptoCardSaid : Prop := Claim7.holds Tryz.pinned (.plain (OpenSpec.upto fnExactLoadFastSpec)) fnExactLoadFastUptoCard

/-- THE SECOND FORM's CARD OF 'laws.FnExactStepLoad'. -/
def fnExactStepLoadUptoCard : Claim7 := { stood := { row := fnExactStepLoadUptoRow, standIns := [], harness := (true, "26ee634addc6cbac71cb8f9493483f0745a5c33240e48dfdf66ca884b3e99941"), looks := true }, kinds := [], alts := [], laidByText := true, laidKinds := [.pinned, .data, .sentinel, .sentinel, .data, .data, .data], laidTests := true, laidLooks := .later }
def FnExactStepLoadUptoCardSaid : Prop := Claim7.holds Tryz.pinned (.plain (OpenSpec.upto fnExactStepLoadSpec)) fnExactStepLoadUptoCard

/-- THE SECOND FORM's CARD OF 'laws.FnExactRunLoad'. -/
def fnExactRunLoadUptoCard : Claim7 := { stood := { row := fnExactRunLoadUptoRow, standIns := [], harness := (true, "26ee634addc6cbac71cb8f9493483f0745a5c33240e48dfdf66ca884b3e99941"), looks := true }, kinds := [], alts := [], laidByText := true, laidKinds := [.pinned, .data, .sentinel, .sentinel, .data, .data, .data], laidTests := true, laidLooks := .later }
def FnExactRunLoadUptoCardSaid : Prop := Claim7.holds Tryz.pinned (.plain (OpenSpec.upto fnExactRunLoadSpec)) fnExactRunLoadUptoCard

/-- THE SECOND FORM's CARD OF 'laws.FnExactStepsToFinish'. -/
def fnExactStepsToFinishUptoCard : Claim7 := { stood := { row := fnExactStepsToFinishUptoRow, standIns := [], harness := (true, "26ee634addc6cbac71cb8f9493483f0745a5c33240e48dfdf66ca884b3e99941"), looks := true }, kinds := [], alts := [], laidByText := true, laidKinds := [.pinned, .data, .sentinel, .sentinel, .data, .data, .data], laidTests := true, laidLooks := .later }
def FnExactStepsToFinishUptoCardSaid : Prop := Claim7.holds Tryz.pinned (.plain (OpenSpec.upto fnExactStepsToFinishSpec)) fnExactStepsToFinishUptoCard
end Rows
end Go.Proofs.YtmeicddakaciiaaGreatDoor
