/-
  DERIVED. GIVEN WITH THE SEED: THE CARDS: each row of YtgmffjinggmpaaaGreatDoorRows.lean that lists a variable, with what it lists TIED to the program's text (the seventh form; the later family's looks); each row that meets fmt, with fmt's text TOLD by the authors' own Lean function (tested against real Go, not proved from fmt's source: count such statements apart). THE CARD IS WHAT COUNTS. Prove the row's statement (the work); the ties are given (YtgmffjinggmpaaaGreatDoorTie.lean); close each card by the builder's one call (the guide's Derived/Test/ToyasCard.lean, 'card_holds'). Laid BY PROGRAM, IN A SANDBOX (cutbox-door.mjs). By AI agents, Wed Nov 11 2026. No macro, syntax, notation, axiom, sorry.
-/
import Derived.Test.YtgmffjinggmpaaaGreatDoorRows
import GoSem.ClaimSeven
namespace Go.Proofs.YtgmffjinggmpaaaGreatDoor
namespace Rows

/-- THE TIED CARD OF 'laws.FnExactModuleRight'. -/
def fnExactModuleRightCard : Claim7 := { stood := { row := fnExactModuleRightRow, standIns := [], harness := (true, "9143ca12ca8a407c1a1bbe20a04f3555c4939503102843a7d0236390d5285a07"), looks := false }, kinds := [], alts := [], laidByText := true, laidKinds := [.data, .data, .data, .data, .pinned], laidTests := true, laidLooks := .later }
def FnExactModuleRightCardSaid : Prop := Claim7.holds Tryz.pinned (.plain (OpenSpec.ofChange fnExactModuleRightSpec)) fnExactModuleRightCard

/-- THE TIED CARD OF 'laws.FnExactSlotRight'. -/
def fnExactSlotRightCard : Claim7 := { stood := { row := fnExactSlotRightRow, standIns := [], harness := (true, "9143ca12ca8a407c1a1bbe20a04f3555c4939503102843a7d0236390d5285a07"), looks := false }, kinds := [], alts := [], laidByText := true, laidKinds := [.data, .data, .data, .data, .pinned], laidTests := true, laidLooks := .later }
def FnExactSlotRightCardSaid : Prop := Claim7.holds Tryz.pinned (.plain (OpenSpec.ofChange fnExactSlotRightSpec)) fnExactSlotRightCard

/-- THE TIED CARD OF 'laws.FnExactWrongUses'. -/
def fnExactWrongUsesCard : Claim7 := { stood := { row := fnExactWrongUsesRow, standIns := [], harness := (true, "9143ca12ca8a407c1a1bbe20a04f3555c4939503102843a7d0236390d5285a07"), looks := false }, kinds := [], alts := [], laidByText := true, laidKinds := [.data, .data, .data, .data, .pinned], laidTests := true, laidLooks := .later }
def FnExactWrongUsesCardSaid : Prop := Claim7.holds Tryz.pinned (.plain (OpenSpec.ofChange fnExactWrongUsesSpec)) fnExactWrongUsesCard

/-- THE TIED CARD OF 'laws.FnExactUsesRight'. -/
def fnExactUsesRightCard : Claim7 := { stood := { row := fnExactUsesRightRow, standIns := [], harness := (true, "9143ca12ca8a407c1a1bbe20a04f3555c4939503102843a7d0236390d5285a07"), looks := false }, kinds := [], alts := [], laidByText := true, laidKinds := [.data, .data, .data, .data, .pinned], laidTests := true, laidLooks := .later }
def FnExactUsesRightCardSaid : Prop := Claim7.holds Tryz.pinned (.plain (OpenSpec.ofChange fnExactUsesRightSpec)) fnExactUsesRightCard

/-- THE SECOND FORM's CARD OF 'laws.FnExactModuleRight'. -/
def fnExactModuleRightUptoCard : Claim7 := { stood := { row := fnExactModuleRightUptoRow, standIns := [], harness := (true, "9143ca12ca8a407c1a1bbe20a04f3555c4939503102843a7d0236390d5285a07"), looks := false }, kinds := [], alts := [], laidByText := true, laidKinds := [.data, .data, .data, .data, .pinned], laidTests := true, laidLooks := .later }
def FnExactModuleRightUptoCardSaid : Prop := Claim7.holds Tryz.pinned (.plain (OpenSpec.upto fnExactModuleRightSpec)) fnExactModuleRightUptoCard

/-- THE SECOND FORM's CARD OF 'laws.FnExactSlotRight'. -/
def fnExactSlotRightUptoCard : Claim7 := { stood := { row := fnExactSlotRightUptoRow, standIns := [], harness := (true, "9143ca12ca8a407c1a1bbe20a04f3555c4939503102843a7d0236390d5285a07"), looks := false }, kinds := [], alts := [], laidByText := true, laidKinds := [.data, .data, .data, .data, .pinned], laidTests := true, laidLooks := .later }
def FnExactSlotRightUptoCardSaid : Prop := Claim7.holds Tryz.pinned (.plain (OpenSpec.upto fnExactSlotRightSpec)) fnExactSlotRightUptoCard

/-- THE SECOND FORM's CARD OF 'laws.FnExactWrongUses'. -/
def fnExactWrongUsesUptoCard : Claim7 := { stood := { row := fnExactWrongUsesUptoRow, standIns := [], harness := (true, "9143ca12ca8a407c1a1bbe20a04f3555c4939503102843a7d0236390d5285a07"), looks := false }, kinds := [], alts := [], laidByText := true, laidKinds := [.data, .data, .data, .data, .pinned], laidTests := true, laidLooks := .later }
def FnExactWrongUsesUptoCardSaid : Prop := Claim7.holds Tryz.pinned (.plain (OpenSpec.upto fnExactWrongUsesSpec)) fnExactWrongUsesUptoCard

/-- THE SECOND FORM's CARD OF 'laws.FnExactUsesRight'. -/
def fnExactUsesRightUptoCard : Claim7 := { stood := { row := fnExactUsesRightUptoRow, standIns := [], harness := (true, "9143ca12ca8a407c1a1bbe20a04f3555c4939503102843a7d0236390d5285a07"), looks := false }, kinds := [], alts := [], laidByText := true, laidKinds := [.data, .data, .data, .data, .pinned], laidTests := true, laidLooks := .later }
def FnExactUsesRightUptoCardSaid : Prop := Claim7.holds Tryz.pinned (.plain (OpenSpec.upto fnExactUsesRightSpec)) fnExactUsesRightUptoCard
end Rows
end Go.Proofs.YtgmffjinggmpaaaGreatDoor
