/-
  Contracts of functions that the law of FnExactRightUses reaches, part 9.
-/
import Derived.Test.YtfklkhgmgglloaaGreatDoorVPRightUses8
namespace Go.Proofs.YtfklkhgmgglloaaGreatDoor.fnRightUses
open Go.Proofs.YtfklkhgmgglloaaGreatDoor
open Go.D Go.Proofs.Tryz
set_option maxRecDepth 100000
set_option maxHeartbeats 2000000
set_option linter.defProp false
set_option linter.unusedVariables false
set_option linter.unusedSimpArgs false
section
open Go.ChangeShapes Go.WideShapes Go.ChangeAt Go.RowKit
set_option maxHeartbeats 0 in
theorem closed:joinedFacts Tryz.prog 3 Tryz.f3 Rows.fnRightUsesSpec Rows.fnRightUsesRow=true:=by
 unfold joinedFacts;refine(DR (DR (DR (DR (DR (DR (DR (DR (DR (DR (DR (DR (DR (DR (DR (DR (DR (DR (DR (DR (DR (DR (DR (DR (DR (DR (DR (DR (DR (DR (DR ?_ ?_) ?_) ?_) ?_) ?_) ?_) ?_) ?_) ?_) ?_) ?_) ?_) ?_) ?_) ?_) ?_) ?_) ?_) ?_) ?_) ?_) ?_) ?_) ?_) ?_) ?_) ?_) ?_) ?_) ?_) ?_);all_goals decide +kernel
end
end Go.Proofs.YtfklkhgmgglloaaGreatDoor.fnRightUses
