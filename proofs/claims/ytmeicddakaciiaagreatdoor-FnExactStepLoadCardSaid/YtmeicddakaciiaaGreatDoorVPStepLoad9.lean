/- The row's closed facts. -/
import Derived.Test.YtmeicddakaciiaaGreatDoorVPStepLoad8
namespace Go.Proofs.YtmeicddakaciiaaGreatDoor.fnExactStepLoad
open Go.Proofs.YtmeicddakaciiaaGreatDoor
open Go.D Go.Proofs.Tryz
set_option maxRecDepth 100000
set_option maxHeartbeats 2000000
set_option linter.unusedVariables false
set_option linter.unusedSimpArgs false
section
open Go.ChangeShapes Go.WideShapes Go.ChangeAt Go.RowKit
set_option maxHeartbeats 0 in
theorem closed:joinedFacts Tryz.prog 4 Tryz.f4 Rows.fnExactStepLoadSpec Rows.fnExactStepLoadRow=true:=by
 unfold joinedFacts;refine(Es (Es (Es (Es (Es (Es (Es (Es (Es (Es (Es (Es (Es (Es (Es (Es (Es (Es (Es (Es (Es (Es (Es (Es (Es (Es (Es (Es (Es (Es (Es ?_ ?_) ?_) ?_) ?_) ?_) ?_) ?_) ?_) ?_) ?_) ?_) ?_) ?_) ?_) ?_) ?_) ?_) ?_) ?_) ?_) ?_) ?_) ?_) ?_) ?_) ?_) ?_) ?_) ?_) ?_) ?_);all_goals decide +kernel
end
end Go.Proofs.YtmeicddakaciiaaGreatDoor.fnExactStepLoad
