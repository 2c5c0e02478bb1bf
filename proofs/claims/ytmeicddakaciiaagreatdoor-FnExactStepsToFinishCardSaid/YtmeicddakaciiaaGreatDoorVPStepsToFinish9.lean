/- The row's closed facts. -/
import Derived.Test.YtmeicddakaciiaaGreatDoorVPStepsToFinish8
namespace Go.Proofs.YtmeicddakaciiaaGreatDoor.fnExactStepsToFinish
open Go.Proofs.YtmeicddakaciiaaGreatDoor
open Go.D Go.Proofs.Tryz
set_option maxRecDepth 100000
set_option maxHeartbeats 2000000
set_option linter.unusedVariables false
set_option linter.unusedSimpArgs false
section
open Go.ChangeShapes Go.WideShapes Go.ChangeAt Go.RowKit
set_option maxHeartbeats 0 in
theorem closed:joinedFacts Tryz.prog 6 Tryz.f6 Rows.fnExactStepsToFinishSpec Rows.fnExactStepsToFinishRow=true:=by
 unfold joinedFacts;refine(Em (Em (Em (Em (Em (Em (Em (Em (Em (Em (Em (Em (Em (Em (Em (Em (Em (Em (Em (Em (Em (Em (Em (Em (Em (Em (Em (Em (Em (Em (Em ?_ ?_) ?_) ?_) ?_) ?_) ?_) ?_) ?_) ?_) ?_) ?_) ?_) ?_) ?_) ?_) ?_) ?_) ?_) ?_) ?_) ?_) ?_) ?_) ?_) ?_) ?_) ?_) ?_) ?_) ?_) ?_);all_goals decide +kernel
end
end Go.Proofs.YtmeicddakaciiaaGreatDoor.fnExactStepsToFinish
