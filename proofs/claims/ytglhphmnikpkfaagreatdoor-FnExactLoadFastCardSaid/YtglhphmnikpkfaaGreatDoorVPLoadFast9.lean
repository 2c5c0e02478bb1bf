/- The row's closed facts. -/
import Derived.Test.YtglhphmnikpkfaaGreatDoorVPLoadFast8
namespace Go.Proofs.YtglhphmnikpkfaaGreatDoor.fnExactLoadFast
open Go.Proofs.YtglhphmnikpkfaaGreatDoor
open Go.D Go.Proofs.Tryz
set_option maxRecDepth 100000
set_option maxHeartbeats 2000000
set_option linter.defProp false
set_option linter.unusedVariables false
set_option linter.unusedSimpArgs false
section
open Go.ChangeShapes Go.WideShapes Go.ChangeAt Go.RowKit
set_option maxHeartbeats 0 in
theorem closed:joinedFacts Tryz.prog 3 Tryz.f3 Rows.fnExactLoadFastSpec Rows.fnExactLoadFastRow=true:=by
 unfold joinedFacts;refine(Ez (Ez (Ez (Ez (Ez (Ez (Ez (Ez (Ez (Ez (Ez (Ez (Ez (Ez (Ez (Ez (Ez (Ez (Ez (Ez (Ez (Ez (Ez (Ez (Ez (Ez (Ez (Ez (Ez (Ez (Ez ?_ ?_) ?_) ?_) ?_) ?_) ?_) ?_) ?_) ?_) ?_) ?_) ?_) ?_) ?_) ?_) ?_) ?_) ?_) ?_) ?_) ?_) ?_) ?_) ?_) ?_) ?_) ?_) ?_) ?_) ?_) ?_);all_goals decide +kernel
end
end Go.Proofs.YtglhphmnikpkfaaGreatDoor.fnExactLoadFast
