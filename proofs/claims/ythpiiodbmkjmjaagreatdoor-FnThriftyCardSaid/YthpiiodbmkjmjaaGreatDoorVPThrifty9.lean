/- The row's closed facts. -/
import Derived.Test.YthpiiodbmkjmjaaGreatDoorVPThrifty8
namespace Go.Proofs.YthpiiodbmkjmjaaGreatDoor.fnThrifty
open Go.Proofs.YthpiiodbmkjmjaaGreatDoor
open Go.D Go.Proofs.Tryz
set_option maxRecDepth 100000
set_option maxHeartbeats 2000000
set_option linter.defProp false
set_option linter.unusedVariables false
set_option linter.unusedSimpArgs false
section
open Go.ChangeShapes Go.WideShapes Go.ChangeAt Go.RowKit
set_option maxHeartbeats 0 in
theorem closed:joinedFacts Tryz.prog 4 Tryz.f4 Rows.fnThriftySpec Rows.fnThriftyRow=true:=by
 unfold joinedFacts;refine(Fk (Fk (Fk (Fk (Fk (Fk (Fk (Fk (Fk (Fk (Fk (Fk (Fk (Fk (Fk (Fk (Fk (Fk (Fk (Fk (Fk (Fk (Fk (Fk (Fk (Fk (Fk (Fk (Fk (Fk (Fk ?_ ?_) ?_) ?_) ?_) ?_) ?_) ?_) ?_) ?_) ?_) ?_) ?_) ?_) ?_) ?_) ?_) ?_) ?_) ?_) ?_) ?_) ?_) ?_) ?_) ?_) ?_) ?_) ?_) ?_) ?_) ?_);all_goals decide +kernel
end
end Go.Proofs.YthpiiodbmkjmjaaGreatDoor.fnThrifty
