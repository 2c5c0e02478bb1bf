/- The row's closed facts. -/
import Derived.Test.YtmeicddakaciiaaGreatDoorVNe
import Derived.WalkKit
import Derived.BigGuard
import Derived.Deep.QuietTactic
import Derived.BigQuiet
import Derived.Lib.ConvBytes
import Derived.Sort.WalkC
import Derived.Handy
import Derived.Lib.Overlaps
import Derived.Lib.AppendZerosOnto
import Derived.Laws.Externs
import Derived.Shelf.RegionOpenPlain
import Derived.Defers
import Derived.Laws.Pointers
import Derived.Laws.LoneSync
import Derived.RegionCalls
import Derived.ChangeAlike
import Derived.LoopN
import Derived.Lib.SliceRun
import Derived.Shelf.Strconv.AtoiAll
import Derived.Shelf.Small.Strs
import Derived.Test.YtmeicddakaciiaaGreatDoorRows
import Derived.Test.YtmeicddakaciiaaGreatDoorCards
import Derived.LaidMore
import Derived.Lay
import Derived.SevenTiedAt
import Derived.ProofKit
import Derived.OpenShut
namespace Go.Proofs.YtmeicddakaciiaaGreatDoor.fnExactRunLoad
open Go.Proofs.YtmeicddakaciiaaGreatDoor
open Go.D Go.Proofs.Tryz
set_option maxRecDepth 100000
set_option maxHeartbeats 2000000
set_option linter.defProp false
set_option linter.unusedVariables false
set_option linter.unusedSimpArgs false
section
open Go.ChangeShapes Go.WideShapes Go.ChangeAt Go.RowKit
set_option maxHeartbeats 0 in
theorem closed:joinedFacts Tryz.prog 5 Tryz.f5 Rows.fnExactRunLoadSpec Rows.fnExactRunLoadRow=true:=by
 unfold joinedFacts;refine(Et (Et (Et (Et (Et (Et (Et (Et (Et (Et (Et (Et (Et (Et (Et (Et (Et (Et (Et (Et (Et (Et (Et (Et (Et (Et (Et (Et (Et (Et (Et ?_ ?_) ?_) ?_) ?_) ?_) ?_) ?_) ?_) ?_) ?_) ?_) ?_) ?_) ?_) ?_) ?_) ?_) ?_) ?_) ?_) ?_) ?_) ?_) ?_) ?_) ?_) ?_) ?_) ?_) ?_) ?_);all_goals decide +kernel
end
end Go.Proofs.YtmeicddakaciiaaGreatDoor.fnExactRunLoad
