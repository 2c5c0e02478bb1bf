/- The program's types are laid out. -/
import Derived.Test.YtmeicddakaciiaaGreatDoorRows
import Derived.KernelRfl
import GoSem.ClaimDataLaid
namespace Go.Proofs.YtmeicddakaciiaaGreatDoor.fnExactRunLoad
open Go.Proofs.YtmeicddakaciiaaGreatDoor
open Go
set_option maxRecDepth 100000
theorem rfA:laidOutB Tryz.prog=true:=by kernel_rfl
end Go.Proofs.YtmeicddakaciiaaGreatDoor.fnExactRunLoad
