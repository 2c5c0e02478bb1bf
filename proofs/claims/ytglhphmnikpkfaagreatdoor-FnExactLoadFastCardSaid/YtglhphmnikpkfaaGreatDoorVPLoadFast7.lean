/- The program's types are laid out. -/
import Derived.Test.YtglhphmnikpkfaaGreatDoorRows
import Derived.KernelRfl
import GoSem.ClaimDataLaid
namespace Go.Proofs.YtglhphmnikpkfaaGreatDoor.fnExactLoadFast
open Go.Proofs.YtglhphmnikpkfaaGreatDoor
open Go
set_option maxRecDepth 100000
theorem rfA:laidOutB Tryz.prog=true:=by kernel_rfl
end Go.Proofs.YtglhphmnikpkfaaGreatDoor.fnExactLoadFast
