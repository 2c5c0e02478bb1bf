/- The program's types are laid out. -/
import Derived.Test.YthpiiodbmkjmjaaGreatDoorRows
import Derived.KernelRfl
import GoSem.ClaimDataLaid
namespace Go.Proofs.YthpiiodbmkjmjaaGreatDoor.fnThrifty
open Go.Proofs.YthpiiodbmkjmjaaGreatDoor
open Go
set_option maxRecDepth 100000
theorem rfA:laidOutB Tryz.prog=true:=by kernel_rfl
end Go.Proofs.YthpiiodbmkjmjaaGreatDoor.fnThrifty
