/-
  What the conditions of functions rest on.
-/
import Derived.KernelRfl
import Derived.Test.YtomcnpeeelhpcaaGreatDoorVwTys
import Derived.Test.YtomcnpeeelhpcaaGreatDoorVwDraw5
import Derived.Test.YtomcnpeeelhpcaaGreatDoorVwFn
import Derived.Test.YtomcnpeeelhpcaaGreatDoorProg
namespace Go.Vw
open Go Go.Proofs
theorem mixed : Tryz.prog.follows .mixedOrders = true := by kernel_rfl
end Go.Vw
