/-
  What the row of VersGoes says of the program itself: who calls itself, and which variables are named.
-/
import Derived.Test.YtomcnpeeelhpcaaGreatDoorCtGoesCardK
namespace Go.Proofs.YtomcnpeeelhpcaaGreatDoor.versGoes
open Go.ChangeShapes Go.WideShapes Go.ChangeAt Go.RowKit Go.Vw
theorem c12 : (Rows.versGoesRow.recurses == Tryz.prog.recurses 3) = true := by kernel_rfl
theorem c13 : (Rows.versGoesRow.named == Tryz.prog.varsNamed 3) = true := by kernel_rfl
end Go.Proofs.YtomcnpeeelhpcaaGreatDoor.versGoes
