/-
  What the row of VersGoes says of the program itself, a fact at a time.
-/
import Derived.Test.YtomcnpeeelhpcaaGreatDoorCtGoesCardK
namespace Go.Proofs.YtomcnpeeelhpcaaGreatDoor.versGoes
open Go.ChangeShapes Go.WideShapes Go.ChangeAt Go.RowKit Go.Vw
theorem c1 : Rows.versGoesRow.wf (OpenSpec.ofChange Rows.versGoesSpec) = true := by kernel_rfl
theorem c2 : laidOutB Tryz.prog = true := by kernel_rfl
theorem c3 : mapsRowed Tryz.prog = true := by kernel_rfl
theorem c4 : Tryz.f3.params.all (Tryz.prog.readableRec ·) = true := by kernel_rfl
theorem c5 : namedTie Tryz.prog Rows.versGoesRow.named Rows.versGoesSpec.vars = true := by kernel_rfl
theorem c6 : (Rows.versGoesRow.stops == []) = true := by kernel_rfl
theorem c7 : (Tryz.prog.stops == []) = true := by kernel_rfl
theorem c8 : (Rows.versGoesRow.knobs == []) = true := by kernel_rfl
theorem c9 : (Tryz.prog.stopKnobs == []) = true := by kernel_rfl
theorem c10 : (Rows.versGoesRow.inPlace == Tryz.prog.inPlace 3) = true := by kernel_rfl
theorem c11 : (Rows.versGoesRow.unfollowed == Tryz.prog.unfollowed 3) = true := by kernel_rfl
theorem c14 : (Rows.versGoesRow.maps == (Tryz.f3.params.toList ++ Rows.versGoesSpec.plain.varTypes Tryz.prog).any (Tryz.prog.mapsRec ·)) = true := by kernel_rfl
theorem c15 : (Rows.versGoesRow.ifaces == (Tryz.f3.params.toList ++ Rows.versGoesSpec.plain.varTypes Tryz.prog).any (Tryz.prog.ifacesRec ·)) = true := by kernel_rfl
theorem c16 : (Rows.versGoesRow.mapsOut == Tryz.prog.mapsAmong Tryz.f3.resultTypes.toList) = true := by kernel_rfl
theorem c17 : (Rows.versGoesRow.loops == (Tryz.f3.params.toList ++ Rows.versGoesSpec.plain.varTypes Tryz.prog).any (Tryz.prog.loopsFrom ·)) = true := by kernel_rfl
theorem c18 : (Rows.versGoesRow.wideKeys == (Tryz.f3.params.toList ++ Rows.versGoesSpec.plain.varTypes Tryz.prog ++ Tryz.f3.resultTypes.toList).any (Tryz.prog.wideKeysFrom ·)) = true := by kernel_rfl
theorem c19 : Rows.versGoesSpec.vars.all (Tryz.prog.varReadable ·) = true := by kernel_rfl
theorem c20 : Tryz.f3.resultTypes.all (fun t => Tryz.prog.readableRec t && decide (t < Tryz.prog.types.size)) = true := by kernel_rfl
theorem c21 : (Rows.versGoesRow.ifacesOut == Tryz.f3.resultTypes.toList.any (Tryz.prog.ifacesRec ·)) = true := by kernel_rfl
theorem c22 : (Rows.versGoesRow.loopsOut == Tryz.f3.resultTypes.toList.any (Tryz.prog.loopsFrom ·)) = true := by kernel_rfl
theorem c23 : (Rows.versGoesRow.plainKeys == Tryz.prog.plainKeys) = true := by kernel_rfl
theorem c24 : Rows.versGoesRow.shortTexts.isNone = true := by kernel_rfl
theorem c25 : Tryz.prog.stopsHeard = true := by kernel_rfl
theorem c26 : Tryz.prog.mayEnter = true := by kernel_rfl
theorem c27 : (Rows.versGoesRow.lifted == Tryz.prog.liftsFinal) = true := by kernel_rfl
theorem c28 : (Tryz.prog.make == some Rows.versGoesRow.make) = true := by kernel_rfl
theorem c29 : (Rows.versGoesRow.kinds == (if Rows.versGoesRow.domain.isEmpty then [] else Tryz.f3.params.toList.map fun t => match Tryz.prog.underlying t with | some (.int k) => some k | _ => Option.none)) = true := by kernel_rfl
theorem c30 : (Rows.versGoesRow.pinned == Rows.versGoesRow.pinnedBy) = true := by kernel_rfl
theorem c31 : (Rows.versGoesRow.veiled == (Tryz.f3.params.toList ++ Rows.versGoesSpec.plain.varTypes Tryz.prog ++ Tryz.f3.resultTypes.toList).any (Tryz.prog.veiledRec ·)) = true := by kernel_rfl
theorem c32 : Rows.versGoesRow.veiledFits Tryz.prog Tryz.f3.params.toList (Tryz.f3.params.toList ++ Rows.versGoesSpec.plain.varTypes Tryz.prog ++ Tryz.f3.resultTypes.toList) = true := by kernel_rfl
end Go.Proofs.YtomcnpeeelhpcaaGreatDoor.versGoes
