/- TallyCubes: facts of the program that the row names, one by one (memory). -/
import Derived.Test.YtadipinnbehhhaaGreatDoorCubesRowBE
namespace Go.Proofs.YtadipinnbehhhaaGreatDoor
open Go.ChangeShapes Go.WideShapes Go.ChangeAt Go.WideMaps Go.WideElems Go.RowKit Go.Deep

theorem cfact_wf : Rows.tallyCubesRow.wf (OpenSpec.ofChange Rows.tallyCubesSpec) = true := by kernel_rfl
theorem cfact_inPlace : (Rows.tallyCubesRow.inPlace == Tryz.prog.inPlace 7) = true := by kernel_rfl
theorem cfact_unfollowed : (Rows.tallyCubesRow.unfollowed == Tryz.prog.unfollowed 7) = true := by kernel_rfl
theorem cfact_recurses : (Rows.tallyCubesRow.recurses == Tryz.prog.recurses 7) = true := by kernel_rfl
theorem cfact_named : (Rows.tallyCubesRow.named == Tryz.prog.varsNamed 7) = true := by kernel_rfl
theorem cfact_laid : laidOutB Tryz.prog = true := by kernel_rfl
theorem cfact_rowed : mapsRowed Tryz.prog = true := by kernel_rfl
theorem cfact_keys : (Rows.tallyCubesRow.plainKeys == Tryz.prog.plainKeys) = true := by kernel_rfl
theorem cfact_heard : Tryz.prog.stopsHeard = true := by kernel_rfl
theorem cfact_enter : Tryz.prog.mayEnter = true := by kernel_rfl
theorem cfact_lifts : (Rows.tallyCubesRow.lifted == Tryz.prog.liftsFinal) = true := by kernel_rfl
end Go.Proofs.YtadipinnbehhhaaGreatDoor
