/- NodesBuilds: facts of the program that the row names, one by one (memory). -/
import Derived.Test.YtadipinnbehhhaaGreatDoorBuildsRowAS
namespace Go.Proofs.YtadipinnbehhhaaGreatDoor
open Go.ChangeShapes Go.WideShapes Go.ChangeAt Go.WideMaps Go.WideElems Go.RowKit Go.Deep

theorem bfact_wf : Rows.nodesBuildsRow.wf (OpenSpec.ofChange Rows.nodesBuildsSpec) = true := by kernel_rfl
theorem bfact_inPlace : (Rows.nodesBuildsRow.inPlace == Tryz.prog.inPlace 3) = true := by kernel_rfl
theorem bfact_unfollowed : (Rows.nodesBuildsRow.unfollowed == Tryz.prog.unfollowed 3) = true := by kernel_rfl
theorem bfact_recurses : (Rows.nodesBuildsRow.recurses == Tryz.prog.recurses 3) = true := by kernel_rfl
theorem bfact_named : (Rows.nodesBuildsRow.named == Tryz.prog.varsNamed 3) = true := by kernel_rfl
theorem bfact_laid : laidOutB Tryz.prog = true := by kernel_rfl
theorem bfact_rowed : mapsRowed Tryz.prog = true := by kernel_rfl
theorem bfact_keys : (Rows.nodesBuildsRow.plainKeys == Tryz.prog.plainKeys) = true := by kernel_rfl
theorem bfact_heard : Tryz.prog.stopsHeard = true := by kernel_rfl
theorem bfact_enter : Tryz.prog.mayEnter = true := by kernel_rfl
theorem bfact_lifts : (Rows.nodesBuildsRow.lifted == Tryz.prog.liftsFinal) = true := by kernel_rfl
end Go.Proofs.YtadipinnbehhhaaGreatDoor
