/- NodesReads: facts of the program that the row names, one by one (memory). -/
import Derived.Test.YtadipinnbehhhaaGreatDoorReadsRowAX
namespace Go.Proofs.YtadipinnbehhhaaGreatDoor
open Go.ChangeShapes Go.WideShapes Go.ChangeAt Go.WideMaps Go.WideElems Go.RowKit Go.Deep

theorem rfact_wf : Rows.nodesReadsRow.wf (OpenSpec.ofChange Rows.nodesReadsSpec) = true := by kernel_rfl
theorem rfact_inPlace : (Rows.nodesReadsRow.inPlace == Tryz.prog.inPlace 4) = true := by kernel_rfl
theorem rfact_unfollowed : (Rows.nodesReadsRow.unfollowed == Tryz.prog.unfollowed 4) = true := by kernel_rfl
theorem rfact_recurses : (Rows.nodesReadsRow.recurses == Tryz.prog.recurses 4) = true := by kernel_rfl
theorem rfact_named : (Rows.nodesReadsRow.named == Tryz.prog.varsNamed 4) = true := by kernel_rfl
theorem rfact_laid : laidOutB Tryz.prog = true := by kernel_rfl
theorem rfact_rowed : mapsRowed Tryz.prog = true := by kernel_rfl
theorem rfact_keys : (Rows.nodesReadsRow.plainKeys == Tryz.prog.plainKeys) = true := by kernel_rfl
theorem rfact_heard : Tryz.prog.stopsHeard = true := by kernel_rfl
theorem rfact_enter : Tryz.prog.mayEnter = true := by kernel_rfl
theorem rfact_lifts : (Rows.nodesReadsRow.lifted == Tryz.prog.liftsFinal) = true := by kernel_rfl
end Go.Proofs.YtadipinnbehhhaaGreatDoor
