/- NodesAsks: facts of the program that the row names, one by one (memory). -/
import Derived.Test.YtadipinnbehhhaaGreatDoorAsksRowAZ
namespace Go.Proofs.YtadipinnbehhhaaGreatDoor
open Go.ChangeShapes Go.WideShapes Go.ChangeAt Go.WideMaps Go.WideElems Go.RowKit Go.Deep

theorem afact_wf : Rows.nodesAsksRow.wf (OpenSpec.ofChange Rows.nodesAsksSpec) = true := by kernel_rfl
theorem afact_inPlace : (Rows.nodesAsksRow.inPlace == Tryz.prog.inPlace 5) = true := by kernel_rfl
theorem afact_unfollowed : (Rows.nodesAsksRow.unfollowed == Tryz.prog.unfollowed 5) = true := by kernel_rfl
theorem afact_recurses : (Rows.nodesAsksRow.recurses == Tryz.prog.recurses 5) = true := by kernel_rfl
theorem afact_named : (Rows.nodesAsksRow.named == Tryz.prog.varsNamed 5) = true := by kernel_rfl
theorem afact_laid : laidOutB Tryz.prog = true := by kernel_rfl
theorem afact_rowed : mapsRowed Tryz.prog = true := by kernel_rfl
theorem afact_keys : (Rows.nodesAsksRow.plainKeys == Tryz.prog.plainKeys) = true := by kernel_rfl
theorem afact_heard : Tryz.prog.stopsHeard = true := by kernel_rfl
theorem afact_enter : Tryz.prog.mayEnter = true := by kernel_rfl
theorem afact_lifts : (Rows.nodesAsksRow.lifted == Tryz.prog.liftsFinal) = true := by kernel_rfl
end Go.Proofs.YtadipinnbehhhaaGreatDoor
