/- NodesBuilds: the row. -/
import Derived.Test.YtadipinnbehhhaaGreatDoorBuildsRowAT
namespace Go.Proofs.YtadipinnbehhhaaGreatDoor
open Go.ChangeShapes Go.WideShapes Go.ChangeAt Go.WideMaps Go.WideElems Go.RowKit Go.Deep

theorem bfacts : joinedFacts Tryz.prog 3 Tryz.f3 Rows.nodesBuildsSpec Rows.nodesBuildsRow = true := by
  unfold joinedFacts
  simp only [Bool.and_eq_true]
  repeat' (refine And.intro ?_ ?_)
  all_goals first | (with_reducible exact bfact_wf) | (with_reducible exact bfact_inPlace) | (with_reducible exact bfact_unfollowed) | (with_reducible exact bfact_recurses) | (with_reducible exact bfact_named) | (with_reducible exact bfact_laid) | (with_reducible exact bfact_rowed) | (with_reducible exact bfact_keys) | (with_reducible exact bfact_heard) | (with_reducible exact bfact_enter) | (with_reducible exact bfact_lifts) | kernel_rfl
theorem bfact_inst : Tryz.f3.isInstance Tryz.prog Rows.nodesBuildsRow.origin Rows.nodesBuildsRow.targs := of_decide_eq_true (by kernel_rfl)
theorem bfact_wrap : Tryz.f3.isWrapper Tryz.prog Rows.nodesBuildsRow.wrapper Rows.nodesBuildsRow.mainSum := by unfold Func.isWrapper; first | (rw [if_pos (by decide +kernel)]; kernel_rfl) | (rw [if_neg (by decide +kernel)]; exact ⟨rfl, rfl⟩)

theorem builds_holds : Rows.NodesBuildsSaid :=
  OpenClaim.holds_of_wide 3 Tryz.f3 rfl rfl rfl rfl rfl rfl rfl ⟨rfl, rfl, rfl, rfl, rfl⟩ rfl rfl rfl rfl rfl (by kernel_rfl) Tryz.func3 bfacts
    bfact_inst bfact_wrap
    (fun os started H enc _ => builds_lifted os started H enc)
end Go.Proofs.YtadipinnbehhhaaGreatDoor
