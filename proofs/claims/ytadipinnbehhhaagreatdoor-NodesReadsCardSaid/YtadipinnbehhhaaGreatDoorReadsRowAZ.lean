/- NodesReads: the row. -/
import Derived.Test.YtadipinnbehhhaaGreatDoorReadsRowAY
namespace Go.Proofs.YtadipinnbehhhaaGreatDoor
open Go.ChangeShapes Go.WideShapes Go.ChangeAt Go.WideMaps Go.WideElems Go.RowKit Go.Deep

theorem rfacts : joinedFacts Tryz.prog 4 Tryz.f4 Rows.nodesReadsSpec Rows.nodesReadsRow = true := by
  unfold joinedFacts
  simp only [Bool.and_eq_true]
  repeat' (refine And.intro ?_ ?_)
  all_goals first | (with_reducible exact rfact_wf) | (with_reducible exact rfact_inPlace) | (with_reducible exact rfact_unfollowed) | (with_reducible exact rfact_recurses) | (with_reducible exact rfact_named) | (with_reducible exact rfact_laid) | (with_reducible exact rfact_rowed) | (with_reducible exact rfact_keys) | (with_reducible exact rfact_heard) | (with_reducible exact rfact_enter) | (with_reducible exact rfact_lifts) | kernel_rfl
theorem rfact_inst : Tryz.f4.isInstance Tryz.prog Rows.nodesReadsRow.origin Rows.nodesReadsRow.targs := of_decide_eq_true (by kernel_rfl)
theorem rfact_wrap : Tryz.f4.isWrapper Tryz.prog Rows.nodesReadsRow.wrapper Rows.nodesReadsRow.mainSum := by unfold Func.isWrapper; first | (rw [if_pos (by decide +kernel)]; kernel_rfl) | (rw [if_neg (by decide +kernel)]; exact ⟨rfl, rfl⟩)
theorem reads_holds : Rows.NodesReadsSaid :=
  OpenClaim.holds_of_wide 4 Tryz.f4 rfl rfl rfl rfl rfl rfl rfl ⟨rfl, rfl, rfl, rfl, rfl⟩ rfl rfl rfl rfl rfl (by kernel_rfl) Tryz.func4 rfacts
    rfact_inst rfact_wrap
    (fun os started H enc _ => reads_lifted os started H enc)
end Go.Proofs.YtadipinnbehhhaaGreatDoor
