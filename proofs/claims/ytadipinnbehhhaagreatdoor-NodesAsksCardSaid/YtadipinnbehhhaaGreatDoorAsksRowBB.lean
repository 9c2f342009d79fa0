/- NodesAsks: the row. -/
import Derived.Test.YtadipinnbehhhaaGreatDoorAsksRowBA
namespace Go.Proofs.YtadipinnbehhhaaGreatDoor
open Go.ChangeShapes Go.WideShapes Go.ChangeAt Go.WideMaps Go.WideElems Go.RowKit Go.Deep

theorem afacts : joinedFacts Tryz.prog 5 Tryz.f5 Rows.nodesAsksSpec Rows.nodesAsksRow = true := by
  unfold joinedFacts
  simp only [Bool.and_eq_true]
  repeat' (refine And.intro ?_ ?_)
  all_goals first | (with_reducible exact afact_wf) | (with_reducible exact afact_inPlace) | (with_reducible exact afact_unfollowed) | (with_reducible exact afact_recurses) | (with_reducible exact afact_named) | (with_reducible exact afact_laid) | (with_reducible exact afact_rowed) | (with_reducible exact afact_keys) | (with_reducible exact afact_heard) | (with_reducible exact afact_enter) | (with_reducible exact afact_lifts) | kernel_rfl
theorem afact_inst : Tryz.f5.isInstance Tryz.prog Rows.nodesAsksRow.origin Rows.nodesAsksRow.targs := of_decide_eq_true (by kernel_rfl)
theorem afact_wrap : Tryz.f5.isWrapper Tryz.prog Rows.nodesAsksRow.wrapper Rows.nodesAsksRow.mainSum := by unfold Func.isWrapper; first | (rw [if_pos (by decide +kernel)]; kernel_rfl) | (rw [if_neg (by decide +kernel)]; exact ⟨rfl, rfl⟩)
theorem asks_holds : Rows.NodesAsksSaid :=
  OpenClaim.holds_of_wide 5 Tryz.f5 rfl rfl rfl rfl rfl rfl rfl ⟨rfl, rfl, rfl, rfl, rfl⟩ rfl rfl rfl rfl rfl (by kernel_rfl) Tryz.func5 afacts
    afact_inst afact_wrap
    (fun os started H enc _ => asks_lifted os started H enc)
end Go.Proofs.YtadipinnbehhhaaGreatDoor
