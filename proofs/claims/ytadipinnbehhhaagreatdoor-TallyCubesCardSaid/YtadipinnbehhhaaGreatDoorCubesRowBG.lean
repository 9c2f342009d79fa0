/- TallyCubes: the row. -/
import Derived.Test.YtadipinnbehhhaaGreatDoorCubesRowBF
namespace Go.Proofs.YtadipinnbehhhaaGreatDoor
open Go.ChangeShapes Go.WideShapes Go.ChangeAt Go.WideMaps Go.WideElems Go.RowKit Go.Deep

theorem cfacts : joinedFacts Tryz.prog 7 Tryz.f7 Rows.tallyCubesSpec Rows.tallyCubesRow = true := by
  unfold joinedFacts
  simp only [Bool.and_eq_true]
  repeat' (refine And.intro ?_ ?_)
  all_goals first | (with_reducible exact cfact_wf) | (with_reducible exact cfact_inPlace) | (with_reducible exact cfact_unfollowed) | (with_reducible exact cfact_recurses) | (with_reducible exact cfact_named) | (with_reducible exact cfact_laid) | (with_reducible exact cfact_rowed) | (with_reducible exact cfact_keys) | (with_reducible exact cfact_heard) | (with_reducible exact cfact_enter) | (with_reducible exact cfact_lifts) | kernel_rfl
theorem cfact_inst : Tryz.f7.isInstance Tryz.prog Rows.tallyCubesRow.origin Rows.tallyCubesRow.targs := of_decide_eq_true (by kernel_rfl)
theorem cfact_wrap : Tryz.f7.isWrapper Tryz.prog Rows.tallyCubesRow.wrapper Rows.tallyCubesRow.mainSum := by unfold Func.isWrapper; first | (rw [if_pos (by decide +kernel)]; kernel_rfl) | (rw [if_neg (by decide +kernel)]; exact ⟨rfl, rfl⟩)
theorem cubes_holds : Rows.TallyCubesSaid :=
  OpenClaim.holds_of_wide 7 Tryz.f7 rfl rfl rfl rfl rfl rfl rfl ⟨rfl, rfl, rfl, rfl, rfl⟩ rfl rfl rfl rfl rfl (by kernel_rfl) Tryz.func7 cfacts
    cfact_inst cfact_wrap
    (fun os started H enc _ => cubes_lifted os started H enc)
end Go.Proofs.YtadipinnbehhhaaGreatDoor
