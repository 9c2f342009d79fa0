/- NodesAsks: of every two node files and every list of truths the law answers true, and leaves its input as it was: the row, and the card. Conditions: those of the given card alone: the two tables and the nine errors start as the program's text lays them. -/
import Derived.Test.YtadipinnbehhhaaGreatDoorAsksRowBB
namespace Go.Proofs.YtadipinnbehhhaaGreatDoor
open Go.ChangeShapes Go.WideShapes Go.ChangeAt Go.WideMaps Go.WideElems Go.RowKit Go.Deep

/-- The card. -/
theorem nodesAsks_card : Rows.NodesAsksCardSaid :=
  Claim7.holds_tied_plain_at .later [] [.data, .widerDeep, .sentinel, .sentinel, .sentinel, .sentinel, .sentinel, .sentinel, .sentinel, .sentinel, .sentinel] true (true, "610cdcf9e34b6206ffc9da73065e6e85f77a255343ad04a64fc7e6528ee49983") true
    asks_holds (fun _ h => by cases h) (by kernel_rfl) (fun _ h => by cases h) nodesAsks_row_tie rfl ⟨rfl, rfl⟩ (by kernel_rfl) rfl
    (fun f fn hf hfn => by
      obtain rfl : f = 5 := Option.some.inj ((show Tryz.prog.funcNamed "strata/stratalaw07.NodesAsks" = some 5 by kernel_rfl).symm.trans hf) |>.symm
      obtain rfl : fn = Tryz.f5 := (Option.some.inj (Tryz.func5.symm.trans hfn)).symm
      exact ⟨by kernel_rfl, fun j t ht => by
        rw [Tryz.params5] at ht
        have hm : t ∈ [67, 67, 84] := by simpa using Array.mem_of_getElem? ht
        have hall : ([67, 67, 84].all fun u => !Tryz.prog.wantsStandIn u) = true := by kernel_rfl
        exact (show Tryz.prog.wantsStandIn t = false by simpa using List.all_eq_true.1 hall t hm)⟩)
    (by kernel_rfl)
end Go.Proofs.YtadipinnbehhhaaGreatDoor
