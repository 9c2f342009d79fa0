/- TallyCubes: of every function over at most 65,536 levels, every block and every stop the law answers true, and leaves its input as it was: the row, and the card. Conditions: those of the given card alone: the two tables and the nine errors start as the program's text lays them. -/
import Derived.Test.YtadipinnbehhhaaGreatDoorCubesRowBG
namespace Go.Proofs.YtadipinnbehhhaaGreatDoor
open Go.ChangeShapes Go.WideShapes Go.ChangeAt Go.WideMaps Go.WideElems Go.RowKit Go.Deep

theorem tallyCubes_card : Rows.TallyCubesCardSaid :=
  Claim7.holds_tied_plain_at .later [] [.data, .widerDeep, .sentinel, .sentinel, .sentinel, .sentinel, .sentinel, .sentinel, .sentinel, .sentinel, .sentinel] true (true, "610cdcf9e34b6206ffc9da73065e6e85f77a255343ad04a64fc7e6528ee49983") true
    cubes_holds (fun _ h => by cases h) (by kernel_rfl) (fun _ h => by cases h) tallyCubes_row_tie rfl ⟨rfl, rfl⟩ (by kernel_rfl) rfl
    (fun f fn hf hfn => by
      obtain rfl : f = 7 := Option.some.inj ((show Tryz.prog.funcNamed "strata/stratalaw11.TallyCubes" = some 7 by kernel_rfl).symm.trans hf) |>.symm
      obtain rfl : fn = Tryz.f7 := (Option.some.inj (Tryz.func7.symm.trans hfn)).symm
      exact ⟨by kernel_rfl, fun j t ht => by
        rw [Tryz.params7] at ht
        have hm : t ∈ [124, 3] := by simpa using Array.mem_of_getElem? ht
        have hall : ([124, 3].all fun u => !Tryz.prog.wantsStandIn u) = true := by kernel_rfl
        exact (show Tryz.prog.wantsStandIn t = false by simpa using List.all_eq_true.1 hall t hm)⟩)
    (by kernel_rfl)
end Go.Proofs.YtadipinnbehhhaaGreatDoor
