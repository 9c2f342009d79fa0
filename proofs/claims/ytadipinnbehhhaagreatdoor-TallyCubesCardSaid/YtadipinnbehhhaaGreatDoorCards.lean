/-
  DERIVED. GIVEN WITH THE SEED: THE CARDS: each row of YtadipinnbehhhaaGreatDoorRows.lean that lists a variable, with what it lists TIED to the program's text (the seventh form; the later family's looks); each row that meets fmt, with fmt's text TOLD by the authors' own Lean function (tested against real Go, not proved from fmt's source: count such statements apart). THE CARD IS WHAT COUNTS. Prove the row's statement (the work); the ties are given (YtadipinnbehhhaaGreatDoorTie.lean); close each card by the builder's one call (the guide's Derived/Test/ToyasCard.lean, 'card_holds'). Laid BY PROGRAM, IN A SANDBOX (cutbox-door.mjs). By AI agents, Wed Nov 11 2026. No macro, syntax, notation, axiom, sorry.
-/
import Derived.Test.YtadipinnbehhhaaGreatDoorRows
import GoSem.ClaimSeven
namespace Go.Proofs.YtadipinnbehhhaaGreatDoor
namespace Rows

/-- THE TIED CARD OF 'stratalaw07.NodesBuilds'. -/
def nodesBuildsCard : Claim7 := { stood := { row := nodesBuildsRow, standIns := [], harness := (true, "610cdcf9e34b6206ffc9da73065e6e85f77a255343ad04a64fc7e6528ee49983"), looks := true }, kinds := [], alts := [], laidByText := true, laidKinds := [.data, .widerDeep, .sentinel, .sentinel, .sentinel, .sentinel, .sentinel, .sentinel, .sentinel, .sentinel, .sentinel], laidTests := true, laidLooks := .later }
def NodesBuildsCardSaid : Prop := Claim7.holds Tryz.pinned (.plain (OpenSpec.ofChange nodesBuildsSpec)) nodesBuildsCard

/-- THE TIED CARD OF 'stratalaw07.NodesReads'. -/
def nodesReadsCard : Claim7 := { stood := { row := nodesReadsRow, standIns := [], harness := (true, "610cdcf9e34b6206ffc9da73065e6e85f77a255343ad04a64fc7e6528ee49983"), looks := true }, kinds := [], alts := [], laidByText := true, laidKinds := [.data, .widerDeep, .sentinel, .sentinel, .sentinel, .sentinel, .sentinel, .sentinel, .sentinel, .sentinel, .sentinel], laidTests := true, laidLooks := .later }
def NodesReadsCardSaid : Prop := Claim7.holds Tryz.pinned (.plain (OpenSpec.ofChange nodesReadsSpec)) nodesReadsCard

/-- THE TIED CARD OF 'stratalaw07.NodesAsks'. -/
def nodesAsksCard : Claim7 := { stood := { row := nodesAsksRow, standIns := [], harness := (true, "610cdcf9e34b6206ffc9da73065e6e85f77a255343ad04a64fc7e6528ee49983"), looks := true }, kinds := [], alts := [], laidByText := true, laidKinds := [.data, .widerDeep, .sentinel, .sentinel, .sentinel, .sentinel, .sentinel, .sentinel, .sentinel, .sentinel, .sentinel], laidTests := true, laidLooks := .later }
def NodesAsksCardSaid : Prop := Claim7.holds Tryz.pinned (.plain (OpenSpec.ofChange nodesAsksSpec)) nodesAsksCard

/-- THE TIED CARD OF 'stratalaw05.SorterMerges'. -/
def sorterMergesCard : Claim7 := { stood := { row := sorterMergesRow, standIns := [], harness := (true, "610cdcf9e34b6206ffc9da73065e6e85f77a255343ad04a64fc7e6528ee49983"), looks := true }, kinds := [], alts := [], laidByText := true, laidKinds := [.data, .data, .data, .data, .data, .widerDeep, .sentinel, .sentinel, .sentinel, .sentinel, .sentinel, .sentinel, .sentinel, .sentinel, .sentinel], laidTests := true, laidLooks := .later }
def SorterMergesCardSaid : Prop := Claim7.holds Tryz.pinned (.plain (OpenSpec.ofChange sorterMergesSpec)) sorterMergesCard

/-- THE TIED CARD OF 'stratalaw11.TallyCubes'. -/
def tallyCubesCard : Claim7 := { stood := { row := tallyCubesRow, standIns := [], harness := (true, "610cdcf9e34b6206ffc9da73065e6e85f77a255343ad04a64fc7e6528ee49983"), looks := true }, kinds := [], alts := [], laidByText := true, laidKinds := [.data, .widerDeep, .sentinel, .sentinel, .sentinel, .sentinel, .sentinel, .sentinel, .sentinel, .sentinel, .sentinel], laidTests := true, laidLooks := .later }
def TallyCubesCardSaid : Prop := Claim7.holds Tryz.pinned (.plain (OpenSpec.ofChange tallyCubesSpec)) tallyCubesCard

/-- THE SECOND FORM's CARD OF 'stratalaw07.NodesBuilds'. -/
def nodesBuildsUptoCard : Claim7 := { stood := { row := nodesBuildsUptoRow, standIns := [], harness := (true, "610cdcf9e34b6206ffc9da73065e6e85f77a255343ad04a64fc7e6528ee49983"), looks := true }, kinds := [], alts := [], laidByText := true, laidKinds := [.data, .widerDeep, .sentinel, .sentinel, .sentinel, .sentinel, .sentinel, .sentinel, .sentinel, .sentinel, .sentinel], laidTests := true, laidLooks := .later }
def NodesBuildsUptoCardSaid : Prop := Claim7.holds Tryz.pinned (.plain (OpenSpec.upto nodesBuildsSpec)) nodesBuildsUptoCard

/-- THE SECOND FORM's CARD OF 'stratalaw07.NodesReads'. -/
def nodesReadsUptoCard : Claim7 := { stood := { row := nodesReadsUptoRow, standIns := [], harness := (true, "610cdcf9e34b6206ffc9da73065e6e85f77a255343ad04a64fc7e6528ee49983"), looks := true }, kinds := [], alts := [], laidByText := true, laidKinds := [.data, .widerDeep, .sentinel, .sentinel, .sentinel, .sentinel, .sentinel, .sentinel, .sentinel, .sentinel, .sentinel], laidTests := true, laidLooks := .later }
def NodesReadsUptoCardSaid : Prop := Claim7.holds Tryz.pinned (.plain (OpenSpec.upto nodesReadsSpec)) nodesReadsUptoCard

/-- THE SECOND FORM's CARD OF 'stratalaw07.NodesAsks'. -/
def nodesAsksUptoCard : Claim7 := { stood := { row := nodesAsksUptoRow, standIns := [], harness := (true, "610cdcf9e34b6206ffc9da73065e6e85f77a255343ad04a64fc7e6528ee49983"), looks := true }, kinds := [], alts := [], laidByText := true, laidKinds := [.data, .widerDeep, .sentinel, .sentinel, .sentinel, .sentinel, .sentinel, .sentinel, .sentinel, .sentinel, .sentinel], laidTests := true, laidLooks := .later }
def NodesAsksUptoCardSaid : Prop := Claim7.holds Tryz.pinned (.plain (OpenSpec.upto nodesAsksSpec)) nodesAsksUptoCard

/-- THE SECOND FORM's CARD OF 'stratalaw05.SorterMerges'. -/
def sorterMergesUptoCard : Claim7 := { stood := { row := sorterMergesUptoRow, standIns := [], harness := (true, "610cdcf9e34b6206ffc9da73065e6e85f77a255343ad04a64fc7e6528ee49983"), looks := true }, kinds := [], alts := [], laidByText := true, laidKinds := [.data, .data, .data, .data, .data, .widerDeep, .sentinel, .sentinel, .sentinel, .sentinel, .sentinel, .sentinel, .sentinel, .sentinel, .sentinel], laidTests := true, laidLooks := .later }
def SorterMergesUptoCardSaid : Prop := Claim7.holds Tryz.pinned (.plain (OpenSpec.upto sorterMergesSpec)) sorterMergesUptoCard

/-- THE SECOND FORM's CARD OF 'stratalaw11.TallyCubes'. -/
def tallyCubesUptoCard : Claim7 := { stood := { row := tallyCubesUptoRow, standIns := [], harness := (true, "610cdcf9e34b6206ffc9da73065e6e85f77a255343ad04a64fc7e6528ee49983"), looks := true }, kinds := [], alts := [], laidByText := true, laidKinds := [.data, .widerDeep, .sentinel, .sentinel, .sentinel, .sentinel, .sentinel, .sentinel, .sentinel, .sentinel, .sentinel], laidTests := true, laidLooks := .later }
def TallyCubesUptoCardSaid : Prop := Claim7.holds Tryz.pinned (.plain (OpenSpec.upto tallyCubesSpec)) tallyCubesUptoCard
end Rows
end Go.Proofs.YtadipinnbehhhaaGreatDoor
