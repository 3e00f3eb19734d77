/-
  DERIVED. GIVEN WITH THE SEED: THE CARDS: each row of YtfjpfjcdejjkeaaGreatDoorRows.lean that lists a variable, with what it lists TIED to the program's text (the seventh form; the later family's looks); each row that meets fmt, with fmt's text TOLD by the authors' own Lean function (tested against real Go, not proved from fmt's source: count such statements apart). THE CARD IS WHAT COUNTS. Prove the row's statement (the work); the ties are given (YtfjpfjcdejjkeaaGreatDoorTie.lean); close each card by the builder's one call (the guide's Derived/Test/ToyasCard.lean, 'card_holds'). Laid BY PROGRAM, IN A SANDBOX (cutbox-door.mjs). By AI agents, Wed Nov 11 2026. No macro, syntax, notation, axiom, sorry.
-/
import Derived.Test.YtfjpfjcdejjkeaaGreatDoorRows
import GoSem.ClaimSeven
namespace Go.Proofs.YtfjpfjcdejjkeaaGreatDoor
namespace Rows

/-- THE TIED CARD OF 'clearwaylaw06.PageMatchesReference'. -/
def pageMatchesReferenceCard : Claim7 := { stood := { row := pageMatchesReferenceRow, standIns := [], harness := (true, "135e0cbf156c235909c9a3c7e3c71d6caa3499118f384ea90eded1eb9e263408"), looks := true }, kinds := [], alts := [], laidByText := true, laidKinds := [.data], laidTests := true, laidLooks := .later }
def PageMatchesReferenceCardSaid : Prop := Claim7.holds Tryz.pinned (.plain (OpenSpec.ofChange pageMatchesReferenceSpec)) pageMatchesReferenceCard

/-- THE TIED CARD OF 'clearwaylaw06.PageViewsMatchReference'. -/
def pageViewsMatchReferenceCard : Claim7 := { stood := { row := pageViewsMatchReferenceRow, standIns := [], harness := (true, "135e0cbf156c235909c9a3c7e3c71d6caa3499118f384ea90eded1eb9e263408"), looks := true }, kinds := [], alts := [], laidByText := true, laidKinds := [.data], laidTests := true, laidLooks := .later }
def PageViewsMatchReferenceCardSaid : Prop := Claim7.holds Tryz.pinned (.plain (OpenSpec.ofChange pageViewsMatchReferenceSpec)) pageViewsMatchReferenceCard

/-- THE TIED CARD OF 'clearwaylaw06.PageEdges'. -/
def pageEdgesCard : Claim7 := { stood := { row := pageEdgesRow, standIns := [], harness := (true, "135e0cbf156c235909c9a3c7e3c71d6caa3499118f384ea90eded1eb9e263408"), looks := true }, kinds := [], alts := [], laidByText := true, laidKinds := [.data], laidTests := true, laidLooks := .later }
def PageEdgesCardSaid : Prop := Claim7.holds Tryz.pinned (.plain (OpenSpec.ofChange pageEdgesSpec)) pageEdgesCard

/-- THE TIED CARD OF 'clearwaylaw06.PageViews'. -/
def pageViewsCard : Claim7 := { stood := { row := pageViewsRow, standIns := [], harness := (true, "135e0cbf156c235909c9a3c7e3c71d6caa3499118f384ea90eded1eb9e263408"), looks := true }, kinds := [], alts := [], laidByText := true, laidKinds := [.data], laidTests := true, laidLooks := .later }
def PageViewsCardSaid : Prop := Claim7.holds Tryz.pinned (.plain (OpenSpec.ofChange pageViewsSpec)) pageViewsCard

/-- THE TIED CARD OF 'clearwaylaw06.PageJoins'. -/
def pageJoinsCard : Claim7 := { stood := { row := pageJoinsRow, standIns := [], harness := (true, "135e0cbf156c235909c9a3c7e3c71d6caa3499118f384ea90eded1eb9e263408"), looks := true }, kinds := [], alts := [], laidByText := true, laidKinds := [.data], laidTests := true, laidLooks := .later }
def PageJoinsCardSaid : Prop := Claim7.holds Tryz.pinned (.plain (OpenSpec.ofChange pageJoinsSpec)) pageJoinsCard

/-- THE TIED CARD OF 'clearwaylaw06.PageRoots'. -/
def pageRootsCard : Claim7 := { stood := { row := pageRootsRow, standIns := [], harness := (true, "135e0cbf156c235909c9a3c7e3c71d6caa3499118f384ea90eded1eb9e263408"), looks := true }, kinds := [], alts := [], laidByText := true, laidKinds := [.data], laidTests := true, laidLooks := .later }
def PageRootsCardSaid : Prop := Claim7.holds Tryz.pinned (.plain (OpenSpec.ofChange pageRootsSpec)) pageRootsCard

/-- THE TIED CARD OF 'clearwaylaw06.PageLocal'. -/
def pageLocalCard : Claim7 := { stood := { row := pageLocalRow, standIns := [], harness := (true, "135e0cbf156c235909c9a3c7e3c71d6caa3499118f384ea90eded1eb9e263408"), looks := true }, kinds := [], alts := [], laidByText := true, laidKinds := [.data], laidTests := true, laidLooks := .later }
def PageLocalCardSaid : Prop := Claim7.holds Tryz.pinned (.plain (OpenSpec.ofChange pageLocalSpec)) pageLocalCard

/-- THE SECOND FORM's CARD OF 'clearwaylaw06.PageMatchesReference'. -/
def pageMatchesReferenceUptoCard : Claim7 := { stood := { row := pageMatchesReferenceUptoRow, standIns := [], harness := (true, "135e0cbf156c235909c9a3c7e3c71d6caa3499118f384ea90eded1eb9e263408"), looks := true }, kinds := [], alts := [], laidByText := true, laidKinds := [.data], laidTests := true, laidLooks := .later }
def PageMatchesReferenceUptoCardSaid : Prop := Claim7.holds Tryz.pinned (.plain (OpenSpec.upto pageMatchesReferenceSpec)) pageMatchesReferenceUptoCard

/-- THE SECOND FORM's CARD OF 'clearwaylaw06.PageViewsMatchReference'. -/
def pageViewsMatchReferenceUptoCard : Claim7 := { stood := { row := pageViewsMatchReferenceUptoRow, standIns := [], harness := (true, "135e0cbf156c235909c9a3c7e3c71d6caa3499118f384ea90eded1eb9e263408"), looks := true }, kinds := [], alts := [], laidByText := true, laidKinds := [.data], laidTests := true, laidLooks := .later }
def PageViewsMatchReferenceUptoCardSaid : Prop := Claim7.holds Tryz.pinned (.plain (OpenSpec.upto pageViewsMatchReferenceSpec)) pageViewsMatchReferenceUptoCard

/-- THE SECOND FORM's CARD OF 'clearwaylaw06.PageEdges'. -/
def pageEdgesUptoCard : Claim7 := { stood := { row := pageEdgesUptoRow, standIns := [], harness := (true, "135e0cbf156c235909c9a3c7e3c71d6caa3499118f384ea90eded1eb9e263408"), looks := true }, kinds := [], alts := [], laidByText := true, laidKinds := [.data], laidTests := true, laidLooks := .later }
def PageEdgesUptoCardSaid : Prop := Claim7.holds Tryz.pinned (.plain (OpenSpec.upto pageEdgesSpec)) pageEdgesUptoCard

/-- THE SECOND FORM's CARD OF 'clearwaylaw06.PageViews'. -/
def pageViewsUptoCard : Claim7 := { stood := { row := pageViewsUptoRow, standIns := [], harness := (true, "135e0cbf156c235909c9a3c7e3c71d6caa3499118f384ea90eded1eb9e263408"), looks := true }, kinds := [], alts := [], laidByText := true, laidKinds := [.data], laidTests := true, laidLooks := .later }
def PageViewsUptoCardSaid : Prop := Claim7.holds Tryz.pinned (.plain (OpenSpec.upto pageViewsSpec)) pageViewsUptoCard

/-- THE SECOND FORM's CARD OF 'clearwaylaw06.PageJoins'. -/
def pageJoinsUptoCard : Claim7 := { stood := { row := pageJoinsUptoRow, standIns := [], harness := (true, "135e0cbf156c235909c9a3c7e3c71d6caa3499118f384ea90eded1eb9e263408"), looks := true }, kinds := [], alts := [], laidByText := true, laidKinds := [.data], laidTests := true, laidLooks := .later }
def PageJoinsUptoCardSaid : Prop := Claim7.holds Tryz.pinned (.plain (OpenSpec.upto pageJoinsSpec)) pageJoinsUptoCard

/-- THE SECOND FORM's CARD OF 'clearwaylaw06.PageRoots'. -/
def pageRootsUptoCard : Claim7 := { stood := { row := pageRootsUptoRow, standIns := [], harness := (true, "135e0cbf156c235909c9a3c7e3c71d6caa3499118f384ea90eded1eb9e263408"), looks := true }, kinds := [], alts := [], laidByText := true, laidKinds := [.data], laidTests := true, laidLooks := .later }
def PageRootsUptoCardSaid : Prop := Claim7.holds Tryz.pinned (.plain (OpenSpec.upto pageRootsSpec)) pageRootsUptoCard

/-- THE SECOND FORM's CARD OF 'clearwaylaw06.PageLocal'. -/
def pageLocalUptoCard : Claim7 := { stood := { row := pageLocalUptoRow, standIns := [], harness := (true, "135e0cbf156c235909c9a3c7e3c71d6caa3499118f384ea90eded1eb9e263408"), looks := true }, kinds := [], alts := [], laidByText := true, laidKinds := [.data], laidTests := true, laidLooks := .later }
def PageLocalUptoCardSaid : Prop := Claim7.holds Tryz.pinned (.plain (OpenSpec.upto pageLocalSpec)) pageLocalUptoCard
end Rows
end Go.Proofs.YtfjpfjcdejjkeaaGreatDoor
