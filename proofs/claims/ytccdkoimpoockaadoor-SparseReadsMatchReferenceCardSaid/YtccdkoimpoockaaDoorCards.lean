/-
  DERIVED. GIVEN WITH THE SEED: THE CARDS: each row of YtccdkoimpoockaaDoorRows.lean that lists a variable, with what it lists TIED to the program's text (the seventh form; the later family's looks); each row that meets fmt, with fmt's text TOLD by the authors' own Lean function (tested against real Go, not proved from fmt's source: count such statements apart). THE CARD IS WHAT COUNTS. Prove the row's statement (the work); the ties are given (YtccdkoimpoockaaDoorTie.lean); close each card by the builder's one call (the guide's Derived/Test/ToyasCard.lean, 'card_holds'). Laid BY PROGRAM, IN A SANDBOX (cutbox-door.mjs). By AI agents, Wed Nov 11 2026. No macro, syntax, notation, axiom, sorry.
-/
import Derived.Test.YtccdkoimpoockaaDoorRows
import GoSem.ClaimSeven
namespace Go.Proofs.YtccdkoimpoockaaDoor
namespace Rows

/-- THE TIED CARD OF 'clearwaylaw04.SparseMatchesReference'. -/
def sparseMatchesReferenceCard : Claim7 := { stood := { row := sparseMatchesReferenceRow, standIns := [], harness := (true, "b324a5b72951b708f1c92194bdab882c17642a6af6a5ee001b65a647c57f3223"), looks := false }, kinds := [], alts := [], laidByText := true, laidKinds := [.data], laidTests := true, laidLooks := .later }
def SparseMatchesReferenceCardSaid : Prop := Claim7.holds Tryd.pinned (.plain (OpenSpec.ofChange sparseMatchesReferenceSpec)) sparseMatchesReferenceCard

/-- THE TIED CARD OF 'clearwaylaw04.SparseReadsMatchReference'. -/
def sparseReadsMatchReferenceCard : Claim7 := { stood := { row := sparseReadsMatchReferenceRow, standIns := [], harness := (true, "b324a5b72951b708f1c92194bdab882c17642a6af6a5ee001b65a647c57f3223"), looks := false }, kinds := [], alts := [], laidByText := true, laidKinds := [.data], laidTests := true, laidLooks := .later }
def SparseReadsMatchReferenceCardSaid : Prop := Claim7.holds Tryd.pinned (.plain (OpenSpec.ofChange sparseReadsMatchReferenceSpec)) sparseReadsMatchReferenceCard

/-- THE TIED CARD OF 'clearwaylaw04.SparseComplete'. -/
def sparseCompleteCard : Claim7 := { stood := { row := sparseCompleteRow, standIns := [], harness := (true, "b324a5b72951b708f1c92194bdab882c17642a6af6a5ee001b65a647c57f3223"), looks := false }, kinds := [], alts := [], laidByText := true, laidKinds := [.data], laidTests := true, laidLooks := .later }
def SparseCompleteCardSaid : Prop := Claim7.holds Tryd.pinned (.plain (OpenSpec.ofChange sparseCompleteSpec)) sparseCompleteCard

/-- THE TIED CARD OF 'clearwaylaw04.SparseBinding'. -/
def sparseBindingCard : Claim7 := { stood := { row := sparseBindingRow, standIns := [], harness := (true, "b324a5b72951b708f1c92194bdab882c17642a6af6a5ee001b65a647c57f3223"), looks := false }, kinds := [], alts := [], laidByText := true, laidKinds := [.data], laidTests := true, laidLooks := .later }
def SparseBindingCardSaid : Prop := Claim7.holds Tryd.pinned (.plain (OpenSpec.ofChange sparseBindingSpec)) sparseBindingCard

/-- THE TIED CARD OF 'clearwaylaw04.SparseRoot'. -/
def sparseRootCard : Claim7 := { stood := { row := sparseRootRow, standIns := [], harness := (true, "b324a5b72951b708f1c92194bdab882c17642a6af6a5ee001b65a647c57f3223"), looks := false }, kinds := [], alts := [], laidByText := true, laidKinds := [.data], laidTests := true, laidLooks := .later }
def SparseRootCardSaid : Prop := Claim7.holds Tryd.pinned (.plain (OpenSpec.ofChange sparseRootSpec)) sparseRootCard

/-- THE TIED CARD OF 'clearwaylaw04.SparseUpdates'. -/
def sparseUpdatesCard : Claim7 := { stood := { row := sparseUpdatesRow, standIns := [], harness := (true, "b324a5b72951b708f1c92194bdab882c17642a6af6a5ee001b65a647c57f3223"), looks := false }, kinds := [], alts := [], laidByText := true, laidKinds := [.data], laidTests := true, laidLooks := .later }
def SparseUpdatesCardSaid : Prop := Claim7.holds Tryd.pinned (.plain (OpenSpec.ofChange sparseUpdatesSpec)) sparseUpdatesCard

/-- THE TIED CARD OF 'clearwaylaw04.SparseOrder'. -/
def sparseOrderCard : Claim7 := { stood := { row := sparseOrderRow, standIns := [], harness := (true, "b324a5b72951b708f1c92194bdab882c17642a6af6a5ee001b65a647c57f3223"), looks := false }, kinds := [], alts := [], laidByText := true, laidKinds := [.data], laidTests := true, laidLooks := .later }
def SparseOrderCardSaid : Prop := Claim7.holds Tryd.pinned (.plain (OpenSpec.ofChange sparseOrderSpec)) sparseOrderCard

/-- THE SECOND FORM's CARD OF 'clearwaylaw04.SparseMatchesReference'. -/
def sparseMatchesReferenceUptoCard : Claim7 := { stood := { row := sparseMatchesReferenceUptoRow, standIns := [], harness := (true, "b324a5b72951b708f1c92194bdab882c17642a6af6a5ee001b65a647c57f3223"), looks := false }, kinds := [], alts := [], laidByText := true, laidKinds := [.data], laidTests := true, laidLooks := .later }
def SparseMatchesReferenceUptoCardSaid : Prop := Claim7.holds Tryd.pinned (.plain (OpenSpec.upto sparseMatchesReferenceSpec)) sparseMatchesReferenceUptoCard

/-- THE SECOND FORM's CARD OF 'clearwaylaw04.SparseReadsMatchReference'. -/
def sparseReadsMatchReferenceUptoCard : Claim7 := { stood := { row := sparseReadsMatchReferenceUptoRow, standIns := [], harness := (true, "b324a5b72951b708f1c92194bdab882c17642a6af6a5ee001b65a647c57f3223"), looks := false }, kinds := [], alts := [], laidByText := true, laidKinds := [.data], laidTests := true, laidLooks := .later }
def SparseReadsMatchReferenceUptoCardSaid : Prop := Claim7.holds Tryd.pinned (.plain (OpenSpec.upto sparseReadsMatchReferenceSpec)) sparseReadsMatchReferenceUptoCard

/-- THE SECOND FORM's CARD OF 'clearwaylaw04.SparseComplete'. -/
def sparseCompleteUptoCard : Claim7 := { stood := { row := sparseCompleteUptoRow, standIns := [], harness := (true, "b324a5b72951b708f1c92194bdab882c17642a6af6a5ee001b65a647c57f3223"), looks := false }, kinds := [], alts := [], laidByText := true, laidKinds := [.data], laidTests := true, laidLooks := .later }
def SparseCompleteUptoCardSaid : Prop := Claim7.holds Tryd.pinned (.plain (OpenSpec.upto sparseCompleteSpec)) sparseCompleteUptoCard

/-- THE SECOND FORM's CARD OF 'clearwaylaw04.SparseBinding'. -/
def sparseBindingUptoCard : Claim7 := { stood := { row := sparseBindingUptoRow, standIns := [], harness := (true, "b324a5b72951b708f1c92194bdab882c17642a6af6a5ee001b65a647c57f3223"), looks := false }, kinds := [], alts := [], laidByText := true, laidKinds := [.data], laidTests := true, laidLooks := .later }
def SparseBindingUptoCardSaid : Prop := Claim7.holds Tryd.pinned (.plain (OpenSpec.upto sparseBindingSpec)) sparseBindingUptoCard

/-- THE SECOND FORM's CARD OF 'clearwaylaw04.SparseRoot'. -/
def sparseRootUptoCard : Claim7 := { stood := { row := sparseRootUptoRow, standIns := [], harness := (true, "b324a5b72951b708f1c92194bdab882c17642a6af6a5ee001b65a647c57f3223"), looks := false }, kinds := [], alts := [], laidByText := true, laidKinds := [.data], laidTests := true, laidLooks := .later }
def SparseRootUptoCardSaid : Prop := Claim7.holds Tryd.pinned (.plain (OpenSpec.upto sparseRootSpec)) sparseRootUptoCard

/-- THE SECOND FORM's CARD OF 'clearwaylaw04.SparseUpdates'. -/
def sparseUpdatesUptoCard : Claim7 := { stood := { row := sparseUpdatesUptoRow, standIns := [], harness := (true, "b324a5b72951b708f1c92194bdab882c17642a6af6a5ee001b65a647c57f3223"), looks := false }, kinds := [], alts := [], laidByText := true, laidKinds := [.data], laidTests := true, laidLooks := .later }
def SparseUpdatesUptoCardSaid : Prop := Claim7.holds Tryd.pinned (.plain (OpenSpec.upto sparseUpdatesSpec)) sparseUpdatesUptoCard

/-- THE SECOND FORM's CARD OF 'clearwaylaw04.SparseOrder'. -/
def sparseOrderUptoCard : Claim7 := { stood := { row := sparseOrderUptoRow, standIns := [], harness := (true, "b324a5b72951b708f1c92194bdab882c17642a6af6a5ee001b65a647c57f3223"), looks := false }, kinds := [], alts := [], laidByText := true, laidKinds := [.data], laidTests := true, laidLooks := .later }
def SparseOrderUptoCardSaid : Prop := Claim7.holds Tryd.pinned (.plain (OpenSpec.upto sparseOrderSpec)) sparseOrderUptoCard
end Rows
end Go.Proofs.YtccdkoimpoockaaDoor
