/-
  DERIVED. GIVEN WITH THE SEED: THE CARDS: each row of YtijakakpbijdkaaGreatDoorRows.lean that lists a variable, with what it lists TIED to the program's text (the seventh form; the later family's looks); each row that meets fmt, with fmt's text TOLD by the authors' own Lean function (tested against real Go, not proved from fmt's source: count such statements apart). THE CARD IS WHAT COUNTS. Prove the row's statement (the work); the ties are given (YtijakakpbijdkaaGreatDoorTie.lean); close each card by the builder's one call (the guide's Derived/Test/ToyasCard.lean, 'card_holds'). Laid BY PROGRAM, IN A SANDBOX (cutbox-door.mjs). By AI agents, Wed Nov 11 2026. No macro, syntax, notation, axiom, sorry.
-/
import Derived.Test.YtijakakpbijdkaaGreatDoorRows
import GoSem.ClaimSeven
namespace Go.Proofs.YtijakakpbijdkaaGreatDoor
namespace Rows

/-- THE TIED CARD OF 'clearwaylaw16.CertDeltasMatchReference'. -/
def certDeltasMatchReferenceCard : Claim7 := { stood := { row := certDeltasMatchReferenceRow, standIns := [], harness := (true, "45f66b01f384a7fdcef6013736b975126764545ed4753e362d1d5614c3c252c1"), looks := true }, kinds := [], alts := [], laidByText := true, laidKinds := [.data, .data, .funcs], laidTests := true, laidLooks := .later }
def CertDeltasMatchReferenceCardSaid : Prop := Claim7.holds Tryz.pinned (.plain (OpenSpec.ofChange certDeltasMatchReferenceSpec)) certDeltasMatchReferenceCard

/-- THE TIED CARD OF 'clearwaylaw16.CertThereAndBack'. -/
def certThereAndBackCard : Claim7 := { stood := { row := certThereAndBackRow, standIns := [], harness := (true, "45f66b01f384a7fdcef6013736b975126764545ed4753e362d1d5614c3c252c1"), looks := true }, kinds := [], alts := [], laidByText := true, laidKinds := [.data, .data, .funcs], laidTests := true, laidLooks := .later }
def CertThereAndBackCardSaid : Prop := Claim7.holds Tryz.pinned (.plain (OpenSpec.ofChange certThereAndBackSpec)) certThereAndBackCard

/-- THE TIED CARD OF 'clearwaylaw16.CertComposes'. -/
def certComposesCard : Claim7 := { stood := { row := certComposesRow, standIns := [], harness := (true, "45f66b01f384a7fdcef6013736b975126764545ed4753e362d1d5614c3c252c1"), looks := true }, kinds := [], alts := [], laidByText := true, laidKinds := [.data, .data, .funcs], laidTests := true, laidLooks := .later }
def CertComposesCardSaid : Prop := Claim7.holds Tryz.pinned (.plain (OpenSpec.ofChange certComposesSpec)) certComposesCard

/-- THE TIED CARD OF 'clearwaylaw16.CertRefuses'. -/
def certRefusesCard : Claim7 := { stood := { row := certRefusesRow, standIns := [], harness := (true, "45f66b01f384a7fdcef6013736b975126764545ed4753e362d1d5614c3c252c1"), looks := true }, kinds := [], alts := [], laidByText := true, laidKinds := [.data, .data, .funcs], laidTests := true, laidLooks := .later }
def CertRefusesCardSaid : Prop := Claim7.holds Tryz.pinned (.plain (OpenSpec.ofChange certRefusesSpec)) certRefusesCard

/-- THE SECOND FORM's CARD OF 'clearwaylaw16.CertDeltasMatchReference'. -/
def certDeltasMatchReferenceUptoCard : Claim7 := { stood := { row := certDeltasMatchReferenceUptoRow, standIns := [], harness := (true, "45f66b01f384a7fdcef6013736b975126764545ed4753e362d1d5614c3c252c1"), looks := true }, kinds := [], alts := [], laidByText := true, laidKinds := [.data, .data, .funcs], laidTests := true, laidLooks := .later }
def CertDeltasMatchReferenceUptoCardSaid : Prop := Claim7.holds Tryz.pinned (.plain (OpenSpec.upto certDeltasMatchReferenceSpec)) certDeltasMatchReferenceUptoCard

/-- THE SECOND FORM's CARD OF 'clearwaylaw16.CertThereAndBack'. -/
def certThereAndBackUptoCard : Claim7 := { stood := { row := certThereAndBackUptoRow, standIns := [], harness := (true, "45f66b01f384a7fdcef6013736b975126764545ed4753e362d1d5614c3c252c1"), looks := true }, kinds := [], alts := [], laidByText := true, laidKinds := [.data, .data, .funcs], laidTests := true, laidLooks := .later }
def CertThereAndBackUptoCardSaid : Prop := Claim7.holds Tryz.pinned (.plain (OpenSpec.upto certThereAndBackSpec)) certThereAndBackUptoCard

/-- THE SECOND FORM's CARD OF 'clearwaylaw16.CertComposes'. -/
def certComposesUptoCard : Claim7 := { stood := { row := certComposesUptoRow, standIns := [], harness := (true, "45f66b01f384a7fdcef6013736b975126764545ed4753e362d1d5614c3c252c1"), looks := true }, kinds := [], alts := [], laidByText := true, laidKinds := [.data, .data, .funcs], laidTests := true, laidLooks := .later }
def CertComposesUptoCardSaid : Prop := Claim7.holds Tryz.pinned (.plain (OpenSpec.upto certComposesSpec)) certComposesUptoCard

/-- THE SECOND FORM's CARD OF 'clearwaylaw16.CertRefuses'. -/
def certRefusesUptoCard : Claim7 := { stood := { row := certRefusesUptoRow, standIns := [], harness := (true, "45f66b01f384a7fdcef6013736b975126764545ed4753e362d1d5614c3c252c1"), looks := true }, kinds := [], alts := [], laidByText := true, laidKinds := [.data, .data, .funcs], laidTests := true, laidLooks := .later }
def CertRefusesUptoCardSaid : Prop := Claim7.holds Tryz.pinned (.plain (OpenSpec.upto certRefusesSpec)) certRefusesUptoCard
end Rows
end Go.Proofs.YtijakakpbijdkaaGreatDoor
