/-
  DERIVED. GIVEN WITH THE SEED: THE CARDS: each row of YtmhokhkmopghjaaGreatDoorRows.lean that lists a variable, with what it lists TIED to the program's text (the seventh form; the later family's looks); each row that meets fmt, with fmt's text TOLD by the authors' own Lean function (tested against real Go, not proved from fmt's source: count such statements apart). THE CARD IS WHAT COUNTS. Prove the row's statement (the work); the ties are given (YtmhokhkmopghjaaGreatDoorTie.lean); close each card by the builder's one call (the guide's Derived/Test/ToyasCard.lean, 'card_holds'). Laid BY PROGRAM, IN A SANDBOX (cutbox-door.mjs). By AI agents, Wed Nov 11 2026. No macro, syntax, notation, axiom, sorry.
-/
import Derived.Test.YtmhokhkmopghjaaGreatDoorRows
import GoSem.ClaimSeven
namespace Go.Proofs.YtmhokhkmopghjaaGreatDoor
namespace Rows

/-- THE TIED CARD OF 'clearwaylaw16.CertCode'. -/
def certCodeCard : Claim7 := { stood := { row := certCodeRow, standIns := [], harness := (true, "cfd3de34610688c6b600382d0d802b4dec0ca0e40314077a14cfcd15914af5f4"), looks := true }, kinds := [], alts := [], laidByText := true, laidKinds := [.data, .data, .funcs], laidTests := true, laidLooks := .later }
def CertCodeCardSaid : Prop := Claim7.holds Tryz.pinned (.plain (OpenSpec.ofChange certCodeSpec)) certCodeCard

/-- THE SECOND FORM's CARD OF 'clearwaylaw16.CertCode'. -/
def certCodeUptoCard : Claim7 := { stood := { row := certCodeUptoRow, standIns := [], harness := (true, "cfd3de34610688c6b600382d0d802b4dec0ca0e40314077a14cfcd15914af5f4"), looks := true }, kinds := [], alts := [], laidByText := true, laidKinds := [.data, .data, .funcs], laidTests := true, laidLooks := .later }
def CertCodeUptoCardSaid : Prop := Claim7.holds Tryz.pinned (.plain (OpenSpec.upto certCodeSpec)) certCodeUptoCard
end Rows
end Go.Proofs.YtmhokhkmopghjaaGreatDoor
