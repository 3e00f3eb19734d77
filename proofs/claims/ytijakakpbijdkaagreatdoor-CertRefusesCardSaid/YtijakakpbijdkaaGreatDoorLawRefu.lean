/- CertRefuses returns true, panics at no input, and leaves its argument as it was: for every four lists of rows of four integers. Condition: the variables math/bits.deBruijn32tab, digest.round and dist.checks hold what the program starts with. -/
import Derived.Test.YtijakakpbijdkaaGreatDoorTRefu
import Derived.Test.YtijakakpbijdkaaGreatDoorLawKit
import Derived.Test.YtijakakpbijdkaaGreatDoorLawRefuF
import Derived.Test.YtijakakpbijdkaaGreatDoorLawRefuG
set_option linter.all false
set_option linter.unusedVariables false
set_option linter.unusedSectionVars false
set_option linter.unusedSimpArgs false
namespace Go.Proofs.YtijakakpbijdkaaGreatDoor
open Go Go.V Go.ChangeShapes
set_option maxRecDepth 100000 in
theorem certRefuses_lifted (os : Os) (started : os.Started) (H : Type) (enc : TypeId × Value → H) :
  ReturnsInHanded {} Tryz.checked os 6 .any (fun w args => (Rows.certRefusesSpec.pre enc Tryz.prog Tryz.f6 [] false w args ∧ laidMetH Tryz.prog seatLaid w) ∧ sizedMet enc Tryz.prog Tryz.f6 (OpenSpec.ofChange Rows.certRefusesSpec) false w args)
   (Rows.certRefusesSpec.post enc Tryz.prog Tryz.f6 false true false false) := by
 refine returnsInHanded_of_change_and (C := Tryz.checked) (X := fun w _ => laidMetH Tryz.prog seatLaid w) (fun _ _ _ hh h => h.of_heap hh) seatOwn started (by kernel_rfl) Tryz.func6
  (ChangeSpec.witness_at (enc := enc) (C := Tryz.checked) (os := os) (X := fun w _ => laidMetH Tryz.prog seatLaid w) false (laidWorld os) #[.agg #[.slice none 0 0, .slice none 0 0, .slice none 0 0, .slice none 0 0]] 8 rfl (by kernel_rfl) (by kernel_rfl) (by kernel_rfl) (by kernel_rfl) (by kernel_rfl) (laidWorld_met os _)) ?_
 intro W base args ds gs before hval hW _ _ hL _
 have hgs : gs = [] := by
  obtain ⟨p, q, _, hV, _⟩ := hW
  cases gs with
  | nil => rfl
  | cons g r => exact absurd hV (by intro h; cases h)
 subst hgs
 refine law_contract cfg_ok seatLaidOut seatMaps seatSlices G.f6_pure G.f6_all (by kernel_rfl) (fun t ht => Nat.le_of_ble_eq_true (List.all_eq_true.1 (show (Tryz.f6.params.toList.all fun t => Nat.ble (t + 1) Tryz.prog.types.size) = true by kernel_rfl) t ht)) (show Tryz.f6.resultTypes = #[4] by kernel_rfl) (show Tryz.prog.underlying 4 = some .bool by kernel_rfl) rfl ?_ hval hW (glob_of_laid hL)
 obtain ⟨p, q, hA, _⟩ := hW
 have hlen : ds.length = 1 := (trodAll_len hA).trans (show Tryz.f6.params.toList.length = 1 by kernel_rfl)
 match ds, hlen with
 | [d1], _ => rfl
theorem certRefuses_joined : joinedFacts Tryz.pinned.checked.prog 6 Tryz.f6 Rows.certRefusesSpec Rows.certRefusesRow = true := by
 unfold joinedFacts
 rw [certRefuses_inPlace, certRefuses_unfollowed, certRefuses_recurses, certRefuses_names, seatHeard, seatEnter]
 as_aux_lemma => kernel_rfl
theorem certRefuses_said : Rows.CertRefusesSaid :=
 OpenClaim.holds_of_wide 6 Tryz.f6 rfl rfl rfl rfl rfl rfl rfl ⟨rfl, rfl, rfl, rfl, rfl⟩ rfl rfl rfl rfl rfl certRefuses_numbered Tryz.func6 certRefuses_joined
  (of_decide_eq_true (by as_aux_lemma => kernel_rfl)) (by unfold Func.isWrapper; rw [if_neg (of_decide_eq_false (by as_aux_lemma => kernel_rfl))]; exact ⟨rfl, rfl⟩)
  (fun os started H enc _ => certRefuses_lifted os started H enc)
theorem certRefuses_params : (Tryz.f6.params.toList.all fun t => !Tryz.prog.wantsStandIn t) = true := by kernel_rfl
theorem certRefuses_text : Rows.certRefusesRow.wfByText (OpenSpec.ofChange Rows.certRefusesSpec) = true := by kernel_rfl
theorem certRefuses_card : Rows.CertRefusesCardSaid :=
 Claim7.holds_tied_plain_at .later [] [.data, .data, .funcs] true (true, "45f66b01f384a7fdcef6013736b975126764545ed4753e362d1d5614c3c252c1") true
  certRefuses_said (fun _ h => by cases h) certRefuses_text (fun _ h => by cases h) certRefuses_row_tie rfl ⟨rfl, rfl⟩ seatMain rfl
  (fun f fn hf hfn => by
   obtain rfl : f = 6 := Option.some.inj (certRefuses_numbered.symm.trans hf) |>.symm
   obtain rfl : fn = Tryz.f6 := (Option.some.inj (Tryz.func6.symm.trans hfn)).symm
   refine ⟨seatLooks, fun j t ht => ?_⟩
   have := List.all_eq_true.1 certRefuses_params t (List.mem_of_getElem? (by rw [Array.getElem?_toList]; exact ht))
   show Tryz.prog.wantsStandIn t = false
   simpa using this)
  certRefuses_goes
#print axioms certRefuses_card
end Go.Proofs.YtijakakpbijdkaaGreatDoor
