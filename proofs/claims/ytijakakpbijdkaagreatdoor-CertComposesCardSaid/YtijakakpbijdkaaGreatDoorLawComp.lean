/- CertComposes returns true, panics at no input, and leaves its argument as it was: for every four lists of rows of four integers. Condition: the variables math/bits.deBruijn32tab, digest.round and dist.checks hold what the program starts with. -/
import Derived.Test.YtijakakpbijdkaaGreatDoorTComp
import Derived.Test.YtijakakpbijdkaaGreatDoorLawKit
import Derived.Test.YtijakakpbijdkaaGreatDoorLawCompF
import Derived.Test.YtijakakpbijdkaaGreatDoorLawCompG
set_option linter.all false
set_option linter.unusedVariables false
set_option linter.unusedSectionVars false
set_option linter.unusedSimpArgs false
namespace Go.Proofs.YtijakakpbijdkaaGreatDoor
open Go Go.V Go.ChangeShapes
set_option maxRecDepth 100000 in
theorem certComposes_lifted (os : Os) (started : os.Started) (H : Type) (enc : TypeId × Value → H) :
  ReturnsInHanded {} Tryz.checked os 5 .any (fun w args => (Rows.certComposesSpec.pre enc Tryz.prog Tryz.f5 [] false w args ∧ laidMetH Tryz.prog seatLaid w) ∧ sizedMet enc Tryz.prog Tryz.f5 (OpenSpec.ofChange Rows.certComposesSpec) false w args)
   (Rows.certComposesSpec.post enc Tryz.prog Tryz.f5 false true false false) := by
 refine returnsInHanded_of_change_and (C := Tryz.checked) (X := fun w _ => laidMetH Tryz.prog seatLaid w) (fun _ _ _ hh h => h.of_heap hh) seatOwn started (by kernel_rfl) Tryz.func5
  (ChangeSpec.witness_at (enc := enc) (C := Tryz.checked) (os := os) (X := fun w _ => laidMetH Tryz.prog seatLaid w) false (laidWorld os) #[.agg #[.slice none 0 0, .slice none 0 0, .slice none 0 0, .slice none 0 0]] 8 rfl (by kernel_rfl) (by kernel_rfl) (by kernel_rfl) (by kernel_rfl) (by kernel_rfl) (laidWorld_met os _)) ?_
 intro W base args ds gs before hval hW _ _ hL _
 have hgs : gs = [] := by
  obtain ⟨p, q, _, hV, _⟩ := hW
  cases gs with
  | nil => rfl
  | cons g r => exact absurd hV (by intro h; cases h)
 subst hgs
 refine law_contract cfg_ok seatLaidOut seatMaps seatSlices G.f5_pure G.f5_all (by kernel_rfl) (fun t ht => Nat.le_of_ble_eq_true (List.all_eq_true.1 (show (Tryz.f5.params.toList.all fun t => Nat.ble (t + 1) Tryz.prog.types.size) = true by kernel_rfl) t ht)) (show Tryz.f5.resultTypes = #[4] by kernel_rfl) (show Tryz.prog.underlying 4 = some .bool by kernel_rfl) rfl ?_ hval hW (glob_of_laid hL)
 obtain ⟨p, q, hA, _⟩ := hW
 have hlen : ds.length = 1 := (trodAll_len hA).trans (show Tryz.f5.params.toList.length = 1 by kernel_rfl)
 match ds, hlen with
 | [d1], _ => rfl
theorem certComposes_joined : joinedFacts Tryz.pinned.checked.prog 5 Tryz.f5 Rows.certComposesSpec Rows.certComposesRow = true := by
 unfold joinedFacts
 rw [certComposes_inPlace, certComposes_unfollowed, certComposes_recurses, certComposes_names, seatHeard, seatEnter]
 as_aux_lemma => kernel_rfl
theorem certComposes_said : Rows.CertComposesSaid :=
 OpenClaim.holds_of_wide 5 Tryz.f5 rfl rfl rfl rfl rfl rfl rfl ⟨rfl, rfl, rfl, rfl, rfl⟩ rfl rfl rfl rfl rfl certComposes_numbered Tryz.func5 certComposes_joined
  (of_decide_eq_true (by as_aux_lemma => kernel_rfl)) (by unfold Func.isWrapper; rw [if_neg (of_decide_eq_false (by as_aux_lemma => kernel_rfl))]; exact ⟨rfl, rfl⟩)
  (fun os started H enc _ => certComposes_lifted os started H enc)
theorem certComposes_params : (Tryz.f5.params.toList.all fun t => !Tryz.prog.wantsStandIn t) = true := by kernel_rfl
theorem certComposes_text : Rows.certComposesRow.wfByText (OpenSpec.ofChange Rows.certComposesSpec) = true := by kernel_rfl
theorem certComposes_card : Rows.CertComposesCardSaid :=
 Claim7.holds_tied_plain_at .later [] [.data, .data, .funcs] true (true, "45f66b01f384a7fdcef6013736b975126764545ed4753e362d1d5614c3c252c1") true
  certComposes_said (fun _ h => by cases h) certComposes_text (fun _ h => by cases h) certComposes_row_tie rfl ⟨rfl, rfl⟩ seatMain rfl
  (fun f fn hf hfn => by
   obtain rfl : f = 5 := Option.some.inj (certComposes_numbered.symm.trans hf) |>.symm
   obtain rfl : fn = Tryz.f5 := (Option.some.inj (Tryz.func5.symm.trans hfn)).symm
   refine ⟨seatLooks, fun j t ht => ?_⟩
   have := List.all_eq_true.1 certComposes_params t (List.mem_of_getElem? (by rw [Array.getElem?_toList]; exact ht))
   show Tryz.prog.wantsStandIn t = false
   simpa using this)
  certComposes_goes
#print axioms certComposes_card
end Go.Proofs.YtijakakpbijdkaaGreatDoor
