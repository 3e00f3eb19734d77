/- CertDeltasMatchReference returns true, panics at no input, and leaves its arguments as they were: for every three lists of rows of four integers, every difference and every certificate. Condition: the variables math/bits.deBruijn32tab, digest.round and dist.checks hold what the program starts with. -/
import Derived.Test.YtijakakpbijdkaaGreatDoorA12
import Derived.Test.YtijakakpbijdkaaGreatDoorLawKit
import Derived.Test.YtijakakpbijdkaaGreatDoorLawDeltF
import Derived.Test.YtijakakpbijdkaaGreatDoorLawDeltG
set_option linter.all false
set_option linter.unusedVariables false
set_option linter.unusedSectionVars false
set_option linter.unusedSimpArgs false
namespace Go.Proofs.YtijakakpbijdkaaGreatDoor
open Go Go.V Go.ChangeShapes
set_option maxRecDepth 100000 in
theorem certDeltasMatchReference_lifted (os : Os) (started : os.Started) (H : Type) (enc : TypeId × Value → H) :
  ReturnsInHanded {} Tryz.checked os 3 .any (fun w args => (Rows.certDeltasMatchReferenceSpec.pre enc Tryz.prog Tryz.f3 [] false w args ∧ laidMetH Tryz.prog seatLaid w) ∧ sizedMet enc Tryz.prog Tryz.f3 (OpenSpec.ofChange Rows.certDeltasMatchReferenceSpec) false w args)
   (Rows.certDeltasMatchReferenceSpec.post enc Tryz.prog Tryz.f3 false true false false) := by
 refine returnsInHanded_of_change_and (C := Tryz.checked) (X := fun w _ => laidMetH Tryz.prog seatLaid w) (fun _ _ _ hh h => h.of_heap hh) seatOwn started (by kernel_rfl) Tryz.func3
  (ChangeSpec.witness_at (enc := enc) (C := Tryz.checked) (os := os) (X := fun w _ => laidMetH Tryz.prog seatLaid w) false (laidWorld os) #[.slice none 0 0, .slice none 0 0, .slice none 0 0, .agg #[.slice none 0 0], .agg #[.slice none 0 0, .slice none 0 0, .slice none 0 0, .slice none 0 0, .slice none 0 0, .slice none 0 0, .slice none 0 0, .slice none 0 0]] 8 rfl (by kernel_rfl) (by kernel_rfl) (by kernel_rfl) (by kernel_rfl) (by kernel_rfl) (laidWorld_met os _)) ?_
 intro W base args ds gs before hval hW _ _ hL _
 have hgs : gs = [] := by
  obtain ⟨p, q, _, hV, _⟩ := hW
  cases gs with
  | nil => rfl
  | cons g r => exact absurd hV (by intro h; cases h)
 subst hgs
 refine law_contract cfg_ok seatLaidOut seatMaps seatSlices G.f3_pure G.f3_all (by kernel_rfl) (fun t ht => Nat.le_of_ble_eq_true (List.all_eq_true.1 (show (Tryz.f3.params.toList.all fun t => Nat.ble (t + 1) Tryz.prog.types.size) = true by kernel_rfl) t ht)) (show Tryz.f3.resultTypes = #[4] by kernel_rfl) (show Tryz.prog.underlying 4 = some .bool by kernel_rfl) rfl ?_ hval hW (glob_of_laid hL)
 obtain ⟨p, q, hA, _⟩ := hW
 have hlen : ds.length = 5 := (trodAll_len hA).trans (show Tryz.f3.params.toList.length = 5 by kernel_rfl)
 match ds, hlen with
 | [d1, d2, d3, d4, d5], _ => rfl
theorem certDeltasMatchReference_joined : joinedFacts Tryz.pinned.checked.prog 3 Tryz.f3 Rows.certDeltasMatchReferenceSpec Rows.certDeltasMatchReferenceRow = true := by
 unfold joinedFacts
 rw [certDeltasMatchReference_inPlace, certDeltasMatchReference_unfollowed, certDeltasMatchReference_recurses, certDeltasMatchReference_names, seatHeard, seatEnter]
 as_aux_lemma => kernel_rfl
theorem certDeltasMatchReference_said : Rows.CertDeltasMatchReferenceSaid :=
 OpenClaim.holds_of_wide 3 Tryz.f3 rfl rfl rfl rfl rfl rfl rfl ⟨rfl, rfl, rfl, rfl, rfl⟩ rfl rfl rfl rfl rfl certDeltasMatchReference_numbered Tryz.func3 certDeltasMatchReference_joined
  (of_decide_eq_true (by as_aux_lemma => kernel_rfl)) (by unfold Func.isWrapper; rw [if_neg (of_decide_eq_false (by as_aux_lemma => kernel_rfl))]; exact ⟨rfl, rfl⟩)
  (fun os started H enc _ => certDeltasMatchReference_lifted os started H enc)
theorem certDeltasMatchReference_params : (Tryz.f3.params.toList.all fun t => !Tryz.prog.wantsStandIn t) = true := by kernel_rfl
theorem certDeltasMatchReference_text : Rows.certDeltasMatchReferenceRow.wfByText (OpenSpec.ofChange Rows.certDeltasMatchReferenceSpec) = true := by kernel_rfl
theorem certDeltasMatchReference_card : Rows.CertDeltasMatchReferenceCardSaid :=
 Claim7.holds_tied_plain_at .later [] [.data, .data, .funcs] true (true, "45f66b01f384a7fdcef6013736b975126764545ed4753e362d1d5614c3c252c1") true
  certDeltasMatchReference_said (fun _ h => by cases h) certDeltasMatchReference_text (fun _ h => by cases h) certDeltasMatchReference_row_tie rfl ⟨rfl, rfl⟩ seatMain rfl
  (fun f fn hf hfn => by
   obtain rfl : f = 3 := Option.some.inj (certDeltasMatchReference_numbered.symm.trans hf) |>.symm
   obtain rfl : fn = Tryz.f3 := (Option.some.inj (Tryz.func3.symm.trans hfn)).symm
   refine ⟨seatLooks, fun j t ht => ?_⟩
   have := List.all_eq_true.1 certDeltasMatchReference_params t (List.mem_of_getElem? (by rw [Array.getElem?_toList]; exact ht))
   show Tryz.prog.wantsStandIn t = false
   simpa using this)
  certDeltasMatchReference_goes
#print axioms certDeltasMatchReference_card
end Go.Proofs.YtijakakpbijdkaaGreatDoor
