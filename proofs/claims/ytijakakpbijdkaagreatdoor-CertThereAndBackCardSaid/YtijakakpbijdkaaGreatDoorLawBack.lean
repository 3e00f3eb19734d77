/- CertThereAndBack returns true, panics at no input, and leaves its arguments as they were: for every two lists of rows of four integers, and every difference. Condition: the variables math/bits.deBruijn32tab, digest.round and dist.checks hold what the program starts with. -/
import Derived.Test.YtijakakpbijdkaaGreatDoorTBack
import Derived.Test.YtijakakpbijdkaaGreatDoorLawKit
import Derived.Test.YtijakakpbijdkaaGreatDoorLawBackF
import Derived.Test.YtijakakpbijdkaaGreatDoorLawBackG
set_option linter.all false
set_option linter.unusedVariables false
set_option linter.unusedSectionVars false
set_option linter.unusedSimpArgs false
namespace Go.Proofs.YtijakakpbijdkaaGreatDoor
open Go Go.V Go.ChangeShapes
set_option maxRecDepth 100000 in
theorem certThereAndBack_lifted (os : Os) (started : os.Started) (H : Type) (enc : TypeId × Value → H) :
  ReturnsInHanded {} Tryz.checked os 4 .any (fun w args => (Rows.certThereAndBackSpec.pre enc Tryz.prog Tryz.f4 [] false w args ∧ laidMetH Tryz.prog seatLaid w) ∧ sizedMet enc Tryz.prog Tryz.f4 (OpenSpec.ofChange Rows.certThereAndBackSpec) false w args)
   (Rows.certThereAndBackSpec.post enc Tryz.prog Tryz.f4 false true false false) := by
 refine returnsInHanded_of_change_and (C := Tryz.checked) (X := fun w _ => laidMetH Tryz.prog seatLaid w) (fun _ _ _ hh h => h.of_heap hh) seatOwn started (by kernel_rfl) Tryz.func4
  (ChangeSpec.witness_at (enc := enc) (C := Tryz.checked) (os := os) (X := fun w _ => laidMetH Tryz.prog seatLaid w) false (laidWorld os) #[.slice none 0 0, .slice none 0 0, .agg #[.slice none 0 0]] 8 rfl (by kernel_rfl) (by kernel_rfl) (by kernel_rfl) (by kernel_rfl) (by kernel_rfl) (laidWorld_met os _)) ?_
 intro W base args ds gs before hval hW _ _ hL _
 have hgs : gs = [] := by
  obtain ⟨p, q, _, hV, _⟩ := hW
  cases gs with
  | nil => rfl
  | cons g r => exact absurd hV (by intro h; cases h)
 subst hgs
 refine law_contract cfg_ok seatLaidOut seatMaps seatSlices G.f4_pure G.f4_all (by kernel_rfl) (fun t ht => Nat.le_of_ble_eq_true (List.all_eq_true.1 (show (Tryz.f4.params.toList.all fun t => Nat.ble (t + 1) Tryz.prog.types.size) = true by kernel_rfl) t ht)) (show Tryz.f4.resultTypes = #[4] by kernel_rfl) (show Tryz.prog.underlying 4 = some .bool by kernel_rfl) rfl ?_ hval hW (glob_of_laid hL)
 obtain ⟨p, q, hA, _⟩ := hW
 have hlen : ds.length = 3 := (trodAll_len hA).trans (show Tryz.f4.params.toList.length = 3 by kernel_rfl)
 match ds, hlen with
 | [d1, d2, d3], _ => rfl
theorem certThereAndBack_joined : joinedFacts Tryz.pinned.checked.prog 4 Tryz.f4 Rows.certThereAndBackSpec Rows.certThereAndBackRow = true := by
 unfold joinedFacts
 rw [certThereAndBack_inPlace, certThereAndBack_unfollowed, certThereAndBack_recurses, certThereAndBack_names, seatHeard, seatEnter]
 as_aux_lemma => kernel_rfl
theorem certThereAndBack_said : Rows.CertThereAndBackSaid :=
 OpenClaim.holds_of_wide 4 Tryz.f4 rfl rfl rfl rfl rfl rfl rfl ⟨rfl, rfl, rfl, rfl, rfl⟩ rfl rfl rfl rfl rfl certThereAndBack_numbered Tryz.func4 certThereAndBack_joined
  (of_decide_eq_true (by as_aux_lemma => kernel_rfl)) (by unfold Func.isWrapper; rw [if_neg (of_decide_eq_false (by as_aux_lemma => kernel_rfl))]; exact ⟨rfl, rfl⟩)
  (fun os started H enc _ => certThereAndBack_lifted os started H enc)
theorem certThereAndBack_params : (Tryz.f4.params.toList.all fun t => !Tryz.prog.wantsStandIn t) = true := by kernel_rfl
theorem certThereAndBack_text : Rows.certThereAndBackRow.wfByText (OpenSpec.ofChange Rows.certThereAndBackSpec) = true := by kernel_rfl
theorem certThereAndBack_card : Rows.CertThereAndBackCardSaid :=
 Claim7.holds_tied_plain_at .later [] [.data, .data, .funcs] true (true, "45f66b01f384a7fdcef6013736b975126764545ed4753e362d1d5614c3c252c1") true
  certThereAndBack_said (fun _ h => by cases h) certThereAndBack_text (fun _ h => by cases h) certThereAndBack_row_tie rfl ⟨rfl, rfl⟩ seatMain rfl
  (fun f fn hf hfn => by
   obtain rfl : f = 4 := Option.some.inj (certThereAndBack_numbered.symm.trans hf) |>.symm
   obtain rfl : fn = Tryz.f4 := (Option.some.inj (Tryz.func4.symm.trans hfn)).symm
   refine ⟨seatLooks, fun j t ht => ?_⟩
   have := List.all_eq_true.1 certThereAndBack_params t (List.mem_of_getElem? (by rw [Array.getElem?_toList]; exact ht))
   show Tryz.prog.wantsStandIn t = false
   simpa using this)
  certThereAndBack_goes
#print axioms certThereAndBack_card
end Go.Proofs.YtijakakpbijdkaaGreatDoor
