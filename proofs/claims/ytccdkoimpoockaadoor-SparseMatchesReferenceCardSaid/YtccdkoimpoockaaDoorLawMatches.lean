/- SparseMatchesReference returns true, panics at no input, and leaves its arguments as they were: for every list of pairs of integers, every list of entries, and every two lists of keys. Condition: the variable digest.round holds the words with which the program starts. -/
import Derived.Test.YtccdkoimpoockaaDoorLawKit
import Derived.Test.YtccdkoimpoockaaDoorPLaw3
set_option linter.all false
set_option linter.unusedVariables false
set_option linter.unusedSectionVars false
set_option linter.unusedSimpArgs false
namespace Go.Proofs.YtccdkoimpoockaaDoor
open Go Go.V Go.ChangeShapes

set_option maxRecDepth 100000 in
theorem sparseMatchesReference_lifted (os : Os) (started : os.Started) (H : Type) (enc : TypeId × Value → H) :
    ReturnsInHanded {} Tryd.checked os 3 .any (fun w args => (Rows.sparseMatchesReferenceSpec.pre enc Tryd.prog Tryd.f3 [] false w args ∧ laidMetH Tryd.prog [("clearway/digest.round", Rows.laid_clearway_digest_round)] w) ∧ sizedMet enc Tryd.prog Tryd.f3 (OpenSpec.ofChange Rows.sparseMatchesReferenceSpec) false w args)
      (Rows.sparseMatchesReferenceSpec.post enc Tryd.prog Tryd.f3 false true false false) := by
  refine returnsInHanded_of_change_and (C := Tryd.checked) (X := fun w _ => laidMetH Tryd.prog [("clearway/digest.round", Rows.laid_clearway_digest_round)] w) (fun _ _ _ hh h => h.of_heap hh) seatOwn started (by kernel_rfl) Tryd.func3
    (ChangeSpec.witness_at (enc := enc) (C := Tryd.checked) (os := os) (X := fun w _ => laidMetH Tryd.prog [("clearway/digest.round", Rows.laid_clearway_digest_round)] w) false (laidWorld os) #[.slice none 0 0, .slice none 0 0, .slice none 0 0, .slice none 0 0] 8 rfl (by kernel_rfl) (by kernel_rfl) (by kernel_rfl) (by kernel_rfl) (by kernel_rfl) (laidWorld_met os _)) ?_
  intro W base args ds gs before hval hW _ _ hL _
  have hgs : gs = [] := by
    obtain ⟨p, q, _, hV, _⟩ := hW
    cases gs with
    | nil => rfl
    | cons g r => exact absurd hV (by intro h; cases h)
  subst hgs
  refine law_contract cfg_ok seatLaidOut seatMaps seatSlices G.f3_pure G.f3_all (by kernel_rfl) (fun t ht => Nat.le_of_ble_eq_true (List.all_eq_true.1 (show (Tryd.f3.params.toList.all fun t => Nat.ble (t + 1) Tryd.prog.types.size) = true by kernel_rfl) t ht)) (show Tryd.f3.resultTypes = #[4] by kernel_rfl) (show Tryd.prog.underlying 4 = some .bool by kernel_rfl) rfl ?_ hval hW (glob_of_laid hL)
  obtain ⟨p, q, hA, _⟩ := hW
  have hlen : ds.length = 4 := (trodAll_len hA).trans (show Tryd.f3.params.toList.length = 4 by kernel_rfl)
  match ds, hlen with
  | [d1, d2, d3, d4], _ => rfl

theorem sparseMatchesReference_said : Rows.SparseMatchesReferenceSaid :=
  OpenClaim.holds_of_wide 3 Tryd.f3 rfl rfl rfl rfl rfl rfl rfl ⟨rfl, rfl, rfl, rfl, rfl⟩ rfl rfl rfl rfl rfl (by kernel_rfl) Tryd.func3 (by kernel_rfl)
    (of_decide_eq_true (by kernel_rfl)) (by unfold Func.isWrapper; rw [if_neg (of_decide_eq_false (by kernel_rfl))]; exact ⟨rfl, rfl⟩)
    (fun os started H enc _ => sparseMatchesReference_lifted os started H enc)

theorem sparseMatchesReference_card : Rows.SparseMatchesReferenceCardSaid :=
  Claim7.holds_tied_plain_at .later [] [.data] true (true, "b324a5b72951b708f1c92194bdab882c17642a6af6a5ee001b65a647c57f3223") false
    sparseMatchesReference_said (fun _ h => by cases h) (by kernel_rfl) (fun _ h => by cases h) sparseMatchesReference_row_tie rfl ⟨rfl, rfl⟩ (by kernel_rfl) rfl
    (fun f fn hf hfn => by
      obtain rfl : f = 3 := Option.some.inj ((show Tryd.prog.funcNamed "clearway/clearwaylaw04.SparseMatchesReference" = some 3 by kernel_rfl).symm.trans hf) |>.symm
      obtain rfl : fn = Tryd.f3 := (Option.some.inj (Tryd.func3.symm.trans hfn)).symm
      refine ⟨by kernel_rfl, fun j t ht => ?_⟩
      have hall : (Tryd.f3.params.toList.all fun t => !Tryd.prog.wantsStandIn t) = true := by kernel_rfl
      have := List.all_eq_true.1 hall t (List.mem_of_getElem? (by rw [Array.getElem?_toList]; exact ht))
      show Tryd.prog.wantsStandIn t = false
      simpa using this)
    (by kernel_rfl)
#print axioms sparseMatchesReference_card
end Go.Proofs.YtccdkoimpoockaaDoor
