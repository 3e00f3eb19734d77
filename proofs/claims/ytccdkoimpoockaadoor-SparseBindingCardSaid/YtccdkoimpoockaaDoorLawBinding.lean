/- SparseBinding returns true, panics at no input, and leaves its arguments as they were: for every two lists of pairs of integers, every list of keys, every opening and every two changes of openings. Condition: the variable digest.round holds the words with which the program starts. -/
import Derived.Test.YtccdkoimpoockaaDoorLawKit
import Derived.Test.YtccdkoimpoockaaDoorPLaw6
set_option linter.all false
set_option linter.unusedVariables false
set_option linter.unusedSectionVars false
set_option linter.unusedSimpArgs false
namespace Go.Proofs.YtccdkoimpoockaaDoor
open Go Go.V Go.ChangeShapes

set_option maxRecDepth 100000 in
theorem sparseBinding_lifted (os : Os) (started : os.Started) (H : Type) (enc : TypeId × Value → H) :
    ReturnsInHanded {} Tryd.checked os 6 .any (fun w args => (Rows.sparseBindingSpec.pre enc Tryd.prog Tryd.f6 [] false w args ∧ laidMetH Tryd.prog [("clearway/digest.round", Rows.laid_clearway_digest_round)] w) ∧ sizedMet enc Tryd.prog Tryd.f6 (OpenSpec.ofChange Rows.sparseBindingSpec) false w args)
      (Rows.sparseBindingSpec.post enc Tryd.prog Tryd.f6 false true false false) := by
  refine returnsInHanded_of_change_and (C := Tryd.checked) (X := fun w _ => laidMetH Tryd.prog [("clearway/digest.round", Rows.laid_clearway_digest_round)] w) (fun _ _ _ hh h => h.of_heap hh) seatOwn started (by kernel_rfl) Tryd.func6
    (ChangeSpec.witness_at (enc := enc) (C := Tryd.checked) (os := os) (X := fun w _ => laidMetH Tryd.prog [("clearway/digest.round", Rows.laid_clearway_digest_round)] w) false (laidWorld os) #[.slice none 0 0, .slice none 0 0, .slice none 0 0, .agg #[.slice none 0 0, .slice none 0 0, .slice none 0 0], .agg #[.int .i64 0, .int .i64 0, .int .i64 0, .int .i64 0, .int .i64 0, .int .i64 0]] 8 rfl (by kernel_rfl) (by kernel_rfl) (by kernel_rfl) (by kernel_rfl) (by kernel_rfl) (laidWorld_met os _)) ?_
  intro W base args ds gs before hval hW _ _ hL _
  have hgs : gs = [] := by
    obtain ⟨p, q, _, hV, _⟩ := hW
    cases gs with
    | nil => rfl
    | cons g r => exact absurd hV (by intro h; cases h)
  subst hgs
  refine law_contract cfg_ok seatLaidOut seatMaps seatSlices G.f6_pure G.f6_all (by kernel_rfl) (fun t ht => Nat.le_of_ble_eq_true (List.all_eq_true.1 (show (Tryd.f6.params.toList.all fun t => Nat.ble (t + 1) Tryd.prog.types.size) = true by kernel_rfl) t ht)) (show Tryd.f6.resultTypes = #[4] by kernel_rfl) (show Tryd.prog.underlying 4 = some .bool by kernel_rfl) rfl ?_ hval hW (glob_of_laid hL)
  obtain ⟨p, q, hA, _⟩ := hW
  have hlen : ds.length = 5 := (trodAll_len hA).trans (show Tryd.f6.params.toList.length = 5 by kernel_rfl)
  match ds, hlen with
  | [d1, d2, d3, d4, d5], _ => rfl

theorem sparseBinding_said : Rows.SparseBindingSaid :=
  OpenClaim.holds_of_wide 6 Tryd.f6 rfl rfl rfl rfl rfl rfl rfl ⟨rfl, rfl, rfl, rfl, rfl⟩ rfl rfl rfl rfl rfl (by kernel_rfl) Tryd.func6 (by kernel_rfl)
    (of_decide_eq_true (by kernel_rfl)) (by unfold Func.isWrapper; rw [if_neg (of_decide_eq_false (by kernel_rfl))]; exact ⟨rfl, rfl⟩)
    (fun os started H enc _ => sparseBinding_lifted os started H enc)

theorem sparseBinding_card : Rows.SparseBindingCardSaid :=
  Claim7.holds_tied_plain_at .later [] [.data] true (true, "b324a5b72951b708f1c92194bdab882c17642a6af6a5ee001b65a647c57f3223") false
    sparseBinding_said (fun _ h => by cases h) (by kernel_rfl) (fun _ h => by cases h) sparseBinding_row_tie rfl ⟨rfl, rfl⟩ (by kernel_rfl) rfl
    (fun f fn hf hfn => by
      obtain rfl : f = 6 := Option.some.inj ((show Tryd.prog.funcNamed "clearway/clearwaylaw04.SparseBinding" = some 6 by kernel_rfl).symm.trans hf) |>.symm
      obtain rfl : fn = Tryd.f6 := (Option.some.inj (Tryd.func6.symm.trans hfn)).symm
      refine ⟨by kernel_rfl, fun j t ht => ?_⟩
      have hall : (Tryd.f6.params.toList.all fun t => !Tryd.prog.wantsStandIn t) = true := by kernel_rfl
      have := List.all_eq_true.1 hall t (List.mem_of_getElem? (by rw [Array.getElem?_toList]; exact ht))
      show Tryd.prog.wantsStandIn t = false
      simpa using this)
    (by kernel_rfl)
#print axioms sparseBinding_card
end Go.Proofs.YtccdkoimpoockaaDoor
