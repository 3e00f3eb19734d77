/- SparseReadsMatchReference returns true, panics at no input, and leaves its arguments as they were: for every list of pairs of integers, every list of keys, every opening, every two changes of openings, every list of entries and every list of values. Condition: the variable digest.round holds the words with which the program starts. -/
import Derived.Test.YtccdkoimpoockaaDoorLawKit
import Derived.Test.YtccdkoimpoockaaDoorPLaw4
set_option linter.all false
set_option linter.unusedVariables false
set_option linter.unusedSectionVars false
set_option linter.unusedSimpArgs false
namespace Go.Proofs.YtccdkoimpoockaaDoor
open Go Go.V Go.ChangeShapes

set_option maxRecDepth 100000 in
theorem sparseReadsMatchReference_lifted (os : Os) (started : os.Started) (H : Type) (enc : TypeId × Value → H) :
    ReturnsInHanded {} Tryd.checked os 4 .any (fun w args => (Rows.sparseReadsMatchReferenceSpec.pre enc Tryd.prog Tryd.f4 [] false w args ∧ laidMetH Tryd.prog [("clearway/digest.round", Rows.laid_clearway_digest_round)] w) ∧ sizedMet enc Tryd.prog Tryd.f4 (OpenSpec.ofChange Rows.sparseReadsMatchReferenceSpec) false w args)
      (Rows.sparseReadsMatchReferenceSpec.post enc Tryd.prog Tryd.f4 false true false false) := by
  refine returnsInHanded_of_change_and (C := Tryd.checked) (X := fun w _ => laidMetH Tryd.prog [("clearway/digest.round", Rows.laid_clearway_digest_round)] w) (fun _ _ _ hh h => h.of_heap hh) seatOwn started (by kernel_rfl) Tryd.func4
    (ChangeSpec.witness_at (enc := enc) (C := Tryd.checked) (os := os) (X := fun w _ => laidMetH Tryd.prog [("clearway/digest.round", Rows.laid_clearway_digest_round)] w) false (laidWorld os) #[.slice none 0 0, .slice none 0 0, .agg #[.slice none 0 0, .slice none 0 0, .slice none 0 0], .agg #[.int .i64 0, .int .i64 0, .int .i64 0, .int .i64 0, .int .i64 0, .int .i64 0], .slice none 0 0, .slice none 0 0] 8 rfl (by kernel_rfl) (by kernel_rfl) (by kernel_rfl) (by kernel_rfl) (by kernel_rfl) (laidWorld_met os _)) ?_
  intro W base args ds gs before hval hW _ _ hL _
  have hgs : gs = [] := by
    obtain ⟨p, q, _, hV, _⟩ := hW
    cases gs with
    | nil => rfl
    | cons g r => exact absurd hV (by intro h; cases h)
  subst hgs
  refine law_contract cfg_ok seatLaidOut seatMaps seatSlices G.f4_pure G.f4_all (by kernel_rfl) (fun t ht => Nat.le_of_ble_eq_true (List.all_eq_true.1 (show (Tryd.f4.params.toList.all fun t => Nat.ble (t + 1) Tryd.prog.types.size) = true by kernel_rfl) t ht)) (show Tryd.f4.resultTypes = #[4] by kernel_rfl) (show Tryd.prog.underlying 4 = some .bool by kernel_rfl) rfl ?_ hval hW (glob_of_laid hL)
  obtain ⟨p, q, hA, _⟩ := hW
  have hlen : ds.length = 6 := (trodAll_len hA).trans (show Tryd.f4.params.toList.length = 6 by kernel_rfl)
  match ds, hlen with
  | [d1, d2, d3, d4, d5, d6], _ => rfl

theorem sparseReadsMatchReference_said : Rows.SparseReadsMatchReferenceSaid :=
  OpenClaim.holds_of_wide 4 Tryd.f4 rfl rfl rfl rfl rfl rfl rfl ⟨rfl, rfl, rfl, rfl, rfl⟩ rfl rfl rfl rfl rfl (by kernel_rfl) Tryd.func4 (by kernel_rfl)
    (of_decide_eq_true (by kernel_rfl)) (by unfold Func.isWrapper; rw [if_neg (of_decide_eq_false (by kernel_rfl))]; exact ⟨rfl, rfl⟩)
    (fun os started H enc _ => sparseReadsMatchReference_lifted os started H enc)

theorem sparseReadsMatchReference_card : Rows.SparseReadsMatchReferenceCardSaid :=
  Claim7.holds_tied_plain_at .later [] [.data] true (true, "b324a5b72951b708f1c92194bdab882c17642a6af6a5ee001b65a647c57f3223") false
    sparseReadsMatchReference_said (fun _ h => by cases h) (by kernel_rfl) (fun _ h => by cases h) sparseReadsMatchReference_row_tie rfl ⟨rfl, rfl⟩ (by kernel_rfl) rfl
    (fun f fn hf hfn => by
      obtain rfl : f = 4 := Option.some.inj ((show Tryd.prog.funcNamed "clearway/clearwaylaw04.SparseReadsMatchReference" = some 4 by kernel_rfl).symm.trans hf) |>.symm
      obtain rfl : fn = Tryd.f4 := (Option.some.inj (Tryd.func4.symm.trans hfn)).symm
      refine ⟨by kernel_rfl, fun j t ht => ?_⟩
      have hall : (Tryd.f4.params.toList.all fun t => !Tryd.prog.wantsStandIn t) = true := by kernel_rfl
      have := List.all_eq_true.1 hall t (List.mem_of_getElem? (by rw [Array.getElem?_toList]; exact ht))
      show Tryd.prog.wantsStandIn t = false
      simpa using this)
    (by kernel_rfl)
#print axioms sparseReadsMatchReference_card
end Go.Proofs.YtccdkoimpoockaaDoor
