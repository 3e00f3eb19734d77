/- PageViews returns true, panics at no input, and leaves its arguments as they were: for every two integers, lists of rows of five and of six integers, truth value, vertex and label. -/
import Derived.Test.YtfjpfjcdejjkeaaGreatDoorA6
set_option linter.all false
set_option linter.unusedVariables false
set_option linter.unusedSectionVars false
set_option linter.unusedSimpArgs false
namespace Go.Proofs.YtfjpfjcdejjkeaaGreatDoor
open Go Go.V Go.ChangeShapes
set_option maxRecDepth 100000 in
theorem pageViews_lifted (os : Os) (started : os.Started) (H : Type) (enc : TypeId × Value → H) :
  ReturnsInHanded {} Tryz.checked os 6 .any (fun w args => (Rows.pageViewsSpec.pre enc Tryz.prog Tryz.f6 [] false w args ∧ laidMetH Tryz.prog [("clearway/digest.round", Rows.laid_clearway_digest_round)] w) ∧ sizedMet enc Tryz.prog Tryz.f6 (OpenSpec.ofChange Rows.pageViewsSpec) false w args)
   (Rows.pageViewsSpec.post enc Tryz.prog Tryz.f6 false true false false) := by
 refine returnsInHanded_of_change_and (C := Tryz.checked) (X := fun w _ => laidMetH Tryz.prog [("clearway/digest.round", Rows.laid_clearway_digest_round)] w) (fun _ _ _ hh h => h.of_heap hh) seatOwn started (by kernel_rfl) Tryz.func6
  (ChangeSpec.witness_at (enc := enc) (C := Tryz.checked) (os := os) (X := fun w _ => laidMetH Tryz.prog [("clearway/digest.round", Rows.laid_clearway_digest_round)] w) false (laidWorld os) #[.int .i64 0, .slice none 0 0, .bool false, .slice none 0 0, .slice none 0 0, .int .i64 0, .int .i64 0] 8 rfl (by kernel_rfl) (by kernel_rfl) (by kernel_rfl) (by kernel_rfl) (by kernel_rfl) (laidWorld_met os _)) ?_
 intro W base args ds gs before hval hW _ _ hL _
 have hgs : gs = [] := by
  obtain ⟨p, q, _, hV, _⟩ := hW
  cases gs with
  | nil => rfl
  | cons g r => exact absurd hV (by intro h; cases h)
 subst hgs
 refine law_contract cfg_ok seatLaidOut seatMaps seatSlices G.f6_pure G.f6_all (by kernel_rfl) (fun t ht => Nat.le_of_ble_eq_true (List.all_eq_true.1 (show (Tryz.f6.params.toList.all fun t => Nat.ble (t + 1) Tryz.prog.types.size) = true by kernel_rfl) t ht)) (show Tryz.f6.resultTypes = #[4] by kernel_rfl) (show Tryz.prog.underlying 4 = some .bool by kernel_rfl) rfl ?_ hval hW (glob_of_laid hL)
 obtain ⟨p, q, hA, _⟩ := hW
 have hlen : ds.length = 7 := (trodAll_len hA).trans (show Tryz.f6.params.toList.length = 7 by kernel_rfl)
 match ds, hlen with
 | [d1, d2, d3, d4, d5, d6, d7], _ => rfl
theorem pageViews_said : Rows.PageViewsSaid :=
 OpenClaim.holds_of_wide 6 Tryz.f6 rfl rfl rfl rfl rfl rfl rfl ⟨rfl, rfl, rfl, rfl, rfl⟩ rfl rfl rfl rfl rfl (by kernel_rfl) Tryz.func6 (by kernel_rfl)
  (of_decide_eq_true (by kernel_rfl)) (by unfold Func.isWrapper; rw [if_neg (of_decide_eq_false (by kernel_rfl))]; exact ⟨rfl, rfl⟩)
  (fun os started H enc _ => pageViews_lifted os started H enc)
theorem pageViews_card : Rows.PageViewsCardSaid :=
 Claim7.holds_tied_plain_at .later [] [.data] true (true, "135e0cbf156c235909c9a3c7e3c71d6caa3499118f384ea90eded1eb9e263408") true
  pageViews_said (fun _ h => by cases h) (by kernel_rfl) (fun _ h => by cases h) pageViews_row_tie rfl ⟨rfl, rfl⟩ (by kernel_rfl) rfl
  (fun f fn hf hfn => by
   obtain rfl : f = 6 := Option.some.inj ((show Tryz.prog.funcNamed "clearway/clearwaylaw06.PageViews" = some 6 by kernel_rfl).symm.trans hf) |>.symm
   obtain rfl : fn = Tryz.f6 := (Option.some.inj (Tryz.func6.symm.trans hfn)).symm
   refine ⟨by kernel_rfl, fun j t ht => ?_⟩
   have hall : (Tryz.f6.params.toList.all fun t => !Tryz.prog.wantsStandIn t) = true := by kernel_rfl
   have := List.all_eq_true.1 hall t (List.mem_of_getElem? (by rw [Array.getElem?_toList]; exact ht))
   show Tryz.prog.wantsStandIn t = false
   simpa using this)
  (by kernel_rfl)
#print axioms pageViews_card
end Go.Proofs.YtfjpfjcdejjkeaaGreatDoor
