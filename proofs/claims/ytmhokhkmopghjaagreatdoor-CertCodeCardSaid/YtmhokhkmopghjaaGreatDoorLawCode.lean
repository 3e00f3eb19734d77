/- CertCode returns true, panics at no input, and leaves its arguments as they were: for every two lists of rows of four integers, every list of integers, every string, every two integers and every byte. Condition: the variables math/bits.deBruijn32tab, digest.round and dist.checks hold what the program starts with. -/
import Derived.Test.YtmhokhkmopghjaaGreatDoorA12
import Derived.Test.YtmhokhkmopghjaaGreatDoorLawKit
import Derived.Test.YtmhokhkmopghjaaGreatDoorLawCodeF
import Derived.Test.YtmhokhkmopghjaaGreatDoorLawCodeG
set_option linter.all false
set_option linter.unusedVariables false
set_option linter.unusedSectionVars false
set_option linter.unusedSimpArgs false
namespace Go.Proofs.YtmhokhkmopghjaaGreatDoor
open Go Go.V Go.ChangeShapes
set_option maxRecDepth 100000 in
theorem zgb (os : Os) (started : os.Started) (H : Type) (enc : TypeId × Value → H) :
  ReturnsInHanded {} Tryz.checked os 3 .any (fun w args => (Rows.certCodeSpec.pre enc Tryz.prog Tryz.f3 [] false w args ∧ laidMetH Tryz.prog zdb w) ∧ sizedMet enc Tryz.prog Tryz.f3 (OpenSpec.ofChange Rows.certCodeSpec) false w args)
   (Rows.certCodeSpec.post enc Tryz.prog Tryz.f3 false true false false) := by
 refine returnsInHanded_of_change_and (C := Tryz.checked) (X := fun w _ => laidMetH Tryz.prog zdb w) (fun _ _ _ hh h => h.of_heap hh) zoP started (by kernel_rfl) Tryz.func3
  (ChangeSpec.witness_at (enc := enc) (C := Tryz.checked) (os := os) (X := fun w _ => laidMetH Tryz.prog zdb w) false (laidWorld os) #[.slice none 0 0, .slice none 0 0, .slice none 0 0, .string ⟨#[]⟩, .int .i64 0, .int .u8 0, .int .i64 0] 8 rfl (by kernel_rfl) (by kernel_rfl) (by kernel_rfl) (by kernel_rfl) (by kernel_rfl) (laidWorld_met os _)) ?_
 intro W base args ds gs before hval hW _ _ hL _
 have hgs : gs = [] := by
  obtain ⟨p, q, _, hV, _⟩ := hW
  cases gs with
  | nil => rfl
  | cons g r => exact absurd hV (by intro h; cases h)
 subst hgs
 refine ziM zce zjK znG zk9 G.f503p G.f503_all (by kernel_rfl) (fun t ht => Nat.le_of_ble_eq_true (List.all_eq_true.1 (show (Tryz.f3.params.toList.all fun t => Nat.ble (t + 1) Tryz.prog.types.size) = true by kernel_rfl) t ht)) (show Tryz.f3.resultTypes = #[4] by kernel_rfl) (show Tryz.prog.underlying 4 = some .bool by kernel_rfl) rfl ?_ hval hW (ziR hL)
 obtain ⟨p, q, hA, _⟩ := hW
 have hlen : ds.length = 7 := (zgf hA).trans (show Tryz.f3.params.toList.length = 7 by kernel_rfl)
 match ds, hlen with
 | [d1, d2, d3, d4, d5, d6, d7], _ => rfl
theorem zgc : joinedFacts Tryz.pinned.checked.prog 3 Tryz.f3 Rows.certCodeSpec Rows.certCodeRow = true := by
 unfold joinedFacts
 rw [zff, zd4, zeY, zgn, zmL, zmM]
 as_aux_lemma => kernel_rfl
theorem zhS : Rows.CertCodeSaid :=
 OpenClaim.holds_of_wide 3 Tryz.f3 rfl rfl rfl rfl rfl rfl rfl ⟨rfl, rfl, rfl, rfl, rfl⟩ rfl rfl rfl rfl rfl zcR Tryz.func3 zgc
  (of_decide_eq_true (by as_aux_lemma => kernel_rfl)) (by unfold Func.isWrapper; rw [if_neg (of_decide_eq_false (by as_aux_lemma => kernel_rfl))]; exact ⟨rfl, rfl⟩)
  (fun os started H enc _ => zgb os started H enc)
theorem zgd : (Tryz.f3.params.toList.all fun t => !Tryz.prog.wantsStandIn t) = true := by kernel_rfl
theorem zhT : Rows.certCodeRow.wfByText (OpenSpec.ofChange Rows.certCodeSpec) = true := by kernel_rfl
theorem certCode_card : Rows.CertCodeCardSaid :=
 Claim7.holds_tied_plain_at .later [] [.data, .data, .funcs] true (true, "cfd3de34610688c6b600382d0d802b4dec0ca0e40314077a14cfcd15914af5f4") true
  zhS (fun _ h => by cases h) zhT (fun _ h => by cases h) certCode_row_tie rfl ⟨rfl, rfl⟩ znH rfl
  (fun f fn hf hfn => by
   obtain rfl : f = 3 := Option.some.inj (zcR.symm.trans hf) |>.symm
   obtain rfl : fn = Tryz.f3 := (Option.some.inj (Tryz.func3.symm.trans hfn)).symm
   refine ⟨zmN, fun j t ht => ?_⟩
   have := List.all_eq_true.1 zgd t (List.mem_of_getElem? (by rw [Array.getElem?_toList]; exact ht))
   show Tryz.prog.wantsStandIn t = false
   simpa using this)
  zhU
#print axioms certCode_card
end Go.Proofs.YtmhokhkmopghjaaGreatDoor
