/- Part of the proof. -/
import Derived.Test.YtijakakpbijdkaaGreatDoorLawKit
set_option linter.all false
set_option linter.unusedVariables false
set_option linter.unusedSectionVars false
set_option linter.unusedSimpArgs false
namespace Go.Proofs.YtijakakpbijdkaaGreatDoor
open Go Go.V Go.ChangeShapes
set_option maxRecDepth 100000
theorem certComposes_inPlace:(Rows.certComposesRow.inPlace == Tryz.pinned.checked.prog.inPlace 5) = true:=by kernel_rfl
theorem certComposes_unfollowed:(Rows.certComposesRow.unfollowed == Tryz.pinned.checked.prog.unfollowed 5) = true:=by kernel_rfl
theorem certComposes_recurses:(Rows.certComposesRow.recurses == Tryz.pinned.checked.prog.recurses 5) = true:=by kernel_rfl
theorem certComposes_names:(Rows.certComposesRow.named == Tryz.pinned.checked.prog.varsNamed 5) = true:=by kernel_rfl
theorem certComposes_numbered:Tryz.pinned.checked.prog.funcNamed Rows.certComposesRow.func = some 5:=by kernel_rfl
end Go.Proofs.YtijakakpbijdkaaGreatDoor
