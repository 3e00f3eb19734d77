/- Part of the proof. -/
import Derived.Test.YtijakakpbijdkaaGreatDoorLawKit
set_option linter.all false
set_option linter.unusedVariables false
set_option linter.unusedSectionVars false
set_option linter.unusedSimpArgs false
namespace Go.Proofs.YtijakakpbijdkaaGreatDoor
open Go Go.V Go.ChangeShapes
set_option maxRecDepth 100000
theorem certDeltasMatchReference_inPlace:(Rows.certDeltasMatchReferenceRow.inPlace == Tryz.pinned.checked.prog.inPlace 3) = true:=by kernel_rfl
theorem certDeltasMatchReference_unfollowed:(Rows.certDeltasMatchReferenceRow.unfollowed == Tryz.pinned.checked.prog.unfollowed 3) = true:=by kernel_rfl
theorem certDeltasMatchReference_recurses:(Rows.certDeltasMatchReferenceRow.recurses == Tryz.pinned.checked.prog.recurses 3) = true:=by kernel_rfl
theorem certDeltasMatchReference_names:(Rows.certDeltasMatchReferenceRow.named == Tryz.pinned.checked.prog.varsNamed 3) = true:=by kernel_rfl
theorem certDeltasMatchReference_numbered:Tryz.pinned.checked.prog.funcNamed Rows.certDeltasMatchReferenceRow.func = some 3:=by kernel_rfl
end Go.Proofs.YtijakakpbijdkaaGreatDoor
