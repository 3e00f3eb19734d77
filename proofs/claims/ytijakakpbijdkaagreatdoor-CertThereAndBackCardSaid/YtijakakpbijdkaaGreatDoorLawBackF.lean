/- Part of the proof. -/
import Derived.Test.YtijakakpbijdkaaGreatDoorLawKit
set_option linter.all false
set_option linter.unusedVariables false
set_option linter.unusedSectionVars false
set_option linter.unusedSimpArgs false
namespace Go.Proofs.YtijakakpbijdkaaGreatDoor
open Go Go.V Go.ChangeShapes
set_option maxRecDepth 100000
theorem certThereAndBack_inPlace:(Rows.certThereAndBackRow.inPlace == Tryz.pinned.checked.prog.inPlace 4) = true:=by kernel_rfl
theorem certThereAndBack_unfollowed:(Rows.certThereAndBackRow.unfollowed == Tryz.pinned.checked.prog.unfollowed 4) = true:=by kernel_rfl
theorem certThereAndBack_recurses:(Rows.certThereAndBackRow.recurses == Tryz.pinned.checked.prog.recurses 4) = true:=by kernel_rfl
theorem certThereAndBack_names:(Rows.certThereAndBackRow.named == Tryz.pinned.checked.prog.varsNamed 4) = true:=by kernel_rfl
theorem certThereAndBack_numbered:Tryz.pinned.checked.prog.funcNamed Rows.certThereAndBackRow.func = some 4:=by kernel_rfl
end Go.Proofs.YtijakakpbijdkaaGreatDoor
