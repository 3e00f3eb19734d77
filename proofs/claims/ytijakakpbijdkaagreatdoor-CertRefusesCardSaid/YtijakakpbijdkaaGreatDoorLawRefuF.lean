/- Part of the proof. -/
import Derived.Test.YtijakakpbijdkaaGreatDoorLawKit
set_option linter.all false
set_option linter.unusedVariables false
set_option linter.unusedSectionVars false
set_option linter.unusedSimpArgs false
namespace Go.Proofs.YtijakakpbijdkaaGreatDoor
open Go Go.V Go.ChangeShapes
set_option maxRecDepth 100000
theorem certRefuses_inPlace:(Rows.certRefusesRow.inPlace == Tryz.pinned.checked.prog.inPlace 6) = true:=by kernel_rfl
theorem certRefuses_unfollowed:(Rows.certRefusesRow.unfollowed == Tryz.pinned.checked.prog.unfollowed 6) = true:=by kernel_rfl
theorem certRefuses_recurses:(Rows.certRefusesRow.recurses == Tryz.pinned.checked.prog.recurses 6) = true:=by kernel_rfl
theorem certRefuses_names:(Rows.certRefusesRow.named == Tryz.pinned.checked.prog.varsNamed 6) = true:=by kernel_rfl
theorem certRefuses_numbered:Tryz.pinned.checked.prog.funcNamed Rows.certRefusesRow.func = some 6:=by kernel_rfl
end Go.Proofs.YtijakakpbijdkaaGreatDoor
