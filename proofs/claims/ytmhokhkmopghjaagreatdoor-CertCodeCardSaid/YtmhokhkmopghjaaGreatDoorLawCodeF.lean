/- Part of the proof. -/
import Derived.Test.YtmhokhkmopghjaaGreatDoorLawKit
set_option linter.all false
set_option linter.unusedVariables false
set_option linter.unusedSectionVars false
set_option linter.unusedSimpArgs false
namespace Go.Proofs.YtmhokhkmopghjaaGreatDoor
open Go Go.V Go.ChangeShapes
set_option maxRecDepth 100000
theorem zff:(Rows.certCodeRow.inPlace == Tryz.pinned.checked.prog.inPlace 3) = true:=by kernel_rfl
theorem zd4:(Rows.certCodeRow.unfollowed == Tryz.pinned.checked.prog.unfollowed 3) = true:=by kernel_rfl
theorem zeY:(Rows.certCodeRow.recurses == Tryz.pinned.checked.prog.recurses 3) = true:=by kernel_rfl
theorem zgn:(Rows.certCodeRow.named == Tryz.pinned.checked.prog.varsNamed 3) = true:=by kernel_rfl
theorem zcR:Tryz.pinned.checked.prog.funcNamed Rows.certCodeRow.func = some 3:=by kernel_rfl
end Go.Proofs.YtmhokhkmopghjaaGreatDoor
