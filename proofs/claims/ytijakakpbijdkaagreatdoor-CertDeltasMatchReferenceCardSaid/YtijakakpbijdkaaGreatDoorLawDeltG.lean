/- Part of the proof. -/
import Derived.KernelRfl
import GoSem.ClaimSeven
import Derived.Test.YtijakakpbijdkaaGreatDoorRows
set_option linter.all false
set_option linter.unusedVariables false
set_option linter.unusedSectionVars false
set_option linter.unusedSimpArgs false
namespace Go.Proofs.YtijakakpbijdkaaGreatDoor
open Go
set_option maxRecDepth 100000
theorem certDeltasMatchReference_goes:false = Rows.certDeltasMatchReferenceRow.goesBy Tryz.pinned.checked.prog:=by kernel_rfl
end Go.Proofs.YtijakakpbijdkaaGreatDoor
