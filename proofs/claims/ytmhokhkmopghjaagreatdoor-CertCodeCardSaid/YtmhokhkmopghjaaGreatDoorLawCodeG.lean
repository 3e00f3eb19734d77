/- Part of the proof. -/
import Derived.KernelRfl
import GoSem.ClaimSeven
import Derived.Test.YtmhokhkmopghjaaGreatDoorRows
set_option linter.all false
set_option linter.unusedVariables false
set_option linter.unusedSectionVars false
set_option linter.unusedSimpArgs false
namespace Go.Proofs.YtmhokhkmopghjaaGreatDoor
open Go
set_option maxRecDepth 100000
theorem zhU:false = Rows.certCodeRow.goesBy Tryz.pinned.checked.prog:=by kernel_rfl
end Go.Proofs.YtmhokhkmopghjaaGreatDoor
