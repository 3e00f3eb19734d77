/- The examples of the chapter, evaluated. -/
import Derived.Test.YtccdkoimpoockaaDoorGE
set_option linter.all false
set_option linter.unusedVariables false
set_option linter.unusedSectionVars false
set_option linter.unusedSimpArgs false
namespace Go.V.G
abbrev zs (n : Nat) : List ByteArray := List.replicate n zeroD
def sa : ByteArray := ⟨#[97]⟩
def e5 : Ent := (5, sa, ())
theorem ex_root0 : f13 [] = some (zeroD, 0, ()) := by kernel_rfl
theorem ex_rootBad : f13 [(64, sa, ())] = some (emp, 40, ()) := by kernel_rfl
theorem ex_prove0 : f18 [] [5] = some (([5], [emp], zs 6, ()), 0, ()) := by kernel_rfl
theorem ex_proveAll : f18 [] [] = some (([], [], zs 1, ()), 0, ()) := by kernel_rfl
theorem ex_read0 : f23 zeroD ([5], [emp], zs 6, ()) = some ([], [5], true, ()) := by kernel_rfl
theorem ex_readNo : f23 sv6 ([5], [emp], zs 6, ()) = some ([], [], false, ()) := by kernel_rfl
theorem ex_prove1 : f18 [e5] [5] = some (([5], [sa], zs 6, ()), 0, ()) := by kernel_rfl
end Go.V.G
