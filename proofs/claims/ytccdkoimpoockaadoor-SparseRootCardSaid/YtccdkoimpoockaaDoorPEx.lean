/- Digests of the examples. -/
import Derived.Test.YtccdkoimpoockaaDoorPRoot
set_option linter.all false
set_option linter.unusedVariables false
set_option linter.unusedSectionVars false
set_option linter.unusedSimpArgs false
namespace Go.V.G
def sv0 : ByteArray := (⟨#[5, 163, 59, 255, 173, 143, 171, 111, 116, 157, 65, 171, 0, 124, 117, 57, 34, 133, 40, 133, 88, 74, 242, 64, 64, 230, 178, 185, 240, 176, 14, 119]⟩ : ByteArray)
def sv1 : ByteArray := (⟨#[104, 133, 106, 231, 5, 95, 144, 70, 201, 12, 95, 152, 160, 95, 92, 220, 92, 2, 12, 250, 166, 111, 54, 132, 138, 7, 234, 87, 61, 35, 122, 33]⟩ : ByteArray)
def sv2 : ByteArray := (⟨#[114, 97, 203, 15, 14, 149, 184, 165, 229, 229, 49, 33, 57, 217, 117, 250, 37, 159, 195, 250, 189, 179, 96, 74, 46, 61, 132, 250, 49, 157, 96, 219]⟩ : ByteArray)
def sv3 : ByteArray := (⟨#[75, 20, 164, 92, 59, 76, 47, 37, 30, 155, 54, 45, 109, 183, 168, 202, 127, 99, 155, 192, 241, 104, 106, 161, 49, 13, 3, 181, 36, 22, 42, 213]⟩ : ByteArray)
def sv4 : ByteArray := (⟨#[222, 188, 205, 34, 10, 53, 77, 155, 240, 31, 180, 52, 73, 87, 15, 202, 79, 152, 96, 11, 58, 190, 247, 181, 35, 94, 153, 37, 151, 135, 110, 228]⟩ : ByteArray)
def sv5 : ByteArray := (⟨#[125, 194, 93, 128, 183, 232, 175, 166, 98, 238, 219, 6, 168, 84, 72, 153, 13, 212, 244, 1, 173, 20, 239, 239, 44, 20, 157, 151, 218, 182, 246, 226]⟩ : ByteArray)
def sv6 : ByteArray := (⟨#[160, 83, 207, 71, 30, 167, 44, 130, 12, 86, 192, 126, 196, 164, 13, 58, 31, 173, 169, 93, 109, 103, 104, 106, 92, 14, 77, 52, 153, 245, 11, 180]⟩ : ByteArray)
def exIn : ByteArray := ⟨#[8, 10, 97]⟩
theorem sv0_ref : f53 exIn = some (sv0, ()) := by kernel_rfl
theorem sv1_ref : f53 (joinS zeroD sv0) = some (sv1, ()) := by kernel_rfl
theorem sv2_ref : f53 (joinS sv1 zeroD) = some (sv2, ()) := by kernel_rfl
theorem sv3_ref : f53 (joinS zeroD sv2) = some (sv3, ()) := by kernel_rfl
theorem sv4_ref : f53 (joinS sv3 zeroD) = some (sv4, ()) := by kernel_rfl
theorem sv5_ref : f53 (joinS sv4 zeroD) = some (sv5, ()) := by kernel_rfl
theorem sv6_ref : f53 (joinS sv5 zeroD) = some (sv6, ()) := by kernel_rfl
end Go.V.G
