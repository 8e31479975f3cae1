/- SHA-256 of no bytes, by the program. -/
import Derived.Test.YtejgaeadplnfgaaHaWake2
namespace Go.Proofs.Sx
open Go
def sha0 : List Nat := [227, 176, 196, 66, 152, 252, 28, 20, 154, 251, 244, 200, 153, 111, 185, 36, 39, 174, 65, 228, 100, 155, 147, 76, 164, 149, 153, 27, 120, 82, 184, 85]
theorem f17n : figR (callD M1 17 [.one .nl] [] dsPad) = some sha0 := by kernel_rfl
end Go.Proofs.Sx
