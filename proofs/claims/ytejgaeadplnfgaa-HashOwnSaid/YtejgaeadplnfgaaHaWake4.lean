/- Keccak-256 of no bytes, by the program. -/
import Derived.Test.YtejgaeadplnfgaaHaWake2
namespace Go.Proofs.Sx
open Go
def kec0 : List Nat := [197, 210, 70, 1, 134, 247, 35, 60, 146, 126, 125, 178, 220, 199, 3, 192, 229, 0, 182, 83, 202, 130, 39, 59, 123, 250, 216, 4, 93, 133, 164, 112]
theorem f14n : figR (callD Mw 14 [.one .nl] [] []) = some kec0 := by kernel_rfl
end Go.Proofs.Sx
