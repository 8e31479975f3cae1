/- The reference's Base in figures, the first half -/
import Derived.Test.YtinbeihbhnjjnaaGxBs2
namespace Go.Proofs.Sx
open Go
set_option linter.unusedVariables false
section
variable (r : Ru)
theorem t24_0 : (validL 0 32).map (g24 r) = (validL 0 32).map fun q => some (.one (.w64 (baseC r q)), [!(!(Nat.ble (sinceQ q) r.f)), !(Nat.blt 15 r.f), true]) := by kernel_rfl
theorem t24_1 : (validL 32 32).map (g24 r) = (validL 32 32).map fun q => some (.one (.w64 (baseC r q)), [!(!(Nat.ble (sinceQ q) r.f)), !(Nat.blt 15 r.f), true]) := by kernel_rfl
theorem t24_2 : (validL 64 32).map (g24 r) = (validL 64 32).map fun q => some (.one (.w64 (baseC r q)), [!(!(Nat.ble (sinceQ q) r.f)), !(Nat.blt 15 r.f), true]) := by kernel_rfl
theorem t24_3 : (validL 96 32).map (g24 r) = (validL 96 32).map fun q => some (.one (.w64 (baseC r q)), [!(!(Nat.ble (sinceQ q) r.f)), !(Nat.blt 15 r.f), true]) := by kernel_rfl
end
end Go.Proofs.Sx
