/- The reference's Base in figures, the other half -/
import Derived.Test.YtinbeihbhnjjnaaGxBs2
namespace Go.Proofs.Sx
open Go
set_option linter.unusedVariables false
section
variable (r : Ru)
theorem t24_4 : (validL 128 32).map (g24 r) = (validL 128 32).map fun q => some (.one (.w64 (baseC r q)), [!(!(Nat.ble (sinceQ q) r.f)), !(Nat.blt 15 r.f), true]) := by kernel_rfl
theorem t24_5 : (validL 160 32).map (g24 r) = (validL 160 32).map fun q => some (.one (.w64 (baseC r q)), [!(!(Nat.ble (sinceQ q) r.f)), !(Nat.blt 15 r.f), true]) := by kernel_rfl
theorem t24_6 : (validL 192 32).map (g24 r) = (validL 192 32).map fun q => some (.one (.w64 (baseC r q)), [!(!(Nat.ble (sinceQ q) r.f)), !(Nat.blt 15 r.f), true]) := by kernel_rfl
theorem t24_7 : (validL 224 32).map (g24 r) = (validL 224 32).map fun q => some (.one (.w64 (baseC r q)), [!(!(Nat.ble (sinceQ q) r.f)), !(Nat.blt 15 r.f), true]) := by kernel_rfl
theorem u24 : (List.range' 0 256).map (nf24 r) = (List.range' 0 256).map fun q => some (.one (.w64 0#64), [!(Nat.ble (sinceQ q) r.f), !(Nat.blt 15 r.f), true]) := by kernel_rfl
end
end Go.Proofs.Sx
