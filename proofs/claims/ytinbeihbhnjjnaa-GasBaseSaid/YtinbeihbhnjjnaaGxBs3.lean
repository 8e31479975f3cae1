/- gas.Base in figures -/
import Derived.Test.YtinbeihbhnjjnaaGxBs2
namespace Go.Proofs.Sx
open Go
set_option linter.unusedVariables false
section
variable (r : Ru)
theorem t23_0 : (validL 0 32).map (g23 r) = (validL 0 32).map fun q => some (.one (.w64 (baseC r q)), [!(!(Nat.ble r.f 15)), Nat.ble (sinceQ q) r.f]) := by kernel_rfl
theorem t23_1 : (validL 32 32).map (g23 r) = (validL 32 32).map fun q => some (.one (.w64 (baseC r q)), [!(!(Nat.ble r.f 15)), Nat.ble (sinceQ q) r.f]) := by kernel_rfl
theorem t23_2 : (validL 64 32).map (g23 r) = (validL 64 32).map fun q => some (.one (.w64 (baseC r q)), [!(!(Nat.ble r.f 15)), Nat.ble (sinceQ q) r.f]) := by kernel_rfl
theorem t23_3 : (validL 96 32).map (g23 r) = (validL 96 32).map fun q => some (.one (.w64 (baseC r q)), [!(!(Nat.ble r.f 15)), Nat.ble (sinceQ q) r.f]) := by kernel_rfl
theorem t23_4 : (validL 128 32).map (g23 r) = (validL 128 32).map fun q => some (.one (.w64 (baseC r q)), [!(!(Nat.ble r.f 15)), Nat.ble (sinceQ q) r.f]) := by kernel_rfl
theorem t23_5 : (validL 160 32).map (g23 r) = (validL 160 32).map fun q => some (.one (.w64 (baseC r q)), [!(!(Nat.ble r.f 15)), Nat.ble (sinceQ q) r.f]) := by kernel_rfl
theorem t23_6 : (validL 192 32).map (g23 r) = (validL 192 32).map fun q => some (.one (.w64 (baseC r q)), [!(!(Nat.ble r.f 15)), Nat.ble (sinceQ q) r.f]) := by kernel_rfl
theorem t23_7 : (validL 224 32).map (g23 r) = (validL 224 32).map fun q => some (.one (.w64 (baseC r q)), [!(!(Nat.ble r.f 15)), Nat.ble (sinceQ q) r.f]) := by kernel_rfl
theorem u23 : (lateL 0 256).map (n23 r) = (lateL 0 256).map fun q => some (.one (.w64 0#64), [!(Nat.ble (sinceQ q) r.f)]) := by kernel_rfl
theorem v23 : (noneL 0 256).map (i23 r) = (noneL 0 256).map fun q => some (.one (.w64 0#64), [true]) := by kernel_rfl
end
end Go.Proofs.Sx
