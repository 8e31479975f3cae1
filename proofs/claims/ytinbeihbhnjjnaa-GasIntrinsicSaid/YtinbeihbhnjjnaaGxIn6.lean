/- Twin's loop, in figures: up to so many accesses. -/
import Derived.Test.YtinbeihbhnjjnaaGxIn3
namespace Go.Proofs.Sx
open Go
set_option linter.unusedVariables false
section
variable (bd : Nat) (x : Txx) (b' : By)
theorem rt11 : (List.range' 0 11).map (fun i => allR (stepR bd 11 x b' i)) = (List.range' 0 11).map fun i => allR (okR bd 11 x b' i) := by kernel_rfl
theorem rt12 : (List.range' 0 12).map (fun i => allR (stepR bd 12 x b' i)) = (List.range' 0 12).map fun i => allR (okR bd 12 x b' i) := by kernel_rfl
end
end Go.Proofs.Sx
