/- Twin's loop, in figures: up to so many accesses. -/
import Derived.Test.YtinbeihbhnjjnaaGxIn3
namespace Go.Proofs.Sx
open Go
set_option linter.unusedVariables false
section
variable (bd : Nat) (x : Txx) (b' : By)
theorem rt9 : (List.range' 0 9).map (fun i => allR (stepR bd 9 x b' i)) = (List.range' 0 9).map fun i => allR (okR bd 9 x b' i) := by kernel_rfl
theorem rt10 : (List.range' 0 10).map (fun i => allR (stepR bd 10 x b' i)) = (List.range' 0 10).map fun i => allR (okR bd 10 x b' i) := by kernel_rfl
end
end Go.Proofs.Sx
