/- Twin's loop, in figures: up to so many accesses. -/
import Derived.Test.YtinbeihbhnjjnaaGxIn3
namespace Go.Proofs.Sx
open Go
set_option linter.unusedVariables false
section
variable (bd : Nat) (x : Txx) (b' : By)
theorem rt1 : (List.range' 0 1).map (fun i => allR (stepR bd 1 x b' i)) = (List.range' 0 1).map fun i => allR (okR bd 1 x b' i) := by kernel_rfl
theorem rt2 : (List.range' 0 2).map (fun i => allR (stepR bd 2 x b' i)) = (List.range' 0 2).map fun i => allR (okR bd 2 x b' i) := by kernel_rfl
theorem rt3 : (List.range' 0 3).map (fun i => allR (stepR bd 3 x b' i)) = (List.range' 0 3).map fun i => allR (okR bd 3 x b' i) := by kernel_rfl
theorem rt4 : (List.range' 0 4).map (fun i => allR (stepR bd 4 x b' i)) = (List.range' 0 4).map fun i => allR (okR bd 4 x b' i) := by kernel_rfl
theorem rt5 : (List.range' 0 5).map (fun i => allR (stepR bd 5 x b' i)) = (List.range' 0 5).map fun i => allR (okR bd 5 x b' i) := by kernel_rfl
theorem rt6 : (List.range' 0 6).map (fun i => allR (stepR bd 6 x b' i)) = (List.range' 0 6).map fun i => allR (okR bd 6 x b' i) := by kernel_rfl
theorem rt7 : (List.range' 0 7).map (fun i => allR (stepR bd 7 x b' i)) = (List.range' 0 7).map fun i => allR (okR bd 7 x b' i) := by kernel_rfl
theorem rt8 : (List.range' 0 8).map (fun i => allR (stepR bd 8 x b' i)) = (List.range' 0 8).map fun i => allR (okR bd 8 x b' i) := by kernel_rfl
end
end Go.Proofs.Sx
