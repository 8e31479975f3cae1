/- RIPEMD-160 of no bytes: the region's other facts. -/
import Derived.Test.YtejgaeadplnfgaaHaRip2
namespace Go.Proofs.Sx
open Go
noncomputable def rv4 : V := valO (rstp 4 rbase)
noncomputable def rv5 : V := valO (rstp 5 rbase)
noncomputable def rv6 : V := valO (rstp 6 rbase)
noncomputable def rv7 : V := valO (rstp 7 [(49, rv4), (50, rv5), (51, rv6)])
theorem q4 : rstp 4 rbase = some (rv4, rhp, false, [], []) := by kernel_rfl
theorem q5 : rstp 5 rbase = some (rv5, rhp, false, [], []) := by kernel_rfl
theorem q6 : rstp 6 rbase = some (rv6, rhp, false, [], []) := by kernel_rfl
theorem q7 : rstp 7 [(49, rv4), (50, rv5), (51, rv6)] = some (rv7, rhp, false, [], []) := by kernel_rfl
end Go.Proofs.Sx
