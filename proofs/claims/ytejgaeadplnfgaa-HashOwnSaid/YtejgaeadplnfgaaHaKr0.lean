/- Keccak-256, by the reference: the rounds' constants. -/
import Derived.Test.YtejgaeadplnfgaaHaKeccak2
namespace Go.Proofs.Sx
open Go
theorem f48 : (List.range' 0 24).map (fun r => bareV (call0 M0 48 [.one (.it r)] [])) = (List.range' 0 24).map (fun r => some (.one (.w64 (nthW rcL r)))) := by kernel_rfl
end Go.Proofs.Sx
