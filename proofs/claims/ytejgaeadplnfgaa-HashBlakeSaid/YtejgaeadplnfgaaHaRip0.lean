/- RIPEMD-160 of no bytes: its pieces. -/
import Derived.Test.YtejgaeadplnfgaaHaIso
namespace Go.Proofs.Sx
open Go
def inBlock : Code → Code
  | .block _ b => b
  | c => c
noncomputable def rip4 : List Code := spine (inLoop (nthC (rowOf Try.prog 19) 4))
noncomputable def ripI : List Code := spine (inBlock (nthC rip4 2))
noncomputable def ripS0 : St := ⟨tmOf [.one .nl] 0 (T.full 8), [], false, 110, 0, [], List.replicate 55 true ++ [false, true]⟩
noncomputable def ripA : Option (Ex × St) := sxs Try.prog Mr 1000000 (takeC 4 (rowOf Try.prog 19)) ripS0
noncomputable def ripB : Option (Ex × St) := sxs Try.prog Mr 1000000 (takeC 2 rip4) (getS ripA)
noncomputable def ripC : Option (Ex × St) := sxs Try.prog Mr 1000000 (takeC 3 ripI) (getS ripB)
theorem ripA_n : isN ripA = true := by kernel_rfl
theorem ripB_n : isN ripB = true := by kernel_rfl
theorem ripC_n : isN ripC = true := by kernel_rfl
end Go.Proofs.Sx
