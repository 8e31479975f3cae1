/- RIPEMD-160 of no bytes: the region, whole. -/
import Derived.Test.YtejgaeadplnfgaaHaRip3
namespace Go.Proofs.Sx
open Go
noncomputable def rzc : List C := (zeroV Try.prog 70).getD []
noncomputable def rlf : List (Nat × V) := (48, rv3) :: (52, rv7) :: (10, .one (.pt rhp.length 0)) :: (11, .one (.pt (rhp.length + 1) 0)) :: rbase
noncomputable def rsto (j : Nat) (hp : List Reg) : Option (V × List Reg × Bool × List Bool × List Bool) :=
  stepOp (sx Try.prog Mr 1000000) Try.prog Mr (slots rlf) hp 0 [] [] (ropN j).op
noncomputable def hpO (r : Option (V × List Reg × Bool × List Bool × List Bool)) : List Reg :=
  match r with
  | some (_, hp, _, _, _) => hp
  | none => []
noncomputable def rhp9 : List Reg := rhp ++ [.own 70 rzc] ++ [.own 70 rzc]
noncomputable def rhp10 : List Reg := hpO (rsto 10 rhp9)
noncomputable def rhp11 : List Reg := hpO (rsto 11 rhp10)
theorem rz : zeroV Try.prog 70 = some rzc := by kernel_rfl
theorem rzp : plains rzc = true := by kernel_rfl
theorem q10 : rsto 10 rhp9 = some (valO (rsto 10 rhp9), rhp10, false, [], []) := by kernel_rfl
theorem q11 : rsto 11 rhp10 = some (valO (rsto 11 rhp10), rhp11, false, [], []) := by kernel_rfl
end Go.Proofs.Sx
