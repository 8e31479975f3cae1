/- RIPEMD-160 of no bytes: the region of the two lines. -/
import Derived.Test.YtejgaeadplnfgaaHaRip0
namespace Go.Proofs.Sx
open Go
def opsArr : Code → Array Oper
  | .region _ ops _ => ops
  | _ => #[]
def regId : Code → Nat
  | .region id _ _ => id
  | _ => 0
noncomputable def ropsA : Array Oper := opsArr (nthC ripI 3)
noncomputable def ropN (j : Nat) : Oper := (ropsA[j]?).getD default
noncomputable def rhp : List Reg := (getS ripC).hp
noncomputable def kept (tm : T) : List Nat → List (Nat × V)
  | [] => []
  | i :: l => match tm.get i with
    | some v => (i, v) :: kept tm l
    | none => kept tm l
noncomputable def rbase : List (Nat × V) := kept (getS ripC).tm [2, 3, 4, 5, 6, 7]
noncomputable def rstp (j : Nat) (l : List (Nat × V)) : Option (V × List Reg × Bool × List Bool × List Bool) :=
  stepOp (sx Try.prog Mr 1000000) Try.prog Mr (slots l) rhp rhp.length [] [] (ropN j).op
noncomputable def valO (r : Option (V × List Reg × Bool × List Bool × List Bool)) : V :=
  match r with
  | some (v, _, _, _, _) => v
  | none => .un
def okQ (r : Option (V × List Reg × Bool × List Bool × List Bool)) : Bool :=
  match r with
  | some (_, _, false, [], []) => true
  | _ => false
noncomputable def rv0 : V := valO (rstp 0 rbase)
noncomputable def rv1 : V := valO (rstp 1 rbase)
noncomputable def rv2 : V := valO (rstp 2 rbase)
noncomputable def rv3 : V := valO (rstp 3 [(45, rv0), (46, rv1), (47, rv2)])
theorem q0 : rstp 0 rbase = some (rv0, rhp, false, [], []) := by kernel_rfl
theorem q1 : rstp 1 rbase = some (rv1, rhp, false, [], []) := by kernel_rfl
theorem q2 : rstp 2 rbase = some (rv2, rhp, false, [], []) := by kernel_rfl
theorem q3 : rstp 3 [(45, rv0), (46, rv1), (47, rv2)] = some (rv3, rhp, false, [], []) := by kernel_rfl
end Go.Proofs.Sx
