/- Blake: the reference's rounds. -/
import Derived.Test.YtejgaeadplnfgaaHaBlake2
namespace Go.Proofs.Sx
open Go

def keepR : List (Nat × Bool) := [(0, false), (6, false), (7, false), (10, false), (12, false), (14, false)]
noncomputable def stR (n x : BitVec 32) (h m t z : Nat → W) (v : List W) (ob ds : List Bool) : St :=
  ⟨slots [(0, .one (.w32 n)), (6, .one (.pt 0 0)), (7, .one (.pt 1 0)), (10, .one (.pt 3 0)), (12, .one (.pt 5 0)), (14, .one (.w32 x))],
    [.own 24 (toC (lst h 0 8)), .own 25 (toC (lst m 0 16)), .own 26 (toC (lst t 0 2)), .own 24 (toC (lst z 0 8)), .own 24 (toC iv), .own 25 (toC v)], false, 137, 0, ob, ds⟩
noncomputable def roundR (n x : BitVec 32) (h m t z v : Nat → W) (r : Nat) : Option (Ex × St) :=
  sxc Try.prog M3 1000000 [inLoop (nthC (rowOf Try.prog 12) 10)] keepR 6 (stR n x h m t z (lst v 0 16) [] (true :: false :: fals r))
noncomputable def roundRr (n x : BitVec 32) (h m t z v : Nat → W) (r : Nat) : Option (Ex × St) :=
  some (.normal, stR n (x + BitVec.ofNat 32 1) h m t z (rndB (rowB r) (lst m 0 16) (lst v 0 16)) [x % BitVec.ofNat 32 10 == BitVec.ofNat 32 r, Nat.blt x.toNat n.toNat] [])
theorem f12r (n x : BitVec 32) (h m t z v : Nat → W) : (List.range' 0 10).map (roundR n x h m t z v) = (List.range' 0 10).map (roundRr n x h m t z v) := by kernel_rfl
noncomputable def outR (n x : BitVec 32) (h m t z v : Nat → W) : Option (Ex × St) :=
  sxc Try.prog M3 1000000 [inLoop (nthC (rowOf Try.prog 12) 10)] keepR 6 (stR n x h m t z (lst v 0 16) [] [false])
theorem f12o (n x : BitVec 32) (h m t z v : Nat → W) : outR n x h m t z v = some (.exit 2, stR n x h m t z (lst v 0 16) [!(Nat.blt x.toNat n.toNat)] []) := by kernel_rfl
noncomputable def st0R (n : BitVec 32) (h m t : Nat → W) (fin : Bool) : St :=
  ⟨tmOf [.one (.w32 n), .ag (toC (lst h 0 8)), .ag (toC (lst m 0 16)), .ag (toC (lst t 0 2)), .one (.bl fin)] 0 (T.full 8), [], false, 137, regLen [], [], []⟩
theorem f12at (n : BitVec 32) (h m t : Nat → W) : sxc Try.prog M3 1000000 (takeC 10 (rowOf Try.prog 12)) keepR 6 (st0R n h m t true) = some (.normal, stR n 0 h m t zW (startB h t true) [] []) := by kernel_rfl
theorem f12af (n : BitVec 32) (h m t : Nat → W) : sxc Try.prog M3 1000000 (takeC 10 (rowOf Try.prog 12)) keepR 6 (st0R n h m t false) = some (.normal, stR n 0 h m t zW (startB h t false) [] []) := by kernel_rfl
def endR (h v : List W) : List W :=
  [nthW h 0 ^^^ nthW v 0 ^^^ nthW v 8, nthW h 1 ^^^ nthW v 1 ^^^ nthW v 9, nthW h 2 ^^^ nthW v 2 ^^^ nthW v 10, nthW h 3 ^^^ nthW v 3 ^^^ nthW v 11, nthW h 4 ^^^ nthW v 4 ^^^ nthW v 12, nthW h 5 ^^^ nthW v 5 ^^^ nthW v 13, nthW h 6 ^^^ nthW v 6 ^^^ nthW v 14, nthW h 7 ^^^ nthW v 7 ^^^ nthW v 15]
theorem endR_eq (h v : List W) : endR h v = endB h v := by simp only [endR, endB, BitVec.xor_assoc]
theorem f12z (n x : BitVec 32) (h m t z v : Nat → W) : lastV Try.prog 12 (sxs Try.prog M3 1000000 (dropC 11 (rowOf Try.prog 12)) (stR n x h m t z (lst v 0 16) [] [])) = some (.ag (toC (endR (lst h 0 8) (lst v 0 16)))) := by kernel_rfl
end Go.Proofs.Sx
