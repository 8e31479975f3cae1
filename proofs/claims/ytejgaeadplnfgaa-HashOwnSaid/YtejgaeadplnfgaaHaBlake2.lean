/- Blake: one round of the program, one of the reference. -/
import Derived.Test.YtejgaeadplnfgaaHaBlake
import Derived.Test.YtejgaeadplnfgaaSxFun
namespace Go.Proofs.Sx
open Go

noncomputable def M3 : Kn := addK (addK M2 28 m28) 31 m31
theorem known3 : Known Try.prog M3 := known_add (known_add known2 k28) k31

def nthN : List Nat → Nat → Nat
  | x :: _, 0 => x
  | _ :: l, n + 1 => nthN l n
  | [], _ => 0

def rowB : Nat → List Nat
  | 0 => [0, 1, 2, 3, 4, 5, 6, 7, 8, 9, 10, 11, 12, 13, 14, 15]
  | 1 => [14, 10, 4, 8, 9, 15, 13, 6, 1, 12, 0, 2, 11, 7, 5, 3]
  | 2 => [11, 8, 12, 0, 5, 2, 15, 13, 10, 14, 3, 6, 7, 1, 9, 4]
  | 3 => [7, 9, 3, 1, 13, 12, 11, 14, 2, 6, 5, 10, 4, 0, 15, 8]
  | 4 => [9, 0, 5, 7, 2, 4, 10, 15, 14, 1, 11, 12, 6, 8, 3, 13]
  | 5 => [2, 12, 6, 10, 0, 11, 8, 3, 4, 13, 7, 5, 15, 14, 1, 9]
  | 6 => [12, 5, 1, 15, 14, 13, 4, 10, 0, 7, 6, 3, 9, 2, 8, 11]
  | 7 => [13, 11, 7, 14, 12, 1, 3, 9, 5, 0, 15, 4, 8, 6, 2, 10]
  | 8 => [6, 15, 14, 9, 11, 3, 0, 8, 12, 2, 13, 7, 1, 4, 10, 5]
  | _ => [10, 2, 8, 4, 7, 6, 1, 5, 15, 11, 9, 14, 3, 12, 13, 0]

def stepB (s : List Nat) (m : List W) (k : Nat) (p : Nat × Nat × Nat × Nat) (v : List W) : List W :=
  gL s3 v p.1 p.2.1 p.2.2.1 p.2.2.2 (nthW m (nthN s (2 * k))) (nthW m (nthN s (2 * k + 1)))
def rndB (s : List Nat) (m v : List W) : List W :=
  stepB s m 7 (3, 4, 9, 14) (stepB s m 6 (2, 7, 8, 13) (stepB s m 5 (1, 6, 11, 12) (stepB s m 4 (0, 5, 10, 15)
    (stepB s m 3 (3, 7, 11, 15) (stepB s m 2 (2, 6, 10, 14) (stepB s m 1 (1, 5, 9, 13) (stepB s m 0 (0, 4, 8, 12) v)))))))

def fals : Nat → List Bool
  | 0 => [true]
  | n + 1 => false :: fals n

def keepP : List (Nat × Bool) := [(6, false), (7, false), (10, false), (11, false), (43, false), (44, false)]
noncomputable def stP (n x : BitVec 32) (h m t z : Nat → W) (v : List W) (ob ds : List Bool) : St :=
  ⟨slots [(6, .one (.pt 0 0)), (7, .one (.pt 1 0)), (10, .one (.pt 3 0)), (11, .one (.pt 4 0)), (43, .one (.w32 n)), (44, .one (.w32 x))],
    [.own 24 (toC (lst h 0 8)), .own 25 (toC (lst m 0 16)), .own 26 (toC (lst t 0 2)), .own 24 (toC (lst z 0 8)), .own 25 (toC v)], true, 112, 0, ob, ds⟩

noncomputable def roundP (n x : BitVec 32) (h m t z v : Nat → W) (r : Nat) : Option (Ex × St) :=
  sxc Try.prog M3 1000000 [inLoop (nthC (rowOf Try.prog 11) 10)] keepP 5 (stP n x h m t z (lst v 0 16) [] (true :: false :: fals r))
noncomputable def roundPr (n x : BitVec 32) (h m t z v : Nat → W) (r : Nat) : Option (Ex × St) :=
  some (.normal, stP n (x + BitVec.ofNat 32 1) h m t z (rndB (rowB r) (lst m 0 16) (lst v 0 16)) [x % BitVec.ofNat 32 10 == BitVec.ofNat 32 r, Nat.blt x.toNat n.toNat] [])
theorem f11r (n x : BitVec 32) (h m t z v : Nat → W) : (List.range' 0 10).map (roundP n x h m t z v) = (List.range' 0 10).map (roundPr n x h m t z v) := by kernel_rfl

noncomputable def outP (n x : BitVec 32) (h m t z v : Nat → W) : Option (Ex × St) :=
  sxc Try.prog M3 1000000 [inLoop (nthC (rowOf Try.prog 11) 10)] keepP 5 (stP n x h m t z (lst v 0 16) [] [false])
theorem f11o (n x : BitVec 32) (h m t z v : Nat → W) : outP n x h m t z v = some (.exit 0, stP n x h m t z (lst v 0 16) [!(Nat.blt x.toNat n.toNat)] []) := by kernel_rfl

/-- before the rounds: what stands in the words -/
def iv : List W := [0x6a09e667f3bcc908, 0xbb67ae8584caa73b, 0x3c6ef372fe94f82b, 0xa54ff53a5f1d36f1, 0x510e527fade682d1, 0x9b05688c2b3e6c1f, 0x1f83d9abfb41bd6b, 0x5be0cd19137e2179]
def startB (h t : Nat → W) (fin : Bool) : List W :=
  [h 0, h 1, h 2, h 3, h 4, h 5, h 6, h 7, nthW iv 0, nthW iv 1, nthW iv 2, nthW iv 3, nthW iv 4 ^^^ t 0, nthW iv 5 ^^^ t 1, (match fin with | true => ~~~(nthW iv 6) | false => nthW iv 6), nthW iv 7]
def zW : Nat → W := fun _ => 0
noncomputable def st0P (n : BitVec 32) (h m t : Nat → W) (fin : Bool) : St :=
  ⟨tmOf [.one (.w32 n), .ag (toC (lst h 0 8)), .ag (toC (lst m 0 16)), .ag (toC (lst t 0 2)), .one (.bl fin)] 0 (T.full 8), [], false, 112, regLen [], [], []⟩
noncomputable def stPf (n x : BitVec 32) (h m t z : Nat → W) (v : List W) : St :=
  ⟨slots [(6, .one (.pt 0 0)), (7, .one (.pt 1 0)), (10, .one (.pt 3 0)), (11, .one (.pt 4 0)), (43, .one (.w32 n)), (44, .one (.w32 x))],
    [.own 24 (toC (lst h 0 8)), .own 25 (toC (lst m 0 16)), .own 26 (toC (lst t 0 2)), .own 24 (toC (lst z 0 8)), .own 25 (toC v)], false, 112, 0, [], []⟩
theorem f11at (n : BitVec 32) (h m t : Nat → W) : sxc Try.prog M3 1000000 (takeC 10 (rowOf Try.prog 11)) keepP 5 (st0P n h m t true) = some (.normal, stPf n 0 h m t zW (startB h t true)) := by kernel_rfl
theorem f11af (n : BitVec 32) (h m t : Nat → W) : sxc Try.prog M3 1000000 (takeC 10 (rowOf Try.prog 11)) keepP 5 (st0P n h m t false) = some (.normal, stPf n 0 h m t zW (startB h t false)) := by kernel_rfl

/-- behind the rounds -/
def endB (h v : List W) : List W :=
  [nthW h 0 ^^^ (nthW v 0 ^^^ nthW v 8), nthW h 1 ^^^ (nthW v 1 ^^^ nthW v 9), nthW h 2 ^^^ (nthW v 2 ^^^ nthW v 10), nthW h 3 ^^^ (nthW v 3 ^^^ nthW v 11), nthW h 4 ^^^ (nthW v 4 ^^^ nthW v 12), nthW h 5 ^^^ (nthW v 5 ^^^ nthW v 13), nthW h 6 ^^^ (nthW v 6 ^^^ nthW v 14), nthW h 7 ^^^ (nthW v 7 ^^^ nthW v 15)]
theorem f11z (n x : BitVec 32) (h m t z v : Nat → W) : lastV Try.prog 11 (sxs Try.prog M3 1000000 (dropC 11 (rowOf Try.prog 11)) (stP n x h m t z (lst v 0 16) [] [])) = some (.ag (toC (endB (lst h 0 8) (lst v 0 16)))) := by kernel_rfl
end Go.Proofs.Sx
