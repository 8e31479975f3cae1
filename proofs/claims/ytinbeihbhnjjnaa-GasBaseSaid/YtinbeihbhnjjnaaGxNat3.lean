/- Numbers in limbs: what the functions hand back, for each number of limbs. -/
import Derived.Test.YtinbeihbhnjjnaaGxNat2
namespace Go.Proofs.Sx
open Go
set_option linter.unusedVariables false
/-- an argument: nil, or so many limbs less one -/
def argV (r : Nat) : Nat → Nat → C
  | 0, _ => .nl
  | k + 1, c => .sl r 0 k c
def argR (a : Nat → BitVec 32) : Nat → Reg
  | 0 => .dead
  | k + 1 => .win (toD (lsD a 0 k))
def lOf (a : Nat → BitVec 32) : Nat → L32
  | 0 => []
  | k + 1 => lsD a 0 k
def lenD : L32 → Nat
  | [] => 0
  | _ :: l => lenD l + 1
def maxN (a b : Nat) : Nat := bif Nat.blt a b then b else a
/-- the sum's limbs -/
def addS : L32 → L32 → BitVec 64 → Nat → L32
  | _, _, _, 0 => []
  | [], [], c, n + 1 => c.setWidth 32 :: addS [] [] (c >>> 32) n
  | x :: a, [], c, n + 1 => (c + x.setWidth 64).setWidth 32 :: addS a [] ((c + x.setWidth 64) >>> 32) n
  | [], y :: b, c, n + 1 => (c + y.setWidth 64).setWidth 32 :: addS [] b ((c + y.setWidth 64) >>> 32) n
  | x :: a, y :: b, c, n + 1 => (c + x.setWidth 64 + y.setWidth 64).setWidth 32 :: addS a b ((c + x.setWidth 64 + y.setWidth 64) >>> 32) n
def addL (a b : L32) : L32 := addS a b 0#64 (maxN (lenD a) (lenD b) + 1)
/-- shifted by less than a limb -/
def shrL (s : Nat) : L32 → L32
  | [] => []
  | [x] => [(x.setWidth 64 >>> s).setWidth 32]
  | x :: y :: l => ((x.setWidth 64 ||| y.setWidth 64 <<< 32) >>> s).setWidth 32 :: shrL s (y :: l)
section
variable (a b : Nat → BitVec 32) (c d : Nat)
theorem f37 : (List.range' 0 11).map (fun q => (List.range' 0 10).map fun p => runV (callD Mt 37 [.one (argV 0 q c), .one (argV 1 p d)] [argR a q, argR b p] [])) =
    (List.range' 0 11).map (fun q => (List.range' 0 10).map fun p => some (.one (.dy 3), [argR a q, argR b p, .dead, .nt (trimL (addL (lOf a q) (lOf b p)))], [])) := by kernel_rfl
theorem f39 (x : BitVec 64) : runV (callD Mt 39 [.one (.w64 x)] [] []) = some (.one (.dy 1), [.dead, .nt (trimL [x.setWidth 32, (x >>> 32).setWidth 32])], []) := by kernel_rfl
def shs : List Nat := [5, 9]
theorem f36 : (List.range' 2 10).map (fun q => shs.map fun s => runV (callD Mt 36 [.one (argV 0 q c), .one (.it s)] [argR a q] [])) =
    (List.range' 2 10).map (fun q => shs.map fun s => some (.one (.dy 2), [argR a q, .dead, .nt (trimL (shrL s (lOf a q)))], [])) := by kernel_rfl
theorem f36z : [0, 1].map (fun q => shs.map fun s => runV (callD Mt 36 [.one (argV 0 q c), .one (.it s)] [argR a q] [])) =
    [0, 1].map (fun q => shs.map fun s => some (.one .nl, [argR a q], [])) := by kernel_rfl
end
end Go.Proofs.Sx
