/- How many bytes a number in limbs has: the reference, by figures. -/
import Derived.Test.YtinbeihbhnjjnaaGxBsA
namespace Go.Proofs.Sx
open Go
set_option linter.unusedVariables false
noncomputable def outL (r : Res) : Option (Nat × List Bool) :=
  match r with
  | some (v, hp, _, ob, _) => match lenR v hp with
    | some n => some (n, ob)
    | none => none
  | none => none
def byteD (a : Nat → BitVec 32) (i : Nat) : BitVec 8 := (a (i / 4) >>> (8 * (i % 4))).setWidth 8
def zerD (a : Nat → BitVec 32) (top : Nat) : Nat → List Bool
  | 0 => []
  | z + 1 => (!(!(Nat.beq (byteD a (top - z)).toNat 0))) :: zerD a top z
def owe66 (a : Nat → BitVec 32) (k z : Nat) : List Bool := trues (4 * k + 4 - z) ((!(Nat.beq (byteD a (4 * k + 3 - z)).toNat 0)) :: zerD a (4 * k + 3) z)
def fals1 : Nat → List Bool
  | 0 => [true]
  | n + 1 => false :: fals1 n
section
variable (a : Nat → BitVec 32) (c : Nat)
/-- k + 1 limbs, z zeros ahead -/
noncomputable def r66 (k z : Nat) : Option (Nat × List Bool) := outL (callD M0 66 [.one (argV 0 (k + 2) c)] [argR a (k + 2)] (fals1 z))
theorem f66z : [0, 1].map (fun q => outL (callD M0 66 [.one (argV 0 q c)] [argR a q] [])) = [0, 1].map (fun q => some (0, [true])) := by kernel_rfl
theorem f66_0 : (List.range' 0 4).map (fun z => r66 a c 0 z) = (List.range' 0 4).map (fun z => some (4 * 0 + 4 - z, owe66 a 0 z)) := by kernel_rfl
theorem f66_1 : (List.range' 0 4).map (fun z => r66 a c 1 z) = (List.range' 0 4).map (fun z => some (4 * 1 + 4 - z, owe66 a 1 z)) := by kernel_rfl
theorem f66_2 : (List.range' 0 4).map (fun z => r66 a c 2 z) = (List.range' 0 4).map (fun z => some (4 * 2 + 4 - z, owe66 a 2 z)) := by kernel_rfl
theorem f66_3 : (List.range' 0 4).map (fun z => r66 a c 3 z) = (List.range' 0 4).map (fun z => some (4 * 3 + 4 - z, owe66 a 3 z)) := by kernel_rfl
theorem f66_4 : (List.range' 0 4).map (fun z => r66 a c 4 z) = (List.range' 0 4).map (fun z => some (4 * 4 + 4 - z, owe66 a 4 z)) := by kernel_rfl
theorem f66_5 : (List.range' 0 4).map (fun z => r66 a c 5 z) = (List.range' 0 4).map (fun z => some (4 * 5 + 4 - z, owe66 a 5 z)) := by kernel_rfl
theorem f66_6 : (List.range' 0 4).map (fun z => r66 a c 6 z) = (List.range' 0 4).map (fun z => some (4 * 6 + 4 - z, owe66 a 6 z)) := by kernel_rfl
theorem f66_7 : (List.range' 0 4).map (fun z => r66 a c 7 z) = (List.range' 0 4).map (fun z => some (4 * 7 + 4 - z, owe66 a 7 z)) := by kernel_rfl
end
end Go.Proofs.Sx
