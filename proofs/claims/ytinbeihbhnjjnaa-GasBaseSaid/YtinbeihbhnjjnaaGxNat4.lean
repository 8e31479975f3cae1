/- Numbers in limbs: what the other functions hand back. -/
import Derived.Test.YtinbeihbhnjjnaaGxNat3
namespace Go.Proofs.Sx
open Go
set_option linter.unusedVariables false
/-- the limbs that are handed back -/
noncomputable def natOut (r : Res) : Option (L32 × List Bool) :=
  match r with
  | some (.one (.dy q), hp, _, ob, _) => match regAt q hp with
    | some (.nt l) => some (l, ob)
    | _ => none
  | _ => none
noncomputable def natOutC (r : Res) : Option L32 :=
  match natOut r with
  | some (l, ob) => match allB ob with
    | true => some l
    | false => none
  | none => none
def mulR (x : BitVec 32) : L32 → L32 → BitVec 64 → L32
  | y :: b, z :: c, k => (x.setWidth 64 * y.setWidth 64 + z.setWidth 64 + k).setWidth 32 :: mulR x b c ((x.setWidth 64 * y.setWidth 64 + z.setWidth 64 + k) >>> 32)
  | _, _ :: c, k => k.setWidth 32 :: c
  | _, [], _ => []
def mulA : L32 → L32 → L32 → L32
  | [], _, c => c
  | x :: a, b, c => match mulR x b c 0#64 with
    | h :: t => h :: mulA a b t
    | [] => []
def zerosD : Nat → L32
  | 0 => []
  | n + 1 => 0#32 :: zerosD n
def mulL (a b : L32) : L32 := mulA a b (zerosD (lenD a + lenD b))
def getO : L32 → Nat → Option (BitVec 32)
  | [], _ => none
  | x :: _, 0 => some x
  | _ :: l, k + 1 => getO l k
def stepW (acc : BitVec 64) (s : Nat) : Option (BitVec 32) → BitVec 64
  | some x => acc ||| x.setWidth 64 <<< s
  | none => acc
def wordL (l : L32) (j : Nat) : BitVec 64 := stepW (stepW 0#64 0 (getO l (2 * j))) 32 (getO l (2 * j + 1))
def wordsC (l : L32) : List C := [.w64 (wordL l 0), .w64 (wordL l 1), .w64 (wordL l 2), .w64 (wordL l 3)]
def byteE (w : BitVec 64) (j : Nat) : BitVec 32 := ((w >>> (8 * j)).setWidth 8).setWidth 32
def limbE (w : BitVec 64) (j : Nat) : BitVec 32 := (((0#32 ||| byteE w j <<< 0) ||| byteE w (j + 1) <<< 8) ||| byteE w (j + 2) <<< 16) ||| byteE w (j + 3) <<< 24
def limbsE (a b c d : BitVec 64) : L32 := [limbE a 0, limbE a 4, limbE b 0, limbE b 4, limbE c 0, limbE c 4, limbE d 0, limbE d 4]
section
variable (a b : Nat → BitVec 32) (c d : Nat)
theorem f61 : (List.range' 0 4).map (fun q => (List.range' 0 4).map fun p => natOut (callD Mt 61 [.one (argV 0 q c), .one (argV 1 p d)] [argR a q, argR b p] [])) =
    (List.range' 0 4).map (fun q => (List.range' 0 4).map fun p => some (trimL (mulL (lOf a q) (lOf b p)), [])) := by kernel_rfl
theorem f41 : (List.range' 0 12).map (fun q => outV (callD Mt 41 [.one (argV 0 q c)] [argR a q] [])) =
    (List.range' 0 12).map (fun q => some (.ag (wordsC (lOf a q)), [])) := by kernel_rfl
theorem f40l : [0, 1, 2].map (fun q => outV (callD Mt 40 [.one (argV 0 q c), .one (.sl 1 0 2 d)] [argR a q, .win (toD (lsD b 0 2))] [])) = [0, 1, 2].map (fun q => some (.one (.ng 0), [])) := by kernel_rfl
theorem f40g : (List.range' 4 8).map (fun q => outV (callD Mt 40 [.one (argV 0 q c), .one (.sl 1 0 2 d)] [argR a q, .win (toD (lsD b 0 2))] [])) = (List.range' 4 8).map (fun q => some (.one (.it 1), [])) := by kernel_rfl
theorem f38 (x y z w : BitVec 64) : natOutC (callD Mt 38 [.ag [.w64 x, .w64 y, .w64 z, .w64 w]] [] []) = some (trimL (limbsE x y z w)) := by kernel_rfl
end
end Go.Proofs.Sx
