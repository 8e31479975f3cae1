/- How many bits a word has: the last piece, in figures. -/
import Derived.Test.YtinbeihbhnjjnaaGxNat14
namespace Go.Proofs.Sx
open Go
set_option linter.unusedVariables false
/-- how many bits a byte has -/
def lenQ (q : Nat) : Nat := bif Nat.blt q 1 then 0 else bif Nat.blt q 2 then 1 else bif Nat.blt q 4 then 2 else bif Nat.blt q 8 then 3 else bif Nat.blt q 16 then 4 else bif Nat.blt q 32 then 5 else bif Nat.blt q 64 then 6 else bif Nat.blt q 128 then 7 else 8
noncomputable def l67 (n q : Nat) : Option (V × List Bool) := retV 67 (sxs Try.prog M0 1000000 (dropC 7 (rowOf Try.prog 67)) ⟨slots [(0, .one (.w64 (BitVec.ofNat 64 q))), (2, .one (.it n))], [], true, 25, 0, [], []⟩)
theorem f67 : (List.range' 0 8).map (fun n => (List.range' 0 256).map (l67 (8 * n))) = (List.range' 0 8).map (fun n => (List.range' 0 256).map fun q => some (.one (.it (8 * n + lenQ q)), [])) := by kernel_rfl
/-! ahead of it -/
def sh67 (x : W) (b : Bool) (s : Nat) : W := bif b then x >>> s else x
def ge67 (b : Bool) (m : Nat) (y : W) : Bool := bif b then Nat.ble m y.toNat else !(Nat.ble m y.toNat)
def n67 (a b c : Bool) : Nat := (bif a then 32 else 0) + ((bif b then 16 else 0) + (bif c then 8 else 0))
noncomputable def a67 (x : W) (a b c : Bool) : Option (Ex × St) := sxc Try.prog M0 1000000 (takeC 7 (rowOf Try.prog 67)) [(0, false), (2, false)] 0 ⟨tmOf [.one (.w64 x)] 0 (T.full 8), [], false, 25, 0, [], [a, b, c]⟩
def bools : List (Bool × Bool × Bool) := [(false, false, false), (false, false, true), (false, true, false), (false, true, true), (true, false, false), (true, false, true), (true, true, false), (true, true, true)]
theorem f67a (x : W) : bools.map (fun (a, b, c) => a67 x a b c) = bools.map fun (a, b, c) => some (.normal, ⟨slots [(0, .one (.w64 (sh67 (sh67 (sh67 x a 32) b 16) c 8))), (2, .one (.it (n67 a b c)))], [], false, 25, 0, [ge67 c 256 (sh67 (sh67 x a 32) b 16), ge67 b 65536 (sh67 x a 32), ge67 a 4294967296 x], []⟩) := by kernel_rfl
end Go.Proofs.Sx
