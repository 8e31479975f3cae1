/- The reference's Intrinsic, in figures. -/
import Derived.Test.YtinbeihbhnjjnaaGxIn11
namespace Go.Proofs.Sx
open Go
set_option linter.unusedVariables false
section
variable (bd m : Nat) (r : Ru) (x : Txx) (a : W) (i : Nat)
def hp29 : List Reg := hpIn bd m x ++ [.own 34 (rulesS r), .own 51 (txIn x)]
def sl29 : List (Nat × V) := [(2, .one (.pt 15 0)), (3, .one (.pt 16 0)), (6, .one (.w64 a)), (7, .one (.sy i))]
def kp29 : List (Nat × Bool) := [(2, false), (3, false), (6, false), (7, true)]
noncomputable def s29 (ob : List Bool) : St := ⟨slots (sl29 a i), hp29 bd m r x, true, 72, 15, ob, []⟩
noncomputable def p29A (ds : List Bool) : Option (Ex × St) := sxc Try.prog M0 1000000 (takeC 5 (rowOf Try.prog 29)) kp29 17 ⟨tmOf [.ag (rulesS r), .ag (txIn x)] 0 (T.full 8), hpIn bd m x, true, 72, 15, [], ds⟩
noncomputable def row29 : List Code := spine (inLoop (nthC (rowOf Try.prog 29) 5))
noncomputable def p29B (ds : List Bool) : Option (Ex × St) := sxc Try.prog M0 1000000 row29 kp29 17 ⟨slots (sl29 a i), hp29 bd m r x, true, 72, 15, [], ds⟩
def mk29 : W := r.w 1 + r.w 2 + r.w 7 * (BitVec.ofNat 64 (x.b.length + 31) / 32#64)
theorem f29p : (List.range' 0 13).map (fun m => p29A bd m r x [false]) = (List.range' 0 13).map fun m => some (.normal, s29 bd m r x (r.w 1) 0 [!x.make]) := by kernel_rfl
theorem f29m : (List.range' 0 13).map (fun m => p29A bd m r x [true]) = (List.range' 0 13).map fun m => some (.normal, s29 bd m r x (mk29 r x) 0 [Nat.ble (x.b.length + 31) 9223372036854775807, x.make]) := by kernel_rfl
theorem f29z : (List.range' 0 13).map (fun m => p29B bd m r x a i [true, true]) = (List.range' 0 13).map fun m => some (.normal, s29 bd m r x (a + r.w 3) (i + 1) [Nat.ble (i + 1) 9223372036854775807, zeroAt x.b i, Nat.blt i x.b.length, Nat.blt i x.b.length]) := by kernel_rfl
theorem f29n : (List.range' 0 13).map (fun m => p29B bd m r x a i [true, false]) = (List.range' 0 13).map fun m => some (.normal, s29 bd m r x (a + r.w 4) (i + 1) [Nat.ble (i + 1) 9223372036854775807, !(zeroAt x.b i), Nat.blt i x.b.length, Nat.blt i x.b.length]) := by kernel_rfl
theorem f29x : (List.range' 0 13).map (fun m => p29B bd m r x a i [false]) = (List.range' 0 13).map fun m => some (.exit 0, s29 bd m r x a i [!(Nat.blt i x.b.length)]) := by kernel_rfl
def acc29 : W → Nat → Nat → W
  | a, _, 0 => a
  | a, j, n + 1 => acc29 (a + r.w 5 + r.w 6 * BitVec.ofNat 64 (x.K j)) (j + 1) n
def accN : List Bool → Nat → Nat → List Bool
  | l, _, 0 => l
  | l, j, n + 1 => accN (Nat.blt j x.n :: Nat.blt j x.n :: l) (j + 1) n
noncomputable def p29C (ds : List Bool) : Option (V × List Bool) := retV' 29 (sxs Try.prog M0 1000000 (dropC 6 (rowOf Try.prog 29)) ⟨slots (sl29 a i), hp29 bd m r x, true, 72, 15, [], ds⟩)
theorem f29e : (List.range' 0 13).map (fun m => p29C bd m r x a i (trues' m [false])) = (List.range' 0 13).map fun m => some (.tp [(false, [.w64 (acc29 r x a 0 m)]), (false, [.bl true])], (!(Nat.blt m x.n)) :: accN x [] 0 m) := by kernel_rfl
theorem len29 : Nat.blt 5 (lenL (rowOf Try.prog 29)) = true := by kernel_rfl
theorem len28 : Nat.blt 4 (lenL (rowOf Try.prog 28)) = true := by kernel_rfl
theorem loop28 : nthC (rowOf Try.prog 28) 4 = .block 0 (.loop (inLoop (nthC (rowOf Try.prog 28) 4))) := by kernel_rfl
theorem loop29 : nthC (rowOf Try.prog 29) 5 = .block 0 (.loop (inLoop (nthC (rowOf Try.prog 29) 5))) := by kernel_rfl
theorem fn28 : (hasCode Try.prog 28 && Nat.beq (fnOf Try.prog 28).ntmps 85) = true := by kernel_rfl
theorem fn29 : (hasCode Try.prog 29 && Nat.beq (fnOf Try.prog 29).ntmps 72) = true := by kernel_rfl
end
end Go.Proofs.Sx
