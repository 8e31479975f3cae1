/- gas.Intrinsic, in figures. -/
import Derived.Test.YtinbeihbhnjjnaaGxIn3
import Derived.Test.YtinbeihbhnjjnaaGxIn10
namespace Go.Proofs.Sx
open Go
set_option linter.unusedVariables false
noncomputable def Mi : Kn := addK M0 54 sumM
theorem knowni : Known Try.prog Mi := known_add known_none ksum
def zeroAt (b : By) (i : Nat) : Bool := Nat.beq (b.getD (0 + i) 0#8).toNat 0
def zc (b : By) : Nat → Nat
  | 0 => 0
  | i + 1 => bif zeroAt b i then zc b i + 1 else zc b i
def addW (a e : W) (n : Nat) : W := a + e * BitVec.ofNat 64 n
def addO (a e : W) (n : Nat) : Bool := Nat.ble e.toNat 4294967295 && (Nat.ble n 4294967295 && Nat.ble (a.toNat + e.toNat * n) 9223372036854775807)
noncomputable def retV' (f : FuncId) (r : Option (Ex × St)) : Option (V × List Bool) :=
  match r with
  | some (.ret, ⟨tm, hp, _, _, _, ob, _⟩) => match resV Try.prog (fnOf Try.prog f).results.toList tm hp with
    | some v => some (v, ob)
    | none => none
  | _ => none
def trues' : Nat → List Bool → List Bool
  | 0, l => l
  | n + 1, l => true :: trues' n l
section
variable (bd m : Nat) (r : Ru) (x : Txx) (a : W) (z i : Nat)
def hp28 : List Reg := hpIn bd m x ++ [.own 34 (rulesS r), .own 51 (txIn x), .own 86 (sumC a)]
def sl28 : List (Nat × V) := [(2, .one (.pt 15 0)), (3, .one (.pt 16 0)), (6, .one (.pt 17 0)), (7, .one (.sy z)), (17, .one (.dy 0)), (18, .one (.sy x.b.length)), (19, .one (.sy i))]
def kp28 : List (Nat × Bool) := [(2, false), (3, false), (6, false), (7, true), (17, false), (18, false), (19, true)]
noncomputable def s28 (ob : List Bool) : St := ⟨slots (sl28 x z i), hp28 bd m r x (r.w 1), true, 85, 15, ob, []⟩
noncomputable def p28A : Option (Ex × St) := sxc Try.prog M0 1000000 (takeC 4 (rowOf Try.prog 28)) kp28 18 ⟨tmOf [.ag (rulesS r), .ag (txIn x)] 0 (T.full 8), hpIn bd m x, true, 85, 15, [], []⟩
noncomputable def row28 : List Code := spine (inLoop (nthC (rowOf Try.prog 28) 4))
noncomputable def p28B (ds : List Bool) : Option (Ex × St) := sxc Try.prog M0 1000000 row28 kp28 18 ⟨slots (sl28 x z i), hp28 bd m r x (r.w 1), true, 85, 15, [], ds⟩
theorem f28A : (List.range' 0 13).map (fun m => p28A bd m r x) = (List.range' 0 13).map fun m => some (.normal, s28 bd m r x 0 0 []) := by kernel_rfl
theorem f28z : (List.range' 0 13).map (fun m => p28B bd m r x z i [true, true]) = (List.range' 0 13).map fun m => some (.normal, s28 bd m r x (z + 1) (i + 1) [Nat.ble (i + 1) 9223372036854775807, Nat.ble (z + 1) 9223372036854775807, zeroAt x.b i, Nat.blt i x.b.length, Nat.blt i x.b.length]) := by kernel_rfl
theorem f28n : (List.range' 0 13).map (fun m => p28B bd m r x z i [true, false]) = (List.range' 0 13).map fun m => some (.normal, s28 bd m r x z (i + 1) [Nat.ble (i + 1) 9223372036854775807, !(zeroAt x.b i), Nat.blt i x.b.length, Nat.blt i x.b.length]) := by kernel_rfl
theorem f28x : (List.range' 0 13).map (fun m => p28B bd m r x z i [false]) = (List.range' 0 13).map fun m => some (.exit 0, s28 bd m r x z i [!(Nat.blt i x.b.length)]) := by kernel_rfl
/-! behind the bytes -/
def accW : W → Nat → Nat → W
  | a, _, 0 => a
  | a, j, n + 1 => accW (addW (addW a (r.w 5) 1) (r.w 6) (x.K j)) (j + 1) n
def accO : List Bool → W → Nat → Nat → List Bool
  | l, _, _, 0 => l
  | l, a, j, n + 1 => accO (addO (addW a (r.w 5) 1) (r.w 6) (x.K j) :: addO a (r.w 5) 1 :: Nat.blt j x.n :: Nat.blt j x.n :: l) (addW (addW a (r.w 5) 1) (r.w 6) (x.K j)) (j + 1) n
def d1W : W := addW (r.w 1) (r.w 3) z
def d2W : W := addW (d1W r z) (r.w 4) (x.b.length - z)
def a28 : W := accW r x (d2W r x z) 0 m
def wdW : W := wordsW (BitVec.ofNat 64 x.b.length)
def mkW : W := addW (addW (a28 m r x z) (r.w 2) 1) (r.w 7) (wdW x).toNat
def o28 : List Bool := (!(Nat.blt m x.n)) :: accO r x [addO (d1W r z) (r.w 4) (x.b.length - z), Nat.ble z x.b.length, addO (r.w 1) (r.w 3) z] (d2W r x z) 0 m
noncomputable def p28C (ds : List Bool) : Option (V × List Bool) := retV' 28 (sxs Try.prog Mi 1000000 (dropC 5 (rowOf Try.prog 28)) ⟨slots (sl28 x z i), hp28 bd m r x (r.w 1), true, 85, 15, [], ds⟩)
theorem f28p : (List.range' 0 13).map (fun m => p28C bd m r x z i (trues' m [false, false])) = (List.range' 0 13).map fun m => some (.tp [(false, [.w64 (a28 m r x z)]), (false, [.bl true])], (!x.make) :: o28 m r x z) := by kernel_rfl
theorem f28m : (List.range' 0 13).map (fun m => p28C bd m r x z i (trues' m [false, true])) = (List.range' 0 13).map fun m => some (.tp [(false, [.w64 (mkW m r x z)]), (false, [.bl true])], addO (addW (a28 m r x z) (r.w 2) 1) (r.w 7) (wdW x).toNat :: Nat.ble (wdW x).toNat 9223372036854775807 :: addO (a28 m r x z) (r.w 2) 1 :: x.make :: o28 m r x z) := by kernel_rfl
end
end Go.Proofs.Sx
