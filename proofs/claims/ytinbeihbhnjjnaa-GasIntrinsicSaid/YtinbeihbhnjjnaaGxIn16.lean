/- The law on what a transaction takes: its function, in figures. -/
import Derived.Test.YtinbeihbhnjjnaaGxIn15
import Derived.Test.YtinbeihbhnjjnaaGxSteps2
namespace Go.Proofs.Sx
open Go
set_option linter.unusedVariables false
noncomputable def M7 : Kn := addK (addK M0 14 rulM) 13 trueM
theorem known7 : Known Try.prog M7 := known_add (known_add known_none krul) ktrue
noncomputable def cod7 (k : Nat) : Code := nthC (rowOf Try.prog 7) k
noncomputable def opsK (k : Nat) : Array Oper := opsArr (cod7 k)
noncomputable def opK (k j : Nat) : Oper := ((opsK k)[j]?).getD default
noncomputable def plainK (k j : Nat) (d : Option Nat) : Bool :=
  match (opK k j).guard, (opK k j).dst, d with
  | none, some e, some e' => Nat.beq e e'
  | none, none, none => true
  | _, _, _ => false
def d3 (j : Nat) : Nat := match j with
  | 0 => 16
  | 1 => 17
  | 2 => 18
  | 3 => 19
  | 4 => 15
  | 5 => 20
  | 6 => 21
  | 7 => 7
  | _ => 8
def d4 (j : Nat) : Nat := match j with
  | 0 => 23
  | 1 => 24
  | 2 => 25
  | 3 => 22
  | 4 => 26
  | 5 => 27
  | 6 => 9
  | _ => 10
def edges3 : List (Nat × Nat) := [(2, 1), (3, 0), (3, 2), (4, 3), (5, 4), (6, 4), (7, 5), (8, 6)]
noncomputable def shape7 : Bool :=
  (Nat.beq (opsK 3).size 9 && ((List.range' 0 9).all (fun j => plainK 3 j (some (d3 j))) && ((List.range' 0 9).all (fun j => downB (opsK 3) j) && edges3.all (fun p => edgeB (opsK 3) p.1 p.2)))) &&
  ((List.range' 0 8).all (fun j => plainK 4 j (some (d4 j))) && (plainK 2 0 (some 13) && (plainK 2 1 (some 14) && (plainK 2 2 (some 6) && plainK 2 3 none))))
theorem shape7_is : shape7 = true := by kernel_rfl
theorem list2 : (opsK 2).toList = [opK 2 0, opK 2 1, opK 2 2, opK 2 3] := by kernel_rfl
theorem list4 : (opsK 4).toList = [opK 4 0, opK 4 1, opK 4 2, opK 4 3, opK 4 4, opK 4 5, opK 4 6, opK 4 7] := by kernel_rfl
theorem code2 : cod7 2 = .region (regId (cod7 2)) (opsK 2) false := by kernel_rfl
theorem code3 : cod7 3 = .region (regId (cod7 3)) (opsK 3) true := by kernel_rfl
theorem code4 : cod7 4 = .region (regId (cod7 4)) (opsK 4) false := by kernel_rfl
theorem row7 : rowOf Try.prog 7 = takeC 2 (rowOf Try.prog 7) ++ (cod7 2 :: cod7 3 :: cod7 4 :: dropC 5 (rowOf Try.prog 7)) := by kernel_rfl
theorem fn7 : (hasCode Try.prog 7 && Nat.beq (fnOf Try.prog 7).ntmps 43) = true := by kernel_rfl
def callB (o : Oper) : Option (FuncId × List Operand) :=
  match o.op with
  | .call c => match c.callee with
    | .value (.func f) => some (f, c.args.toList)
    | _ => none
  | _ => none
noncomputable def fnB (f : FuncId) : Bool :=
  match Try.prog.funcs[f]? with
  | some fn => !(fn.name == "runtime.NumGoroutine") && !fn.body.isNone
  | none => false
theorem call2 : callB (opK 2 1) = some (27, [.tmp 13]) := by kernel_rfl
theorem call3 : callB (opK 3 2) = some (27, [.tmp 17]) := by kernel_rfl
theorem call3' : callB (opK 3 3) = some (28, [.tmp 16, .tmp 18]) := by kernel_rfl
theorem call4 : callB (opK 4 2) = some (29, [.tmp 23, .tmp 24]) := by kernel_rfl
theorem fnb : (fnB 27 && (fnB 28 && fnB 29)) = true := by kernel_rfl
section
variable (f : Int) (x x1 : Txx) (D A B D1 A1 B1 : Value) (a b : W)
def r7 : Ru := R (kz f).toNat
def hpA : List Reg := [.own 51 (txX x D A B), .own 34 (rulesS (r7 f))]
def hpB : List Reg := [.own 51 (txX x D A B), .own 34 (rulesS (r7 f)), .own 51 (txX x1 D1 A1 B1)]
theorem f7A : sxc Try.prog M7 1000000 (takeC 2 (rowOf Try.prog 7)) [(3, false), (5, false)] 2 ⟨tmOf [.one (.zi f), .ag (txX x D A B)] 0 (T.full 8), [], false, 43, 0, [], []⟩ =
    some (.normal, ⟨slots [(3, .one (.pt 0 0)), (5, .one (.pt 1 0))], hpA f x D A B, false, 43, 0, [], []⟩) := by kernel_rfl
theorem getA : (slots [(3, .one (.pt 0 0)), (5, .one (.pt 1 0))]).get 3 = some (.one (.pt 0 0)) ∧ (slots [(3, .one (.pt 0 0)), (5, .one (.pt 1 0))]).get 5 = some (.one (.pt 1 0)) := ⟨by kernel_rfl, by kernel_rfl⟩
noncomputable def st7 (l : List (Nat × V)) (hp : List Reg) (b k j : Nat) : Res := stepOp (sx Try.prog M0 1000000) Try.prog M0 (slots l) hp b [] [] (opK k j).op
theorem s20 : st7 [(3, .one (.pt 0 0))] (hpA f x D A B) 2 2 0 = some (.ag (txX x D A B), hpA f x D A B, false, [], []) := by kernel_rfl
theorem s22 : st7 [] (hpA f x D A B) 2 2 2 = some (.one (.pt 2 0), hpA f x D A B ++ [.own 51 txZ], false, [], []) := by kernel_rfl
theorem s23 : st7 [(6, .one (.pt 2 0)), (14, .ag (txX x1 D1 A1 B1))] (hpA f x D A B ++ [.own 51 txZ]) 2 2 3 = some (.raw undef, hpB f x x1 D A B D1 A1 B1, false, [], []) := by kernel_rfl
def l3 (v : W) (j : Nat) : List (Nat × V) := match j with
  | 0 => [(5, .one (.pt 1 0))]
  | 1 => [(6, .one (.pt 2 0))]
  | 4 => [(19, twoV v)]
  | 5 => [(15, twoV v)]
  | 6 => [(15, twoV v)]
  | 7 => [(20, .one (.w64 v))]
  | _ => [(21, .one (.bl true))]
def v3 (v : W) (j : Nat) : V := match j with
  | 0 => .ag (rulesS (r7 f))
  | 1 => .ag (txX x1 D1 A1 B1)
  | 3 => twoV v
  | 4 => twoV v
  | 5 => .one (.w64 v)
  | 6 => .one (.bl true)
  | 7 => .one (.w64 v)
  | _ => .one (.bl true)
theorem s3 : [0, 1, 4, 5, 6, 7, 8].map (fun j => st7 (l3 a j) (hpB f x x1 D A B D1 A1 B1) 3 3 j) = [0, 1, 4, 5, 6, 7, 8].map fun j => some (v3 f x1 D1 A1 B1 a j, hpB f x x1 D A B D1 A1 B1, false, [], []) := by kernel_rfl
def l4 (v : W) (j : Nat) : List (Nat × V) := match j with
  | 0 => [(5, .one (.pt 1 0))]
  | 1 => [(6, .one (.pt 2 0))]
  | 3 => [(25, twoV v)]
  | 4 => [(22, twoV v)]
  | 5 => [(22, twoV v)]
  | 6 => [(26, .one (.w64 v))]
  | _ => [(27, .one (.bl true))]
def v4 (v : W) (j : Nat) : V := match j with
  | 0 => .ag (rulesS (r7 f))
  | 1 => .ag (txX x1 D1 A1 B1)
  | 2 => twoV v
  | 3 => twoV v
  | 4 => .one (.w64 v)
  | 5 => .one (.bl true)
  | 6 => .one (.w64 v)
  | _ => .one (.bl true)
theorem s4 : [0, 1, 3, 4, 5, 6, 7].map (fun j => st7 (l4 a j) (hpB f x x1 D A B D1 A1 B1) 3 4 j) = [0, 1, 3, 4, 5, 6, 7].map fun j => some (v4 f x1 D1 A1 B1 a j, hpB f x x1 D A B D1 A1 B1, false, [], []) := by kernel_rfl
def l5 : List (Nat × V) := [(7, .one (.w64 a)), (8, .one (.bl true)), (9, .one (.w64 b)), (10, .one (.bl true))]
theorem f7E (hp : List Reg) : retV' 7 (sxs Try.prog M7 1000000 (dropC 5 (rowOf Try.prog 7)) ⟨slots (l5 a b), hp, true, 43, 0, [], [true, true, true]⟩) = some (.one (.bl true), [Nat.ble 21000 a.toNat, (true == true), Nat.beq a.toNat b.toNat]) := by kernel_rfl
theorem plain3 : [0, 1, 4, 5, 6, 7, 8].all (fun j => (v3 f x1 D1 A1 B1 a j).plain) = true := by kernel_rfl
theorem plain4 : [0, 1, 3, 4, 5, 6, 7].all (fun j => (v4 f x1 D1 A1 B1 a j).plain) = true := by kernel_rfl
end
end Go.Proofs.Sx
