/- The law on rounds of writes: what a round does. -/
import Derived.Test.YtinbeihbhnjjnaaGxStore
import Derived.Test.YtinbeihbhnjjnaaGxPart4
namespace Go.Proofs.Sx
open Go
section
def mk4 (a : Q) : Q := nthB [a 0, a 1, a 2, a 3]
def rdSto (o c n : Q) : Sto := ⟨mk4 o, mk4 c, mk4 n, true, 1099511627776#64⟩
variable (F : Nat → Q) (n : Nat) (r : Ru) (o cur : Q) (cost back cnt : W) (i : Nat)
noncomputable def rS (ds : List Bool) : St :=
  ⟨slots [(2, .one (.qv 0 n)), (4, .one (.pt 1 0)), (7, .one (.pt 2 0)), (8, .one (.pt 3 0)), (9, .one (.w64 cost)), (10, .one (.w64 back)), (11, .one (.w64 cnt)), (12, .one (.sy i))],
    [.qs F n, .own 24 (w4 o), .own 34 (rulesS r), .own 24 (w4 cur)], true, 103, 1, [], ds⟩
def rkeep : List (Nat × Bool) := [(2, false), (4, false), (7, false), (8, false), (9, false), (10, false), (11, false), (12, false)]
noncomputable def rBody : Code := inLoop (nthC (rowOf Try.prog 9) 6)
/-- what a step leaves, without what is owed and to be decided -/
noncomputable def bareS (x : Option (Ex × St)) : Option (Ex × St × List Bool) :=
  match x with
  | some (e, ⟨tm, hp, _, m, b, ob, _⟩) => some (e, ⟨tm, hp, true, m, b, [], []⟩, ob)
  | none => none
theorem bareS_is {M : Kn} (hM : Known Try.prog M) {m k : Nat} {l : List Code} {keep : List (Nat × Bool)} {s s' : St} {e : Ex} {ob : List Bool} (h : bareS (sxc Try.prog M m l keep k s) = some (e, s', ob)) (hob : AllT ob) : DoesL Try.prog l s e s' := by
  unfold bareS at h
  split at h
  · rename_i e1 tm hp c m1 b ob1 ds hx
    cases h
    exact DoesL.free (ob := s.ob) (ob1 := s.ob) (ds := s.ds) (ds1 := s.ds) (ob' := ob) (ds' := ds) (ob1' := []) (ds1' := []) (sxc_sound fol hM hx hob).spoil
  · cases h
noncomputable def rRound (ds : List Bool) : Option (Ex × St × List Bool) := bareS (sxc Try.prog Mst 1000000 [rBody] rkeep 4 (rS F n r o cur cost back cnt i ds))
def rStp (nx : Q) : Sto := rdSto o cur nx
def rX (nx : Q) : W := stX r (rdSto o cur nx)
def rA (nx : Q) : W := stA r (rdSto o cur nx)
def rD (nx : Q) : W := stS r (rdSto o cur nx)
def rLess (nx : Q) : Bool := Nat.blt (back + rA r o cur nx).toNat (rD r o cur nx).toNat
def rTail (nx : Q) : List Bool := [!(rLess r o cur back nx), !(!(stK r (rdSto o cur nx))), cold16 r]
noncomputable def rNext (nx : Q) : St := rS F n r o nx (cost + rX r o cur nx) (back + rA r o cur nx - rD r o cur nx) (cnt + 1#64) (i + 1) []
theorem rA1 : rRound F n r o cur cost back cnt i [true, true, true, true, false, false] =
    some (.normal, rNext F n r o cur cost back cnt i (F i), Nat.ble (i + 1) 9223372036854775807 :: (rTail r o cur back (F i) ++ [Nat.blt i n, Nat.blt i n, Nat.blt i 30, Nat.blt i n, Nat.ble i 30, Nat.ble i n])) := by kernel_rfl
theorem rB1 : rRound F n r o cur cost back cnt i [true, true, true, false, false, false] =
    some (.normal, rNext F n r o cur cost back cnt i o, Nat.ble (i + 1) 9223372036854775807 :: (rTail r o cur back o ++ [!(Nat.blt i 30), Nat.blt i n, Nat.ble i 30, Nat.ble i n])) := by kernel_rfl
theorem rB2 : rRound F n r o cur cost back cnt i [true, true, false, false, false] =
    some (.normal, rNext F n r o cur cost back cnt i o, Nat.ble (i + 1) 9223372036854775807 :: (rTail r o cur back o ++ [!(Nat.blt i n), Nat.ble i 30, Nat.ble i n])) := by kernel_rfl
def rX9 : Code → Nat
  | .block id _ => id
  | _ => 0
theorem rE1 : rRound F n r o cur cost back cnt i [false] = some (.exit (rX9 (nthC (rowOf Try.prog 9) 6)), rS F n r o cur cost back cnt i [], [!(Nat.ble i n)]) := by kernel_rfl
theorem rE2 : rRound F n r o cur cost back cnt i [true, false] = some (.exit (rX9 (nthC (rowOf Try.prog 9) 6)), rS F n r o cur cost back cnt i [], [!(Nat.ble i 30), Nat.ble i n]) := by kernel_rfl
end
end Go.Proofs.Sx
