/- What a write to the storage takes: the paths of the program and of the reference. (1) -/
import Derived.Test.YtinbeihbhnjjnaaGxPart2
namespace Go.Proofs.Sx
open Go
/-- A write to the storage. -/
structure Sto where
  o : Q
  c : Q
  n : Q
  warm : Bool
  left : W
def stoC (s : Sto) : List C := w4 s.o ++ (w4 s.c ++ (w4 s.n ++ [.sb s.warm, .w64 s.left]))
def eqQ (a b : Q) : Bool := (a 0 == b 0) && ((a 1 == b 1) && ((a 2 == b 2) && ((a 3 == b 3) && true)))
def pB (r : Ru) : Bool := Nat.blt r.f 5
def e6B (r : Ru) : Bool := Nat.beq r.f 6
def i7B (r : Ru) : Bool := Nat.ble 7 r.f
def b9B (r : Ru) : Bool := Nat.ble 9 r.f
def lowB (s : Sto) : Bool := Nat.ble s.left.toNat 2300
def quadV (x a b : W) (k : C) : V := .tp [(false, [.w64 x]), (false, [.w64 a]), (false, [.w64 b]), (false, [k])]
noncomputable abbrev p31 (r : Ru) (s : Sto) (ds : List Bool) := run1 M0 31 [.ag (rulesS r), .ag (stoC s)] ds
noncomputable abbrev p30 (r : Ru) (s : Sto) (ds : List Bool) := run1 M0 30 [.ag (rulesS r), .ag (stoC s)] ds
variable (r : Ru) (s : Sto)
theorem p31_0 : p31 r s [true, true, false, false] = some (quadV (5000#64) (0#64) (0#64) (.bl true), [!(!(zeroB s.c)), !(!(zeroB s.n)), zeroB s.c, pB r]) := by kernel_rfl
theorem p31_1 : p31 r s [true, true, true] = some (quadV (20000#64) (0#64) (0#64) (.bl true), [!(zeroB s.n), zeroB s.c, pB r]) := by kernel_rfl
theorem p31_2 : p31 r s [true, false, true, true] = some (quadV (5000#64) (r.w 22) (0#64) (.bl true), [zeroB s.n, !(zeroB s.c), !(zeroB s.c), pB r]) := by kernel_rfl
theorem p31_3 : p31 r s [true, false, true, false] = some (quadV (5000#64) (0#64) (0#64) (.bl true), [!(zeroB s.n), !(zeroB s.c), !(zeroB s.c), pB r]) := by kernel_rfl
theorem p31_4 : p31 r s [false, true, true, false, false] = some (quadV (5000#64) (0#64) (0#64) (.bl true), [!(!(zeroB s.c)), !(!(zeroB s.n)), zeroB s.c, e6B r, !(pB r)]) := by kernel_rfl
theorem p31_5 : p31 r s [false, true, true, true] = some (quadV (20000#64) (0#64) (0#64) (.bl true), [!(zeroB s.n), zeroB s.c, e6B r, !(pB r)]) := by kernel_rfl
theorem p31_6 : p31 r s [false, true, false, true, true] = some (quadV (5000#64) (r.w 22) (0#64) (.bl true), [zeroB s.n, !(zeroB s.c), !(zeroB s.c), e6B r, !(pB r)]) := by kernel_rfl
theorem p31_7 : p31 r s [false, true, false, true, false] = some (quadV (5000#64) (0#64) (0#64) (.bl true), [!(zeroB s.n), !(zeroB s.c), !(zeroB s.c), e6B r, !(pB r)]) := by kernel_rfl
theorem p31_8 : p31 r s [false, false, true, true] = some (quadV (0#64) (0#64) (0#64) (.bl false), [lowB s, i7B r, !(e6B r), !(pB r)]) := by kernel_rfl
theorem p31_9 : p31 r s [false, false, true, false, true, true, false, true] = some (quadV (100#64 + 0#64) (0#64) (0#64) (.bl true), [eqQ s.c s.n, !(!(s.warm)), b9B r, i7B r, !(lowB s), i7B r, !(e6B r), !(pB r)]) := by kernel_rfl
theorem p31_10 : p31 r s [false, false, true, false, true, true, false, false, true, true] = some (quadV (20000#64 + 0#64) (0#64) (0#64) (.bl true), [zeroB s.o, eqQ s.o s.c, !(eqQ s.c s.n), !(!(s.warm)), b9B r, i7B r, !(lowB s), i7B r, !(e6B r), !(pB r)]) := by kernel_rfl
theorem p31_11 : p31 r s [false, false, true, false, true, true, false, false, true, false, true] = some (quadV (2900#64 + 0#64) (r.w 22) (0#64) (.bl true), [zeroB s.n, !(zeroB s.o), eqQ s.o s.c, !(eqQ s.c s.n), !(!(s.warm)), b9B r, i7B r, !(lowB s), i7B r, !(e6B r), !(pB r)]) := by kernel_rfl
theorem p31_12 : p31 r s [false, false, true, false, true, true, false, false, true, false, false] = some (quadV (2900#64 + 0#64) (0#64) (0#64) (.bl true), [!(zeroB s.n), !(zeroB s.o), eqQ s.o s.c, !(eqQ s.c s.n), !(!(s.warm)), b9B r, i7B r, !(lowB s), i7B r, !(e6B r), !(pB r)]) := by kernel_rfl
theorem p31_13 : p31 r s [false, false, true, false, true, true, false, false, false, false, true, true] = some (quadV (100#64 + 0#64) (0#64 + 20000#64 - 100#64) (0#64) (.bl true), [zeroB s.o, eqQ s.o s.n, !(!(zeroB s.o)), !(eqQ s.o s.c), !(eqQ s.c s.n), !(!(s.warm)), b9B r, i7B r, !(lowB s), i7B r, !(e6B r), !(pB r)]) := by kernel_rfl
theorem p31_14 : p31 r s [false, false, true, false, true, true, false, false, false, false, false] = some (quadV (100#64 + 0#64) (0#64) (0#64) (.bl true), [!(eqQ s.o s.n), !(!(zeroB s.o)), !(eqQ s.o s.c), !(eqQ s.c s.n), !(!(s.warm)), b9B r, i7B r, !(lowB s), i7B r, !(e6B r), !(pB r)]) := by kernel_rfl
theorem p31_15 : p31 r s [false, false, true, false, true, true, false, false, false, true, true, true, false] = some (quadV (100#64 + 0#64) (0#64 + 2900#64 - 100#64) (r.w 22) (.bl true), [!(zeroB s.o), eqQ s.o s.n, zeroB s.c, !(zeroB s.o), !(eqQ s.o s.c), !(eqQ s.c s.n), !(!(s.warm)), b9B r, i7B r, !(lowB s), i7B r, !(e6B r), !(pB r)]) := by kernel_rfl
theorem p31_16 : p31 r s [false, false, true, false, true, true, false, false, false, true, true, false] = some (quadV (100#64 + 0#64) (0#64) (r.w 22) (.bl true), [!(eqQ s.o s.n), zeroB s.c, !(zeroB s.o), !(eqQ s.o s.c), !(eqQ s.c s.n), !(!(s.warm)), b9B r, i7B r, !(lowB s), i7B r, !(e6B r), !(pB r)]) := by kernel_rfl
theorem p31_17 : p31 r s [false, false, true, false, true, true, false, false, false, true, false, true, true, false] = some (quadV (100#64 + 0#64) (r.w 22 + 2900#64 - 100#64) (0#64) (.bl true), [!(zeroB s.o), eqQ s.o s.n, zeroB s.n, !(zeroB s.c), !(zeroB s.o), !(eqQ s.o s.c), !(eqQ s.c s.n), !(!(s.warm)), b9B r, i7B r, !(lowB s), i7B r, !(e6B r), !(pB r)]) := by kernel_rfl
theorem p31_18 : p31 r s [false, false, true, false, true, true, false, false, false, true, false, true, false] = some (quadV (100#64 + 0#64) (r.w 22) (0#64) (.bl true), [!(eqQ s.o s.n), zeroB s.n, !(zeroB s.c), !(zeroB s.o), !(eqQ s.o s.c), !(eqQ s.c s.n), !(!(s.warm)), b9B r, i7B r, !(lowB s), i7B r, !(e6B r), !(pB r)]) := by kernel_rfl
theorem p31_19 : p31 r s [false, false, true, false, true, true, false, false, false, true, false, false, true, false] = some (quadV (100#64 + 0#64) (0#64 + 2900#64 - 100#64) (0#64) (.bl true), [!(zeroB s.o), eqQ s.o s.n, !(zeroB s.n), !(zeroB s.c), !(zeroB s.o), !(eqQ s.o s.c), !(eqQ s.c s.n), !(!(s.warm)), b9B r, i7B r, !(lowB s), i7B r, !(e6B r), !(pB r)]) := by kernel_rfl
theorem p31_20 : p31 r s [false, false, true, false, true, true, false, false, false, true, false, false, false] = some (quadV (100#64 + 0#64) (0#64) (0#64) (.bl true), [!(eqQ s.o s.n), !(zeroB s.n), !(zeroB s.c), !(zeroB s.o), !(eqQ s.o s.c), !(eqQ s.c s.n), !(!(s.warm)), b9B r, i7B r, !(lowB s), i7B r, !(e6B r), !(pB r)]) := by kernel_rfl
theorem p31_21 : p31 r s [false, false, true, false, true, true, true, true] = some (quadV (100#64 + 2100#64) (0#64) (0#64) (.bl true), [eqQ s.c s.n, !(s.warm), b9B r, i7B r, !(lowB s), i7B r, !(e6B r), !(pB r)]) := by kernel_rfl
theorem p31_22 : p31 r s [false, false, true, false, true, true, true, false, true, true] = some (quadV (20000#64 + 2100#64) (0#64) (0#64) (.bl true), [zeroB s.o, eqQ s.o s.c, !(eqQ s.c s.n), !(s.warm), b9B r, i7B r, !(lowB s), i7B r, !(e6B r), !(pB r)]) := by kernel_rfl
theorem p31_23 : p31 r s [false, false, true, false, true, true, true, false, true, false, true] = some (quadV (2900#64 + 2100#64) (r.w 22) (0#64) (.bl true), [zeroB s.n, !(zeroB s.o), eqQ s.o s.c, !(eqQ s.c s.n), !(s.warm), b9B r, i7B r, !(lowB s), i7B r, !(e6B r), !(pB r)]) := by kernel_rfl
theorem p31_24 : p31 r s [false, false, true, false, true, true, true, false, true, false, false] = some (quadV (2900#64 + 2100#64) (0#64) (0#64) (.bl true), [!(zeroB s.n), !(zeroB s.o), eqQ s.o s.c, !(eqQ s.c s.n), !(s.warm), b9B r, i7B r, !(lowB s), i7B r, !(e6B r), !(pB r)]) := by kernel_rfl
theorem p31_25 : p31 r s [false, false, true, false, true, true, true, false, false, false, true, true] = some (quadV (100#64 + 2100#64) (0#64 + 20000#64 - 100#64) (0#64) (.bl true), [zeroB s.o, eqQ s.o s.n, !(!(zeroB s.o)), !(eqQ s.o s.c), !(eqQ s.c s.n), !(s.warm), b9B r, i7B r, !(lowB s), i7B r, !(e6B r), !(pB r)]) := by kernel_rfl
theorem p31_26 : p31 r s [false, false, true, false, true, true, true, false, false, false, false] = some (quadV (100#64 + 2100#64) (0#64) (0#64) (.bl true), [!(eqQ s.o s.n), !(!(zeroB s.o)), !(eqQ s.o s.c), !(eqQ s.c s.n), !(s.warm), b9B r, i7B r, !(lowB s), i7B r, !(e6B r), !(pB r)]) := by kernel_rfl
theorem p31_27 : p31 r s [false, false, true, false, true, true, true, false, false, true, true, true, false] = some (quadV (100#64 + 2100#64) (0#64 + 2900#64 - 100#64) (r.w 22) (.bl true), [!(zeroB s.o), eqQ s.o s.n, zeroB s.c, !(zeroB s.o), !(eqQ s.o s.c), !(eqQ s.c s.n), !(s.warm), b9B r, i7B r, !(lowB s), i7B r, !(e6B r), !(pB r)]) := by kernel_rfl
theorem p31_28 : p31 r s [false, false, true, false, true, true, true, false, false, true, true, false] = some (quadV (100#64 + 2100#64) (0#64) (r.w 22) (.bl true), [!(eqQ s.o s.n), zeroB s.c, !(zeroB s.o), !(eqQ s.o s.c), !(eqQ s.c s.n), !(s.warm), b9B r, i7B r, !(lowB s), i7B r, !(e6B r), !(pB r)]) := by kernel_rfl
theorem p31_29 : p31 r s [false, false, true, false, true, true, true, false, false, true, false, true, true, false] = some (quadV (100#64 + 2100#64) (r.w 22 + 2900#64 - 100#64) (0#64) (.bl true), [!(zeroB s.o), eqQ s.o s.n, zeroB s.n, !(zeroB s.c), !(zeroB s.o), !(eqQ s.o s.c), !(eqQ s.c s.n), !(s.warm), b9B r, i7B r, !(lowB s), i7B r, !(e6B r), !(pB r)]) := by kernel_rfl
theorem p31_30 : p31 r s [false, false, true, false, true, true, true, false, false, true, false, true, false] = some (quadV (100#64 + 2100#64) (r.w 22) (0#64) (.bl true), [!(eqQ s.o s.n), zeroB s.n, !(zeroB s.c), !(zeroB s.o), !(eqQ s.o s.c), !(eqQ s.c s.n), !(s.warm), b9B r, i7B r, !(lowB s), i7B r, !(e6B r), !(pB r)]) := by kernel_rfl
theorem p31_31 : p31 r s [false, false, true, false, true, true, true, false, false, true, false, false, true, false] = some (quadV (100#64 + 2100#64) (0#64 + 2900#64 - 100#64) (0#64) (.bl true), [!(zeroB s.o), eqQ s.o s.n, !(zeroB s.n), !(zeroB s.c), !(zeroB s.o), !(eqQ s.o s.c), !(eqQ s.c s.n), !(s.warm), b9B r, i7B r, !(lowB s), i7B r, !(e6B r), !(pB r)]) := by kernel_rfl
theorem p31_32 : p31 r s [false, false, true, false, true, true, true, false, false, true, false, false, false] = some (quadV (100#64 + 2100#64) (0#64) (0#64) (.bl true), [!(eqQ s.o s.n), !(zeroB s.n), !(zeroB s.c), !(zeroB s.o), !(eqQ s.o s.c), !(eqQ s.c s.n), !(s.warm), b9B r, i7B r, !(lowB s), i7B r, !(e6B r), !(pB r)]) := by kernel_rfl
theorem p31_33 : p31 r s [false, false, true, false, true, false, true] = some (quadV (800#64 + 0#64) (0#64) (0#64) (.bl true), [eqQ s.c s.n, !(b9B r), i7B r, !(lowB s), i7B r, !(e6B r), !(pB r)]) := by kernel_rfl
theorem p31_34 : p31 r s [false, false, true, false, true, false, false, true, true] = some (quadV (20000#64 + 0#64) (0#64) (0#64) (.bl true), [zeroB s.o, eqQ s.o s.c, !(eqQ s.c s.n), !(b9B r), i7B r, !(lowB s), i7B r, !(e6B r), !(pB r)]) := by kernel_rfl
theorem p31_35 : p31 r s [false, false, true, false, true, false, false, true, false, true] = some (quadV (5000#64 + 0#64) (r.w 22) (0#64) (.bl true), [zeroB s.n, !(zeroB s.o), eqQ s.o s.c, !(eqQ s.c s.n), !(b9B r), i7B r, !(lowB s), i7B r, !(e6B r), !(pB r)]) := by kernel_rfl
theorem p31_36 : p31 r s [false, false, true, false, true, false, false, true, false, false] = some (quadV (5000#64 + 0#64) (0#64) (0#64) (.bl true), [!(zeroB s.n), !(zeroB s.o), eqQ s.o s.c, !(eqQ s.c s.n), !(b9B r), i7B r, !(lowB s), i7B r, !(e6B r), !(pB r)]) := by kernel_rfl
theorem p31_37 : p31 r s [false, false, true, false, true, false, false, false, false, true, true] = some (quadV (800#64 + 0#64) (0#64 + 20000#64 - 800#64) (0#64) (.bl true), [zeroB s.o, eqQ s.o s.n, !(!(zeroB s.o)), !(eqQ s.o s.c), !(eqQ s.c s.n), !(b9B r), i7B r, !(lowB s), i7B r, !(e6B r), !(pB r)]) := by kernel_rfl
theorem p31_38 : p31 r s [false, false, true, false, true, false, false, false, false, false] = some (quadV (800#64 + 0#64) (0#64) (0#64) (.bl true), [!(eqQ s.o s.n), !(!(zeroB s.o)), !(eqQ s.o s.c), !(eqQ s.c s.n), !(b9B r), i7B r, !(lowB s), i7B r, !(e6B r), !(pB r)]) := by kernel_rfl
theorem p31_39 : p31 r s [false, false, true, false, true, false, false, false, true, true, true, false] = some (quadV (800#64 + 0#64) (0#64 + 5000#64 - 800#64) (r.w 22) (.bl true), [!(zeroB s.o), eqQ s.o s.n, zeroB s.c, !(zeroB s.o), !(eqQ s.o s.c), !(eqQ s.c s.n), !(b9B r), i7B r, !(lowB s), i7B r, !(e6B r), !(pB r)]) := by kernel_rfl
end Go.Proofs.Sx
