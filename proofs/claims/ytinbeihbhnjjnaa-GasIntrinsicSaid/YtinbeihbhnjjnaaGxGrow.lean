/- gas.Grow: what it hands back. -/
import Derived.Test.YtinbeihbhnjjnaaGxWakes
namespace Go.Proofs.Sx
open Go
abbrev W := BitVec 64
abbrev Q := Nat → W
def w4 (a : Q) : List C := [.w64 (a 0), .w64 (a 1), .w64 (a 2), .w64 (a 3)]

def wordsW (x : W) : W := x / 32#64 + (x % 32#64 + 31#64) / 32#64
theorem f34 (x : W) : outV (callD M0 34 [.one (.w64 x)] [] []) = some (.one (.w64 (wordsW x)), []) := by kernel_rfl
def lo32 (x : W) : W := x &&& 4294967295#64
/-- the high word of a square, as the library has it -/
def mulT (x y : W) : W := (x >>> 32) * lo32 y + (lo32 x * lo32 y) >>> 32
def mulHi (x y : W) : W := (x >>> 32) * (y >>> 32) + (mulT x y) >>> 32 + (lo32 (mulT x y) + lo32 x * (y >>> 32)) >>> 32
theorem f58 (x y : W) : outV (callD M0 58 [.one (.w64 x), .one (.w64 y)] [] []) = some (.tp [(false, [.w64 (mulHi x y)]), (false, [.w64 (x * y)])], []) := by kernel_rfl
def memW (x : W) : W := 3#64 * x + (mulHi x x <<< 55 ||| (x * x) >>> 9)
theorem f35 (x : W) : outV (callD M0 35 [.one (.w64 x)] [] []) = some (.one (.w64 (memW x)), []) := by kernel_rfl
noncomputable def w1M (g : W → W) (vs : List V) (hp : List Reg) : Option (V × List Reg × Bool × Option Bool) :=
  match vs with
  | [.one (.w64 x)] => some (.one (.w64 (g x)), hp, false, none)
  | _ => none
theorem kw1 {f : FuncId} {g : W → W} (hf : ∀ x, outV (callD M0 f [.one (.w64 x)] [] []) = some (.one (.w64 (g x)), [])) :
    ∀ vs hp v hp' chg ob, w1M g vs hp = some (v, hp', chg, ob) → (∀ x, ob = some x → x = true) → Runs Try.prog f vs hp v hp' chg := by
  intro vs hp v hp' chg ob h _
  unfold w1M at h
  split at h
  · cases h
    exact runs_out known_none (hf _) AllT.nil rfl rfl hp
  · cases h
noncomputable def Mg : Kn := addK (addK M0 34 (w1M wordsW)) 35 (w1M memW)
theorem knowng : Known Try.prog Mg := known_add (known_add known_none (kw1 f34)) (kw1 f35)

def hiB (a : Q) : Bool := !(Nat.beq (a 1 ||| a 2 ||| a 3).toNat 0)
def zeroB (n : Q) : Bool := (n 0 == 0#64) && ((n 1 == 0#64) && ((n 2 == 0#64) && ((n 3 == 0#64) && true)))
def overB (a n : Q) : Bool := Nat.blt 0 (BitVec.ofNat 64 (((a 0).toNat + (n 0).toNat) / 18446744073709551616)).toNat
def manyB (a n : Q) : Bool := Nat.blt 34359738368 (wordsW (a 0 + n 0)).toNat
def maxTo (s : W) (a n : Q) : W := bif Nat.blt s.toNat (32#64 * wordsW (a 0 + n 0)).toNat then 32#64 * wordsW (a 0 + n 0) else s
def badB (a n : Q) : Bool := hiB a || (hiB n || (overB a n || manyB a n))
def gTo (s : W) (a n : Q) : W := bif zeroB n then s else bif badB a n then 0#64 else maxTo s a n
def gCost (s : W) (a n : Q) : W := bif zeroB n then 0#64 else bif badB a n then 0#64 else memW (maxTo s a n / 32#64) - memW (s / 32#64)
def gOk (a n : Q) : Bool := zeroB n || !(badB a n)
def growV (to cost : W) (ok : C) : V := .tp [(false, [.w64 to]), (false, [.w64 cost]), (false, [ok])]
noncomputable def gcall (s : W) (a n : Q) (ds : List Bool) : Option (V × List Bool) := outV (callD Mg 10 [.one (.w64 s), .ag (w4 a), .ag (w4 n)] [] ds)
variable (s : W) (a n : Q)
theorem g1 : gcall s a n [true] = some (growV s 0#64 (.bl true), [zeroB n]) := by kernel_rfl
theorem g2 : gcall s a n [false, true, true] = some (growV 0#64 0#64 (.bl false), [hiB n, hiB a, !(zeroB n)]) := by kernel_rfl
theorem g3 : gcall s a n [false, true, false] = some (growV 0#64 0#64 (.bl false), [!(hiB n), hiB a, !(zeroB n)]) := by kernel_rfl
theorem g4 : gcall s a n [false, false, true] = some (growV 0#64 0#64 (.bl false), [hiB n, !(hiB a), !(zeroB n)]) := by kernel_rfl
theorem g5 : gcall s a n [false, false, false, true] = some (growV 0#64 0#64 (.bl false), [overB a n, !(hiB n), !(hiB a), !(zeroB n)]) := by kernel_rfl
theorem g6 : gcall s a n [false, false, false, false, true] = some (growV 0#64 0#64 (.bl false), [manyB a n, !(overB a n), !(hiB n), !(hiB a), !(zeroB n)]) := by kernel_rfl
theorem g7 : gcall s a n [false, false, false, false, false] = some (growV (maxTo s a n) (memW (maxTo s a n / 32#64) - memW (s / 32#64)) (.bl true), [!(manyB a n), !(overB a n), !(hiB n), !(hiB a), !(zeroB n)]) := by kernel_rfl
end Go.Proofs.Sx
