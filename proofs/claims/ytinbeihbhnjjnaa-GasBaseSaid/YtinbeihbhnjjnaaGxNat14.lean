/- The law on growing: its function returns true. -/
import Derived.Test.YtinbeihbhnjjnaaGxNat13
import Derived.Test.YtinbeihbhnjjnaaGxSteps2
namespace Go.Proofs.Sx
open Go
set_option linter.unusedVariables false
noncomputable def rgrowM (vs : List V) (hp : List Reg) : Option (V × List Reg × Bool × Option Bool) :=
  match vs with
  | [.one (.w64 s), .ag [.w64 a0, .w64 a1, .w64 a2, .w64 a3], .ag [.w64 n0, .w64 n1, .w64 n2, .w64 n3]] =>
    some (growV (rTo s (nthB [a0, a1, a2, a3]) (nthB [n0, n1, n2, n3])) (rCost s (nthB [a0, a1, a2, a3]) (nthB [n0, n1, n2, n3])) (.sb (rOk (nthB [a0, a1, a2, a3]) (nthB [n0, n1, n2, n3]))), hp, false, none)
  | _ => none
theorem krgrow : ∀ vs hp v hp' chg ob, rgrowM vs hp = some (v, hp', chg, ob) → (∀ x, ob = some x → x = true) → Runs Try.prog 12 vs hp v hp' chg := by
  intro vs hp v hp' chg ob h _
  unfold rgrowM at h
  split at h
  · cases h
    exact runs12 _ (nthB [_, _, _, _]) (nthB [_, _, _, _]) hp
  · cases h
noncomputable def Mlg : Kn := addK (addK (addK M0 10 growM) 12 rgrowM) 13 trueM
theorem knownlg : Known Try.prog Mlg := known_add (known_add (known_add known_none kgrow) krgrow) ktrue
def sizeW (x : W) : W := x % 34359738369#64 * 32#64
def q4 (a : Q) : Q := nthB [a 0, a 1, a 2, a 3]
def eqW (x y : W) : Bool := Nat.beq x.toNat y.toNat
theorem f3 (x : W) (a n : Q) : outV (callD Mlg 3 [.one (.w64 x), .ag (w4 a), .ag (w4 n)] [] [true, true, true]) =
    some (.one (.bl true), [gOk (q4 a) (q4 n) == rOk (q4 a) (q4 n), eqW (gCost (sizeW x) (q4 a) (q4 n)) (rCost (sizeW x) (q4 a) (q4 n)), eqW (gTo (sizeW x) (q4 a) (q4 n)) (rTo (sizeW x) (q4 a) (q4 n))]) := by kernel_rfl
theorem sizeW_le (x : W) : (sizeW x).toNat ≤ 1099511627776 := by
  have h : (x % 34359738369#64).toNat < 34359738369 := by
    rw [BitVec.toNat_umod]
    exact Nat.mod_lt _ (by decide)
  unfold sizeW
  rw [BitVec.toNat_mul]
  show (x % 34359738369#64).toNat * 32 % _ ≤ _
  omega
theorem law3 (x : W) (a n : Q) : ∃ hp1 chg, Runs Try.prog 3 [.one (.w64 x), .ag (w4 a), .ag (w4 n)] [] (.one (.bl true)) hp1 chg := by
  obtain ⟨h1, h2, h3⟩ := grow_same (sizeW x) (q4 a) (q4 n) (sizeW_le x)
  have eq : ∀ y : W, eqW y y = true := fun y => Nat.beq_refl _
  exact runs_law knownlg (f3 x a n) (AllT.cons (by rw [h3]; simp) (AllT.cons (by rw [h2]; exact eq _) (AllT.cons (by rw [h1]; exact eq _) AllT.nil)))
end Go.Proofs.Sx
