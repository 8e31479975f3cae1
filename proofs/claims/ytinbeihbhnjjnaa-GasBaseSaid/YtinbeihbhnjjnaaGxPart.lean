/- What a call is given, what is given back: the program and the reference alike. -/
import Derived.Test.YtinbeihbhnjjnaaGxRules
namespace Go.Proofs.Sx
open Go
def ne0 (x : W) : Bool := !(Nat.beq x.toNat 0)
theorem hiB_ne0 (a : Q) : hiB a = (ne0 (a 1) || (ne0 (a 2) || ne0 (a 3))) := by
  unfold hiB ne0
  have e : ∀ x : W, Nat.beq x.toNat 0 = decide (x = 0#64) := by
    intro x
    rw [Bool.eq_iff_iff, Nat.beq_eq, decide_eq_true_eq]
    constructor
    · intro h; exact BitVec.eq_of_toNat_eq h
    · intro h; rw [h]; rfl
  simp only [e, BitVec.or_eq_zero_iff]
  by_cases h1 : a 1 = 0#64 <;> by_cases h2 : a 2 = 0#64 <;> by_cases h3 : a 3 = 0#64 <;> simp [h1, h2, h3]
def pairV (x : W) (ok : C) : V := .tp [(false, [.w64 x]), (false, [ok])]
theorem pairV_sb {f : FuncId} {vs : List V} {hp hp' : List Reg} {t : W} {b : Bool} {chg : Bool} (h : Runs Try.prog f vs hp (pairV t (.bl b)) hp' chg) : Runs Try.prog f vs hp (pairV t (.sb b)) hp' chg :=
  h.conv (fun _ _ h => h) fun E u h3 => by
    obtain ⟨l, e, ha⟩ := h3
    match l, ha with
    | [_, _], ⟨x, y, _⟩ => exact ⟨_, e, x, y, trivial⟩
noncomputable abbrev run1 (M : Kn) (f : FuncId) (vs : List V) (ds : List Bool) : Option (V × List Bool) := outV (callD M f vs [] ds)
section
variable (a : Q)
theorem s32a : run1 M0 32 [.ag (w4 a)] [true] = some (pairV 0#64 (.bl false), [hiB a]) := by kernel_rfl
theorem s32b : run1 M0 32 [.ag (w4 a)] [false] = some (pairV (a 0) (.bl true), [!(hiB a)]) := by kernel_rfl
theorem s44a : run1 M0 44 [.ag (w4 a)] [true] = some (pairV 0#64 (.bl false), [ne0 (a 1)]) := by kernel_rfl
theorem s44b : run1 M0 44 [.ag (w4 a)] [false, true] = some (pairV 0#64 (.bl false), [ne0 (a 2), !(ne0 (a 1))]) := by kernel_rfl
theorem s44c : run1 M0 44 [.ag (w4 a)] [false, false, true] = some (pairV 0#64 (.bl false), [ne0 (a 3), !(ne0 (a 2)), !(ne0 (a 1))]) := by kernel_rfl
theorem s44d : run1 M0 44 [.ag (w4 a)] [false, false, false] = some (pairV (a 0) (.bl true), [!(ne0 (a 3)), !(ne0 (a 2)), !(ne0 (a 1))]) := by kernel_rfl
def smallX : W := bif hiB a then 0#64 else a 0
theorem runs32 (hp : List Reg) : Runs Try.prog 32 [.ag (w4 a)] hp (pairV (smallX a) (.sb (!(hiB a)))) hp false := by
  unfold smallX
  cases h : hiB a with
  | true => exact pairV_sb (runs_out known_none (s32a a) (AllT.cons h AllT.nil) rfl rfl hp)
  | false => exact pairV_sb (runs_out known_none (s32b a) (AllT.cons (by rw [h]; rfl) AllT.nil) rfl rfl hp)
theorem runs44 (hp : List Reg) : Runs Try.prog 44 [.ag (w4 a)] hp (pairV (smallX a) (.sb (!(hiB a)))) hp false := by
  unfold smallX
  rw [hiB_ne0]
  cases h1 : ne0 (a 1) with
  | true => exact pairV_sb (runs_out known_none (s44a a) (AllT.cons h1 AllT.nil) rfl rfl hp)
  | false =>
    have n1 : (!(ne0 (a 1))) = true := by rw [h1]; rfl
    cases h2 : ne0 (a 2) with
    | true => exact pairV_sb (runs_out known_none (s44b a) (AllT.cons h2 (AllT.cons n1 AllT.nil)) rfl rfl hp)
    | false =>
      have n2 : (!(ne0 (a 2))) = true := by rw [h2]; rfl
      cases h3 : ne0 (a 3) with
      | true => exact pairV_sb (runs_out known_none (s44c a) (AllT.cons h3 (AllT.cons n2 (AllT.cons n1 AllT.nil))) rfl rfl hp)
      | false => exact pairV_sb (runs_out known_none (s44d a) (AllT.cons (by rw [h3]; rfl) (AllT.cons n2 (AllT.cons n1 AllT.nil))) rfl rfl hp)
end
noncomputable def smaM (vs : List V) (hp : List Reg) : Option (V × List Reg × Bool × Option Bool) :=
  match vs with
  | [.ag [.w64 a0, .w64 a1, .w64 a2, .w64 a3]] => some (pairV (smallX (nthB [a0, a1, a2, a3])) (.sb (!(hiB (nthB [a0, a1, a2, a3])))), hp, false, none)
  | _ => none
theorem ksma {f : FuncId} (hf : ∀ (a : Q) (hp : List Reg), Runs Try.prog f [.ag (w4 a)] hp (pairV (smallX a) (.sb (!(hiB a)))) hp false) : ∀ vs hp v hp' chg ob, smaM vs hp = some (v, hp', chg, ob) → (∀ x, ob = some x → x = true) → Runs Try.prog f vs hp v hp' chg := by
  intro vs hp v hp' chg ob h _
  unfold smaM at h
  split at h
  · cases h; exact hf (nthB [_, _, _, _]) hp
  · cases h
noncomputable def Msm : Kn := addK (addK M0 32 smaM) 44 smaM
theorem knownsm : Known Try.prog Msm := known_add (known_add known_none (ksma runs32)) (ksma runs44)

section
variable (r : Ru) (left : W) (a : Q)
def earlyB : Bool := Nat.blt r.f 2
def mostX : W := left - left / 64#64
def overX : Bool := Nat.blt left.toNat (smallX a).toNat
def partX : W := bif earlyB r then (bif hiB a || overX left a then 0#64 else smallX a) else (bif hiB a then mostX left else bif Nat.blt (mostX left).toNat (smallX a).toNat then mostX left else smallX a)
def partOk : Bool := bif earlyB r then !(hiB a || overX left a) else true
noncomputable abbrev p15 (ds : List Bool) := run1 Msm 15 [.ag (rulesS r), .one (.w64 left), .ag (w4 a)] ds
noncomputable abbrev p16 (ds : List Bool) := run1 Msm 16 [.ag (rulesS r), .one (.w64 left), .ag (w4 a)] ds
def nnB : Bool := !(!(hiB a))
theorem p15a : p15 r left a [true, true] = some (pairV 0#64 (.bl false), [nnB a, earlyB r]) := by kernel_rfl
theorem p15b : p15 r left a [true, false, true] = some (pairV 0#64 (.bl false), [overX left a, !(nnB a), earlyB r]) := by kernel_rfl
theorem p15c : p15 r left a [true, false, false] = some (pairV (smallX a) (.bl true), [!(overX left a), !(nnB a), earlyB r]) := by kernel_rfl
theorem p15d : p15 r left a [false, true] = some (pairV (mostX left) (.bl true), [nnB a, !(earlyB r)]) := by kernel_rfl
theorem p15e : p15 r left a [false, false] = some (pairV (bif Nat.blt (mostX left).toNat (smallX a).toNat then mostX left else smallX a) (.bl true), [!(nnB a), !(earlyB r)]) := by kernel_rfl
theorem p16a : p16 r left a [true, true] = some (pairV 0#64 (.bl false), [nnB a, earlyB r]) := by kernel_rfl
theorem p16b : p16 r left a [true, false, true] = some (pairV 0#64 (.bl false), [overX left a, !(nnB a), earlyB r]) := by kernel_rfl
theorem p16c : p16 r left a [true, false, false] = some (pairV (smallX a) (.bl true), [!(overX left a), !(nnB a), earlyB r]) := by kernel_rfl
theorem p16d : p16 r left a [false, true] = some (pairV (mostX left) (.bl true), [nnB a, !(earlyB r)]) := by kernel_rfl
theorem p16e : p16 r left a [false, false, true] = some (pairV (mostX left) (.bl true), [Nat.blt (mostX left).toNat (smallX a).toNat, !(nnB a), !(earlyB r)]) := by kernel_rfl
theorem p16f : p16 r left a [false, false, false] = some (pairV (smallX a) (.bl true), [!(Nat.blt (mostX left).toNat (smallX a).toNat), !(nnB a), !(earlyB r)]) := by kernel_rfl
end
end Go.Proofs.Sx
