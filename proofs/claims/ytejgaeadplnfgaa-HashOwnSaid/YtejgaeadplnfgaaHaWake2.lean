/- The hashes of no bytes, by the program: SHA-256. -/
import Derived.Test.YtejgaeadplnfgaaHaWake
namespace Go.Proofs.Sx
open Go
noncomputable def callD (M : Kn) (f : FuncId) (vs : List V) (hp : List Reg) (ds : List Bool) : Res :=
  callF (sx Try.prog M 1000000) Try.prog M hp [] ds f vs
def dsPad : List Bool := List.replicate 55 true ++ [false, true, false]

/-- Bytes in figures. -/
noncomputable def figB {R : Type} (stop : R) : List C → (List Nat → R) → R
  | [], k => k []
  | .w8 x :: cs, k => forceN x.toNat fun n => figB stop cs fun l => k (n :: l)
  | _, _ => stop
noncomputable def allB : List Bool → Bool
  | [] => true
  | b :: l => match b with
    | true => allB l
    | false => false
noncomputable def figR (r : Res) : Option (List Nat) :=
  match r with
  | some (.ag cs, _, _, ob, _) => match allB ob with
    | true => figB none cs some
    | false => none
  | _ => none
def toB (l : List Nat) : List C := l.map fun n => .w8 (BitVec.ofNat 8 n)
theorem allB_is : ∀ {l : List Bool}, allB l = true → AllT l
  | [], _ => AllT.nil
  | b :: l, h => by
    simp only [allB] at h
    split at h
    · exact AllT.cons rfl (allB_is h)
    · cases h
theorem figB_is {R : Type} {stop x : R} : ∀ {cs : List C} {k : List Nat → R}, figB stop cs k = x → x = stop ∨ ∃ l, cs = toB l ∧ k l = x
  | [], _, h => .inr ⟨[], rfl, h⟩
  | c :: cs, k, h => by
    cases c with
    | w8 y =>
      simp only [figB] at h
      rw [forceN_eq] at h
      rcases figB_is h with h | ⟨l, h1, h2⟩
      · exact .inl h
      · refine .inr ⟨_, ?_, h2⟩
        rw [h1]
        simp [toB]
    | _ => exact .inl h.symm
theorem toB_plain : ∀ l : List Nat, plains (toB l) = true
  | [] => rfl
  | _ :: l => toB_plain l

theorem runs_fig {M : Kn} (hM : Known Try.prog M) {f : FuncId} {vs : List V} {ds : List Bool} {l : List Nat} (h : figR (callD M f vs [] ds) = some l) (hv : plainV vs = true) (hp : List Reg) : Runs Try.prog f vs hp (.ag (toB l)) hp false := by
  unfold figR at h
  split at h
  · rename_i cs hp1 c1 ob1 ds1 hc
    split at h
    · rename_i hob
      rcases figB_is h with h | ⟨l', h1, h2⟩
      · cases h
      · cases h2
        subst h1
        exact Runs.plain (fun B w0 E us w hv hh => (callF_is (sx_sound fol hM _) hM hc).2.2 (allB_is hob) E B w0 w us hv hh) hv (by simp only [V.plain, toB_plain]) hp
    · cases h
  · cases h
end Go.Proofs.Sx
