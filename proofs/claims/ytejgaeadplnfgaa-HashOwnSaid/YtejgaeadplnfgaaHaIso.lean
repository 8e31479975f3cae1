/- Calls of values alone, set apart. -/
import Derived.Test.YtejgaeadplnfgaaHaWake2
import Derived.Test.YtejgaeadplnfgaaSxAny3
namespace Go.Proofs.Sx
open Go

/-- A function of values, reckoned apart: nothing of its memory is left. -/
noncomputable def isoK (M : Kn) (f : FuncId) (vs : List V) (hp : List Reg) : Option (V × List Reg × Bool × Option Bool) :=
  match plainV vs with
  | false => none
  | true => match bareV (call0 M f vs []) with
    | none => none
    | some v => match V.plain v with
      | true => some (v, hp, false, none)
      | false => none
theorem kiso {M : Kn} (hM : Known Try.prog M) (f : FuncId) : ∀ vs hp v hp' chg ob, isoK M f vs hp = some (v, hp', chg, ob) → (∀ x, ob = some x → x = true) → Runs Try.prog f vs hp v hp' chg := by
  intro vs hp v hp' chg ob h _
  unfold isoK at h
  split at h
  · cases h
  · rename_i hv
    split at h
    · cases h
    · rename_i v1 hb
      split at h
      · rename_i hp1
        cases h
        exact runs_of_bare hM hb hv hp1 hp
      · cases h

noncomputable def Mr : Kn := addK (addK (addK M1 41 (isoK M1 41)) 42 (isoK M1 42)) 43 (isoK M1 43)
theorem knownr : Known Try.prog Mr := known_add (known_add (known_add known1 (kiso known1 41)) (kiso known1 42)) (kiso known1 43)

theorem Does.block {P : Program} {id : Nat} {c : Code} {s s' : St} (h : Does P c s .normal s') : Does P (.block id c) s .normal s' :=
  fun B w0 wc E a w _ hR hQ => wp_block (h B w0 wc E a w _ hR fun E1 a1 w1 hE hR1 => hQ E1 a1 w1 hE hR1)

noncomputable def getS : Option (Ex × St) → St
  | some (_, s) => s
  | none => ⟨.e, [], false, 0, 0, [], []⟩
def isN : Option (Ex × St) → Bool
  | some (.normal, _) => true
  | _ => false
theorem isN_is {r : Option (Ex × St)} (h : isN r = true) : r = some (.normal, getS r) := by
  unfold isN at h
  split at h
  · rfl
  · cases h
end Go.Proofs.Sx
