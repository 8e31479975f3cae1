/- The law's own 'wakes' returns true. -/
import Derived.Test.YtejgaeadplnfgaaHaWake3
import Derived.Test.YtejgaeadplnfgaaHaWake4
import Derived.Test.YtejgaeadplnfgaaHaRipM
namespace Go.Proofs.Sx
open Go

theorem kfig : ∀ vs hp v hp' chg ob, figK vs hp = some (v, hp', chg, ob) → (∀ x, ob = some x → x = true) → Runs Try.prog 47 vs hp v hp' chg := by
  intro vs hp v hp' chg ob h _
  unfold figK at h
  split at h
  · rename_i r
    split at h
    · rename_i t cs hr
      split at h
      · rename_i ws tl hs
        split at h
        · rename_i tl2 ht
          obtain ⟨rfl, hl⟩ := splitW_is hs
          rw [forceL_eq] at h
          have hp24 := permF_eq ws 24 0 (fun ws' => match regSet r (.own t (toC ws' ++ tl)) hp with
            | some hp' => (some (V.un, hp', true, none) : Option (V × List Reg × Bool × Option Bool))
            | none => none)
          have e0 : afterK ws 0 = ws := rfl
          have e1 : afterK ws (0 + 24) = permK ws := rfl
          rw [e0, e1] at hp24
          replace h := hp24.symm.trans h
          split at h
          · rename_i hp1 hset
            cases h
            obtain ⟨rfl, hlt⟩ := regSet_eq _ _ _ _ hset
            rw [regAt_eq] at hr
            have hrun := runs47 t ws hl tl2 (tailOf_mem ht)
            exact Runs.block (more := []) hrun (tailOf_is ht) rfl rfl (toC_plain _) (toC_plain _) hr
          · cases h
        · cases h
      · cases h
    · cases h
  · cases h
noncomputable def nilM (l : List Nat) (vs : List V) (hp : List Reg) : Option (V × List Reg × Bool × Option Bool) :=
  match vs with
  | [.one .nl] => some (.ag (toB l), hp, false, none)
  | _ => none
theorem knil {f : FuncId} {l : List Nat} (hf : ∀ hp : List Reg, Runs Try.prog f [.one .nl] hp (.ag (toB l)) hp false) :
    ∀ vs hp v hp' chg ob, nilM l vs hp = some (v, hp', chg, ob) → (∀ x, ob = some x → x = true) → Runs Try.prog f vs hp v hp' chg := by
  intro vs hp v hp' chg ob h _
  unfold nilM at h
  split at h
  · cases h; exact hf _
  · cases h
theorem knownw : Known Try.prog Mw := known_add known1 kfig
noncomputable def M13 : Kn := addK (addK (addK M0 14 (nilM kec0)) 17 (nilM sha0)) 19 (nilM rip0)
theorem known13 : Known Try.prog M13 :=
  known_add (known_add (known_add known_none (knil fun hp => runs_fig knownw f14n rfl hp)) (knil fun hp => runs_fig known1 f17n rfl hp)) (knil runs19n)

noncomputable def outW (r : Res) : Option (V × List Bool) :=
  match r with
  | some (v, _, _, ob, _) => some (v, ob)
  | none => none
theorem f13 : outW (callD M13 13 [] [] [true, true, true, true]) = some (.one (.sb true), [true, true, true, true]) := by kernel_rfl
theorem runs13 (hp : List Reg) : Runs Try.prog 13 [] hp (.one (.bl true)) hp false := by
  have h := f13
  unfold outW at h
  split at h
  · rename_i v1 hp1 c1 ob1 ds1 hc
    cases h
    have hob : AllT [true, true, true, true] := AllT.cons rfl (AllT.cons rfl (AllT.cons rfl (AllT.cons rfl AllT.nil)))
    have : Runs Try.prog 13 [] hp (.one (.sb true)) hp false :=
      Runs.plain (fun B w0 E us w hv hh => (callF_is (sx_sound fol known13 _) known13 hc).2.2 hob E B w0 w us hv hh) rfl rfl hp
    exact this
  · cases h
end Go.Proofs.Sx
