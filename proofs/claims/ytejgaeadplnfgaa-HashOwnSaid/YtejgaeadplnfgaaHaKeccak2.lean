/- Keccak: the program's permutation. -/
import Derived.Test.YtejgaeadplnfgaaHaKeccak
namespace Go.Proofs.Sx
open Go

noncomputable def m52 (vs : List V) (hp : List Reg) : Option (V × List Reg × Bool × Option Bool) :=
  match vs with
  | [] => some (.ag (toC rcL), hp, false, none)
  | _ => none
theorem k52 : ∀ vs hp v hp' chg ob, m52 vs hp = some (v, hp', chg, ob) → (∀ x, ob = some x → x = true) → Runs Try.prog 52 vs hp v hp' chg := by
  intro vs hp v hp' chg ob h _
  unfold m52 at h
  split at h
  · cases h
    exact runs_of_bare known1 f52 rfl (by simp only [V.plain, toC_plain]) hp
  · cases h

noncomputable def M4 : Kn := addK (addK (addK (addK M1 53 (blockK thetaL)) 54 (blockK turnL)) 55 (blockK chiL)) 52 m52
theorem known4 : Known Try.prog M4 := known_add (known_add (known_add (known_add known1 k53) k54) k55) k52

def keepK : List (Nat × Bool) := [(0, false), (4, false), (5, false)]
noncomputable def stK (t : TypeId) (tl : List C) (a : List W) (i : Nat) : St :=
  ⟨slots [(0, .one (.pt 0 0)), (4, .ag (toC rcL)), (5, .one (.it i))], [.own t (toC a ++ tl), .dead], true, 23, 2, [], []⟩
noncomputable def roundKin (t : TypeId) (a : Nat → W) (i : Nat) (tl : List C) : Option (Ex × St) :=
  sxc Try.prog M4 1000000 [inLoop (nthC (rowOf Try.prog 47) 1)] keepK 2 (stK t tl (lst a 0 25) i)
noncomputable def roundKout (t : TypeId) (a : Nat → W) (i : Nat) (tl : List C) : Option (Ex × St) :=
  some (.normal, stK t tl (roundK (lst a 0 25) i) (i + 1))
theorem f47r (t : TypeId) (a : Nat → W) : (List.range' 0 24).map (fun i => tails.map (roundKin t a i)) = (List.range' 0 24).map (fun i => tails.map (roundKout t a i)) := by kernel_rfl
noncomputable def stK0 (t : TypeId) (tl : List C) (a : List W) : St :=
  ⟨tmOf [.one (.pt 0 0)] 0 (T.full 8), [.own t (toC a ++ tl), .dead], false, 23, 2, [], []⟩
def okEx (e : Ex) : Option (Ex × St) → Option St
  | some (.normal, s) => match e with
    | .normal => some s
    | _ => none
  | some (.exit i, s) => match e with
    | .exit j => match Nat.beq i j with
      | true => some s
      | false => none
    | _ => none
  | _ => none
noncomputable def clear (s : St) : St := ⟨s.tm, s.hp, true, s.n, s.base, s.ob, s.ds⟩
noncomputable def spoilt (r : Option (Ex × St)) : Option (Ex × St) :=
  match r with
  | some (e, ⟨tm, hp, _, n, b, ob, ds⟩) => some (e, ⟨tm, hp, true, n, b, ob, ds⟩)
  | none => none
theorem f47a (t : TypeId) (a : Nat → W) : tails.map (fun tl => spoilt (sxc Try.prog M4 1000000 (takeC 1 (rowOf Try.prog 47)) keepK 2 (stK0 t tl (lst a 0 25)))) = tails.map (fun tl => some (.normal, stK t tl (lst a 0 25) 0)) := by kernel_rfl
theorem f47o (t : TypeId) (a : Nat → W) : tails.map (fun tl => sxc Try.prog M4 1000000 [inLoop (nthC (rowOf Try.prog 47) 1)] keepK 2 (stK t tl (lst a 0 25) 24)) = tails.map (fun tl => some (.exit 0, stK t tl (lst a 0 25) 24)) := by kernel_rfl
theorem len47 : lenL (rowOf Try.prog 47) = 2 := by kernel_rfl
theorem at47 : nthC (rowOf Try.prog 47) 1 = .block 0 (.loop (inLoop (nthC (rowOf Try.prog 47) 1))) := by kernel_rfl
theorem code47 : hasCode Try.prog 47 = true := by kernel_rfl
theorem tmps47 : (fnOf Try.prog 47).ntmps = 23 := by kernel_rfl
theorem drop47 : dropC 2 (rowOf Try.prog 47) = [] := by kernel_rfl
theorem res47 : (fnOf Try.prog 47).results.toList = [] := by kernel_rfl

theorem spoilt_sound {M : Kn} (hM : Known Try.prog M) {n k : Nat} {l : List Code} {keep : List (Nat × Bool)} {s s' : St} {e : Ex} (h : spoilt (sxc Try.prog M n l keep k s) = some (e, s')) (hob : AllT s'.ob) : DoesL Try.prog l s e s' := by
  unfold spoilt at h
  split at h
  · rename_i e1 tm hp c n1 b ob ds hx
    cases h
    exact (sxc_sound fol hM hx hob).spoil
  · cases h

theorem runs47 (t : TypeId) (ws : List W) (hl : ws.length = 25) (tl : List C) (ht : tl ∈ tails) : Runs Try.prog 47 [.one (.pt 0 0)] [.own t (toC ws ++ tl), .dead] .un [.own t (toC (permK ws) ++ tl), .dead] true := by
  have vl : ∀ i, afterK ws i = lst (nthW (afterK ws i)) 0 25 := fun i => eq_lst (afterK_len hl i)
  have h1 : DoesL Try.prog (takeC 1 (rowOf Try.prog 47)) (stK0 t tl ws) .normal (stK t tl (afterK ws 0) 0) := by
    have hf := map_at (f47a t (nthW ws)) ht
    simp only [← eq_lst hl] at hf
    exact spoilt_sound known4 hf AllT.nil
  have h2 : ∀ i, i < 24 → DoesL Try.prog [inLoop (nthC (rowOf Try.prog 47) 1)] (stK t tl (afterK ws i) i) .normal (stK t tl (afterK ws (i + 1)) (i + 1)) := by
    intro i hi
    have hf := map_at (map_at (f47r t (nthW (afterK ws i))) (a := i) (by simp; omega)) ht
    simp only [roundKin, roundKout] at hf
    rw [← vl i] at hf
    exact sxc_sound fol known4 hf AllT.nil
  have h3 : DoesL Try.prog [inLoop (nthC (rowOf Try.prog 47) 1)] (stK t tl (afterK ws 24) 24) (.exit 0) (stK t tl (afterK ws 24) 24) := by
    have hf := map_at (f47o t (nthW (afterK ws 24))) ht
    simp only [← vl 24] at hf
    exact sxc_sound fol known4 hf AllT.nil
  have h4 : DoesL Try.prog (dropC 2 (rowOf Try.prog 47)) (stK t tl (afterK ws 24) 24) .normal (stK t tl (afterK ws 24) 24) := by
    rw [drop47]
    exact DoesL.nil _
  have h5 := DoesL.three (k := 1) (by rw [len47]; omega) at47 (s := fun i => stK t tl (afterK ws i) i) h1 h2 h3 h4
  exact runs_of code47 (.inl rfl) (n := 23) (by rw [tmps47]; rfl) h5 (by rw [res47]; rfl) rfl
end Go.Proofs.Sx
