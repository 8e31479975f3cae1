/- The law on Blake: its function returns true, if 'wakes' does. -/
import Derived.Test.YtejgaeadplnfgaaHaBlock
namespace Go.Proofs.Sx
open Go

noncomputable def blakeM (vs : List V) (hp : List Reg) : Option (V × List Reg × Bool × Option Bool) :=
  match vs with
  | [.one (.w32 n), .ag h, .ag m, .ag t, .one (.bl fin)] => match unC64 h, unC64 m, unC64 t, Nat.beq (lenC h) 8, Nat.beq (lenC m) 16, Nat.beq (lenC t) 2 with
    | some h, some m, some t, true, true, true => some (.ag (toC (blakeB n.toNat (nthW h) (nthW m) (nthW t) fin)), hp, false, none)
    | _, _, _, _, _, _ => none
  | _ => none
theorem kblake {f : FuncId} (hf : ∀ (n : BitVec 32) (h m t : Nat → W) (fin : Bool) (hp : List Reg), Runs Try.prog f [.one (.w32 n), .ag (toC (lst h 0 8)), .ag (toC (lst m 0 16)), .ag (toC (lst t 0 2)), .one (.bl fin)] hp (.ag (toC (blakeB n.toNat h m t fin))) hp false) :
    ∀ vs hp v hp' chg ob, blakeM vs hp = some (v, hp', chg, ob) → (∀ x, ob = some x → x = true) → Runs Try.prog f vs hp v hp' chg := by
  intro vs hp v hp' chg ob h _
  unfold blakeM at h
  split at h
  · rename_i n ch cm ct fin
    split at h
    · rename_i h1 m1 t1 e1 e2 e3 l1 l2 l3
      cases h
      have e1 := unC64_is e1
      have e2 := unC64_is e2
      have e3 := unC64_is e3
      subst e1
      subst e2
      subst e3
      rw [lenC_toC] at l1 l2 l3
      have := hf n (nthW h1) (nthW m1) (nthW t1) fin hp
      rwa [← eq_lst (Nat.eq_of_beq_eq_true l1), ← eq_lst (Nat.eq_of_beq_eq_true l2), ← eq_lst (Nat.eq_of_beq_eq_true l3)] at this
    · cases h
  · cases h

noncomputable def trueM (vs : List V) (hp : List Reg) : Option (V × List Reg × Bool × Option Bool) :=
  match vs with
  | [] => some (.one (.bl true), hp, false, none)
  | _ => none
theorem ktrue {f : FuncId} (hf : ∀ hp : List Reg, Runs Try.prog f [] hp (.one (.bl true)) hp false) :
    ∀ vs hp v hp' chg ob, trueM vs hp = some (v, hp', chg, ob) → (∀ x, ob = some x → x = true) → Runs Try.prog f vs hp v hp' chg := by
  intro vs hp v hp' chg ob h _
  unfold trueM at h
  split at h
  · cases h; exact hf _
  · cases h

noncomputable def M5 : Kn := addK (addK (addK M0 11 blakeM) 12 blakeM) 13 trueM
theorem known5 (h13 : ∀ hp : List Reg, Runs Try.prog 13 [] hp (.one (.bl true)) hp false) : Known Try.prog M5 :=
  known_add (known_add (known_add known_none (kblake runs11)) (kblake runs12)) (ktrue h13)

def eqL : List W → List W → Bool
  | x :: l, y :: l' => (x == y) && eqL l l'
  | _, _ => true
theorem eqL_self : ∀ l : List W, eqL l l = true
  | [] => rfl
  | x :: l => by simp [eqL, eqL_self l]
noncomputable def outV (r : Res) : Option (V × List Bool) :=
  match r with
  | some (v, _, _, ob, _) => some (v, ob)
  | none => none
theorem f3 (n : BitVec 32) (h m t : Nat → W) (fin : Bool) : outV (callD M5 3 [.ag (blockC n h m t fin)] [] [true]) =
    some (.one (.bl true), [eqL (blakeB (n % BitVec.ofNat 32 300).toNat (nthW (lst h 0 8)) (nthW (lst m 0 16)) (nthW (lst t 0 2)) fin) (blakeB (n % BitVec.ofNat 32 300).toNat (nthW (lst h 0 8)) (nthW (lst m 0 16)) (nthW (lst t 0 2)) fin)]) := by kernel_rfl
end Go.Proofs.Sx
