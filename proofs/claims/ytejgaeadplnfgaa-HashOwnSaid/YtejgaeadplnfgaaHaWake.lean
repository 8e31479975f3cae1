/- The hashes of no bytes, by the program. -/
import Derived.Test.YtejgaeadplnfgaaHaKeccak2
namespace Go.Proofs.Sx
open Go

noncomputable def forceL {R : Type} : List W → (List W → R) → R
  | [], k => k []
  | x :: l, k => forceN x.toNat fun n => forceL l fun l' => k (BitVec.ofNat 64 n :: l')
noncomputable def permF {R : Type} : Nat → Nat → List W → (List W → R) → R
  | 0, _, a, k => k a
  | n + 1, i, a, k => forceL (thetaL a) fun b => forceL (turnL b) fun c => forceL (chiL c) fun d => forceL (putW 0 (nthW d 0 ^^^ nthW rcL i) d) fun e => permF n (i + 1) e k
theorem forceL_eq {R : Type} : ∀ (l : List W) (k : List W → R), forceL l k = k l
  | [], _ => rfl
  | x :: l, k => by
    simp only [forceL]
    rw [forceN_eq, forceL_eq l, BitVec.ofNat_toNat, BitVec.setWidth_eq]
theorem permF_eq {R : Type} (a0 : List W) : ∀ (n i : Nat) (k : List W → R), permF n i (afterK a0 i) k = k (afterK a0 (i + n))
  | 0, _, _ => rfl
  | n + 1, i, k => by
    simp only [permF, forceL_eq]
    have := permF_eq a0 n (i + 1) k
    rw [show i + 1 + n = i + (n + 1) by omega] at this
    exact this

/-- the permutation of words in figures -/
noncomputable def figK (vs : List V) (hp : List Reg) : Option (V × List Reg × Bool × Option Bool) :=
  match vs with
  | [.one (.pt r 0)] => match regAt r hp with
    | some (.own t cs) => match splitW 25 cs with
      | some (ws, tl) => match tailOf tl with
        | some _ => forceL ws fun ws => permF 24 0 ws fun ws' => match regSet r (.own t (toC ws' ++ tl)) hp with
          | some hp' => some (.un, hp', true, none)
          | none => none
        | none => none
      | none => none
    | _ => none
  | _ => none
noncomputable def Mw : Kn := addK M1 47 figK
noncomputable def cnv (r : Res) (i j : Nat) : Option (Nat × Nat) :=
  match r with
  | some (.ag cs, _, _, _, _) => match atN i cs, atN j cs with
    | some (.w8 x), some (.w8 y) => forceN x.toNat fun a => forceN y.toNat fun b => some (a, b)
    | _, _ => none
  | _ => none
theorem tK : cnv (call0 Mw 14 [.one .nl] []) 0 31 = some (0xc5, 0x70) := by kernel_rfl
end Go.Proofs.Sx
