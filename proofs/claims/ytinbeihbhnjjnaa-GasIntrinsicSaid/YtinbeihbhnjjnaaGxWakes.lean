/- The law's own 'wakes' of the gas laws returns true. -/
import Derived.Test.YtinbeihbhnjjnaaGxExp
namespace Go.Proofs.Sx
open Go

def nthB : List (BitVec 64) → Nat → BitVec 64
  | x :: _, 0 => x
  | _ :: l, n + 1 => nthB l n
  | [], _ => 0#64
def unRu (cs : List C) : Option Ru :=
  match cs with
  | [.it f, .w64 a1, .w64 a2, .w64 a3, .w64 a4, .w64 a5, .w64 a6, .w64 a7, .sy m, .sy k, .w64 a10, .w64 a11, .w64 a12, .w64 a13, .w64 a14, .w64 a15, .w64 a16, .w64 a17, .w64 a18, .w64 a19, .w64 a20, .w64 a21, .w64 a22, .w64 a23, .w64 a24, .w64 a25] => some ⟨f, m, k, nthB [0#64, a1, a2, a3, a4, a5, a6, a7, 0#64, 0#64, a10, a11, a12, a13, a14, a15, a16, a17, a18, a19, a20, a21, a22, a23, a24, a25]⟩
  | _ => none
theorem unRu_is {cs : List C} {r : Ru} (h : unRu cs = some r) : cs = rulesC r := by
  unfold unRu at h
  split at h
  · cases h; rfl
  · cases h
def is255 (cs : List C) : Bool :=
  match cs with
  | [.w64 a, .w64 b, .w64 c, .w64 d] => match Nat.beq a.toNat 255 with
    | true => match Nat.beq b.toNat 0 with
      | true => match Nat.beq c.toNat 0 with
        | true => Nat.beq d.toNat 0
        | false => false
      | false => false
    | false => false
  | _ => false
theorem is255_is {cs : List C} (h : is255 cs = true) : cs = w255 := by
  have e : ∀ {a : BitVec 64} {n : Nat}, Nat.beq a.toNat n = true → n < 2 ^ 64 → a = BitVec.ofNat 64 n := by
    intro a n h hn
    apply BitVec.eq_of_toNat_eq
    rw [Nat.eq_of_beq_eq_true h, BitVec.toNat_ofNat, Nat.mod_eq_of_lt hn]
  unfold is255 at h
  split at h
  · split at h
    · rename_i h1
      split at h
      · rename_i h2
        split at h
        · rename_i h3
          rw [e h1 (by decide), e h2 (by decide), e h3 (by decide), e h (by decide)]
          rfl
        · cases h
      · cases h
    · cases h
  · cases h
noncomputable def expM (vs : List V) (hp : List Reg) : Option (V × List Reg × Bool × Option Bool) :=
  match vs with
  | [.ag cs, .ag e] => match unRu cs with
    | some r => match is255 e with
      | true => some (.one (.w64 (r.w 21 * 1#64)), hp, false, none)
      | false => none
    | none => none
  | _ => none
theorem kexp : ∀ vs hp v hp' chg ob, expM vs hp = some (v, hp', chg, ob) → (∀ x, ob = some x → x = true) → Runs Try.prog 25 vs hp v hp' chg := by
  intro vs hp v hp' chg ob h _
  unfold expM at h
  split at h
  · split at h
    · rename_i r hr
      split at h
      · rename_i he
        cases h
        rw [unRu_is hr, is255_is he]
        exact runs25 r hp
      · cases h
    · cases h
  · cases h
noncomputable def Mx : Kn := addK M0 25 expM
theorem knownx : Known Try.prog Mx := known_add known_none kexp
noncomputable def chkV (r : Res) : Bool :=
  match r with
  | some (.one (.sb b), _, _, ob, _) => match b with
    | true => allB ob
    | false => false
  | some (.one (.bl b), _, _, ob, _) => match b with
    | true => allB ob
    | false => false
  | _ => false
theorem f13 : chkV (callD Mx 13 [] [] []) = true := by kernel_rfl
theorem chkV_is {M : Kn} (hM : Known Try.prog M) {f : FuncId} {vs : List V} {ds : List Bool} (h : chkV (callD M f vs [] ds) = true) (hv : plainV vs = true) (hp : List Reg) : Runs Try.prog f vs hp (.one (.bl true)) hp false := by
  unfold chkV at h
  split at h
  · rename_i b hp1 c1 ob ds1 hc
    split at h
    · exact Runs.plain (v := .one (.bl true)) (fun B w0 E us w hv hh => (callF_is (sx_sound fol hM _) hM hc).2.2 (allB_is h) E B w0 w us hv hh) hv rfl hp
    · cases h
  · rename_i b hp1 c1 ob ds1 hc
    split at h
    · exact Runs.plain (v := .one (.bl true)) (fun B w0 E us w hv hh => (callF_is (sx_sound fol hM _) hM hc).2.2 (allB_is h) E B w0 w us hv hh) hv rfl hp
    · cases h
  · cases h
theorem runs13 (hp : List Reg) : Runs Try.prog 13 [] hp (.one (.bl true)) hp false := chkV_is knownx f13 rfl hp
end Go.Proofs.Sx
