/- Numbers in limbs: zeros taken off. -/
import Derived.Test.YtinbeihbhnjjnaaGxBase
namespace Go.Proofs.Sx
open Go
set_option linter.unusedVariables false
abbrev L32 := List (BitVec 32)
def lsD (a : Nat → BitVec 32) : Nat → Nat → L32
  | _, 0 => []
  | i, n + 1 => a i :: lsD a (i + 1) n
def nthD : L32 → Nat → BitVec 32
  | [], _ => 0#32
  | x :: _, 0 => x
  | _ :: l, k + 1 => nthD l k
def toD : L32 → List C
  | [] => []
  | x :: l => .w32 x :: toD l
def unD : List C → Option L32
  | [] => some []
  | .w32 x :: l => match unD l with
    | some q => some (x :: q)
    | none => none
  | _ => none
theorem lsD_cons (x : BitVec 32) (l : L32) : ∀ (i n : Nat), lsD (nthD (x :: l)) (i + 1) n = lsD (nthD l) i n
  | _, 0 => rfl
  | i, n + 1 => by
    show nthD l i :: lsD (nthD (x :: l)) (i + 1 + 1) n = nthD l i :: lsD (nthD l) (i + 1) n
    rw [lsD_cons x l (i + 1) n]
theorem eq_lsD : ∀ (l : L32), l = lsD (nthD l) 0 l.length
  | [] => rfl
  | x :: l => by
    show x :: l = x :: lsD (nthD (x :: l)) 1 l.length
    rw [lsD_cons x l 0 l.length, ← eq_lsD l]
theorem eq_lsD' {l : L32} {n : Nat} (h : l.length = n) : l = lsD (nthD l) 0 n := by rw [← h]; exact eq_lsD l
theorem unD_is : ∀ {cs : List C} {l : L32}, unD cs = some l → cs = toD l
  | [], l, h => by cases h; rfl
  | c :: cs, l, h => by
    cases c with
    | w32 x =>
      simp only [unD] at h
      split at h
      · rename_i q hq
        cases h
        rw [unD_is hq]
        rfl
      · cases h
    | _ => cases h
theorem toD_len : ∀ l : L32, (toD l).length = l.length
  | [] => rfl
  | _ :: l => by simp [toD, toD_len l]
theorem all2_toD {E : Env} : ∀ {l : L32} {vs : List Value}, All2 (C.is E) (toD l) vs → vs = l.map fun x => Value.int .u32 (x.toNat : Int)
  | [], [], _ => rfl
  | x :: l, v :: vs, h => by
    obtain ⟨h1, h2⟩ := h
    have e1 : v = .int .u32 (x.toNat : Int) := h1
    rw [e1, all2_toD h2]
    rfl
/-- without the zeros at the top -/
def zero32 (x : BitVec 32) : Bool := Nat.beq x.toNat 0
def allZ : L32 → Bool
  | [] => true
  | x :: l => zero32 x && allZ l
def trimL : L32 → L32
  | [] => []
  | x :: l => match zero32 x && allZ l with
    | true => []
    | false => x :: trimL l
def zsO (a : Nat → BitVec 32) : Nat → Nat → List Bool
  | _, 0 => []
  | i, n + 1 => zero32 (a i) :: zsO a (i + 1) n
/-- what is owed where k limbs of n stay -/
def trimO (a : Nat → BitVec 32) (n : Nat) : Nat → List Bool
  | 0 => zsO a 0 n
  | k + 1 => (!(zero32 (a k))) :: zsO a (k + 1) (n - (k + 1))
def trues : Nat → List Bool → List Bool
  | 0, l => l
  | n + 1, l => true :: trues n l
def trimDs (n : Nat) : Nat → List Bool
  | 0 => trues n []
  | k + 1 => trues (n - (k + 1)) [false]
noncomputable def runV (r : Res) : Option (V × List Reg × List Bool) :=
  match r with
  | some (v, hp, _, ob, _) => some (v, hp, ob)
  | none => none
theorem runV_is {M : Kn} (hM : Known Try.prog M) {f : FuncId} {vs : List V} {hp hp1 : List Reg} {ds ob : List Bool} {v : V} (h : runV (callD M f vs hp ds) = some (v, hp1, ob)) (hob : AllT ob) : ∃ chg, Runs Try.prog f vs hp v hp1 chg := by
  unfold runV at h
  split at h
  · rename_i v1 hp2 c1 ob1 ds1 hc
    cases h
    exact ⟨c1, fun B w0 E us w hv hh => (callF_is (sx_sound fol hM _) hM hc).2.2 hob E B w0 w us hv hh⟩
  · cases h
section
variable (a : Nat → BitVec 32)
noncomputable def tr59 (n k : Nat) : Option (V × List Reg × List Bool) := runV (callD M0 59 [.one (.sl 0 0 n n)] [.own 95 (toD (lsD a 0 n))] (trimDs n k))
theorem f59 : (List.range' 0 12).map (fun n => (List.range' 0 (n + 1)).map fun k => tr59 a n k) =
    (List.range' 0 12).map (fun n => (List.range' 0 (n + 1)).map fun k => some (.one (.sl 0 0 k n), [.own 95 (toD (lsD a 0 n))], trimO a n k)) := by kernel_rfl
end
end Go.Proofs.Sx
