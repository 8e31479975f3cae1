/- RIPEMD-160: the two lines of eighty steps, in letters: by the program's function. -/
import Derived.Test.YtejgaeadplnfgaaHaShaM
import Derived.Test.YtejgaeadplnfgaaHaRipM
namespace Go.Proofs.Sx
open Go
set_option linter.unusedVariables false
def wStL : List UInt8 := [48, 49, 50, 51, 52, 53, 54, 55, 56, 57, 97, 98, 99, 100, 101, 102, 55, 52, 100, 49, 97, 54, 102, 51, 99, 48, 57, 53, 50, 101, 98, 56, 51, 97, 101, 52, 57, 102, 56, 49, 50, 55, 48, 54, 100, 98, 53, 99, 49, 57, 98, 97, 48, 56, 99, 52, 100, 51, 55, 102, 101, 53, 54, 50, 52, 48, 53, 57, 55, 99, 50, 97, 101, 49, 51, 56, 98, 54, 102, 100]
def wStR : List UInt8 := [53, 101, 55, 48, 57, 50, 98, 52, 100, 54, 102, 56, 49, 97, 51, 99, 54, 98, 51, 55, 48, 100, 53, 97, 101, 102, 56, 99, 52, 57, 49, 50, 102, 53, 49, 51, 55, 101, 54, 57, 98, 56, 99, 50, 97, 48, 52, 100, 56, 54, 52, 49, 51, 98, 102, 48, 53, 99, 50, 100, 57, 55, 97, 101, 99, 102, 97, 52, 49, 53, 56, 55, 54, 50, 100, 101, 48, 51, 57, 98]
def tStL : List UInt8 := [98, 101, 102, 99, 53, 56, 55, 57, 98, 100, 101, 102, 54, 55, 57, 56, 55, 54, 56, 100, 98, 57, 55, 102, 55, 99, 102, 57, 98, 55, 100, 99, 98, 100, 54, 55, 101, 57, 100, 102, 101, 56, 100, 54, 53, 99, 55, 53, 98, 99, 101, 102, 101, 102, 57, 56, 57, 101, 53, 54, 56, 54, 53, 99, 57, 102, 53, 98, 54, 56, 100, 99, 53, 99, 100, 101, 98, 56, 53, 54]
def tStR : List UInt8 := [56, 57, 57, 98, 100, 102, 102, 53, 55, 55, 56, 98, 101, 101, 99, 54, 57, 100, 102, 55, 99, 56, 57, 98, 55, 55, 99, 55, 54, 102, 100, 98, 57, 55, 102, 98, 56, 54, 54, 101, 99, 100, 53, 101, 100, 100, 55, 53, 102, 53, 56, 98, 101, 101, 54, 101, 54, 57, 99, 57, 99, 53, 102, 56, 56, 53, 99, 57, 99, 53, 101, 54, 56, 100, 54, 53, 102, 100, 98, 98]
def rNL : List Nat := [0, 1, 2, 3, 4, 5, 6, 7, 8, 9, 10, 11, 12, 13, 14, 15, 7, 4, 13, 1, 10, 6, 15, 3, 12, 0, 9, 5, 2, 14, 11, 8, 3, 10, 14, 4, 9, 15, 8, 1, 2, 7, 0, 6, 13, 11, 5, 12, 1, 9, 11, 10, 0, 8, 12, 4, 13, 3, 7, 15, 14, 5, 6, 2, 4, 0, 5, 9, 7, 12, 2, 10, 14, 1, 3, 8, 11, 6, 15, 13]
def rNR : List Nat := [5, 14, 7, 0, 9, 2, 11, 4, 13, 6, 15, 8, 1, 10, 3, 12, 6, 11, 3, 7, 0, 13, 5, 10, 14, 15, 8, 12, 4, 9, 1, 2, 15, 5, 1, 3, 7, 14, 6, 9, 11, 8, 12, 2, 10, 0, 4, 13, 8, 6, 4, 1, 3, 11, 15, 0, 5, 12, 2, 13, 9, 7, 10, 14, 12, 15, 10, 4, 1, 5, 8, 7, 6, 2, 13, 14, 0, 3, 9, 11]
def sNL : List Nat := [11, 14, 15, 12, 5, 8, 7, 9, 11, 13, 14, 15, 6, 7, 9, 8, 7, 6, 8, 13, 11, 9, 7, 15, 7, 12, 15, 9, 11, 7, 13, 12, 11, 13, 6, 7, 14, 9, 13, 15, 14, 8, 13, 6, 5, 12, 7, 5, 11, 12, 14, 15, 14, 15, 9, 8, 9, 14, 5, 6, 8, 6, 5, 12, 9, 15, 5, 11, 6, 8, 13, 12, 5, 12, 13, 14, 11, 8, 5, 6]
def sNR : List Nat := [8, 9, 9, 11, 13, 15, 15, 5, 7, 7, 8, 11, 14, 14, 12, 6, 9, 13, 15, 7, 12, 8, 9, 11, 7, 7, 12, 7, 6, 15, 13, 11, 9, 7, 15, 11, 8, 6, 6, 14, 12, 13, 5, 14, 13, 13, 7, 5, 15, 5, 8, 11, 14, 14, 6, 14, 6, 9, 12, 9, 12, 5, 15, 8, 8, 5, 12, 9, 12, 5, 14, 6, 8, 13, 6, 5, 15, 13, 11, 11]
def kDL : List D := [0#32, 1518500249#32, 1859775393#32, 2400959708#32, 2840853838#32]
def kDR : List D := [1352829926#32, 1548603684#32, 1836072691#32, 2053994217#32, 0#32]
def nthR : List Nat → Nat → Nat
  | x :: _, 0 => x
  | _ :: l, n + 1 => nthR l n
  | [], _ => 0
def rN (rt : Bool) : List Nat := match rt with
  | true => rNR
  | false => rNL
def sN (rt : Bool) : List Nat := match rt with
  | true => sNR
  | false => sNL
def kD (rt : Bool) : List D := match rt with
  | true => kDR
  | false => kDL
def fN (rt : Bool) (j : Nat) : Nat := match rt with
  | true => 4 - j / 16
  | false => j / 16
def mixD (f : Nat) (x y z : D) : D := match f with
  | 0 => x ^^^ y ^^^ z
  | 1 => (x &&& y) ||| (~~~x &&& z)
  | 2 => (x ||| ~~~y) ^^^ z
  | 3 => (x &&& z) ||| (y &&& ~~~z)
  | _ => x ^^^ (y ||| ~~~z)
def lineC (rt : Bool) : List C := match rt with
  | true => [.st wStR, .st tStR] ++ toC32 kDR ++ [.bl true]
  | false => [.st wStL, .st tStL] ++ toC32 kDL ++ [.bl false]
def tD (rt : Bool) (v x : List D) (j : Nat) : D := nth32 v 0 + mixD (fN rt j) (nth32 v 1) (nth32 v 2) (nth32 v 3) + nth32 x (nthR (rN rt) j) + nth32 (kD rt) (j / 16)
/-- a step, by the program -/
def goP (rt : Bool) (x v : List D) (j : Nat) : List D := [nth32 v 4, rotl32 (tD rt v x j) (nthR (sN rt) j) + nth32 v 4, nth32 v 1, rotl32 (nth32 v 2) 10, nth32 v 3]
/-- and by the reference -/
def goR (rt : Bool) (x v : List D) (j : Nat) : List D := [nth32 v 4, ror (tD rt v x j) (32 - nthR (sN rt) j) + nth32 v 4, nth32 v 1, ror (nth32 v 2) 22, nth32 v 3]
def goI (f : List D → Nat → List D) (v : List D) : Nat → List D
  | 0 => v
  | j + 1 => f (goI f v j) j
def goL (rt : Bool) (v x : List D) : List D := goI (goP rt x) v 80
theorem sN_range (rt : Bool) : ∀ j, j < 80 → 1 ≤ nthR (sN rt) j ∧ nthR (sN rt) j ≤ 31 := by
  cases rt <;> decide
theorem goR_P (rt : Bool) (x v : List D) {j : Nat} (h : j < 80) : goR rt x v j = goP rt x v j := by
  obtain ⟨h1, h2⟩ := sN_range rt j h
  have e : ∀ (y : D) (n : Nat), 1 ≤ n → n ≤ 31 → ror y (32 - n) = rotl32 y n := fun y n a b => by
    rw [← ror_rotl y (n := 32 - n) (by omega) (by omega), show 32 - (32 - n) = n by omega]
  unfold goR goP
  rw [e _ _ h1 h2, ← e (nth32 v 2) 10 (by decide) (by decide)]
theorem goI_len {f : List D → Nat → List D} (hf : ∀ v j, (f v j).length = 5) {v : List D} (h : v.length = 5) : ∀ j, (goI f v j).length = 5
  | 0 => h
  | j + 1 => hf _ _
theorem goP_len (rt : Bool) (x v : List D) (j : Nat) : (goP rt x v j).length = 5 := rfl
theorem goR_is (rt : Bool) (x v : List D) : ∀ {j : Nat}, j ≤ 80 → goI (goR rt x) v j = goI (goP rt x) v j
  | 0, _ => rfl
  | j + 1, h => by
    show goR rt x _ j = goP rt x _ j
    rw [goR_is rt x v (j := j) (by omega), goR_P rt x _ (by omega)]

def zer5 : List D := [0#32, 0#32, 0#32, 0#32, 0#32]
section
variable (v x : Nat → D)
noncomputable def gIn (rt : Bool) (v x : List D) : St := ⟨tmOf [.ag (lineC rt), .ag (toC32 v), .ag (toC32 x)] 0 (T.full 8), [], false, 67, 0, [], []⟩
noncomputable def gS (rt : Bool) (v x : List D) (j : Nat) : St := ⟨slots [(3, .one (.pt 0 0)), (4, .one (.pt 1 0)), (5, .one (.pt 2 0)), (6, .one (.pt 3 0)), (10, .one (.it j))], [.own 72 (lineC rt), .own 70 (toC32 v), .own 74 (toC32 x), .own 70 (toC32 zer5)], true, 67, 0, [], []⟩
def gk : List (Nat × Bool) := [(3, false), (4, false), (5, false), (6, false), (10, false)]
theorem g43a : ∀ rt, sxp M1 (takeC 2 (rowOf Try.prog 43)) 0 [0, 1, 2, 3] gk (gIn rt (lst32 v 0 5) (lst32 x 0 16)) = some (.normal, gS rt (lst32 v 0 5) (lst32 x 0 16) 0, [])
  | true => by kernel_rfl
  | false => by kernel_rfl
theorem g43l : (List.range' 0 80).map (fun j => sxp M1 [inLoop (nthC (rowOf Try.prog 43) 2)] 0 [0, 1, 2, 3] gk (gS false (lst32 v 0 5) (lst32 x 0 16) j)) = (List.range' 0 80).map (fun j => some (.normal, gS false (goP false (lst32 x 0 16) (lst32 v 0 5) j) (lst32 x 0 16) (j + 1), [])) := by kernel_rfl
theorem g43r : (List.range' 0 80).map (fun j => sxp M1 [inLoop (nthC (rowOf Try.prog 43) 2)] 0 [0, 1, 2, 3] gk (gS true (lst32 v 0 5) (lst32 x 0 16) j)) = (List.range' 0 80).map (fun j => some (.normal, gS true (goP true (lst32 x 0 16) (lst32 v 0 5) j) (lst32 x 0 16) (j + 1), [])) := by kernel_rfl
theorem g43x : ∀ rt, sxp M1 [inLoop (nthC (rowOf Try.prog 43) 2)] 0 [0, 1, 2, 3] gk (gS rt (lst32 v 0 5) (lst32 x 0 16) 80) = some (.exit (blkN (nthC (rowOf Try.prog 43) 2)), gS rt (lst32 v 0 5) (lst32 x 0 16) 80, [])
  | true => by kernel_rfl
  | false => by kernel_rfl
noncomputable def gZ (v : List D) : St := ⟨slots [(6, .one (.pt 0 0))], [.own 70 (toC32 v)], true, 67, 0, [], []⟩
theorem g43z : ∀ rt, sxp M1 (dropC 3 (rowOf Try.prog 43)) 0 [3] [(6, false)] (gS rt (lst32 v 0 5) (lst32 x 0 16) 80) = some (.ret, gZ (lst32 v 0 5), [])
  | true => by kernel_rfl
  | false => by kernel_rfl
theorem g43v : resV Try.prog (fnOf Try.prog 43).results.toList (slots [(6, .one (.pt 0 0))]) [.own 70 (toC32 (lst32 v 0 5))] = some (.ag (toC32 (lst32 v 0 5))) := by kernel_rfl
end
theorem code43 : hasCode Try.prog 43 = true := by kernel_rfl
theorem tmps43 : Nat.beq (fnOf Try.prog 43).ntmps 67 = true := by kernel_rfl
theorem len43 : Nat.blt 2 (lenL (rowOf Try.prog 43)) = true := by kernel_rfl
theorem at43 : nthC (rowOf Try.prog 43) 2 = .block (blkN (nthC (rowOf Try.prog 43) 2)) (.loop (inLoop (nthC (rowOf Try.prog 43) 2))) := by kernel_rfl
theorem runs43 (rt : Bool) (v x : List D) (hv : v.length = 5) (hx : x.length = 16) (hp : List Reg) : Runs Try.prog 43 [.ag (lineC rt), .ag (toC32 v), .ag (toC32 x)] hp (.ag (toC32 (goL rt v x))) hp false := by
  have eV := eq_lst32 hv
  have eX := eq_lst32 hx
  have lG := fun j => goI_len (f := goP rt x) (goP_len rt x) hv j
  have eG := fun j => eq_lst32 (lG j)
  have A : DoesK Try.prog 0 (takeC 2 (rowOf Try.prog 43)) (gIn rt v x) .normal (gS rt (goI (goP rt x) v 0) x 0) := by
    have f := g43a (nth32 v) (nth32 x) rt
    simp only [← eV, ← eX] at f
    exact sxp_is known1 f AllT.nil
  have R : ∀ j, j < 80 → DoesK Try.prog 0 [inLoop (nthC (rowOf Try.prog 43) 2)] (gS rt (goI (goP rt x) v j) x j) .normal (gS rt (goI (goP rt x) v (j + 1)) x (j + 1)) := by
    intro j hj
    cases rt with
    | true =>
      have f := map_at (g43r (nth32 (goI (goP true x) v j)) (nth32 x)) (a := j) (by simp; omega)
      simp only [← eG, ← eX] at f
      exact sxp_is known1 f AllT.nil
    | false =>
      have f := map_at (g43l (nth32 (goI (goP false x) v j)) (nth32 x)) (a := j) (by simp; omega)
      simp only [← eG, ← eX] at f
      exact sxp_is known1 f AllT.nil
  have X : DoesK Try.prog 0 [inLoop (nthC (rowOf Try.prog 43) 2)] (gS rt (goI (goP rt x) v 80) x 80) (.exit (blkN (nthC (rowOf Try.prog 43) 2))) (gS rt (goI (goP rt x) v 80) x 80) := by
    have f := g43x (nth32 (goI (goP rt x) v 80)) (nth32 x) rt
    simp only [← eG, ← eX] at f
    exact sxp_is known1 f AllT.nil
  have Z : DoesK Try.prog 0 (dropC 3 (rowOf Try.prog 43)) (gS rt (goI (goP rt x) v 80) x 80) .ret (gZ (goL rt v x)) := by
    have f := g43z (nth32 (goI (goP rt x) v 80)) (nth32 x) rt
    simp only [← eG, ← eX] at f
    exact sxp_is known1 f AllT.nil
  have all : DoesK Try.prog 0 (rowOf Try.prog 43) (gIn rt v x) .ret (gZ (goL rt v x)) :=
    DoesK.three (N := 80) (s := fun j => gS rt (goI (goP rt x) v j) x j) (Nat.le_of_ble_eq_true len43) at43 A R X Z
  have hres := g43v (nth32 (goL rt v x))
  simp only [← eq_lst32 (show (goL rt v x).length = 5 from lG 80)] at hres
  have pl : plainV [.ag (lineC rt), .ag (toC32 v), .ag (toC32 x)] = true := by
    have h1 : plains (lineC rt) = true := by cases rt <;> rfl
    simp only [plainV, V.plain, toC32_plain, h1]
  exact (runsK_of (hp := []) code43 (.inr rfl) (n := 67) (by rw [Nat.eq_of_beq_eq_true tmps43]; rfl) all hres).plain pl (by simp only [V.plain, toC32_plain]) hp
end Go.Proofs.Sx
/- RIPEMD-160: the two lines by the reference's function; tables. -/
namespace Go.Proofs.Sx
open Go
def itC : List Nat → List C
  | [] => []
  | n :: l => .it n :: itC l
section
variable (v x : Nat → D)
noncomputable def fIn (rt : Bool) (v x : List D) : St := ⟨tmOf [.ag (toC32 v), .ag (toC32 x), .one (.bl rt)] 0 (T.full 8), [], false, 73, 0, [], []⟩
noncomputable def fS (rt : Bool) (v x : List D) (j : Nat) : St := ⟨slots [(2, .one (.bl rt)), (3, .one (.pt 0 0)), (4, .one (.pt 1 0)), (6, .one (.pt 2 0)), (7, .one (.pt 3 0)), (8, .one (.pt 4 0)), (9, .one (.pt 5 0)), (10, .one (.it j))], [.own 70 (toC32 v), .own 74 (toC32 x), .own 70 (toC32 zer5), .own 84 (itC (rN rt)), .own 84 (itC (sN rt)), .own 70 (toC32 (kD rt))], true, 73, 0, [], []⟩
def fk : List (Nat × Bool) := [(2, false), (3, false), (4, false), (6, false), (7, false), (8, false), (9, false), (10, false)]
theorem g44a : ∀ rt, sxp M7 (takeC 7 (rowOf Try.prog 44)) 0 [0, 1, 2, 3, 4, 5] fk (fIn rt (lst32 v 0 5) (lst32 x 0 16)) = some (.normal, fS rt (lst32 v 0 5) (lst32 x 0 16) 0, [])
  | true => by kernel_rfl
  | false => by kernel_rfl
theorem g44l : (List.range' 0 80).map (fun j => sxp M7 [inLoop (nthC (rowOf Try.prog 44) 7)] 0 [0, 1, 2, 3, 4, 5] fk (fS false (lst32 v 0 5) (lst32 x 0 16) j)) = (List.range' 0 80).map (fun j => some (.normal, fS false (goR false (lst32 x 0 16) (lst32 v 0 5) j) (lst32 x 0 16) (j + 1), [])) := by kernel_rfl
theorem g44r : (List.range' 0 80).map (fun j => sxp M7 [inLoop (nthC (rowOf Try.prog 44) 7)] 0 [0, 1, 2, 3, 4, 5] fk (fS true (lst32 v 0 5) (lst32 x 0 16) j)) = (List.range' 0 80).map (fun j => some (.normal, fS true (goR true (lst32 x 0 16) (lst32 v 0 5) j) (lst32 x 0 16) (j + 1), [])) := by kernel_rfl
theorem g44x : ∀ rt, sxp M7 [inLoop (nthC (rowOf Try.prog 44) 7)] 0 [0, 1, 2, 3, 4, 5] fk (fS rt (lst32 v 0 5) (lst32 x 0 16) 80) = some (.exit (blkN (nthC (rowOf Try.prog 44) 7)), fS rt (lst32 v 0 5) (lst32 x 0 16) 80, [])
  | true => by kernel_rfl
  | false => by kernel_rfl
noncomputable def fZ (v : List D) : St := ⟨slots [(6, .one (.pt 0 0))], [.own 70 (toC32 v)], true, 73, 0, [], []⟩
theorem g44z : ∀ rt, sxp M7 (dropC 8 (rowOf Try.prog 44)) 0 [2] [(6, false)] (fS rt (lst32 v 0 5) (lst32 x 0 16) 80) = some (.ret, fZ (lst32 v 0 5), [])
  | true => by kernel_rfl
  | false => by kernel_rfl
theorem g44v : resV Try.prog (fnOf Try.prog 44).results.toList (slots [(6, .one (.pt 0 0))]) [.own 70 (toC32 (lst32 v 0 5))] = some (.ag (toC32 (lst32 v 0 5))) := by kernel_rfl
end
theorem code44 : hasCode Try.prog 44 = true := by kernel_rfl
theorem tmps44 : Nat.beq (fnOf Try.prog 44).ntmps 73 = true := by kernel_rfl
theorem len44 : Nat.blt 7 (lenL (rowOf Try.prog 44)) = true := by kernel_rfl
theorem at44 : nthC (rowOf Try.prog 44) 7 = .block (blkN (nthC (rowOf Try.prog 44) 7)) (.loop (inLoop (nthC (rowOf Try.prog 44) 7))) := by kernel_rfl
theorem runs44 (rt : Bool) (v x : List D) (hv : v.length = 5) (hx : x.length = 16) (hp : List Reg) : Runs Try.prog 44 [.ag (toC32 v), .ag (toC32 x), .one (.bl rt)] hp (.ag (toC32 (goL rt v x))) hp false := by
  have eV := eq_lst32 hv
  have eX := eq_lst32 hx
  have lG := fun j => goI_len (f := goR rt x) (fun _ _ => rfl) hv j
  have eG := fun j => eq_lst32 (lG j)
  have A : DoesK Try.prog 0 (takeC 7 (rowOf Try.prog 44)) (fIn rt v x) .normal (fS rt (goI (goR rt x) v 0) x 0) := by
    have f := g44a (nth32 v) (nth32 x) rt
    simp only [← eV, ← eX] at f
    exact sxp_is known7 f AllT.nil
  have R : ∀ j, j < 80 → DoesK Try.prog 0 [inLoop (nthC (rowOf Try.prog 44) 7)] (fS rt (goI (goR rt x) v j) x j) .normal (fS rt (goI (goR rt x) v (j + 1)) x (j + 1)) := by
    intro j hj
    cases rt with
    | true =>
      have f := map_at (g44r (nth32 (goI (goR true x) v j)) (nth32 x)) (a := j) (by simp; omega)
      simp only [← eG, ← eX] at f
      exact sxp_is known7 f AllT.nil
    | false =>
      have f := map_at (g44l (nth32 (goI (goR false x) v j)) (nth32 x)) (a := j) (by simp; omega)
      simp only [← eG, ← eX] at f
      exact sxp_is known7 f AllT.nil
  have X : DoesK Try.prog 0 [inLoop (nthC (rowOf Try.prog 44) 7)] (fS rt (goI (goR rt x) v 80) x 80) (.exit (blkN (nthC (rowOf Try.prog 44) 7))) (fS rt (goI (goR rt x) v 80) x 80) := by
    have f := g44x (nth32 (goI (goR rt x) v 80)) (nth32 x) rt
    simp only [← eG, ← eX] at f
    exact sxp_is known7 f AllT.nil
  have eE : goI (goR rt x) v 80 = goL rt v x := goR_is rt x v (Nat.le_refl _)
  have Z : DoesK Try.prog 0 (dropC 8 (rowOf Try.prog 44)) (fS rt (goI (goR rt x) v 80) x 80) .ret (fZ (goL rt v x)) := by
    have f := g44z (nth32 (goI (goR rt x) v 80)) (nth32 x) rt
    simp only [← eG, ← eX] at f
    rw [eE] at f ⊢
    exact sxp_is known7 f AllT.nil
  have all : DoesK Try.prog 0 (rowOf Try.prog 44) (fIn rt v x) .ret (fZ (goL rt v x)) :=
    DoesK.three (N := 80) (s := fun j => fS rt (goI (goR rt x) v j) x j) (Nat.le_of_ble_eq_true len44) at44 A R X Z
  have lL : (goL rt v x).length = 5 := by rw [← eE]; exact lG 80
  have hres := g44v (nth32 (goL rt v x))
  simp only [← eq_lst32 lL] at hres
  have pl : plainV [.ag (toC32 v), .ag (toC32 x), .one (.bl rt)] = true := by
    simp only [plainV, V.plain, toC32_plain, C.plain]
  exact (runsK_of (hp := []) code44 (.inr rfl) (n := 73) (by rw [Nat.eq_of_beq_eq_true tmps44]; rfl) all hres).plain pl (by simp only [V.plain, toC32_plain]) hp

/-! tables -/
def unC32 : List C → Option (List D)
  | [] => some []
  | .w32 x :: cs => match unC32 cs with
    | some l => some (x :: l)
    | none => none
  | _ => none
theorem unC32_is : ∀ {cs : List C} {l : List D}, unC32 cs = some l → cs = toC32 l
  | [], l, h => by cases h; rfl
  | c :: cs, l, h => by
    cases c with
    | w32 x =>
      simp only [unC32] at h
      split at h
      · rename_i l' hl
        cases h
        rw [unC32_is hl]
        rfl
      · cases h
    | _ => cases h
theorem lenC_toC32 : ∀ l : List D, lenC (toC32 l) = l.length
  | [] => rfl
  | _ :: l => by simp [toC32, lenC, lenC_toC32 l]
def eqSt : List UInt8 → List UInt8 → Bool
  | [], [] => true
  | a :: l, b :: l' => match Nat.beq a.toNat b.toNat with
    | true => eqSt l l'
    | false => false
  | _, _ => false
theorem eqSt_is : ∀ {l l' : List UInt8}, eqSt l l' = true → l = l'
  | [], [], _ => rfl
  | a :: l, b :: l', h => by
    simp only [eqSt] at h
    split at h
    · rename_i hb
      rw [eqSt_is h, UInt8.toNat_inj.1 (Nat.eq_of_beq_eq_true hb)]
    · cases h
  | [], _ :: _, h => by cases h
  | _ :: _, [], h => by cases h
def eqD : List D → List D → Bool
  | [], [] => true
  | a :: l, b :: l' => match Nat.beq a.toNat b.toNat with
    | true => eqD l l'
    | false => false
  | _, _ => false
theorem eqD_is : ∀ {l l' : List D}, eqD l l' = true → l = l'
  | [], [], _ => rfl
  | a :: l, b :: l', h => by
    simp only [eqD] at h
    split at h
    · rename_i hb
      rw [eqD_is h, BitVec.eq_of_toNat_eq (Nat.eq_of_beq_eq_true hb)]
    · cases h
  | [], _ :: _, h => by cases h
  | _ :: _, [], h => by cases h
/-- which of the two lines -/
def unLine : List C → Option Bool
  | .st a :: .st b :: .w32 k0 :: .w32 k1 :: .w32 k2 :: .w32 k3 :: .w32 k4 :: .bl r :: [] => match r with
    | true => match eqSt a wStR, eqSt b tStR, eqD [k0, k1, k2, k3, k4] kDR with
      | true, true, true => some true
      | _, _, _ => none
    | false => match eqSt a wStL, eqSt b tStL, eqD [k0, k1, k2, k3, k4] kDL with
      | true, true, true => some false
      | _, _, _ => none
  | _ => none
theorem unLine_is {cs : List C} {rt : Bool} (h : unLine cs = some rt) : cs = lineC rt := by
  unfold unLine at h
  split at h
  · split at h
    · split at h
      · rename_i h1 h2 h3
        cases h
        rw [eqSt_is h1, eqSt_is h2]
        have := eqD_is h3
        simp only [kDR, List.cons.injEq, and_true] at this
        obtain ⟨rfl, rfl, rfl, rfl, rfl⟩ := this
        rfl
      · cases h
    · split at h
      · rename_i h1 h2 h3
        cases h
        rw [eqSt_is h1, eqSt_is h2]
        have := eqD_is h3
        simp only [kDL, List.cons.injEq, and_true] at this
        obtain ⟨rfl, rfl, rfl, rfl, rfl⟩ := this
        rfl
      · cases h
  · cases h
noncomputable def goV (rt : Bool) (a b : List C) (hp : List Reg) : Option (V × List Reg × Bool × Option Bool) :=
  match unC32 a, unC32 b, Nat.beq (lenC a) 5, Nat.beq (lenC b) 16 with
  | some v, some x, true, true => some (.ag (toC32 (lst32 (nth32 (goL rt v x)) 0 5)), hp, false, none)
  | _, _, _, _ => none
theorem goV_is {rt : Bool} {a b : List C} {hp hp' : List Reg} {r : V} {chg : Bool} {ob : Option Bool} (h : goV rt a b hp = some (r, hp', chg, ob)) : ∃ v x, a = toC32 v ∧ b = toC32 x ∧ v.length = 5 ∧ x.length = 16 ∧ r = .ag (toC32 (goL rt v x)) ∧ hp' = hp ∧ chg = false := by
  unfold goV at h
  split at h
  · rename_i v x h1 h2 h3 h4
    cases h
    have e1 := unC32_is h1
    have e2 := unC32_is h2
    subst e1 e2
    rw [lenC_toC32] at h3 h4
    have l1 := Nat.eq_of_beq_eq_true h3
    have l2 := Nat.eq_of_beq_eq_true h4
    refine ⟨v, x, rfl, rfl, l1, l2, ?_, rfl, rfl⟩
    rw [← eq_lst32 (show (goL rt v x).length = 5 from goI_len (goP_len rt x) l1 80)]
  · cases h
noncomputable def goesM (vs : List V) (hp : List Reg) : Option (V × List Reg × Bool × Option Bool) :=
  match vs with
  | [.ag ln, .ag a, .ag b] => match unLine ln with
    | some rt => goV rt a b hp
    | none => none
  | _ => none
theorem kgoes : ∀ vs hp v hp' chg ob, goesM vs hp = some (v, hp', chg, ob) → (∀ x, ob = some x → x = true) → Runs Try.prog 43 vs hp v hp' chg := by
  intro vs hp v hp' chg ob h _
  unfold goesM at h
  split at h
  · split at h
    · rename_i rt hl
      obtain ⟨v, x, rfl, rfl, l1, l2, rfl, rfl, rfl⟩ := goV_is h
      rw [unLine_is hl]
      exact runs43 rt v x l1 l2 _
    · cases h
  · cases h
noncomputable def sideM (vs : List V) (hp : List Reg) : Option (V × List Reg × Bool × Option Bool) :=
  match vs with
  | [.ag a, .ag b, .one (.bl rt)] => goV rt a b hp
  | _ => none
theorem kside : ∀ vs hp v hp' chg ob, sideM vs hp = some (v, hp', chg, ob) → (∀ x, ob = some x → x = true) → Runs Try.prog 44 vs hp v hp' chg := by
  intro vs hp v hp' chg ob h _
  unfold sideM at h
  split at h
  · obtain ⟨v, x, rfl, rfl, l1, l2, rfl, rfl, rfl⟩ := goV_is h
    exact runs44 _ v x l1 l2 _
  · cases h
noncomputable def lineM (rt : Bool) (vs : List V) (hp : List Reg) : Option (V × List Reg × Bool × Option Bool) :=
  match vs with
  | [] => some (.ag (lineC rt), hp, false, none)
  | _ => none
theorem f41 : bareV (call0 M0 41 [] []) = some (.ag (lineC false)) := by kernel_rfl
theorem f42 : bareV (call0 M0 42 [] []) = some (.ag (lineC true)) := by kernel_rfl
theorem kline {f : FuncId} {rt : Bool} (hf : bareV (call0 M0 f [] []) = some (.ag (lineC rt))) : ∀ vs hp v hp' chg ob, lineM rt vs hp = some (v, hp', chg, ob) → (∀ x, ob = some x → x = true) → Runs Try.prog f vs hp v hp' chg := by
  intro vs hp v hp' chg ob h _
  unfold lineM at h
  split at h
  · cases h
    exact runs_of_bare known_none hf rfl (by cases rt <;> rfl) hp
  · cases h
/-- the program's table, and the reference's -/
noncomputable def Mp : Kn := addK (addK (addK (addK M0 35 padM) 41 (lineM false)) 42 (lineM true)) 43 goesM
theorem knownp : Known Try.prog Mp := known_add (known_add (known_add (known_add known_none (kpad runs35)) (kline f41)) (kline f42)) kgoes
noncomputable def Mq : Kn := addK (addK M0 39 padM) 44 sideM
theorem knownq : Known Try.prog Mq := known_add (known_add known_none (kpad runs39)) kside
end Go.Proofs.Sx
/- RIPEMD-160, by the program: what its pieces do. -/
namespace Go.Proofs.Sx
open Go
def zer20 : By := [0#8, 0#8, 0#8, 0#8, 0#8, 0#8, 0#8, 0#8, 0#8, 0#8, 0#8, 0#8, 0#8, 0#8, 0#8, 0#8, 0#8, 0#8, 0#8, 0#8]
def zer16 : List D := [0#32, 0#32, 0#32, 0#32, 0#32, 0#32, 0#32, 0#32, 0#32, 0#32, 0#32, 0#32, 0#32, 0#32, 0#32, 0#32]
def h0R : List D := [1732584193#32, 4023233417#32, 2562383102#32, 271733878#32, 3285377520#32]
def byteX (p : By) (i j : Nat) : D := BitVec.setWidth 32 (p.getD (i + j) 0#8)
def stepX (β : Nat → D) (x : List D) (j : Nat) : List D := put32 (j / 4) (nth32 x (j / 4) ||| β j <<< (j % 4 * 8)) x
def mixH (h p q : List D) : List D := [nth32 h 1 + nth32 p 2 + nth32 q 3, nth32 h 2 + nth32 p 3 + nth32 q 4, nth32 h 3 + nth32 p 4 + nth32 q 0, nth32 h 4 + nth32 p 0 + nth32 q 1, nth32 h 0 + nth32 p 1 + nth32 q 2]
def outQ (h : List D) (o : By) (j : Nat) : By := putB j (BitVec.setWidth 8 (nth32 h (j / 4) >>> (j % 4 * 8))) o
section
variable (b p : By) (h x gl gr : Nat → D) (o : Nat → BitVec 8) (i n : Nat)
noncomputable def rIn : St := ⟨tmOf [.one (.dy 0)] 0 (T.full 8), [.rd b 3000], false, 110, 1, [], []⟩
noncomputable def rHp (p : By) (h : List D) : List Reg := [.rd b 3000, .own 37 (toC8 zer20), .own 70 (toC32 h), .own 72 (lineC false), .own 72 (lineC true), .dyn 5 p 3200]
noncomputable def rS (v : C) (h : List D) (ds : List Bool) : St := ⟨slots [(2, .one (.pt 1 0)), (3, .one (.pt 2 0)), (4, .one (.pt 3 0)), (5, .one (.pt 4 0)), (6, .one v)], rHp b p h, true, 110, 1, [], ds⟩
def rk : List (Nat × Bool) := [(2, false), (3, false), (4, false), (5, false), (6, false)]
theorem h19a : sxp Mp (takeC 4 (rowOf Try.prog 19)) 1 [0, 1, 2, 3, 4, 5] rk (rIn b) = some (.normal, rS b (padL b true) (.dy 5) h0R [], [Nat.ble b.length 3000]) := by kernel_rfl
theorem h19c : sxp Mp (takeC 2 rip4) 1 [0, 1, 2, 3, 4, 5] rk (rS b p (.vw 5 i n) (lst32 h 0 5) [true]) = some (.normal, rS b p (.vw 5 i n) (lst32 h 0 5) [], [Nat.blt 0 n]) := by kernel_rfl
theorem h19x : sxp Mp (takeC 2 rip4) 1 [0, 1, 2, 3, 4, 5] rk (rS b p (.vw 5 i n) (lst32 h 0 5) [false]) = some (.exit (blkN (nthC (rowOf Try.prog 19) 4)), rS b p (.vw 5 i n) (lst32 h 0 5) [], [!(Nat.blt 0 n)]) := by kernel_rfl
/-- the words -/
noncomputable def yHp (p : By) (h x : List D) : List Reg := [.rd b 3000, .own 37 (toC8 zer20), .own 70 (toC32 h), .own 72 (lineC false), .own 72 (lineC true), .dyn 5 p 3200, .own 74 (toC32 x)]
noncomputable def yB : List (Nat × V) := [(2, .one (.pt 1 0)), (3, .one (.pt 2 0)), (4, .one (.pt 3 0)), (5, .one (.pt 4 0)), (6, .one (.vw 5 i n)), (7, .one (.pt 6 0))]
noncomputable def rX (h x : List D) (j : Nat) : St := ⟨slots ([(2, .one (.pt 1 0)), (3, .one (.pt 2 0)), (4, .one (.pt 3 0)), (5, .one (.pt 4 0)), (6, .one (.vw 5 i n)), (7, .one (.pt 6 0))] ++ [(25, .one (.vl 5 i 64)), (26, .one (.it 64)), (27, .one (.it j))]), yHp b p h x, true, 110, 1, [], []⟩
noncomputable def rY (h x : List D) : St := ⟨slots (yB i n), yHp b p h x, true, 110, 1, [], []⟩
def rk6 : List (Nat × Bool) := [(2, false), (3, false), (4, false), (5, false), (6, false), (7, false)]
def rk9 : List (Nat × Bool) := [(2, false), (3, false), (4, false), (5, false), (6, false), (7, false), (25, false), (26, false), (27, false)]
theorem h19b : sxp Mp (takeC 2 ripI) 1 [0, 1, 2, 3, 4, 5, 6] rk9 (rS b p (.vw 5 i n) (lst32 h 0 5) []) = some (.normal, rX b p i n (lst32 h 0 5) zer16 0, [Nat.ble 64 n]) := by kernel_rfl
theorem h19w : (List.range' 0 64).map (fun j => sxp Mp [inLoop (nthC ripI 2)] 1 [0, 1, 2, 3, 4, 5, 6] rk9 (rX b p i n (lst32 h 0 5) (lst32 x 0 16) j)) =
    (List.range' 0 64).map (fun j => some (.normal, rX b p i n (lst32 h 0 5) (stepX (byteX p i) (lst32 x 0 16) j) (j + 1), [true])) := by kernel_rfl
theorem h19y : sxp Mp [inLoop (nthC ripI 2)] 1 [0, 1, 2, 3, 4, 5, 6] rk6 (rX b p i n (lst32 h 0 5) (lst32 x 0 16) 64) = some (.exit (blkN (nthC ripI 2)), rY b p i n (lst32 h 0 5) (lst32 x 0 16), []) := by kernel_rfl
/-- the two lines -/
noncomputable def yG (gl gr : List D) : List (Nat × V) := (48, .ag (toC32 gl)) :: (52, .ag (toC32 gr)) :: (10, .one (.pt 7 0)) :: (11, .one (.pt 8 0)) :: yB i n
noncomputable def rG (h x gl gr : List D) : St := ⟨slots (yG i n gl gr), yHp b p h x ++ [.own 70 (toC32 gl)] ++ [.own 70 (toC32 gr)], true, 110, 1, [], []⟩
theorem h19m : sxp Mp (dropC 4 ripI) 1 [0, 1, 2, 3, 4, 5] rk (rG b p i n (lst32 h 0 5) (lst32 x 0 16) (lst32 gl 0 5) (lst32 gr 0 5)) = some (.normal, rS b p (.vw 5 i n) (mixH (lst32 h 0 5) (lst32 gl 0 5) (lst32 gr 0 5)) [], []) := by kernel_rfl
theorem h19f : sxp Mp (dropC 3 rip4) 1 [0, 1, 2, 3, 4, 5] rk (rS b p (.vw 5 i n) (lst32 h 0 5) []) = some (.normal, rS b p (.vw 5 (i + 64) (n - 64)) (lst32 h 0 5) [], [Nat.ble 64 n]) := by kernel_rfl
noncomputable def rO (h : List D) (o : By) (j : Nat) : St := ⟨slots [(2, .one (.pt 1 0)), (3, .one (.pt 2 0)), (12, .one (.pt 3 0)), (94, .one (.it j))], [.rd b 3000, .own 37 (toC8 zer20), .own 70 (toC32 h), .own 37 (toC8 o)], true, 110, 1, [], []⟩
def rk3 : List (Nat × Bool) := [(2, false), (3, false), (12, false), (94, false)]
theorem h19g : sxp Mp (takeC 2 (dropC 5 (rowOf Try.prog 19))) 1 [0, 1, 2, 6] rk3 (rS b p (.vw 5 i n) (lst32 h 0 5) []) = some (.normal, rO b (lst32 h 0 5) zer20 0, []) := by kernel_rfl
theorem h19o : (List.range' 0 20).map (fun j => sxp Mp [inLoop (nthC (rowOf Try.prog 19) 7)] 1 [0, 1, 2, 3] rk3 (rO b (lst32 h 0 5) (lst8 o 0 20) j)) =
    (List.range' 0 20).map (fun j => some (.normal, rO b (lst32 h 0 5) (outQ (lst32 h 0 5) (lst8 o 0 20) j) (j + 1), [])) := by kernel_rfl
theorem h19p : sxp Mp [inLoop (nthC (rowOf Try.prog 19) 7)] 1 [0, 1, 2, 3] rk3 (rO b (lst32 h 0 5) (lst8 o 0 20) 20) = some (.exit (blkN (nthC (rowOf Try.prog 19) 7)), rO b (lst32 h 0 5) (lst8 o 0 20) 20, []) := by kernel_rfl
noncomputable def rZ (nt : Nat) (o : By) : St := ⟨slots [(2, .one (.pt 1 0))], [.rd b 3000, .own 37 (toC8 o)], true, nt, 1, [], []⟩
theorem h19q : sxp Mp (dropC 8 (rowOf Try.prog 19)) 1 [0, 1] [(2, false)] (rO b (lst32 h 0 5) (lst8 o 0 20) 20) = some (.ret, rZ b 110 (lst8 o 0 20), []) := by kernel_rfl
theorem h19v : resV Try.prog (fnOf Try.prog 19).results.toList (slots [(2, .one (.pt 1 0))]) [.rd b 3000, .own 37 (toC8 (lst8 o 0 20))] = some (.ag (toC8 (lst8 o 0 20))) := by kernel_rfl

/-! the region of the two lines -/
noncomputable def ystp (h x : List D) (j : Nat) (l : List (Nat × V)) : Option (V × List Reg × Bool × List Bool × List Bool) :=
  stepOp (sx Try.prog Mp 1000000) Try.prog Mp (slots l) (yHp b p h x) (yHp b p h x).length [] [] (ropN j).op
def yg (rt : Bool) (h x : List D) : List D := lst32 (nth32 (goL rt h x)) 0 5
def yval (h x : List D) : Nat → V
  | 0 => .ag (lineC false)
  | 1 => .ag (toC32 h)
  | 2 => .ag (toC32 x)
  | 3 => .ag (toC32 (yg false h x))
  | 4 => .ag (lineC true)
  | 5 => .ag (toC32 h)
  | 6 => .ag (toC32 x)
  | _ => .ag (toC32 (yg true h x))
noncomputable def yl (h x : List D) : Nat → List (Nat × V)
  | 3 => [(45, yval h x 0), (46, yval h x 1), (47, yval h x 2)]
  | 7 => [(49, yval h x 4), (50, yval h x 5), (51, yval h x 6)]
  | _ => yB i n
theorem yq0 : ystp b p (lst32 h 0 5) (lst32 x 0 16) 0 (yB i n) = some (yval (lst32 h 0 5) (lst32 x 0 16) 0, yHp b p (lst32 h 0 5) (lst32 x 0 16), false, [], []) := by kernel_rfl
theorem yq1 : ystp b p (lst32 h 0 5) (lst32 x 0 16) 1 (yB i n) = some (yval (lst32 h 0 5) (lst32 x 0 16) 1, yHp b p (lst32 h 0 5) (lst32 x 0 16), false, [], []) := by kernel_rfl
theorem yq2 : ystp b p (lst32 h 0 5) (lst32 x 0 16) 2 (yB i n) = some (yval (lst32 h 0 5) (lst32 x 0 16) 2, yHp b p (lst32 h 0 5) (lst32 x 0 16), false, [], []) := by kernel_rfl
theorem yq3 : ystp b p (lst32 h 0 5) (lst32 x 0 16) 3 (yl i n (lst32 h 0 5) (lst32 x 0 16) 3) = some (yval (lst32 h 0 5) (lst32 x 0 16) 3, yHp b p (lst32 h 0 5) (lst32 x 0 16), false, [], []) := by kernel_rfl
theorem yq4 : ystp b p (lst32 h 0 5) (lst32 x 0 16) 4 (yB i n) = some (yval (lst32 h 0 5) (lst32 x 0 16) 4, yHp b p (lst32 h 0 5) (lst32 x 0 16), false, [], []) := by kernel_rfl
theorem yq5 : ystp b p (lst32 h 0 5) (lst32 x 0 16) 5 (yB i n) = some (yval (lst32 h 0 5) (lst32 x 0 16) 5, yHp b p (lst32 h 0 5) (lst32 x 0 16), false, [], []) := by kernel_rfl
theorem yq6 : ystp b p (lst32 h 0 5) (lst32 x 0 16) 6 (yB i n) = some (yval (lst32 h 0 5) (lst32 x 0 16) 6, yHp b p (lst32 h 0 5) (lst32 x 0 16), false, [], []) := by kernel_rfl
theorem yq7 : ystp b p (lst32 h 0 5) (lst32 x 0 16) 7 (yl i n (lst32 h 0 5) (lst32 x 0 16) 7) = some (yval (lst32 h 0 5) (lst32 x 0 16) 7, yHp b p (lst32 h 0 5) (lst32 x 0 16), false, [], []) := by kernel_rfl
noncomputable def ysto (h x gl gr : List D) (j : Nat) (hp : List Reg) : Option (V × List Reg × Bool × List Bool × List Bool) :=
  stepOp (sx Try.prog Mp 1000000) Try.prog Mp (slots (yG i n gl gr)) hp 1 [] [] (ropN j).op
theorem yz : zeroV Try.prog 70 = some (toC32 zer5) := by kernel_rfl
theorem yq10 : ysto i n (lst32 h 0 5) (lst32 x 0 16) (lst32 gl 0 5) (lst32 gr 0 5) 10 (yHp b p (lst32 h 0 5) (lst32 x 0 16) ++ [.own 70 (toC32 zer5)] ++ [.own 70 (toC32 zer5)]) =
    some (.raw undef, yHp b p (lst32 h 0 5) (lst32 x 0 16) ++ [.own 70 (toC32 (lst32 gl 0 5))] ++ [.own 70 (toC32 zer5)], false, [], []) := by kernel_rfl
theorem yq11 : ysto i n (lst32 h 0 5) (lst32 x 0 16) (lst32 gl 0 5) (lst32 gr 0 5) 11 (yHp b p (lst32 h 0 5) (lst32 x 0 16) ++ [.own 70 (toC32 (lst32 gl 0 5))] ++ [.own 70 (toC32 zer5)]) =
    some (.raw undef, yHp b p (lst32 h 0 5) (lst32 x 0 16) ++ [.own 70 (toC32 (lst32 gl 0 5))] ++ [.own 70 (toC32 (lst32 gr 0 5))], false, [], []) := by kernel_rfl
end
end Go.Proofs.Sx
/- RIPEMD-160, by the program: what it hands back. -/
namespace Go.Proofs.Sx
open Go
def xsX (β : Nat → D) : Nat → List D
  | 0 => zer16
  | j + 1 => stepX β (xsX β j) j
theorem xsX_len (β : Nat → D) : ∀ j, (xsX β j).length = 16
  | 0 => rfl
  | j + 1 => by simp [xsX, stepX, put32_len, xsX_len β j]
theorem goL_len (rt : Bool) {h : List D} (x : List D) (hl : h.length = 5) : (goL rt h x).length = 5 := goI_len (goP_len rt x) hl 80
def blockR (p : By) (i : Nat) (h : List D) : List D := mixH h (goL false h (xsX (byteX p i) 64)) (goL true h (xsX (byteX p i) 64))
def hashR (p : By) : Nat → List D
  | 0 => h0R
  | k + 1 => blockR p (64 * k) (hashR p k)
def outsR (h : List D) : Nat → By
  | 0 => zer20
  | j + 1 => outQ h (outsR h j) j
def ripH (p : By) : By := outsR (hashR p (p.length / 64)) 20
theorem hashR_len (p : By) : ∀ k, (hashR p k).length = 5
  | 0 => rfl
  | _ + 1 => rfl
theorem outsR_len (h : List D) : ∀ j, (outsR h j).length = 20
  | 0 => rfl
  | j + 1 => by simp [outsR, outQ, putB_len, outsR_len h j]
theorem len19 : Nat.blt 4 (lenL (rowOf Try.prog 19)) = true := by kernel_rfl
theorem len19' : Nat.blt 2 (lenL (dropC 5 (rowOf Try.prog 19))) = true := by kernel_rfl
theorem len19s : Nat.blt 2 (lenL rip4) = true := by kernel_rfl
theorem len19i : Nat.blt 3 (lenL ripI) = true := by kernel_rfl
theorem len19j : Nat.blt 2 (lenL (takeC 3 ripI)) = true := by kernel_rfl
theorem at19 : nthC (rowOf Try.prog 19) 4 = .block (blkN (nthC (rowOf Try.prog 19) 4)) (.loop (inLoop (nthC (rowOf Try.prog 19) 4))) := by kernel_rfl
theorem at19' : nthC (dropC 5 (rowOf Try.prog 19)) 2 = .block (blkN (nthC (rowOf Try.prog 19) 7)) (.loop (inLoop (nthC (rowOf Try.prog 19) 7))) := by kernel_rfl
theorem at19s : nthC rip4 2 = .block (blkN (nthC rip4 2)) (inBlock (nthC rip4 2)) := by kernel_rfl
theorem at19j : nthC (takeC 3 ripI) 2 = .block (blkN (nthC ripI 2)) (.loop (inLoop (nthC ripI 2))) := by kernel_rfl
theorem d19 : dropC 3 (dropC 5 (rowOf Try.prog 19)) = dropC 8 (rowOf Try.prog 19) := by kernel_rfl
theorem d19j : dropC 3 (takeC 3 ripI) = [] := by kernel_rfl
theorem t19j : takeC 2 (takeC 3 ripI) = takeC 2 ripI := by kernel_rfl
theorem code19' : hasCode Try.prog 19 = true := by kernel_rfl
theorem tmps19' : Nat.beq (fnOf Try.prog 19).ntmps 110 = true := by kernel_rfl

section
variable (b p : By) (i n : Nat)
theorem yl_else {h x : List D} {j : Nat} (h3 : j ≠ 3) (h7 : j ≠ 7) : yl i n h x j = yB i n := by
  unfold yl
  split
  · exact absurd rfl h3
  · exact absurd rfl h7
  · rfl
theorem yq (h x : Nat → D) (j : Nat) (hj : j < 8) : stepOp (sx Try.prog Mp 1000000) Try.prog Mp (slots (yl i n (lst32 h 0 5) (lst32 x 0 16) j)) (yHp b p (lst32 h 0 5) (lst32 x 0 16)) (yHp b p (lst32 h 0 5) (lst32 x 0 16)).length [] [] (ropN j).op = some (yval (lst32 h 0 5) (lst32 x 0 16) j, yHp b p (lst32 h 0 5) (lst32 x 0 16), false, [], []) := by
  match j, hj with
  | 0, _ => exact yq0 b p h x i n
  | 1, _ => exact yq1 b p h x i n
  | 2, _ => exact yq2 b p h x i n
  | 3, _ => exact yq3 b p h x i n
  | 4, _ => exact yq4 b p h x i n
  | 5, _ => exact yq5 b p h x i n
  | 6, _ => exact yq6 b p h x i n
  | 7, _ => exact yq7 b p h x i n
theorem two_does (h x : List D) (hl : h.length = 5) (xl : x.length = 16) : DoesK Try.prog 1 [nthC ripI 3] (rY b p i n h x) .normal (rG b p i n h x (goL false h x) (goL true h x)) := by
  have eH := eq_lst32 hl
  have eX := eq_lst32 xl
  have e3 : ∀ d, d < 3 → edgeB ropsA 3 d = true := fun d hd => List.all_eq_true.1 re3 d (by simp; omega)
  have e7 : ∀ d, 4 ≤ d → d < 7 → edgeB ropsA 7 d = true := fun d hd hd' => List.all_eq_true.1 re7 d (by simp; omega)
  have gl : yg false h x = goL false h x := (eq_lst32 (goL_len false x hl)).symm
  have gr : yg true h x = goL true h x := (eq_lst32 (goL_len true x hl)).symm
  refine DoesL.toK (Does.toL ?_)
  rw [rshape]
  have key : Does Try.prog (.region (regId (nthC ripI 3)) ropsA true) ⟨slots (yB i n), yHp b p h x, true, 110, 1, [], []⟩ .normal ⟨slots (yG i n (yg false h x) (yg true h x)), yHp b p h x ++ [.own 70 (toC32 (yg false h x))] ++ [.own 70 (toC32 (yg true h x))], true, 110, 1, [], []⟩ := by
    refine region_two (zc := toC32 zer5) (t := 70) (hp10 := yHp b p h x ++ [.own 70 (toC32 (yg false h x))] ++ [.own 70 (toC32 zer5)]) (c10 := false) (c11 := false) (x10 := .raw undef) (x11 := .raw undef) (l := yl i n h x) (val := yval h x) fol (sx_sound fol knownp 1000000) knownp rsize ?_ ?_ ?_ ?_ ?_ ?_ ?_ ?_ ?_ yz (toC32_plain _) (by decide) ?_ ?_ ?_
    · intro j hj
      obtain ⟨h1, h2⟩ := plainOp_is (List.all_eq_true.1 rp8 j (by simp; omega))
      have q := yq b p i n (nth32 h) (nth32 x) j hj
      simp only [← eH, ← eX] at q
      exact ⟨_, ropN_at (by omega), h1, h2, q⟩
    · intro j hj q hq
      by_cases h3 : j = 3
      · subst h3
        have hq' : q ∈ [(45, yval h x 0), (46, yval h x 1), (47, yval h x 2)] := hq
        refine .inr ?_
        rcases mem3 hq' with rfl | rfl | rfl
        · exact ⟨0, by decide, e3 0 (by decide), rfl⟩
        · exact ⟨1, by decide, e3 1 (by decide), rfl⟩
        · exact ⟨2, by decide, e3 2 (by decide), rfl⟩
      · by_cases h7 : j = 7
        · subst h7
          have hq' : q ∈ [(49, yval h x 4), (50, yval h x 5), (51, yval h x 6)] := hq
          refine .inr ?_
          rcases mem3 hq' with rfl | rfl | rfl
          · exact ⟨4, by decide, e7 4 (by decide) (by decide), rfl⟩
          · exact ⟨5, by decide, e7 5 (by decide) (by decide), rfl⟩
          · exact ⟨6, by decide, e7 6 (by decide) (by decide), rfl⟩
        · rw [yl_else i n h3 h7] at hq
          exact .inl hq
    · exact ⟨_, ropN_at (by decide), (plainOp_is ro8).1, (plainOp_is ro8).2, rop8⟩
    · exact ⟨_, ropN_at (by decide), (plainOp_is ro9).1, (plainOp_is ro9).2, rop9⟩
    · have q := yq10 b p (nth32 h) (nth32 x) (nth32 (goL false h x)) (nth32 (goL true h x)) i n
      simp only [← eH, ← eX] at q
      exact ⟨_, ropN_at (by decide), (bareOp_is ro10).1, (bareOp_is ro10).2, q⟩
    · have q := yq11 b p (nth32 h) (nth32 x) (nth32 (goL false h x)) (nth32 (goL true h x)) i n
      simp only [← eH, ← eX] at q
      exact ⟨_, ropN_at (by decide), (bareOp_is ro11).1, (bareOp_is ro11).2, q⟩
    · intro d hd
      have h10 : ∀ d, d < 4 ∨ 7 ≤ d ∧ d < 10 → edgeB ropsA 10 d = true := fun d hd => List.all_eq_true.1 re10 d (by simp; omega)
      by_cases hc : d < 4 ∨ 7 ≤ d ∧ d < 10
      · exact .inl (h10 d hc)
      · exact .inr ⟨7, by decide, h10 7 (by decide), e7 d (by omega) (by omega)⟩
    · exact fun d hd => List.all_eq_true.1 re11 d (by simp; omega)
    · exact fun d hd => List.all_eq_true.1 rdown d (by simp; omega)
    · intro q hq
      simp only [yB, List.mem_cons, List.not_mem_nil, or_false] at hq
      rcases hq with rfl | rfl | rfl | rfl | rfl | rfl <;> simp only [] <;> decide
    · intro q hq
      simp only [yB, List.mem_cons, List.not_mem_nil, or_false] at hq
      rcases hq with rfl | rfl | rfl | rfl | rfl | rfl <;> kernel_rfl
    · intro q hq
      unfold yG at hq
      rcases List.mem_cons.1 hq with rfl | hq
      · exact .inr (.inl ⟨3, by decide, rfl⟩)
      rcases List.mem_cons.1 hq with rfl | hq
      · exact .inr (.inl ⟨7, by decide, rfl⟩)
      rcases List.mem_cons.1 hq with rfl | hq
      · exact .inr (.inr (.inl rfl))
      rcases List.mem_cons.1 hq with rfl | hq
      · exact .inr (.inr (.inr rfl))
      exact .inl hq
  rw [gl, gr] at key
  exact key
theorem rip_block (hn : 64 ≤ n) (h : List D) (hl : h.length = 5) : DoesK Try.prog 1 [nthC rip4 2] (rS b p (.vw 5 i n) h []) .normal (rS b p (.vw 5 i n) (blockR p i h) []) := by
  have eH := eq_lst32 hl
  have lX := xsX_len (byteX p i)
  have eX := fun j => eq_lst32 (lX j)
  have A : DoesK Try.prog 1 (takeC 2 (takeC 3 ripI)) (rS b p (.vw 5 i n) h []) .normal (rX b p i n h (xsX (byteX p i) 0) 0) := by
    have f := h19b b p (nth32 h) i n
    simp only [← eH] at f
    rw [t19j]
    exact sxp_is knownp f (AllT.cons (Nat.ble_eq_true_of_le hn) AllT.nil)
  have R : ∀ j, j < 64 → DoesK Try.prog 1 [inLoop (nthC ripI 2)] (rX b p i n h (xsX (byteX p i) j) j) .normal (rX b p i n h (xsX (byteX p i) (j + 1)) (j + 1)) := by
    intro j hj
    have f := map_at (h19w b p (nth32 h) (nth32 (xsX (byteX p i) j)) i n) (a := j) (by simp; omega)
    simp only [← eH, ← eX] at f
    exact sxp_is knownp f (AllT.cons rfl AllT.nil)
  have X : DoesK Try.prog 1 [inLoop (nthC ripI 2)] (rX b p i n h (xsX (byteX p i) 64) 64) (.exit (blkN (nthC ripI 2))) (rY b p i n h (xsX (byteX p i) 64)) := by
    have f := h19y b p (nth32 h) (nth32 (xsX (byteX p i) 64)) i n
    simp only [← eH, ← eX] at f
    exact sxp_is knownp f AllT.nil
  have W : DoesK Try.prog 1 (takeC 3 ripI) (rS b p (.vw 5 i n) h []) .normal (rY b p i n h (xsX (byteX p i) 64)) :=
    DoesK.three (N := 64) (s := fun j => rX b p i n h (xsX (byteX p i) j) j) (Nat.le_of_ble_eq_true len19j) at19j A R X (by rw [d19j]; exact DoesK.same _)
  have G := two_does b p i n h (xsX (byteX p i) 64) hl (lX 64)
  have eL := eq_lst32 (goL_len false (xsX (byteX p i) 64) hl)
  have eR := eq_lst32 (goL_len true (xsX (byteX p i) 64) hl)
  have Mx : DoesK Try.prog 1 (dropC 4 ripI) (rG b p i n h (xsX (byteX p i) 64) (goL false h (xsX (byteX p i) 64)) (goL true h (xsX (byteX p i) 64))) .normal (rS b p (.vw 5 i n) (blockR p i h) []) := by
    have f := h19m b p (nth32 h) (nth32 (xsX (byteX p i) 64)) (nth32 (goL false h (xsX (byteX p i) 64))) (nth32 (goL true h (xsX (byteX p i) 64))) i n
    simp only [← eH, ← eX, ← eL, ← eR] at f
    exact sxp_is knownp f AllT.nil
  have all : DoesK Try.prog 1 ripI (rS b p (.vw 5 i n) h []) .normal (rS b p (.vw 5 i n) (blockR p i h) []) := by
    have hpp := parts3 3 ripI (Nat.le_of_ble_eq_true len19i)
    rw [← hpp]
    exact W.append (DoesK.append (l := [nthC ripI 3]) G Mx)
  rw [at19s]
  exact DoesK.block all
theorem rip_body (hn : 64 ≤ n) (h : List D) (hl : h.length = 5) : DoesK Try.prog 1 [inLoop (nthC (rowOf Try.prog 19) 4)] (rS b p (.vw 5 i n) h []) .normal (rS b p (.vw 5 (i + 64) (n - 64)) (blockR p i h) []) := by
  have eH := eq_lst32 hl
  have eB := eq_lst32 (show (blockR p i h).length = 5 from rfl)
  have C1 : DoesK Try.prog 1 (takeC 2 rip4) (rS b p (.vw 5 i n) h []) .normal (rS b p (.vw 5 i n) h []) := by
    have f := h19c b p (nth32 h) i n
    simp only [← eH] at f
    exact sxp_is knownp f (AllT.cons (Nat.ble_eq_true_of_le (by omega : 0 + 1 ≤ n)) AllT.nil)
  have C3 : DoesK Try.prog 1 (dropC 3 rip4) (rS b p (.vw 5 i n) (blockR p i h) []) .normal (rS b p (.vw 5 (i + 64) (n - 64)) (blockR p i h) []) := by
    have f := h19f b p (nth32 (blockR p i h)) i n
    simp only [← eB] at f
    exact sxp_is knownp f (AllT.cons (Nat.ble_eq_true_of_le hn) AllT.nil)
  refine DoesK.ofSpine ?_
  show DoesK Try.prog 1 rip4 _ _ _
  have hpp := parts3 2 rip4 (Nat.le_of_ble_eq_true len19s)
  rw [← hpp]
  exact C1.append (DoesK.append (l := [nthC rip4 2]) (rip_block b p i n hn h hl) C3)
end
theorem runs19 (b : By) (hb : b.length ≤ 3000) : ∃ hp1, Runs Try.prog 19 [.one (.dy 0)] [.rd b 3000] (.ag (toC8 (ripH (padL b true)))) hp1 true := by
  have hm := padL_mod b true
  have hle := padL_le b true hb
  generalize hp : padL b true = p at hm hle
  have A : DoesK Try.prog 1 (takeC 4 (rowOf Try.prog 19)) (rIn b) .normal (rS b p (.vw 5 (64 * 0) (p.length - 64 * 0)) (hashR p 0) []) := by
    have h := sxp_is knownp (h19a b) (AllT.cons (Nat.ble_eq_true_of_le hb) AllT.nil)
    rw [hp] at h
    refine DoesK.view (r := 5) (x := p) h rfl fun i v hv => ?_
    have hv := slots_get _ _ _ hv
    simp only [List.mem_cons, List.not_mem_nil, or_false, Prod.mk.injEq] at hv
    rcases hv with ⟨rfl, rfl⟩ | ⟨rfl, rfl⟩ | ⟨rfl, rfl⟩ | ⟨rfl, rfl⟩ | ⟨rfl, rfl⟩
    · exact .inl (by kernel_rfl)
    · exact .inl (by kernel_rfl)
    · exact .inl (by kernel_rfl)
    · exact .inl (by kernel_rfl)
    · exact .inr ⟨by kernel_rfl, rfl⟩
  have R1 : ∀ k, k < p.length / 64 → DoesK Try.prog 1 [inLoop (nthC (rowOf Try.prog 19) 4)] (rS b p (.vw 5 (64 * k) (p.length - 64 * k)) (hashR p k) []) .normal (rS b p (.vw 5 (64 * (k + 1)) (p.length - 64 * (k + 1))) (hashR p (k + 1)) []) := by
    intro k hk
    have h := rip_body b p (64 * k) (p.length - 64 * k) (by omega) (hashR p k) (hashR_len p k)
    rw [show 64 * (k + 1) = 64 * k + 64 by omega, show p.length - (64 * k + 64) = p.length - 64 * k - 64 by omega]
    exact h
  have eF := eq_lst32 (hashR_len p (p.length / 64))
  have X1 : DoesK Try.prog 1 [inLoop (nthC (rowOf Try.prog 19) 4)] (rS b p (.vw 5 (64 * (p.length / 64)) (p.length - 64 * (p.length / 64))) (hashR p (p.length / 64)) []) (.exit (blkN (nthC (rowOf Try.prog 19) 4))) (rS b p (.vw 5 (64 * (p.length / 64)) (p.length - 64 * (p.length / 64))) (hashR p (p.length / 64)) []) := by
    have f := h19x b p (nth32 (hashR p (p.length / 64))) (64 * (p.length / 64)) (p.length - 64 * (p.length / 64))
    simp only [← eF] at f
    have h0 : p.length - 64 * (p.length / 64) = 0 := by omega
    refine DoesK.ofSpine ?_
    show DoesK Try.prog 1 rip4 _ _ _
    have hpz := parts3 2 rip4 (Nat.le_of_ble_eq_true len19s)
    rw [← hpz]
    exact DoesK.early _ (sxp_is knownp f (AllT.cons (by rw [h0]; rfl) AllT.nil))
  have O0 : DoesK Try.prog 1 (takeC 2 (dropC 5 (rowOf Try.prog 19))) (rS b p (.vw 5 (64 * (p.length / 64)) (p.length - 64 * (p.length / 64))) (hashR p (p.length / 64)) []) .normal (rO b (hashR p (p.length / 64)) (outsR (hashR p (p.length / 64)) 0) 0) := by
    have f := h19g b p (nth32 (hashR p (p.length / 64))) (64 * (p.length / 64)) (p.length - 64 * (p.length / 64))
    simp only [← eF] at f
    exact sxp_is knownp f AllT.nil
  have O1 : ∀ j, j < 20 → DoesK Try.prog 1 [inLoop (nthC (rowOf Try.prog 19) 7)] (rO b (hashR p (p.length / 64)) (outsR (hashR p (p.length / 64)) j) j) .normal (rO b (hashR p (p.length / 64)) (outsR (hashR p (p.length / 64)) (j + 1)) (j + 1)) := by
    intro j hj
    have f := map_at (h19o b (nth32 (hashR p (p.length / 64))) (nthB8 (outsR (hashR p (p.length / 64)) j))) (a := j) (by simp; omega)
    simp only [← eF, ← eq_lst8 (outsR_len _ j)] at f
    exact sxp_is knownp f AllT.nil
  have O2 : DoesK Try.prog 1 [inLoop (nthC (rowOf Try.prog 19) 7)] (rO b (hashR p (p.length / 64)) (outsR (hashR p (p.length / 64)) 20) 20) (.exit (blkN (nthC (rowOf Try.prog 19) 7))) (rO b (hashR p (p.length / 64)) (outsR (hashR p (p.length / 64)) 20) 20) := by
    have f := h19p b (nth32 (hashR p (p.length / 64))) (nthB8 (outsR (hashR p (p.length / 64)) 20))
    simp only [← eF, ← eq_lst8 (outsR_len _ 20)] at f
    exact sxp_is knownp f AllT.nil
  have O3 : DoesK Try.prog 1 (dropC 8 (rowOf Try.prog 19)) (rO b (hashR p (p.length / 64)) (outsR (hashR p (p.length / 64)) 20) 20) .ret (rZ b 110 (ripH p)) := by
    have f := h19q b (nth32 (hashR p (p.length / 64))) (nthB8 (outsR (hashR p (p.length / 64)) 20))
    simp only [← eF, ← eq_lst8 (outsR_len _ 20)] at f
    exact sxp_is knownp f AllT.nil
  have tail : DoesK Try.prog 1 (dropC 5 (rowOf Try.prog 19)) (rS b p (.vw 5 (64 * (p.length / 64)) (p.length - 64 * (p.length / 64))) (hashR p (p.length / 64)) []) .ret (rZ b 110 (ripH p)) :=
    DoesK.three (N := 20) (s := fun j => rO b (hashR p (p.length / 64)) (outsR (hashR p (p.length / 64)) j) j) (Nat.le_of_ble_eq_true len19') at19' O0 O1 O2 (by rw [d19]; exact O3)
  have all : DoesK Try.prog 1 (rowOf Try.prog 19) (rIn b) .ret (rZ b 110 (ripH p)) :=
    DoesK.three (N := p.length / 64) (s := fun k => rS b p (.vw 5 (64 * k) (p.length - 64 * k)) (hashR p k) []) (Nat.le_of_ble_eq_true len19) at19 A R1 X1 tail
  have hv := h19v b (nthB8 (ripH p))
  simp only [← eq_lst8 (show (ripH p).length = 20 from outsR_len _ 20)] at hv
  exact ⟨_, runsK_of (hp := [.rd b 3000]) code19' (.inr rfl) (n := 110) (by rw [Nat.eq_of_beq_eq_true tmps19']; rfl) all hv⟩
end Go.Proofs.Sx
/- RIPEMD-160, by the reference: what it hands back: the same as the program. -/
namespace Go.Proofs.Sx
open Go
noncomputable def s20 : List Code := spine (inLoop (nthC (rowOf Try.prog 20) 4))
noncomputable def s20i : List Code := spine (inBlk (nthC s20 2))
section
variable (b p : By) (h x gl gr : Nat → D) (o : Nat → BitVec 8) (i : Nat)
noncomputable def qIn : St := ⟨tmOf [.one (.dy 0)] 0 (T.full 8), [.rd b 3000], false, 107, 1, [], []⟩
noncomputable def qHp (p : By) (h : List D) : List Reg := [.rd b 3000, .own 37 (toC8 zer20), .own 70 (toC32 h), .dyn 5 p 3200]
noncomputable def qS (h : List D) (ds : List Bool) : St := ⟨slots [(2, .one (.pt 1 0)), (3, .one (.pt 2 0)), (4, .one (.dy 3)), (5, .one (.sy i))], qHp b p h, true, 107, 1, [], ds⟩
def qk : List (Nat × Bool) := [(2, false), (3, false), (4, false), (5, true)]
theorem h20a : sxp Mq (takeC 4 (rowOf Try.prog 20)) 1 [0, 1, 2, 3] qk (qIn b) = some (.normal, qS b (padL b true) 0 h0R [], [Nat.ble b.length 3000]) := by kernel_rfl
theorem h20c : sxp Mq (takeC 2 s20) 1 [0, 1, 2, 3] qk (qS b p i (lst32 h 0 5) [true]) = some (.normal, qS b p i (lst32 h 0 5) [], [Nat.blt i p.length]) := by kernel_rfl
theorem h20x : sxp Mq (takeC 2 s20) 1 [0, 1, 2, 3] qk (qS b p i (lst32 h 0 5) [false]) = some (.exit (blkN (nthC (rowOf Try.prog 20) 4)), qS b p i (lst32 h 0 5) [], [!(Nat.blt i p.length)]) := by kernel_rfl
noncomputable def qX (h x : List D) (l : List (Nat × V)) : St := ⟨slots ([(2, .one (.pt 1 0)), (3, .one (.pt 2 0)), (4, .one (.dy 3)), (5, .one (.sy i)), (6, .one (.pt 4 0))] ++ l), qHp b p h ++ [.own 74 (toC32 x)], true, 107, 1, [], []⟩
def qk7 : List (Nat × Bool) := [(2, false), (3, false), (4, false), (5, true), (6, false), (7, false)]
def qk6 : List (Nat × Bool) := [(2, false), (3, false), (4, false), (5, true), (6, false)]
def byteQ (p : By) (i j : Nat) : D := BitVec.setWidth 32 (p.getD (0 + (i + j)) 0#8)
theorem h20b : sxp Mq (takeC 2 s20i) 1 [0, 1, 2, 3, 4] qk7 (qS b p i (lst32 h 0 5) []) = some (.normal, qX b p i (lst32 h 0 5) zer16 [(7, .one (.it 0))], []) := by kernel_rfl
theorem h20w : (List.range' 0 64).map (fun j => sxp Mq [inLoop (nthC s20i 2)] 1 [0, 1, 2, 3, 4] qk7 (qX b p i (lst32 h 0 5) (lst32 x 0 16) [(7, .one (.it j))])) =
    (List.range' 0 64).map (fun j => some (.normal, qX b p i (lst32 h 0 5) (stepX (byteQ p i) (lst32 x 0 16) j) [(7, .one (.it (j + 1)))], [Nat.blt (i + j) p.length, Nat.ble (i + j) 9223372036854775807])) := by kernel_rfl
theorem h20y : sxp Mq [inLoop (nthC s20i 2)] 1 [0, 1, 2, 3, 4] qk6 (qX b p i (lst32 h 0 5) (lst32 x 0 16) [(7, .one (.it 64))]) = some (.exit (blkN (nthC s20i 2)), qX b p i (lst32 h 0 5) (lst32 x 0 16) [], []) := by kernel_rfl
/-- the two lines -/
def qg (rt : Bool) (h x : List D) : List D := lst32 (nth32 (goL rt h x)) 0 5
noncomputable def qG (h x gl gr : List D) : St := ⟨slots [(2, .one (.pt 1 0)), (3, .one (.pt 2 0)), (4, .one (.dy 3)), (5, .one (.sy i)), (8, .one (.pt 5 0)), (9, .one (.pt 6 0))], qHp b p h ++ [.own 74 (toC32 x), .own 70 (toC32 gl), .own 70 (toC32 gr)], true, 107, 1, [], []⟩
def qk9 : List (Nat × Bool) := [(2, false), (3, false), (4, false), (5, true), (8, false), (9, false)]
theorem h20l : sxp Mq (takeC 2 (dropC 3 s20i)) 1 [0, 1, 2, 3, 4, 5, 6] qk9 (qX b p i (lst32 h 0 5) (lst32 x 0 16) []) = some (.normal, qG b p i (lst32 h 0 5) (lst32 x 0 16) (qg false (lst32 h 0 5) (lst32 x 0 16)) (qg true (lst32 h 0 5) (lst32 x 0 16)), []) := by kernel_rfl
theorem h20m : sxp Mq (dropC 5 s20i) 1 [0, 1, 2, 3] qk (qG b p i (lst32 h 0 5) (lst32 x 0 16) (lst32 gl 0 5) (lst32 gr 0 5)) = some (.normal, qS b p i (mixH (lst32 h 0 5) (lst32 gl 0 5) (lst32 gr 0 5)) [], []) := by kernel_rfl
theorem h20f : sxp Mq (dropC 3 s20) 1 [0, 1, 2, 3] qk (qS b p i (lst32 h 0 5) []) = some (.normal, qS b p (i + 64) (lst32 h 0 5) [], [Nat.ble (i + 64) 9223372036854775807]) := by kernel_rfl
noncomputable def qO (h : List D) (o : By) (j : Nat) : St := ⟨slots [(2, .one (.pt 1 0)), (3, .one (.pt 2 0)), (10, .one (.pt 3 0)), (11, .one (.it j))], [.rd b 3000, .own 37 (toC8 zer20), .own 70 (toC32 h), .own 37 (toC8 o)], true, 107, 1, [], []⟩
def qk3 : List (Nat × Bool) := [(2, false), (3, false), (10, false), (11, false)]
theorem h20g : sxp Mq (takeC 2 (dropC 5 (rowOf Try.prog 20))) 1 [0, 1, 2, 4] qk3 (qS b p i (lst32 h 0 5) []) = some (.normal, qO b (lst32 h 0 5) zer20 0, []) := by kernel_rfl
theorem h20o : (List.range' 0 20).map (fun j => sxp Mq [inLoop (nthC (rowOf Try.prog 20) 7)] 1 [0, 1, 2, 3] qk3 (qO b (lst32 h 0 5) (lst8 o 0 20) j)) =
    (List.range' 0 20).map (fun j => some (.normal, qO b (lst32 h 0 5) (outQ (lst32 h 0 5) (lst8 o 0 20) j) (j + 1), [])) := by kernel_rfl
theorem h20p : sxp Mq [inLoop (nthC (rowOf Try.prog 20) 7)] 1 [0, 1, 2, 3] qk3 (qO b (lst32 h 0 5) (lst8 o 0 20) 20) = some (.exit (blkN (nthC (rowOf Try.prog 20) 7)), qO b (lst32 h 0 5) (lst8 o 0 20) 20, []) := by kernel_rfl
theorem h20q : sxp Mq (dropC 8 (rowOf Try.prog 20)) 1 [0, 1] [(2, false)] (qO b (lst32 h 0 5) (lst8 o 0 20) 20) = some (.ret, rZ b 107 (lst8 o 0 20), []) := by kernel_rfl
theorem h20v : resV Try.prog (fnOf Try.prog 20).results.toList (slots [(2, .one (.pt 1 0))]) [.rd b 3000, .own 37 (toC8 (lst8 o 0 20))] = some (.ag (toC8 (lst8 o 0 20))) := by kernel_rfl
end
theorem len20 : Nat.blt 4 (lenL (rowOf Try.prog 20)) = true := by kernel_rfl
theorem len20' : Nat.blt 2 (lenL (dropC 5 (rowOf Try.prog 20))) = true := by kernel_rfl
theorem len20s : Nat.blt 2 (lenL s20) = true := by kernel_rfl
theorem len20i : Nat.blt 2 (lenL s20i) = true := by kernel_rfl
theorem at20 : nthC (rowOf Try.prog 20) 4 = .block (blkN (nthC (rowOf Try.prog 20) 4)) (.loop (inLoop (nthC (rowOf Try.prog 20) 4))) := by kernel_rfl
theorem at20' : nthC (dropC 5 (rowOf Try.prog 20)) 2 = .block (blkN (nthC (rowOf Try.prog 20) 7)) (.loop (inLoop (nthC (rowOf Try.prog 20) 7))) := by kernel_rfl
theorem at20s : nthC s20 2 = .block (blkN (nthC s20 2)) (inBlk (nthC s20 2)) := by kernel_rfl
theorem at20i : nthC s20i 2 = .block (blkN (nthC s20i 2)) (.loop (inLoop (nthC s20i 2))) := by kernel_rfl
theorem d20 : dropC 3 (dropC 5 (rowOf Try.prog 20)) = dropC 8 (rowOf Try.prog 20) := by kernel_rfl
theorem d20i : takeC 2 (dropC 3 s20i) ++ dropC 5 s20i = dropC 3 s20i := by kernel_rfl
theorem code20 : hasCode Try.prog 20 = true := by kernel_rfl
theorem tmps20 : Nat.beq (fnOf Try.prog 20).ntmps 107 = true := by kernel_rfl
section
variable (b p : By) (i : Nat) (hi : i + 64 ≤ p.length) (hp : p.length ≤ 3200)
include hi hp
theorem rq_block (h : List D) (hl : h.length = 5) : DoesK Try.prog 1 [nthC s20 2] (qS b p i h []) .normal (qS b p i (blockR p i h) []) := by
  have eH := eq_lst32 hl
  have eb : byteQ p i = byteX p i := by
    funext j
    unfold byteQ byteX
    rw [Nat.zero_add]
  have lX := xsX_len (byteX p i)
  have eX := fun j => eq_lst32 (lX j)
  have A : DoesK Try.prog 1 (takeC 2 s20i) (qS b p i h []) .normal (qX b p i h (xsX (byteX p i) 0) [(7, .one (.it 0))]) := by
    have f := h20b b p (nth32 h) i
    simp only [← eH] at f
    exact sxp_is knownq f AllT.nil
  have R : ∀ j, j < 64 → DoesK Try.prog 1 [inLoop (nthC s20i 2)] (qX b p i h (xsX (byteX p i) j) [(7, .one (.it j))]) .normal (qX b p i h (xsX (byteX p i) (j + 1)) [(7, .one (.it (j + 1)))]) := by
    intro j hj
    have f := map_at (h20w b p (nth32 h) (nth32 (xsX (byteX p i) j)) i) (a := j) (by simp; omega)
    simp only [← eH, ← eX, eb] at f
    exact sxp_is knownq f (AllT.cons (Nat.ble_eq_true_of_le (by omega : i + j + 1 ≤ p.length)) (AllT.cons (Nat.ble_eq_true_of_le (by omega)) AllT.nil))
  have X : DoesK Try.prog 1 [inLoop (nthC s20i 2)] (qX b p i h (xsX (byteX p i) 64) [(7, .one (.it 64))]) (.exit (blkN (nthC s20i 2))) (qX b p i h (xsX (byteX p i) 64) []) := by
    have f := h20y b p (nth32 h) (nth32 (xsX (byteX p i) 64)) i
    simp only [← eH, ← eX] at f
    exact sxp_is knownq f AllT.nil
  have eL := eq_lst32 (goL_len false (xsX (byteX p i) 64) hl)
  have eR := eq_lst32 (goL_len true (xsX (byteX p i) 64) hl)
  have L : DoesK Try.prog 1 (takeC 2 (dropC 3 s20i)) (qX b p i h (xsX (byteX p i) 64) []) .normal (qG b p i h (xsX (byteX p i) 64) (goL false h (xsX (byteX p i) 64)) (goL true h (xsX (byteX p i) 64))) := by
    have f := h20l b p (nth32 h) (nth32 (xsX (byteX p i) 64)) i
    unfold qg at f
    simp only [← eH, ← eX, ← eL, ← eR] at f
    exact sxp_is knownq f AllT.nil
  have Mx : DoesK Try.prog 1 (dropC 5 s20i) (qG b p i h (xsX (byteX p i) 64) (goL false h (xsX (byteX p i) 64)) (goL true h (xsX (byteX p i) 64))) .normal (qS b p i (blockR p i h) []) := by
    have f := h20m b p (nth32 h) (nth32 (xsX (byteX p i) 64)) (nth32 (goL false h (xsX (byteX p i) 64))) (nth32 (goL true h (xsX (byteX p i) 64))) i
    simp only [← eH, ← eX, ← eL, ← eR] at f
    exact sxp_is knownq f AllT.nil
  have all : DoesK Try.prog 1 s20i (qS b p i h []) .normal (qS b p i (blockR p i h) []) :=
    DoesK.three (N := 64) (s := fun j => qX b p i h (xsX (byteX p i) j) [(7, .one (.it j))]) (Nat.le_of_ble_eq_true len20i) at20i A R X (by rw [← d20i]; exact L.append Mx)
  rw [at20s]
  exact DoesK.block all
theorem rq_body (h : List D) (hl : h.length = 5) : DoesK Try.prog 1 [inLoop (nthC (rowOf Try.prog 20) 4)] (qS b p i h []) .normal (qS b p (i + 64) (blockR p i h) []) := by
  have eH := eq_lst32 hl
  have eB := eq_lst32 (show (blockR p i h).length = 5 from rfl)
  have C1 : DoesK Try.prog 1 (takeC 2 s20) (qS b p i h []) .normal (qS b p i h []) := by
    have f := h20c b p (nth32 h) i
    simp only [← eH] at f
    exact sxp_is knownq f (AllT.cons (Nat.ble_eq_true_of_le (by omega : i + 1 ≤ p.length)) AllT.nil)
  have C3 : DoesK Try.prog 1 (dropC 3 s20) (qS b p i (blockR p i h) []) .normal (qS b p (i + 64) (blockR p i h) []) := by
    have f := h20f b p (nth32 (blockR p i h)) i
    simp only [← eB] at f
    exact sxp_is knownq f (AllT.cons (Nat.ble_eq_true_of_le (by omega)) AllT.nil)
  refine DoesK.ofSpine ?_
  show DoesK Try.prog 1 s20 _ _ _
  have hpp := parts3 2 s20 (Nat.le_of_ble_eq_true len20s)
  rw [← hpp]
  exact C1.append (DoesK.append (l := [nthC s20 2]) (rq_block b p i hi hp h hl) C3)
end
theorem runs20 (b : By) (hb : b.length ≤ 3000) : ∃ hp1, Runs Try.prog 20 [.one (.dy 0)] [.rd b 3000] (.ag (toC8 (ripH (padL b true)))) hp1 true := by
  have hm := padL_mod b true
  have hle := padL_le b true hb
  generalize hp : padL b true = p at hm hle
  have A : DoesK Try.prog 1 (takeC 4 (rowOf Try.prog 20)) (qIn b) .normal (qS b p (64 * 0) (hashR p 0) []) := by
    have h := sxp_is knownq (h20a b) (AllT.cons (Nat.ble_eq_true_of_le hb) AllT.nil)
    rw [hp] at h
    exact h
  have R1 : ∀ k, k < p.length / 64 → DoesK Try.prog 1 [inLoop (nthC (rowOf Try.prog 20) 4)] (qS b p (64 * k) (hashR p k) []) .normal (qS b p (64 * (k + 1)) (hashR p (k + 1)) []) := by
    intro k hk
    exact rq_body b p (64 * k) (by omega) hle (hashR p k) (hashR_len p k)
  have eF := eq_lst32 (hashR_len p (p.length / 64))
  have X1 : DoesK Try.prog 1 [inLoop (nthC (rowOf Try.prog 20) 4)] (qS b p (64 * (p.length / 64)) (hashR p (p.length / 64)) []) (.exit (blkN (nthC (rowOf Try.prog 20) 4))) (qS b p (64 * (p.length / 64)) (hashR p (p.length / 64)) []) := by
    have f := h20x b p (nth32 (hashR p (p.length / 64))) (64 * (p.length / 64))
    simp only [← eF] at f
    have h0 : Nat.blt (64 * (p.length / 64)) p.length = false := by
      rw [show 64 * (p.length / 64) = p.length by omega]
      unfold Nat.blt
      cases hq : Nat.ble (p.length + 1) p.length with
      | false => rfl
      | true => have := Nat.le_of_ble_eq_true hq; omega
    refine DoesK.ofSpine ?_
    show DoesK Try.prog 1 s20 _ _ _
    have hpz := parts3 2 s20 (Nat.le_of_ble_eq_true len20s)
    rw [← hpz]
    exact DoesK.early _ (sxp_is knownq f (AllT.cons (by rw [h0]; rfl) AllT.nil))
  have O0 : DoesK Try.prog 1 (takeC 2 (dropC 5 (rowOf Try.prog 20))) (qS b p (64 * (p.length / 64)) (hashR p (p.length / 64)) []) .normal (qO b (hashR p (p.length / 64)) (outsR (hashR p (p.length / 64)) 0) 0) := by
    have f := h20g b p (nth32 (hashR p (p.length / 64))) (64 * (p.length / 64))
    simp only [← eF] at f
    exact sxp_is knownq f AllT.nil
  have O1 : ∀ j, j < 20 → DoesK Try.prog 1 [inLoop (nthC (rowOf Try.prog 20) 7)] (qO b (hashR p (p.length / 64)) (outsR (hashR p (p.length / 64)) j) j) .normal (qO b (hashR p (p.length / 64)) (outsR (hashR p (p.length / 64)) (j + 1)) (j + 1)) := by
    intro j hj
    have f := map_at (h20o b (nth32 (hashR p (p.length / 64))) (nthB8 (outsR (hashR p (p.length / 64)) j))) (a := j) (by simp; omega)
    simp only [← eF, ← eq_lst8 (outsR_len _ j)] at f
    exact sxp_is knownq f AllT.nil
  have O2 : DoesK Try.prog 1 [inLoop (nthC (rowOf Try.prog 20) 7)] (qO b (hashR p (p.length / 64)) (outsR (hashR p (p.length / 64)) 20) 20) (.exit (blkN (nthC (rowOf Try.prog 20) 7))) (qO b (hashR p (p.length / 64)) (outsR (hashR p (p.length / 64)) 20) 20) := by
    have f := h20p b (nth32 (hashR p (p.length / 64))) (nthB8 (outsR (hashR p (p.length / 64)) 20))
    simp only [← eF, ← eq_lst8 (outsR_len _ 20)] at f
    exact sxp_is knownq f AllT.nil
  have O3 : DoesK Try.prog 1 (dropC 8 (rowOf Try.prog 20)) (qO b (hashR p (p.length / 64)) (outsR (hashR p (p.length / 64)) 20) 20) .ret (rZ b 107 (ripH p)) := by
    have f := h20q b (nth32 (hashR p (p.length / 64))) (nthB8 (outsR (hashR p (p.length / 64)) 20))
    simp only [← eF, ← eq_lst8 (outsR_len _ 20)] at f
    exact sxp_is knownq f AllT.nil
  have tail : DoesK Try.prog 1 (dropC 5 (rowOf Try.prog 20)) (qS b p (64 * (p.length / 64)) (hashR p (p.length / 64)) []) .ret (rZ b 107 (ripH p)) :=
    DoesK.three (N := 20) (s := fun j => qO b (hashR p (p.length / 64)) (outsR (hashR p (p.length / 64)) j) j) (Nat.le_of_ble_eq_true len20') at20' O0 O1 O2 (by rw [d20]; exact O3)
  have all : DoesK Try.prog 1 (rowOf Try.prog 20) (qIn b) .ret (rZ b 107 (ripH p)) :=
    DoesK.three (N := p.length / 64) (s := fun k => qS b p (64 * k) (hashR p k) []) (Nat.le_of_ble_eq_true len20) at20 A R1 X1 tail
  have hv := h20v b (nthB8 (ripH p))
  simp only [← eq_lst8 (show (ripH p).length = 20 from outsR_len _ 20)] at hv
  exact ⟨_, runsK_of (hp := [.rd b 3000]) code20 (.inr rfl) (n := 107) (by rw [Nat.eq_of_beq_eq_true tmps20]; rfl) all hv⟩
end Go.Proofs.Sx
