/- RIPEMD-160 of no bytes, whole. -/
import Derived.Test.YtejgaeadplnfgaaHaRip5
namespace Go.Proofs.Sx
open Go

noncomputable def ripR : St := ⟨slots rlf, rhp11, true, 110, 0, [], [false]⟩
noncomputable def ripD : Option (Ex × St) := sxs Try.prog Mr 1000000 (dropC 4 ripI) ripR
noncomputable def ripE : Option (Ex × St) := sxs Try.prog Mr 1000000 (dropC 3 rip4) (getS ripD)
noncomputable def ripF : Option (Ex × St) := sxs Try.prog Mr 1000000 [inLoop (nthC (rowOf Try.prog 19) 4)] (getS ripE)
noncomputable def ripG : Option (Ex × St) := sxs Try.prog Mr 1000000 (dropC 5 (rowOf Try.prog 19)) (getS ripF)
def exId : Option (Ex × St) → Nat
  | some (.exit i, _) => i
  | _ => 0
def isX (i : Nat) : Option (Ex × St) → Bool
  | some (.exit j, _) => Nat.beq i j
  | _ => false
def isRet : Option (Ex × St) → Bool
  | some (.ret, _) => true
  | _ => false
theorem isX_is {i : Nat} {r : Option (Ex × St)} (h : isX i r = true) : r = some (.exit i, getS r) := by
  unfold isX at h
  split at h
  · rw [Nat.eq_of_beq_eq_true h]; rfl
  · cases h
theorem isRet_is {r : Option (Ex × St)} (h : isRet r = true) : r = some (.ret, getS r) := by
  unfold isRet at h
  split at h
  · rfl
  · cases h
def blkId : Code → Nat
  | .block id _ => id
  | _ => 0
noncomputable def ripV : Option V := resV Try.prog (fnOf Try.prog 19).results.toList (getS ripG).tm (getS ripG).hp
noncomputable def figB2 : List C → List Nat → Bool
  | [], [] => true
  | .w8 x :: cs, m :: l => match Nat.beq x.toNat m with
    | true => figB2 cs l
    | false => false
  | _, _ => false
noncomputable def figV2 (r : Option V) (l : List Nat) : Bool :=
  match r with
  | some (.ag cs) => figB2 cs l
  | _ => false
def rip0 : List Nat := [156, 17, 133, 165, 197, 233, 252, 84, 97, 40, 8, 151, 126, 232, 245, 72, 178, 37, 141, 49]
theorem figB2_is : ∀ {cs : List C} {l : List Nat}, figB2 cs l = true → cs = toB l
  | [], [], _ => rfl
  | [], _ :: _, h => by cases h
  | c :: cs, l, h => by
    cases c with
    | w8 y =>
      cases l with
      | nil => cases h
      | cons m l =>
        simp only [figB2] at h
        split at h
        · rename_i hb
          have := Nat.eq_of_beq_eq_true hb
          rw [figB2_is h, ← this]
          simp [toB]
        · cases h
    | _ => cases h
theorem figV2_is {r : Option V} {l : List Nat} (h : figV2 r l = true) : r = some (.ag (toB l)) := by
  unfold figV2 at h
  split at h
  · rw [figB2_is h]
  · cases h
noncomputable def ripChk : Bool := match isN ripD with
  | false => false
  | true => match isN ripE with
    | false => false
    | true => match isX (blkId (nthC (rowOf Try.prog 19) 4)) ripF with
      | false => false
      | true => match isRet ripG with
        | false => false
        | true => match allB (getS ripG).ob with
          | false => false
          | true => figV2 ripV rip0
set_option maxRecDepth 100000 in
theorem ripChk_t : ripChk = true := by kernel_rfl
theorem ripChk_is (h : ripChk = true) : isN ripD = true ∧ isN ripE = true ∧ isX (blkId (nthC (rowOf Try.prog 19) 4)) ripF = true ∧ isRet ripG = true ∧ allB (getS ripG).ob = true ∧ figV2 ripV rip0 = true := by
  unfold ripChk at h
  split at h
  · cases h
  · rename_i h1
    split at h
    · cases h
    · rename_i h2
      split at h
      · cases h
      · rename_i h3
        split at h
        · cases h
        · rename_i h4
          split at h
          · cases h
          · rename_i h5
            exact ⟨h1, h2, h3, h4, h5, h⟩
noncomputable def ripCk2 : Bool := match allB (getS ripC).ob with
  | false => false
  | true => match Nat.beq (getS ripC).n 110 with
    | false => false
    | true => Nat.beq (getS ripC).base 0
theorem ripCk2_t : ripCk2 = true := by kernel_rfl
theorem ripCk2_is (h : ripCk2 = true) : allB (getS ripC).ob = true ∧ Nat.beq (getS ripC).n 110 = true ∧ Nat.beq (getS ripC).base 0 = true := by
  unfold ripCk2 at h
  split at h
  · cases h
  · rename_i h1
    split at h
    · cases h
    · rename_i h2
      exact ⟨h1, h2, h⟩
end Go.Proofs.Sx
