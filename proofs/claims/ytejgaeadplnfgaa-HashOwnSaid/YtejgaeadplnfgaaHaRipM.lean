/- RIPEMD-160 of no bytes: its pieces. -/
import Derived.Test.YtejgaeadplnfgaaHaIso
namespace Go.Proofs.Sx
open Go
def inBlock : Code → Code
  | .block _ b => b
  | c => c
noncomputable def rip4 : List Code := spine (inLoop (nthC (rowOf Try.prog 19) 4))
noncomputable def ripI : List Code := spine (inBlock (nthC rip4 2))
noncomputable def ripS0 : St := ⟨tmOf [.one .nl] 0 (T.full 8), [], false, 110, 0, [], List.replicate 55 true ++ [false, true]⟩
noncomputable def ripA : Option (Ex × St) := sxs Try.prog Mr 1000000 (takeC 4 (rowOf Try.prog 19)) ripS0
noncomputable def ripB : Option (Ex × St) := sxs Try.prog Mr 1000000 (takeC 2 rip4) (getS ripA)
noncomputable def ripC : Option (Ex × St) := sxs Try.prog Mr 1000000 (takeC 3 ripI) (getS ripB)
theorem ripA_n : isN ripA = true := by kernel_rfl
theorem ripB_n : isN ripB = true := by kernel_rfl
theorem ripC_n : isN ripC = true := by kernel_rfl
end Go.Proofs.Sx
/- RIPEMD-160 of no bytes: the region of the two lines. -/
namespace Go.Proofs.Sx
open Go
def opsArr : Code → Array Oper
  | .region _ ops _ => ops
  | _ => #[]
def regId : Code → Nat
  | .region id _ _ => id
  | _ => 0
noncomputable def ropsA : Array Oper := opsArr (nthC ripI 3)
noncomputable def ropN (j : Nat) : Oper := (ropsA[j]?).getD default
noncomputable def rhp : List Reg := (getS ripC).hp
noncomputable def kept (tm : T) : List Nat → List (Nat × V)
  | [] => []
  | i :: l => match tm.get i with
    | some v => (i, v) :: kept tm l
    | none => kept tm l
noncomputable def rbase : List (Nat × V) := kept (getS ripC).tm [2, 3, 4, 5, 6, 7]
noncomputable def rstp (j : Nat) (l : List (Nat × V)) : Option (V × List Reg × Bool × List Bool × List Bool) :=
  stepOp (sx Try.prog Mr 1000000) Try.prog Mr (slots l) rhp rhp.length [] [] (ropN j).op
noncomputable def valO (r : Option (V × List Reg × Bool × List Bool × List Bool)) : V :=
  match r with
  | some (v, _, _, _, _) => v
  | none => .un
def okQ (r : Option (V × List Reg × Bool × List Bool × List Bool)) : Bool :=
  match r with
  | some (_, _, false, [], []) => true
  | _ => false
noncomputable def rv0 : V := valO (rstp 0 rbase)
noncomputable def rv1 : V := valO (rstp 1 rbase)
noncomputable def rv2 : V := valO (rstp 2 rbase)
noncomputable def rv3 : V := valO (rstp 3 [(45, rv0), (46, rv1), (47, rv2)])
theorem q0 : rstp 0 rbase = some (rv0, rhp, false, [], []) := by kernel_rfl
theorem q1 : rstp 1 rbase = some (rv1, rhp, false, [], []) := by kernel_rfl
theorem q2 : rstp 2 rbase = some (rv2, rhp, false, [], []) := by kernel_rfl
theorem q3 : rstp 3 [(45, rv0), (46, rv1), (47, rv2)] = some (rv3, rhp, false, [], []) := by kernel_rfl
end Go.Proofs.Sx
/- RIPEMD-160 of no bytes: the region's edges and other operations. -/
namespace Go.Proofs.Sx
open Go
theorem rshape : nthC ripI 3 = .region (regId (nthC ripI 3)) ropsA true := by kernel_rfl
def all2B (n : Nat) (f : Nat → Bool) : Bool := (List.range' 0 n).all f
theorem re10 : ([0, 1, 2, 3, 7, 8, 9] : List Nat).all (fun d => edgeB ropsA 10 d) = true := by kernel_rfl
theorem re7 : ([4, 5, 6] : List Nat).all (fun d => edgeB ropsA 7 d) = true := by kernel_rfl
theorem re11 : (List.range' 0 11).all (fun d => edgeB ropsA 11 d) = true := by kernel_rfl
theorem rdown : (List.range' 0 12).all (fun d => downB ropsA d) = true := by kernel_rfl
theorem rsize : ropsA.size = 12 := by kernel_rfl
end Go.Proofs.Sx
/- RIPEMD-160 of no bytes: the region's other facts. -/
namespace Go.Proofs.Sx
open Go
noncomputable def rv4 : V := valO (rstp 4 rbase)
noncomputable def rv5 : V := valO (rstp 5 rbase)
noncomputable def rv6 : V := valO (rstp 6 rbase)
noncomputable def rv7 : V := valO (rstp 7 [(49, rv4), (50, rv5), (51, rv6)])
theorem q4 : rstp 4 rbase = some (rv4, rhp, false, [], []) := by kernel_rfl
theorem q5 : rstp 5 rbase = some (rv5, rhp, false, [], []) := by kernel_rfl
theorem q6 : rstp 6 rbase = some (rv6, rhp, false, [], []) := by kernel_rfl
theorem q7 : rstp 7 [(49, rv4), (50, rv5), (51, rv6)] = some (rv7, rhp, false, [], []) := by kernel_rfl
end Go.Proofs.Sx
/- RIPEMD-160 of no bytes: the region, whole. -/
namespace Go.Proofs.Sx
open Go
noncomputable def rzc : List C := (zeroV Try.prog 70).getD []
noncomputable def rlf : List (Nat × V) := (48, rv3) :: (52, rv7) :: (10, .one (.pt rhp.length 0)) :: (11, .one (.pt (rhp.length + 1) 0)) :: rbase
noncomputable def rsto (j : Nat) (hp : List Reg) : Option (V × List Reg × Bool × List Bool × List Bool) :=
  stepOp (sx Try.prog Mr 1000000) Try.prog Mr (slots rlf) hp 0 [] [] (ropN j).op
noncomputable def hpO (r : Option (V × List Reg × Bool × List Bool × List Bool)) : List Reg :=
  match r with
  | some (_, hp, _, _, _) => hp
  | none => []
noncomputable def rhp9 : List Reg := rhp ++ [.own 70 rzc] ++ [.own 70 rzc]
noncomputable def rhp10 : List Reg := hpO (rsto 10 rhp9)
noncomputable def rhp11 : List Reg := hpO (rsto 11 rhp10)
theorem rz : zeroV Try.prog 70 = some rzc := by kernel_rfl
theorem rzp : plains rzc = true := by kernel_rfl
theorem q10 : rsto 10 rhp9 = some (valO (rsto 10 rhp9), rhp10, false, [], []) := by kernel_rfl
theorem q11 : rsto 11 rhp10 = some (valO (rsto 11 rhp10), rhp11, false, [], []) := by kernel_rfl
end Go.Proofs.Sx
/- RIPEMD-160 of no bytes: the region of the two lines does what is reckoned, in every order. -/
namespace Go.Proofs.Sx
open Go

theorem kept_get {tm : T} : ∀ {l : List Nat} {p : Nat × V}, p ∈ kept tm l → tm.get p.1 = some p.2
  | [], _, h => by cases h
  | i :: l, p, h => by
    simp only [kept] at h
    split at h
    · rename_i v hv
      rcases List.mem_cons.1 h with rfl | h
      · exact hv
      · exact kept_get h
    · exact kept_get h
theorem DoesL.kept {P : Program} {l : List Code} {s s1 : St} {e : Ex} (h : DoesL P l s e s1) (ks : List Nat) (ob ds : List Bool) : DoesL P l s e ⟨slots (kept s1.tm ks), s1.hp, true, s1.n, s1.base, ob, ds⟩ :=
  fun B w0 wc E a w Q hR hQ => h B w0 wc E a w Q hR fun E1 a1 w1 hE hR1 => hQ E1 a1 w1 hE ⟨⟨hR1.tr.defers, hR1.tr.size, fun i x hx => hR1.tr.at_ i x (kept_get (slots_get _ _ _ hx))⟩, hR1.hr, fun h => by cases h⟩

theorem rbase_eq : rbase = [(2, .one (.pt 0 0)), (3, .one (.pt 1 0)), (4, .one (.pt 2 0)), (5, .one (.pt 3 0)), (6, .one (.dy 132)), (7, .one (.pt 133 0))] := by kernel_rfl
theorem ropN_at {j : Nat} (h : j < 12) : ropsA[j]? = some (ropN j) := by
  unfold ropN
  have h1 : j < ropsA.size := by rw [rsize]; exact h
  rw [Array.getElem?_eq_getElem h1]
  rfl
noncomputable def plainOp (j d : Nat) : Bool :=
  match (ropN j).guard, (ropN j).dst with
  | none, some e => Nat.beq e d
  | _, _ => false
noncomputable def bareOp (j : Nat) : Bool :=
  match (ropN j).guard, (ropN j).dst with
  | none, none => true
  | _, _ => false
theorem plainOp_is {j d : Nat} (h : plainOp j d = true) : (ropN j).guard = none ∧ (ropN j).dst = some d := by
  unfold plainOp at h
  split at h
  · rename_i e h1 h2
    exact ⟨h1, by rw [h2, Nat.eq_of_beq_eq_true h]⟩
  · cases h
theorem bareOp_is {j : Nat} (h : bareOp j = true) : (ropN j).guard = none ∧ (ropN j).dst = none := by
  unfold bareOp at h
  split at h
  · rename_i h1 h2
    exact ⟨h1, h2⟩
  · cases h
theorem rp8 : (List.range' 0 8).all (fun j => plainOp j (45 + j)) = true := by kernel_rfl
theorem ro8 : plainOp 8 10 = true := by kernel_rfl
theorem ro9 : plainOp 9 11 = true := by kernel_rfl
theorem ro10 : bareOp 10 = true := by kernel_rfl
theorem ro11 : bareOp 11 = true := by kernel_rfl
theorem rop8 : (ropN 8).op = .alloc 70 := by kernel_rfl
theorem rop9 : (ropN 9).op = .alloc 70 := by kernel_rfl
theorem re3 : ([0, 1, 2] : List Nat).all (fun d => edgeB ropsA 3 d) = true := by kernel_rfl

noncomputable def rval : Nat → V
  | 0 => rv0
  | 1 => rv1
  | 2 => rv2
  | 3 => rv3
  | 4 => rv4
  | 5 => rv5
  | 6 => rv6
  | _ => rv7
noncomputable def rl : Nat → List (Nat × V)
  | 3 => [(45, rv0), (46, rv1), (47, rv2)]
  | 7 => [(49, rv4), (50, rv5), (51, rv6)]
  | _ => rbase

theorem rl_else {j : Nat} (h3 : j ≠ 3) (h7 : j ≠ 7) : rl j = rbase := by
  unfold rl
  split
  · exact absurd rfl h3
  · exact absurd rfl h7
  · rfl
theorem mem3 {α : Type} {p a b c : α} (h : p ∈ [a, b, c]) : p = a ∨ p = b ∨ p = c := by
  simpa only [List.mem_cons, List.not_mem_nil, or_false] using h

theorem rq (j : Nat) (hj : j < 8) : stepOp (sx Try.prog Mr 1000000) Try.prog Mr (slots (rl j)) rhp rhp.length [] [] (ropN j).op = some (rval j, rhp, false, [], []) := by
  match j, hj with
  | 0, _ => exact q0
  | 1, _ => exact q1
  | 2, _ => exact q2
  | 3, _ => exact q3
  | 4, _ => exact q4
  | 5, _ => exact q5
  | 6, _ => exact q6
  | 7, _ => exact q7

theorem ripReg (chg : Bool) (ob ds : List Bool) : Does Try.prog (nthC ripI 3) ⟨slots rbase, rhp, chg, 110, 0, ob, ds⟩ .normal ⟨slots rlf, rhp11, true, 110, 0, [], []⟩ := by
  rw [rshape]
  refine region_two (zc := rzc) (t := 70) (hp10 := rhp10) (c10 := false) (c11 := false) (x10 := valO (rsto 10 rhp9)) (x11 := valO (rsto 11 rhp10)) (l := rl) (val := rval) fol (sx_sound fol knownr 1000000) knownr rsize ?_ ?_ ?_ ?_ ?_ ?_ ?_ ?_ ?_ rz rzp (by decide) ?_ ?_ ?_
  · intro j hj
    obtain ⟨h1, h2⟩ := plainOp_is (List.all_eq_true.1 rp8 j (by simp; omega))
    exact ⟨_, ropN_at (by omega), h1, h2, rq j hj⟩
  · intro j hj p hp
    have e3 : ∀ d, d < 3 → edgeB ropsA 3 d = true := fun d hd => List.all_eq_true.1 re3 d (by simp; omega)
    have e7 : ∀ d, 4 ≤ d → d < 7 → edgeB ropsA 7 d = true := fun d hd hd' => List.all_eq_true.1 re7 d (by simp; omega)
    by_cases h3 : j = 3
    · subst h3
      have hp' : p ∈ [(45, rv0), (46, rv1), (47, rv2)] := hp
      refine .inr ?_
      rcases mem3 hp' with rfl | rfl | rfl
      · exact ⟨0, by decide, e3 0 (by decide), rfl⟩
      · exact ⟨1, by decide, e3 1 (by decide), rfl⟩
      · exact ⟨2, by decide, e3 2 (by decide), rfl⟩
    · by_cases h7 : j = 7
      · subst h7
        have hp' : p ∈ [(49, rv4), (50, rv5), (51, rv6)] := hp
        refine .inr ?_
        rcases mem3 hp' with rfl | rfl | rfl
        · exact ⟨4, by decide, e7 4 (by decide) (by decide), rfl⟩
        · exact ⟨5, by decide, e7 5 (by decide) (by decide), rfl⟩
        · exact ⟨6, by decide, e7 6 (by decide) (by decide), rfl⟩
      · rw [rl_else h3 h7] at hp
        exact .inl hp
  · exact ⟨_, ropN_at (by decide), (plainOp_is ro8).1, (plainOp_is ro8).2, rop8⟩
  · exact ⟨_, ropN_at (by decide), (plainOp_is ro9).1, (plainOp_is ro9).2, rop9⟩
  · exact ⟨_, ropN_at (by decide), (bareOp_is ro10).1, (bareOp_is ro10).2, q10⟩
  · exact ⟨_, ropN_at (by decide), (bareOp_is ro11).1, (bareOp_is ro11).2, q11⟩
  · intro d hd
    have h10 : ∀ d, d < 4 ∨ 7 ≤ d ∧ d < 10 → edgeB ropsA 10 d = true := fun d hd => List.all_eq_true.1 re10 d (by simp; omega)
    by_cases h : d < 4 ∨ 7 ≤ d ∧ d < 10
    · exact .inl (h10 d h)
    · exact .inr ⟨7, by decide, h10 7 (by decide), List.all_eq_true.1 re7 d (by simp; omega)⟩
  · exact fun d hd => List.all_eq_true.1 re11 d (by simp; omega)
  · exact fun d hd => List.all_eq_true.1 rdown d (by simp; omega)
  · intro p hp
    rw [rbase_eq] at hp
    simp only [List.mem_cons, List.not_mem_nil, or_false] at hp
    rcases hp with rfl | rfl | rfl | rfl | rfl | rfl <;> decide
  · intro p hp
    rw [rbase_eq] at hp ⊢
    simp only [List.mem_cons, List.not_mem_nil, or_false] at hp
    rcases hp with rfl | rfl | rfl | rfl | rfl | rfl <;> kernel_rfl
  · intro p hp
    unfold rlf at hp
    rcases List.mem_cons.1 hp with rfl | hp
    · exact .inr (.inl ⟨3, by decide, rfl⟩)
    rcases List.mem_cons.1 hp with rfl | hp
    · exact .inr (.inl ⟨7, by decide, rfl⟩)
    rcases List.mem_cons.1 hp with rfl | hp
    · exact .inr (.inr (.inl rfl))
    rcases List.mem_cons.1 hp with rfl | hp
    · exact .inr (.inr (.inr rfl))
    exact .inl hp
end Go.Proofs.Sx
/- RIPEMD-160 of no bytes, whole. -/
namespace Go.Proofs.Sx
open Go

noncomputable def ripR : St := ⟨slots rlf, rhp11, true, 110, 0, [], [false]⟩
noncomputable def ripD : Option (Ex × St) := sxs Try.prog Mr 1000000 (dropC 4 ripI) ripR
noncomputable def ripE : Option (Ex × St) := sxs Try.prog Mr 1000000 (dropC 3 rip4) (getS ripD)
noncomputable def ripF : Option (Ex × St) := sxs Try.prog Mr 1000000 [inLoop (nthC (rowOf Try.prog 19) 4)] (getS ripE)
noncomputable def ripG : Option (Ex × St) := sxs Try.prog Mr 1000000 (dropC 5 (rowOf Try.prog 19)) (getS ripF)
def exId : Option (Ex × St) → Nat
  | some (.exit i, _) => i
  | _ => 0
def isX (i : Nat) : Option (Ex × St) → Bool
  | some (.exit j, _) => Nat.beq i j
  | _ => false
def isRet : Option (Ex × St) → Bool
  | some (.ret, _) => true
  | _ => false
theorem isX_is {i : Nat} {r : Option (Ex × St)} (h : isX i r = true) : r = some (.exit i, getS r) := by
  unfold isX at h
  split at h
  · rw [Nat.eq_of_beq_eq_true h]; rfl
  · cases h
theorem isRet_is {r : Option (Ex × St)} (h : isRet r = true) : r = some (.ret, getS r) := by
  unfold isRet at h
  split at h
  · rfl
  · cases h
def blkId : Code → Nat
  | .block id _ => id
  | _ => 0
noncomputable def ripV : Option V := resV Try.prog (fnOf Try.prog 19).results.toList (getS ripG).tm (getS ripG).hp
noncomputable def figB2 : List C → List Nat → Bool
  | [], [] => true
  | .w8 x :: cs, m :: l => match Nat.beq x.toNat m with
    | true => figB2 cs l
    | false => false
  | _, _ => false
noncomputable def figV2 (r : Option V) (l : List Nat) : Bool :=
  match r with
  | some (.ag cs) => figB2 cs l
  | _ => false
def rip0 : List Nat := [156, 17, 133, 165, 197, 233, 252, 84, 97, 40, 8, 151, 126, 232, 245, 72, 178, 37, 141, 49]
theorem figB2_is : ∀ {cs : List C} {l : List Nat}, figB2 cs l = true → cs = toB l
  | [], [], _ => rfl
  | [], _ :: _, h => by cases h
  | c :: cs, l, h => by
    cases c with
    | w8 y =>
      cases l with
      | nil => cases h
      | cons m l =>
        simp only [figB2] at h
        split at h
        · rename_i hb
          have := Nat.eq_of_beq_eq_true hb
          rw [figB2_is h, ← this]
          simp [toB]
        · cases h
    | _ => cases h
theorem figV2_is {r : Option V} {l : List Nat} (h : figV2 r l = true) : r = some (.ag (toB l)) := by
  unfold figV2 at h
  split at h
  · rw [figB2_is h]
  · cases h
noncomputable def ripChk : Bool := match isN ripD with
  | false => false
  | true => match isN ripE with
    | false => false
    | true => match isX (blkId (nthC (rowOf Try.prog 19) 4)) ripF with
      | false => false
      | true => match isRet ripG with
        | false => false
        | true => match allB (getS ripG).ob with
          | false => false
          | true => figV2 ripV rip0
set_option maxRecDepth 100000 in
theorem ripChk_t : ripChk = true := by kernel_rfl
theorem ripChk_is (h : ripChk = true) : isN ripD = true ∧ isN ripE = true ∧ isX (blkId (nthC (rowOf Try.prog 19) 4)) ripF = true ∧ isRet ripG = true ∧ allB (getS ripG).ob = true ∧ figV2 ripV rip0 = true := by
  unfold ripChk at h
  split at h
  · cases h
  · rename_i h1
    split at h
    · cases h
    · rename_i h2
      split at h
      · cases h
      · rename_i h3
        split at h
        · cases h
        · rename_i h4
          split at h
          · cases h
          · rename_i h5
            exact ⟨h1, h2, h3, h4, h5, h⟩
noncomputable def ripCk2 : Bool := match allB (getS ripC).ob with
  | false => false
  | true => match Nat.beq (getS ripC).n 110 with
    | false => false
    | true => Nat.beq (getS ripC).base 0
theorem ripCk2_t : ripCk2 = true := by kernel_rfl
theorem ripCk2_is (h : ripCk2 = true) : allB (getS ripC).ob = true ∧ Nat.beq (getS ripC).n 110 = true ∧ Nat.beq (getS ripC).base 0 = true := by
  unfold ripCk2 at h
  split at h
  · cases h
  · rename_i h1
    split at h
    · cases h
    · rename_i h2
      exact ⟨h1, h2, h⟩
end Go.Proofs.Sx
/- RIPEMD-160 of no bytes: what the call hands back. -/
namespace Go.Proofs.Sx
open Go
theorem row19 : Nat.blt 4 (lenL (rowOf Try.prog 19)) = true := by kernel_rfl
theorem row19b : nthC (rowOf Try.prog 19) 4 = .block (blkId (nthC (rowOf Try.prog 19) 4)) (.loop (inLoop (nthC (rowOf Try.prog 19) 4))) := by kernel_rfl
theorem rip4b : nthC rip4 2 = .block (blkId (nthC rip4 2)) (inBlock (nthC rip4 2)) := by kernel_rfl
theorem rip4l : Nat.blt 2 (lenL rip4) = true := by kernel_rfl
theorem ripIl : Nat.blt 3 (lenL ripI) = true := by kernel_rfl
theorem code19 : hasCode Try.prog 19 = true := by kernel_rfl
theorem tmps19 : Nat.beq (fnOf Try.prog 19).ntmps 110 = true := by kernel_rfl

noncomputable def ripSt : Nat → St
  | 0 => getS ripA
  | _ + 1 => getS ripE
theorem runs19n (hp : List Reg) : Runs Try.prog 19 [.one .nl] hp (.ag (toB rip0)) hp false := by
  obtain ⟨ripD_n, ripE_n, ripF_x, ripG_r, ripG_ob, ripV_fig⟩ := ripChk_is ripChk_t
  obtain ⟨ripC_ob, ripC_n0, ripC_b0⟩ := ripCk2_is ripCk2_t
  have A : Good ripS0 (getS ripA) ∧ (AllT (getS ripA).ob → DoesL Try.prog (takeC 4 (rowOf Try.prog 19)) ripS0 .normal (getS ripA)) := sxs_sound fol knownr (isN_is ripA_n)
  have B : Good (getS ripA) (getS ripB) ∧ (AllT (getS ripB).ob → DoesL Try.prog (takeC 2 rip4) (getS ripA) .normal (getS ripB)) := sxs_sound fol knownr (isN_is ripB_n)
  have C : Good (getS ripB) (getS ripC) ∧ (AllT (getS ripC).ob → DoesL Try.prog (takeC 3 ripI) (getS ripB) .normal (getS ripC)) := sxs_sound fol knownr (isN_is ripC_n)
  have D : Good ripR (getS ripD) ∧ (AllT (getS ripD).ob → DoesL Try.prog (dropC 4 ripI) ripR .normal (getS ripD)) := sxs_sound fol knownr (isN_is ripD_n)
  have Ee : Good (getS ripD) (getS ripE) ∧ (AllT (getS ripE).ob → DoesL Try.prog (dropC 3 rip4) (getS ripD) .normal (getS ripE)) := sxs_sound fol knownr (isN_is ripE_n)
  have F : Good (getS ripE) (getS ripF) ∧ (AllT (getS ripF).ob → DoesL Try.prog [inLoop (nthC (rowOf Try.prog 19) 4)] (getS ripE) (.exit (blkId (nthC (rowOf Try.prog 19) 4))) (getS ripF)) := sxs_sound fol knownr (isX_is ripF_x)
  have G : Good (getS ripF) (getS ripG) ∧ (AllT (getS ripG).ob → DoesL Try.prog (dropC 5 (rowOf Try.prog 19)) (getS ripF) .ret (getS ripG)) := sxs_sound fol knownr (isRet_is ripG_r)
  have obC := allB_is ripC_ob
  have obG := allB_is ripG_ob
  have hA := A.2 (B.1.ob (C.1.ob obC))
  have hB := B.2 (C.1.ob obC)
  have hC := C.2 obC
  have hC' : DoesL Try.prog (takeC 3 ripI) (getS ripB) .normal ⟨slots rbase, rhp, true, 110, 0, [], []⟩ := by
    have := hC.kept [2, 3, 4, 5, 6, 7] [] []
    rw [Nat.eq_of_beq_eq_true ripC_n0, Nat.eq_of_beq_eq_true ripC_b0] at this
    exact this
  have hR : Does Try.prog (nthC ripI 3) ⟨slots rbase, rhp, true, 110, 0, [], []⟩ .normal ripR := DoesL.one (DoesL.free (ripReg true [] []).toL)
  have hI : Does Try.prog (nthC rip4 2) (getS ripB) .normal (getS ripD) := by
    rw [rip4b]
    refine Does.block (Does.ofL ?_)
    have hl := parts3 3 ripI (Nat.le_of_ble_eq_true ripIl)
    show DoesL Try.prog ripI _ _ _
    rw [← hl]
    exact hC'.append (DoesL.cons hR (D.2 (Ee.1.ob (F.1.ob (G.1.ob obG)))))
  have hL : Does Try.prog (inLoop (nthC (rowOf Try.prog 19) 4)) (getS ripA) .normal (getS ripE) := by
    refine Does.ofL ?_
    have hl := parts3 2 rip4 (Nat.le_of_ble_eq_true rip4l)
    show DoesL Try.prog rip4 _ _ _
    rw [← hl]
    exact hB.append (DoesL.cons hI (Ee.2 (F.1.ob (G.1.ob obG))))
  have hd : DoesL Try.prog (rowOf Try.prog 19) ripS0 .ret (getS ripG) := by
    have e0 : ripSt 0 = getS ripA := rfl
    have e1 : ripSt 1 = getS ripE := rfl
    have hF := F.2 (G.1.ob obG)
    have hG := G.2 obG
    rw [← e0] at hA
    rw [← e1] at hF
    have hb : ∀ i, i < 1 → DoesL Try.prog [inLoop (nthC (rowOf Try.prog 19) 4)] (ripSt i) .normal (ripSt (i + 1)) := by
      intro i hi
      obtain rfl : i = 0 := by omega
      rw [e0, e1]
      exact hL.toL
    exact DoesL.three (N := 1) (s := ripSt) (Nat.le_of_ble_eq_true row19) row19b hA hb hF hG
  have hbase : (getS ripG).base = 0 := by rw [G.1.base, F.1.base, Ee.1.base, D.1.base]; rfl
  have := runs_of (vs := [.one .nl]) (hp := []) code19 (.inr rfl) (n := 110) (by rw [Nat.eq_of_beq_eq_true tmps19]; rfl) hd (figV2_is ripV_fig) hbase
  exact Runs.plain this rfl (by simp only [V.plain, toB_plain]) hp
end Go.Proofs.Sx
