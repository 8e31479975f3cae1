/- RIPEMD-160 of no bytes: what the call hands back. -/
import Derived.Test.YtejgaeadplnfgaaHaRip6
namespace Go.Proofs.Sx
open Go
theorem row19 : Nat.blt 4 (lenL (rowOf Try.prog 19)) = true := by kernel_rfl
theorem row19b : nthC (rowOf Try.prog 19) 4 = .block (blkId (nthC (rowOf Try.prog 19) 4)) (.loop (inLoop (nthC (rowOf Try.prog 19) 4))) := by kernel_rfl
theorem rip4b : nthC rip4 2 = .block (blkId (nthC rip4 2)) (inBlock (nthC rip4 2)) := by kernel_rfl
theorem rip4l : Nat.blt 2 (lenL rip4) = true := by kernel_rfl
theorem ripIl : Nat.blt 3 (lenL ripI) = true := by kernel_rfl
theorem code19 : hasCode Try.prog 19 = true := by kernel_rfl
theorem tmps19 : Nat.beq (fnOf Try.prog 19).ntmps 110 = true := by kernel_rfl

noncomputable def ripSt : Nat → St
  | 0 => getS ripA
  | _ + 1 => getS ripE
theorem runs19n (hp : List Reg) : Runs Try.prog 19 [.one .nl] hp (.ag (toB rip0)) hp false := by
  obtain ⟨ripD_n, ripE_n, ripF_x, ripG_r, ripG_ob, ripV_fig⟩ := ripChk_is ripChk_t
  obtain ⟨ripC_ob, ripC_n0, ripC_b0⟩ := ripCk2_is ripCk2_t
  have A : Good ripS0 (getS ripA) ∧ (AllT (getS ripA).ob → DoesL Try.prog (takeC 4 (rowOf Try.prog 19)) ripS0 .normal (getS ripA)) := sxs_sound fol knownr (isN_is ripA_n)
  have B : Good (getS ripA) (getS ripB) ∧ (AllT (getS ripB).ob → DoesL Try.prog (takeC 2 rip4) (getS ripA) .normal (getS ripB)) := sxs_sound fol knownr (isN_is ripB_n)
  have C : Good (getS ripB) (getS ripC) ∧ (AllT (getS ripC).ob → DoesL Try.prog (takeC 3 ripI) (getS ripB) .normal (getS ripC)) := sxs_sound fol knownr (isN_is ripC_n)
  have D : Good ripR (getS ripD) ∧ (AllT (getS ripD).ob → DoesL Try.prog (dropC 4 ripI) ripR .normal (getS ripD)) := sxs_sound fol knownr (isN_is ripD_n)
  have Ee : Good (getS ripD) (getS ripE) ∧ (AllT (getS ripE).ob → DoesL Try.prog (dropC 3 rip4) (getS ripD) .normal (getS ripE)) := sxs_sound fol knownr (isN_is ripE_n)
  have F : Good (getS ripE) (getS ripF) ∧ (AllT (getS ripF).ob → DoesL Try.prog [inLoop (nthC (rowOf Try.prog 19) 4)] (getS ripE) (.exit (blkId (nthC (rowOf Try.prog 19) 4))) (getS ripF)) := sxs_sound fol knownr (isX_is ripF_x)
  have G : Good (getS ripF) (getS ripG) ∧ (AllT (getS ripG).ob → DoesL Try.prog (dropC 5 (rowOf Try.prog 19)) (getS ripF) .ret (getS ripG)) := sxs_sound fol knownr (isRet_is ripG_r)
  have obC := allB_is ripC_ob
  have obG := allB_is ripG_ob
  have hA := A.2 (B.1.ob (C.1.ob obC))
  have hB := B.2 (C.1.ob obC)
  have hC := C.2 obC
  have hC' : DoesL Try.prog (takeC 3 ripI) (getS ripB) .normal ⟨slots rbase, rhp, true, 110, 0, [], []⟩ := by
    have := hC.kept [2, 3, 4, 5, 6, 7] [] []
    rw [Nat.eq_of_beq_eq_true ripC_n0, Nat.eq_of_beq_eq_true ripC_b0] at this
    exact this
  have hR : Does Try.prog (nthC ripI 3) ⟨slots rbase, rhp, true, 110, 0, [], []⟩ .normal ripR := DoesL.one (DoesL.free (ripReg true [] []).toL)
  have hI : Does Try.prog (nthC rip4 2) (getS ripB) .normal (getS ripD) := by
    rw [rip4b]
    refine Does.block (Does.ofL ?_)
    have hl := parts3 3 ripI (Nat.le_of_ble_eq_true ripIl)
    show DoesL Try.prog ripI _ _ _
    rw [← hl]
    exact hC'.append (DoesL.cons hR (D.2 (Ee.1.ob (F.1.ob (G.1.ob obG)))))
  have hL : Does Try.prog (inLoop (nthC (rowOf Try.prog 19) 4)) (getS ripA) .normal (getS ripE) := by
    refine Does.ofL ?_
    have hl := parts3 2 rip4 (Nat.le_of_ble_eq_true rip4l)
    show DoesL Try.prog rip4 _ _ _
    rw [← hl]
    exact hB.append (DoesL.cons hI (Ee.2 (F.1.ob (G.1.ob obG))))
  have hd : DoesL Try.prog (rowOf Try.prog 19) ripS0 .ret (getS ripG) := by
    have e0 : ripSt 0 = getS ripA := rfl
    have e1 : ripSt 1 = getS ripE := rfl
    have hF := F.2 (G.1.ob obG)
    have hG := G.2 obG
    rw [← e0] at hA
    rw [← e1] at hF
    have hb : ∀ i, i < 1 → DoesL Try.prog [inLoop (nthC (rowOf Try.prog 19) 4)] (ripSt i) .normal (ripSt (i + 1)) := by
      intro i hi
      obtain rfl : i = 0 := by omega
      rw [e0, e1]
      exact hL.toL
    exact DoesL.three (N := 1) (s := ripSt) (Nat.le_of_ble_eq_true row19) row19b hA hb hF hG
  have hbase : (getS ripG).base = 0 := by rw [G.1.base, F.1.base, Ee.1.base, D.1.base]; rfl
  have := runs_of (vs := [.one .nl]) (hp := []) code19 (.inr rfl) (n := 110) (by rw [Nat.eq_of_beq_eq_true tmps19]; rfl) hd (figV2_is ripV_fig) hbase
  exact Runs.plain this rfl (by simp only [V.plain, toB_plain]) hp
end Go.Proofs.Sx
