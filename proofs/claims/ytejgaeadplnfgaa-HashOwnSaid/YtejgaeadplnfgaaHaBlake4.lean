/- Blake: the program's and the reference's function hand back the same words. -/
import Derived.Test.YtejgaeadplnfgaaHaBlake3
namespace Go.Proofs.Sx
open Go

theorem gL_len (f : Sum3) (v : List W) (a b c d : Nat) (x y : W) : (gL f v a b c d x y).length = v.length := by simp [gL, putW_len]
theorem rndB_len (s : List Nat) (m v : List W) : (rndB s m v).length = v.length := by simp [rndB, stepB, gL_len]

/-- the words behind so many rounds -/
def afterB (m v : List W) : Nat → List W
  | 0 => v
  | i + 1 => rndB (rowB (i % 10)) m (afterB m v i)
theorem afterB_len (m v : List W) : ∀ i, (afterB m v i).length = v.length
  | 0 => rfl
  | i + 1 => by rw [afterB, rndB_len, afterB_len m v i]

def blakeB (n : Nat) (h m t : Nat → W) (fin : Bool) : List W := endB (lst h 0 8) (afterB (lst m 0 16) (startB h t fin) n)

theorem cnt {n : BitVec 32} {i : Nat} (h : i < n.toNat) : (BitVec.ofNat 32 i).toNat = i := by
  rw [BitVec.toNat_ofNat]
  have := n.isLt
  omega
theorem owedB {n : BitVec 32} {i : Nat} (h : i < n.toNat) : AllT [BitVec.ofNat 32 i % BitVec.ofNat 32 10 == BitVec.ofNat 32 (i % 10), Nat.blt (BitVec.ofNat 32 i).toNat n.toNat] := by
  refine AllT.cons ?_ (AllT.cons ?_ AllT.nil)
  · rw [beq_iff_eq]
    apply BitVec.eq_of_toNat_eq
    have e : (BitVec.ofNat 32 10).toNat = 10 := rfl
    rw [BitVec.toNat_umod, cnt h, e, BitVec.toNat_ofNat, Nat.mod_eq_of_lt (a := i % 10) (b := 2 ^ 32) (by omega)]
  · rw [cnt h]
    exact Nat.ble_eq_true_of_le h
theorem owedX (n : BitVec 32) : AllT [!(Nat.blt (BitVec.ofNat 32 n.toNat).toNat n.toNat)] := by
  refine AllT.cons ?_ AllT.nil
  rw [BitVec.ofNat_toNat, BitVec.setWidth_eq]
  have : Nat.blt n.toNat n.toNat = false := by
    cases h : Nat.blt n.toNat n.toNat with
    | false => rfl
    | true => have : n.toNat < n.toNat := Nat.le_of_ble_eq_true h; omega
  rw [this]
  rfl

theorem len11 : lenL (rowOf Try.prog 11) = 15 := by kernel_rfl
theorem at11 : nthC (rowOf Try.prog 11) 10 = .block 0 (.loop (inLoop (nthC (rowOf Try.prog 11) 10))) := by kernel_rfl
theorem code11 : hasCode Try.prog 11 = true := by kernel_rfl
theorem tmps11 : (fnOf Try.prog 11).ntmps = 112 := by kernel_rfl
theorem len12 : lenL (rowOf Try.prog 12) = 15 := by kernel_rfl
theorem at12 : nthC (rowOf Try.prog 12) 10 = .block 2 (.loop (inLoop (nthC (rowOf Try.prog 12) 10))) := by kernel_rfl
theorem code12 : hasCode Try.prog 12 = true := by kernel_rfl
theorem tmps12 : (fnOf Try.prog 12).ntmps = 137 := by kernel_rfl

theorem runs11 (n : BitVec 32) (h m t : Nat → W) (fin : Bool) (hp : List Reg) :
    Runs Try.prog 11 [.one (.w32 n), .ag (toC (lst h 0 8)), .ag (toC (lst m 0 16)), .ag (toC (lst t 0 2)), .one (.bl fin)] hp (.ag (toC (blakeB n.toNat h m t fin))) hp false := by
  have vl : ∀ i, afterB (lst m 0 16) (startB h t fin) i = lst (nthW (afterB (lst m 0 16) (startB h t fin) i)) 0 16 := fun i => eq_lst (afterB_len _ _ i)
  refine runs_loop (M := M3) fol known3 (k := 10) (id := 0) (N := n.toNat) (n := 112) (fuel := 1000000) (b := inLoop (nthC (rowOf Try.prog 11) 10)) (s0 := st0P n h m t fin)
    (s := fun i => stP n (BitVec.ofNat 32 i) h m t zW (afterB (lst m 0 16) (startB h t fin) i) [] []) (s2 := stP n (BitVec.ofNat 32 n.toNat) h m t zW (afterB (lst m 0 16) (startB h t fin) n.toNat) [] [])
    code11 (by rw [len11]; omega) at11 (by rw [tmps11]; rfl) rfl ?_ (fun i hi => ?_) ?_ rfl ?_ ?_ (by simp only [V.plain, toC_plain]) hp
  · cases fin
    · exact (sxc_sound fol known3 (f11af n h m t) AllT.nil).spoil
    · exact (sxc_sound fol known3 (f11at n h m t) AllT.nil).spoil
  · have hf := map_at (f11r n (BitVec.ofNat 32 i) h m t zW (nthW (afterB (lst m 0 16) (startB h t fin) i))) (a := i % 10) (by simp; omega)
    simp only [roundP, roundPr] at hf
    rw [← vl i] at hf
    have := (sxc_sound fol known3 hf (owedB hi)).bare
    simp only [St.bare, stP, afterB] at this ⊢
    rw [BitVec.ofNat_add]
    exact this
  · have hf := f11o n (BitVec.ofNat 32 n.toNat) h m t zW (nthW (afterB (lst m 0 16) (startB h t fin) n.toNat))
    simp only [outP] at hf
    rw [← vl n.toNat] at hf
    exact (sxc_sound fol known3 hf (owedX n)).bare
  · have hf := f11z n (BitVec.ofNat 32 n.toNat) h m t zW (nthW (afterB (lst m 0 16) (startB h t fin) n.toNat))
    rw [← vl n.toNat] at hf
    exact hf
  · simp only [plainV, V.plain, C.plain, toC_plain]

theorem runs12 (n : BitVec 32) (h m t : Nat → W) (fin : Bool) (hp : List Reg) :
    Runs Try.prog 12 [.one (.w32 n), .ag (toC (lst h 0 8)), .ag (toC (lst m 0 16)), .ag (toC (lst t 0 2)), .one (.bl fin)] hp (.ag (toC (blakeB n.toNat h m t fin))) hp false := by
  have vl : ∀ i, afterB (lst m 0 16) (startB h t fin) i = lst (nthW (afterB (lst m 0 16) (startB h t fin) i)) 0 16 := fun i => eq_lst (afterB_len _ _ i)
  refine runs_loop (M := M3) fol known3 (k := 10) (id := 2) (N := n.toNat) (n := 137) (fuel := 1000000) (b := inLoop (nthC (rowOf Try.prog 12) 10)) (s0 := st0R n h m t fin)
    (s := fun i => stR n (BitVec.ofNat 32 i) h m t zW (afterB (lst m 0 16) (startB h t fin) i) [] []) (s2 := stR n (BitVec.ofNat 32 n.toNat) h m t zW (afterB (lst m 0 16) (startB h t fin) n.toNat) [] [])
    code12 (by rw [len12]; omega) at12 (by rw [tmps12]; rfl) rfl ?_ (fun i hi => ?_) ?_ rfl ?_ ?_ (by simp only [V.plain, toC_plain]) hp
  · cases fin
    · exact sxc_sound fol known3 (f12af n h m t) AllT.nil
    · exact sxc_sound fol known3 (f12at n h m t) AllT.nil
  · have hf := map_at (f12r n (BitVec.ofNat 32 i) h m t zW (nthW (afterB (lst m 0 16) (startB h t fin) i))) (a := i % 10) (by simp; omega)
    simp only [roundR, roundRr] at hf
    rw [← vl i] at hf
    have := (sxc_sound fol known3 hf (owedB hi)).bare
    simp only [St.bare, stR, afterB] at this ⊢
    rw [BitVec.ofNat_add]
    exact this
  · have hf := f12o n (BitVec.ofNat 32 n.toNat) h m t zW (nthW (afterB (lst m 0 16) (startB h t fin) n.toNat))
    simp only [outR] at hf
    rw [← vl n.toNat] at hf
    exact (sxc_sound fol known3 hf (owedX n)).bare
  · have hf := f12z n (BitVec.ofNat 32 n.toNat) h m t zW (nthW (afterB (lst m 0 16) (startB h t fin) n.toNat))
    rw [← vl n.toNat, endR_eq] at hf
    exact hf
  · simp only [plainV, V.plain, C.plain, toC_plain]
end Go.Proofs.Sx
