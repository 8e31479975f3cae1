/- The law on rounds of writes: the numbers in words. -/
import Derived.Test.YtinbeihbhnjjnaaGxRounds2
namespace Go.Proofs.Sx
open Go
theorem eqQ_iff {a b : Q} : eqQ a b = true ↔ a 0 = b 0 ∧ a 1 = b 1 ∧ a 2 = b 2 ∧ a 3 = b 3 := by simp [eqQ]
theorem zeroB_iff {a : Q} : zeroB a = true ↔ a 0 = 0#64 ∧ a 1 = 0#64 ∧ a 2 = 0#64 ∧ a 3 = 0#64 := by simp [zeroB]
theorem eqQ_h1 {o c n : Q} (h : eqQ c n = true) : eqQ o c = eqQ o n ∧ zeroB c = zeroB n := by
  obtain ⟨h0, h1, h2, h3⟩ := eqQ_iff.1 h
  unfold eqQ zeroB
  rw [h0, h1, h2, h3]
  exact ⟨rfl, rfl⟩
theorem eqQ_h2 {o c n : Q} (h : eqQ o c = true) : zeroB o = zeroB c ∧ eqQ o n = eqQ c n := by
  obtain ⟨h0, h1, h2, h3⟩ := eqQ_iff.1 h
  unfold eqQ zeroB
  rw [h0, h1, h2, h3]
  exact ⟨rfl, rfl⟩
theorem eqQ_comm (a b : Q) : eqQ a b = eqQ b a := by
  rw [Bool.eq_iff_iff, eqQ_iff, eqQ_iff]
  constructor <;> (rintro ⟨h0, h1, h2, h3⟩; exact ⟨h0.symm, h1.symm, h2.symm, h3.symm⟩)
theorem eqQ_h3 {o c n : Q} (h : eqQ o n = true) : zeroB o = zeroB n ∧ eqQ c n = eqQ o c := by
  obtain ⟨h0, h1, h2, h3⟩ := eqQ_iff.1 h
  refine ⟨by unfold zeroB; rw [h0, h1, h2, h3], ?_⟩
  rw [eqQ_comm c n]
  unfold eqQ
  rw [h0, h1, h2, h3]
theorem eqQ_z {a b : Q} (ha : zeroB a = true) (hb : zeroB b = true) : eqQ a b = true := by
  obtain ⟨h0, h1, h2, h3⟩ := zeroB_iff.1 ha
  obtain ⟨k0, k1, k2, k3⟩ := zeroB_iff.1 hb
  exact eqQ_iff.2 ⟨h0.trans k0.symm, h1.trans k1.symm, h2.trans k2.symm, h3.trans k3.symm⟩
theorem eqQ_refl (a : Q) : eqQ a a = true := eqQ_iff.2 ⟨rfl, rfl, rfl, rfl⟩

section
variable {r : Ru} (hf : 7 ≤ r.f) (hsb : (r.w 22).toNat ≤ 15000) (o c n : Q)
include hf
theorem plain_f : pB r = false ∧ e6B r = false ∧ i7B r = true := by
  refine ⟨blt_f.2 (by omega), ?_, Nat.ble_eq_true_of_le hf⟩
  unfold e6B
  rw [Bool.eq_false_iff]
  intro h
  have := Nat.eq_of_beq_eq_true h
  omega
omit hf in
theorem low_f : lowB (rdSto o c n) = false := by kernel_rfl
theorem stK_t : stK r (rdSto o c n) = true := by
  obtain ⟨h1, h2, h3⟩ := plain_f hf
  unfold stK
  rw [h1, h2, h3, low_f]
  rfl
theorem rX_nat : (rX r o c n).toNat = xN (b9B r) (eqQ c n) (eqQ o c) (zeroB o) := by
  obtain ⟨h1, h2, h3⟩ := plain_f hf
  have hcn : eqQ (rdSto o c n).c (rdSto o c n).n = eqQ c n := rfl
  have hoc : eqQ (rdSto o c n).o (rdSto o c n).c = eqQ o c := rfl
  have ho : zeroB (rdSto o c n).o = zeroB o := rfl
  have hw : (rdSto o c n).warm = true := rfl
  unfold rX stX stRead stChg stCold
  rw [h1, h2, h3, low_f, hcn, hoc, ho, hw]
  cases b9B r <;> cases eqQ c n <;> cases eqQ o c <;> cases zeroB o <;> rfl
include hsb
theorem rA_nat : (rA r o c n).toNat = aN (b9B r) (eqQ c n) (eqQ o c) (eqQ o n) (zeroB o) (zeroB c) (zeroB n) (r.w 22).toNat := by
  obtain ⟨h1, h2, h3⟩ := plain_f hf
  have hcn : eqQ (rdSto o c n).c (rdSto o c n).n = eqQ c n := rfl
  have hoc : eqQ (rdSto o c n).o (rdSto o c n).c = eqQ o c := rfl
  have hon : eqQ (rdSto o c n).o (rdSto o c n).n = eqQ o n := rfl
  have ho : zeroB (rdSto o c n).o = zeroB o := rfl
  have hc : zeroB (rdSto o c n).c = zeroB c := rfl
  have hn : zeroB (rdSto o c n).n = zeroB n := rfl
  unfold rA stA stA0 stRead stChg
  rw [h1, h2, h3, low_f, hcn, hoc, hon, ho, hc, hn]
  have add : ∀ (x : W) (k : Nat), k ≤ 20000 → x.toNat ≤ 15000 → (x + BitVec.ofNat 64 k).toNat = x.toNat + k := by
    intro x k hk hx
    rw [BitVec.toNat_add, BitVec.toNat_ofNat]
    omega
  have e1 : (20000#64 - 100#64 : W) = BitVec.ofNat 64 19900 := rfl
  have e2 : (20000#64 - 800#64 : W) = BitVec.ofNat 64 19200 := rfl
  have e3 : (2900#64 - 100#64 : W) = BitVec.ofNat 64 2800 := rfl
  have e4 : (5000#64 - 800#64 : W) = BitVec.ofNat 64 4200 := rfl
  have z : (0#64 : W).toNat ≤ 15000 := by decide
  have z0 : (0#64 : W).toNat = 0 := rfl
  have s3 := add (r.w 22) 2800 (by decide) hsb
  have s4 := add (r.w 22) 4200 (by decide) hsb
  have t1 := add 0#64 19900 (by decide) z
  have t2 := add 0#64 19200 (by decide) z
  have t3 := add 0#64 2800 (by decide) z
  have t4 := add 0#64 4200 (by decide) z
  rw [z0] at t1 t2 t3 t4
  generalize r.w 22 = x at *
  cases b9B r <;> cases eqQ c n <;> cases eqQ o c <;> cases eqQ o n <;> cases zeroB o <;> cases zeroB c <;> cases zeroB n <;>
    simp only [aN, a0N, cond_true, cond_false, Bool.or_false, Bool.and_false, Bool.and_true, Bool.not_true, Bool.not_false, e1, e2, e3, e4, s3, s4, t1, t2, t3, t4, z0, Nat.reduceSub, Nat.zero_add]
omit hsb in
theorem rD_nat : (rD r o c n).toNat = sN (eqQ c n) (eqQ o c) (zeroB o) (zeroB c) (r.w 22).toNat := by
  obtain ⟨h1, h2, h3⟩ := plain_f hf
  have hcn : eqQ (rdSto o c n).c (rdSto o c n).n = eqQ c n := rfl
  have hoc : eqQ (rdSto o c n).o (rdSto o c n).c = eqQ o c := rfl
  have ho : zeroB (rdSto o c n).o = zeroB o := rfl
  have hc : zeroB (rdSto o c n).c = zeroB c := rfl
  unfold rD stS
  rw [h1, h2, h3, low_f, hcn, hoc, ho, hc]
  cases eqQ c n <;> cases eqQ o c <;> cases zeroB o <;> cases zeroB c <;> rfl
end
theorem xN_le (b9 cn oc o0 : Bool) : xN b9 cn oc o0 ≤ 20000 := by cases b9 <;> cases cn <;> cases oc <;> cases o0 <;> decide
theorem aN_le (b9 cn oc on o0 c0 n0 : Bool) {sb : Nat} (h : sb ≤ 15000) : aN b9 cn oc on o0 c0 n0 sb ≤ 35000 := by
  cases b9 <;> cases cn <;> cases oc <;> cases on <;> cases o0 <;> cases c0 <;> cases n0 <;> simp [aN, a0N] <;> omega

section
variable (F : Nat → Q) (m : Nat) (r : Ru) (o : Q)
def nxS (i : Nat) : Q := if i < m then F i else o
def curS : Nat → Q
  | 0 => o
  | i + 1 => nxS F m o i
def costS : Nat → W
  | 0 => 0#64
  | i + 1 => costS i + rX r o (curS F m o i) (nxS F m o i)
def backS : Nat → W
  | 0 => 0#64
  | i + 1 => backS i + rA r o (curS F m o i) (nxS F m o i) - rD r o (curS F m o i) (nxS F m o i)
def cntS : Nat → W
  | 0 => 0#64
  | i + 1 => cntS i + 1#64
theorem cntS_nat : ∀ i, i ≤ 40 → (cntS i).toNat = i
  | 0, _ => rfl
  | i + 1, h => by
    have := cntS_nat i (by omega)
    simp only [cntS, BitVec.toNat_add, this, BitVec.toNat_ofNat]
    omega
def rdN (r : Ru) : Nat := bif b9B r then 100 else 800
/-- what holds ahead of a round -/
structure Inv (i : Nat) : Prop where
  cl : (costS F m r o i).toNat ≤ 20000 * i
  bl : (backS F m r o i).toNat ≤ 35000 * i
  hb : (bif !(eqQ o (curS F m o i)) && !(zeroB o) && zeroB (curS F m o i) then (r.w 22).toNat else 0) ≤ (backS F m r o i).toNat
  hd : ((costS F m r o i).toNat : Int) - (backS F m r o i).toNat = i * (rdN r : Nat) + dueI (b9B r) (eqQ o (curS F m o i)) (zeroB o) (zeroB (curS F m o i)) (r.w 22).toNat
theorem inv0 : Inv F m r o 0 := by
  refine ⟨Nat.zero_le _, Nat.zero_le _, ?_, ?_⟩
  · show (bif !(eqQ o o) && _ && _ then _ else _) ≤ _
    rw [eqQ_refl]
    exact Nat.zero_le _
  · show ((0#64 : W).toNat : Int) - ((0#64 : W).toNat : Int) = ((0 : Nat) : Int) * _ + dueI _ (eqQ o o) _ _ _
    rw [eqQ_refl]
    simp [dueI]
theorem inv_step {i : Nat} (hf : 7 ≤ r.f) (hsb : (r.w 22).toNat ≤ 15000) (hi : i ≤ 31) (h : Inv F m r o i) :
    Inv F m r o (i + 1) ∧ rLess r o (curS F m o i) (backS F m r o i) (nxS F m o i) = false := by
  have hX := rX_nat hf o (curS F m o i) (nxS F m o i)
  have hA := rA_nat hf hsb o (curS F m o i) (nxS F m o i)
  have hD := rD_nat hf o (curS F m o i) (nxS F m o i)
  have lX := xN_le (b9B r) (eqQ (curS F m o i) (nxS F m o i)) (eqQ o (curS F m o i)) (zeroB o)
  have lA := aN_le (b9B r) (eqQ (curS F m o i) (nxS F m o i)) (eqQ o (curS F m o i)) (eqQ o (nxS F m o i)) (zeroB o) (zeroB (curS F m o i)) (zeroB (nxS F m o i)) hsb
  obtain ⟨q1, q2, q3⟩ := round_law (b9B r) (eqQ (curS F m o i) (nxS F m o i)) (eqQ o (curS F m o i)) (eqQ o (nxS F m o i)) (zeroB o) (zeroB (curS F m o i)) (zeroB (nxS F m o i)) (r.w 22).toNat _ _ (rdN r) i
    eqQ_h1 (fun h => eqQ_h2 h) (fun h => eqQ_h3 h) eqQ_z eqQ_z eqQ_z rfl h.hb h.hd
  rw [← hX] at lX
  rw [← hA] at lA
  rw [← hA, ← hD] at q1 q2
  rw [← hX, ← hA, ← hD] at q3
  have hcl := h.cl
  have hbl := h.bl
  have eC : (costS F m r o (i + 1)).toNat = (costS F m r o i).toNat + (rX r o (curS F m o i) (nxS F m o i)).toNat := by
    simp only [costS, BitVec.toNat_add]
    omega
  have eS : (backS F m r o i + rA r o (curS F m o i) (nxS F m o i)).toNat = (backS F m r o i).toNat + (rA r o (curS F m o i) (nxS F m o i)).toNat := by
    rw [BitVec.toNat_add]
    omega
  have eB : (backS F m r o (i + 1)).toNat = (backS F m r o i).toNat + (rA r o (curS F m o i) (nxS F m o i)).toNat - (rD r o (curS F m o i) (nxS F m o i)).toNat := by
    have hle : rD r o (curS F m o i) (nxS F m o i) ≤ backS F m r o i + rA r o (curS F m o i) (nxS F m o i) := by
      rw [BitVec.le_def, eS]; exact q1
    simp only [backS]
    rw [BitVec.toNat_sub_of_le hle, eS]
  refine ⟨⟨by rw [eC]; omega, by rw [eB]; omega, by rw [eB]; exact q2, by rw [eC, eB]; exact q3⟩, ?_⟩
  unfold rLess
  rw [eS]
  exact blt_f.2 q1
theorem inv_all (hf : 7 ≤ r.f) (hsb : (r.w 22).toNat ≤ 15000) : ∀ i, i ≤ 32 → Inv F m r o i
  | 0, _ => inv0 F m r o
  | i + 1, h => (inv_step F m r o hf hsb (by omega) (inv_all hf hsb i (by omega))).1
end
end Go.Proofs.Sx
