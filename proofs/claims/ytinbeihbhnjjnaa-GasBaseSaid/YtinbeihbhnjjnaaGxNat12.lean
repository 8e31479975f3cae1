/- Numbers in limbs: what they come to. -/
import Derived.Test.YtinbeihbhnjjnaaGxNat11
namespace Go.Proofs.Sx
open Go
set_option linter.unusedVariables false
theorem limb_is (w : W) (j : Nat) : limbE w j = (w >>> (8 * j)).setWidth 32 := by
  apply BitVec.eq_of_getLsbD_eq
  intro i hi
  simp only [limbE, byteE, BitVec.getLsbD_or, BitVec.getLsbD_shiftLeft, BitVec.getLsbD_setWidth, BitVec.getLsbD_ushiftRight, BitVec.getLsbD_zero, hi, decide_true, Bool.true_and, Bool.false_or]
  rcases Nat.lt_or_ge i 8 with h1 | h1
  · have e : i < 16 ∧ i < 24 := by omega
    simp [h1, e.1, e.2]
    intro; omega
  · rcases Nat.lt_or_ge i 16 with h2 | h2
    · have e : ¬ i < 8 ∧ i - 8 < 8 ∧ i < 24 ∧ 8 * (j + 1) + (i - 8) = 8 * j + i := by omega
      simp [e.1, e.2.1, e.2.2.1, e.2.2.2, h2]
      intro; omega
    · rcases Nat.lt_or_ge i 24 with h3 | h3
      · have e : ¬ i < 8 ∧ ¬ i < 16 ∧ ¬ i - 8 < 8 ∧ i - 16 < 8 ∧ 8 * (j + 2) + (i - 16) = 8 * j + i := by omega
        simp [e.1, e.2.1, e.2.2.1, e.2.2.2.1, e.2.2.2.2, h3]
        intro; omega
      · have e : ¬ i < 8 ∧ ¬ i < 16 ∧ ¬ i < 24 ∧ ¬ i - 8 < 8 ∧ ¬ i - 16 < 8 ∧ i - 24 < 8 ∧ 8 * (j + 3) + (i - 24) = 8 * j + i := by omega
        simp [e.1, e.2.1, e.2.2.1, e.2.2.2.1, e.2.2.2.2.1, e.2.2.2.2.2.1, e.2.2.2.2.2.2]
        intro; omega
theorem low_nat (w : W) : (w.setWidth 32 : BitVec 32).toNat = w.toNat % 4294967296 := by rw [BitVec.toNat_setWidth]
theorem high_nat (w : W) : ((w >>> 32).setWidth 32 : BitVec 32).toNat = w.toNat / 4294967296 := by
  have := w.isLt
  rw [BitVec.toNat_setWidth, BitVec.toNat_ushiftRight, Nat.shiftRight_eq_div_pow]
  omega
theorem limbs2 (w : W) (l : L32) : natL (limbE w 0 :: limbE w 4 :: l) = w.toNat + 18446744073709551616 * natL l := by
  show (limbE w 0).toNat + 4294967296 * ((limbE w 4).toNat + 4294967296 * natL l) = _
  rw [limb_is, limb_is]
  have e1 : w >>> (8 * 0) = w := by simp
  have e2 : w >>> (8 * 4) = w >>> 32 := rfl
  rw [e1, e2, low_nat, high_nat]
  omega
def valQ (a : Q) : Nat := (a 0).toNat + 18446744073709551616 * ((a 1).toNat + 18446744073709551616 * ((a 2).toNat + 18446744073709551616 * (a 3).toNat))
theorem nL_nat (a : Q) : natL (nL a) = valQ a := by
  unfold nL limbsE
  rw [trim_nat, limbs2, limbs2, limbs2, limbs2]
  simp only [natL, valQ]
  omega
theorem ofL_nat (x : W) : natL (ofL x) = x.toNat := by
  unfold ofL
  rw [trim_nat]
  simp only [natL]
  rw [low_nat, high_nat]
  omega
theorem addS_zero : ∀ n, natL (addS [] [] 0#64 n) = 0
  | 0 => by unfold addS; rfl
  | n + 1 => by
    have h := addS_zero n
    have e : addS [] [] 0#64 (n + 1) = (0#64).setWidth 32 :: addS [] [] (0#64 >>> 32) n := by simp [addS]
    rw [e]
    show ((0#64).setWidth 32 : BitVec 32).toNat + 4294967296 * natL (addS [] [] (0#64 >>> 32) n) = 0
    have e2 : (0#64 : BitVec 64) >>> 32 = 0#64 := rfl
    rw [e2, h]
    rfl
theorem wide_nat (x : BitVec 32) : (x.setWidth 64 : W).toNat = x.toNat := by
  have := x.isLt
  rw [BitVec.toNat_setWidth]
  omega
theorem shr32_nat (s : W) : (s >>> 32).toNat = s.toNat / 4294967296 := by
  rw [BitVec.toNat_ushiftRight, Nat.shiftRight_eq_div_pow]
theorem addS_nat : ∀ (n : Nat) (a b : L32) (c : W), a.length < n → b.length < n → c.toNat ≤ 2 → natL (addS a b c n) = natL a + natL b + c.toNat
  | 0, _, _, _, h, _, _ => by omega
  | n + 1, [], [], c, _, _, hc => by
    have e : addS [] [] c (n + 1) = c.setWidth 32 :: addS [] [] (c >>> 32) n := by simp [addS]
    have hz : c >>> 32 = 0#64 := by
      apply BitVec.eq_of_toNat_eq
      rw [shr32_nat]
      show c.toNat / 4294967296 = 0
      omega
    rw [e, hz]
    show (c.setWidth 32 : BitVec 32).toNat + 4294967296 * natL (addS [] [] 0#64 n) = 0 + 0 + c.toNat
    rw [addS_zero, low_nat]
    omega
  | n + 1, x :: a, [], c, ha, _, hc => by
    have e : addS (x :: a) [] c (n + 1) = (c + x.setWidth 64).setWidth 32 :: addS a [] ((c + x.setWidth 64) >>> 32) n := by simp [addS]
    have hx := x.isLt
    have hs : (c + x.setWidth 64).toNat = c.toNat + x.toNat := by rw [BitVec.toNat_add, wide_nat]; omega
    have hk : ((c + x.setWidth 64) >>> 32).toNat ≤ 2 := by rw [shr32_nat, hs]; omega
    have ha' : a.length < n := by simp at ha; omega
    have ih := addS_nat n a [] _ ha' (by show 0 < n; omega) hk
    rw [e]
    show ((c + x.setWidth 64).setWidth 32 : BitVec 32).toNat + 4294967296 * natL (addS a [] _ n) = x.toNat + 4294967296 * natL a + 0 + c.toNat
    rw [ih, low_nat, shr32_nat, hs]
    simp only [natL]
    omega
  | n + 1, [], y :: b, c, _, hb, hc => by
    have e : addS [] (y :: b) c (n + 1) = (c + y.setWidth 64).setWidth 32 :: addS [] b ((c + y.setWidth 64) >>> 32) n := by simp [addS]
    have hx := y.isLt
    have hs : (c + y.setWidth 64).toNat = c.toNat + y.toNat := by rw [BitVec.toNat_add, wide_nat]; omega
    have hk : ((c + y.setWidth 64) >>> 32).toNat ≤ 2 := by rw [shr32_nat, hs]; omega
    have hb' : b.length < n := by simp at hb; omega
    have ih := addS_nat n [] b _ (by show 0 < n; omega) hb' hk
    rw [e]
    show ((c + y.setWidth 64).setWidth 32 : BitVec 32).toNat + 4294967296 * natL (addS [] b _ n) = 0 + (y.toNat + 4294967296 * natL b) + c.toNat
    rw [ih, low_nat, shr32_nat, hs]
    simp only [natL]
    omega
  | n + 1, x :: a, y :: b, c, ha, hb, hc => by
    have e : addS (x :: a) (y :: b) c (n + 1) = (c + x.setWidth 64 + y.setWidth 64).setWidth 32 :: addS a b ((c + x.setWidth 64 + y.setWidth 64) >>> 32) n := by simp [addS]
    have hx := x.isLt
    have hy := y.isLt
    have hs : (c + x.setWidth 64 + y.setWidth 64).toNat = c.toNat + x.toNat + y.toNat := by rw [BitVec.toNat_add, BitVec.toNat_add, wide_nat, wide_nat]; omega
    have hk : ((c + x.setWidth 64 + y.setWidth 64) >>> 32).toNat ≤ 2 := by rw [shr32_nat, hs]; omega
    have ih := addS_nat n a b _ (by simp at ha; omega) (by simp at hb; omega) hk
    rw [e]
    show ((c + x.setWidth 64 + y.setWidth 64).setWidth 32 : BitVec 32).toNat + 4294967296 * natL (addS a b _ n) = x.toNat + 4294967296 * natL a + (y.toNat + 4294967296 * natL b) + c.toNat
    rw [ih, low_nat, shr32_nat, hs]
    omega
theorem maxN_ge (a b : Nat) : a ≤ maxN a b ∧ b ≤ maxN a b := by
  unfold maxN
  cases h : Nat.blt a b with
  | true =>
    have := Nat.le_of_ble_eq_true h
    simp only [cond_true]
    omega
  | false =>
    simp only [cond_false]
    have : ¬ a + 1 ≤ b := fun h2 => by
      have := Nat.ble_eq_true_of_le h2
      have h' : Nat.ble (a + 1) b = false := h
      rw [this] at h'
      cases h'
    omega
theorem addL_nat (a b : L32) : natL (addL a b) = natL a + natL b := by
  unfold addL
  have h := maxN_ge (lenD a) (lenD b)
  rw [lenD_eq, lenD_eq] at h ⊢
  rw [addS_nat _ a b 0#64 (by omega) (by omega) (by show 0 ≤ 2; omega)]
  rfl
theorem or_nat (x y : BitVec 32) : ((x.setWidth 64 : W) ||| (y.setWidth 64 : W) <<< 32).toNat = x.toNat + 4294967296 * y.toNat := by
  have hx := x.isLt
  have hy := y.isLt
  rw [BitVec.toNat_or, BitVec.toNat_shiftLeft, wide_nat, wide_nat]
  have e : y.toNat <<< 32 % 2 ^ 64 = y.toNat <<< 32 := by
    rw [Nat.shiftLeft_eq]
    omega
  rw [e, Nat.or_comm, ← Nat.shiftLeft_add_eq_or_of_lt (by omega), Nat.shiftLeft_eq]
  omega
theorem shrL5_nat : ∀ l : L32, natL (shrL 5 l) = natL l / 32
  | [] => rfl
  | [x] => by
    have hx := x.isLt
    show ((x.setWidth 64 >>> 5 : W).setWidth 32 : BitVec 32).toNat + 4294967296 * 0 = (x.toNat + 4294967296 * 0) / 32
    rw [BitVec.toNat_setWidth, BitVec.toNat_ushiftRight, wide_nat, Nat.shiftRight_eq_div_pow]
    omega
  | x :: y :: l => by
    have ih := shrL5_nat (y :: l)
    have hx := x.isLt
    have hy := y.isLt
    show (((x.setWidth 64 ||| y.setWidth 64 <<< 32 : W) >>> 5).setWidth 32 : BitVec 32).toNat + 4294967296 * natL (shrL 5 (y :: l)) = (x.toNat + 4294967296 * (y.toNat + 4294967296 * natL l)) / 32
    rw [ih, BitVec.toNat_setWidth, BitVec.toNat_ushiftRight, or_nat, Nat.shiftRight_eq_div_pow]
    simp only [natL]
    omega
theorem shrL9_nat : ∀ l : L32, natL (shrL 9 l) = natL l / 512
  | [] => rfl
  | [x] => by
    have hx := x.isLt
    show ((x.setWidth 64 >>> 9 : W).setWidth 32 : BitVec 32).toNat + 4294967296 * 0 = (x.toNat + 4294967296 * 0) / 512
    rw [BitVec.toNat_setWidth, BitVec.toNat_ushiftRight, wide_nat, Nat.shiftRight_eq_div_pow]
    omega
  | x :: y :: l => by
    have ih := shrL9_nat (y :: l)
    have hx := x.isLt
    have hy := y.isLt
    show (((x.setWidth 64 ||| y.setWidth 64 <<< 32 : W) >>> 9).setWidth 32 : BitVec 32).toNat + 4294967296 * natL (shrL 9 (y :: l)) = (x.toNat + 4294967296 * (y.toNat + 4294967296 * natL l)) / 512
    rw [ih, BitVec.toNat_setWidth, BitVec.toNat_ushiftRight, or_nat, Nat.shiftRight_eq_div_pow]
    simp only [natL]
    omega
theorem word0_nat : ∀ l : L32, (wordL l 0).toNat = natL l % 18446744073709551616
  | [] => rfl
  | [x] => by
    have hx := x.isLt
    have e : wordL [x] 0 = 0#64 ||| x.setWidth 64 <<< 0 := rfl
    have e2 : (0#64 ||| (x.setWidth 64 : W) <<< 0) = x.setWidth 64 := by simp
    rw [e, e2, wide_nat]
    simp only [natL]
    omega
  | x :: y :: l => by
    have hx := x.isLt
    have hy := y.isLt
    have e : wordL (x :: y :: l) 0 = (0#64 ||| x.setWidth 64 <<< 0) ||| y.setWidth 64 <<< 32 := rfl
    have e2 : (0#64 ||| (x.setWidth 64 : W) <<< 0) = x.setWidth 64 := by simp
    rw [e, e2, or_nat]
    simp only [natL]
    omega
end Go.Proofs.Sx
