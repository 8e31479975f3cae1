/- gas.Grow and the reference's Grow hand back the same. -/
import Derived.Test.YtinbeihbhnjjnaaGxNat12
import Derived.Test.YtinbeihbhnjjnaaGxSteps
namespace Go.Proofs.Sx
open Go
set_option linter.unusedVariables false
/-! products -/
theorem mulR_nat (x : BitVec 32) : ∀ (b c : L32) (k : W), b.length < c.length → nthD c b.length = 0#32 → k.toNat < 4294967296 → natL (mulR x b c k) = x.toNat * natL b + natL c + k.toNat
  | [], [], _, h, _, _ => by simp at h
  | [], z :: c, k, _, h0, hk => by
    have hz : z = 0#32 := h0
    subst hz
    show (k.setWidth 32 : BitVec 32).toNat + 4294967296 * natL c = x.toNat * 0 + (0 + 4294967296 * natL c) + k.toNat
    rw [low_nat]
    omega
  | y :: b, [], _, h, _, _ => by simp at h
  | y :: b, z :: c, k, h, h0, hk => by
    have hx := x.isLt
    have hy := y.isLt
    have hz := z.isLt
    have hp : x.toNat * y.toNat ≤ 4294967295 * 4294967295 := Nat.mul_le_mul (by omega) (by omega)
    have hs : (x.setWidth 64 * y.setWidth 64 + z.setWidth 64 + k : W).toNat = x.toNat * y.toNat + z.toNat + k.toNat := by
      rw [BitVec.toNat_add, BitVec.toNat_add, BitVec.toNat_mul, wide_nat, wide_nat, wide_nat]
      omega
    have ih := mulR_nat x b c ((x.setWidth 64 * y.setWidth 64 + z.setWidth 64 + k : W) >>> 32) (by simp at h; omega) h0 (by rw [shr32_nat, hs]; omega)
    show ((x.setWidth 64 * y.setWidth 64 + z.setWidth 64 + k : W).setWidth 32 : BitVec 32).toNat + 4294967296 * natL (mulR x b c _) = x.toNat * (y.toNat + 4294967296 * natL b) + (z.toNat + 4294967296 * natL c) + k.toNat
    have em : x.toNat * (y.toNat + 4294967296 * natL b) = x.toNat * y.toNat + 4294967296 * (x.toNat * natL b) := by rw [Nat.mul_add, Nat.mul_left_comm]
    rw [ih, low_nat, shr32_nat, hs, em]
    generalize x.toNat * y.toNat = p
    generalize x.toNat * natL b = q
    omega
theorem mulR_at (x : BitVec 32) : ∀ (b c : L32) (k : W) (i : Nat), b.length < i → nthD (mulR x b c k) i = nthD c i
  | [], [], _, _, _ => rfl
  | [], z :: c, k, 0, h => by simp at h
  | [], z :: c, k, i + 1, _ => rfl
  | y :: b, [], _, _, _ => rfl
  | y :: b, z :: c, k, 0, h => by simp at h
  | y :: b, z :: c, k, i + 1, h => mulR_at x b c _ i (by simp at h; omega)
theorem mulA_nat : ∀ (a b c : L32), a.length + b.length ≤ c.length → (∀ i, b.length ≤ i → nthD c i = 0#32) → natL (mulA a b c) = natL a * natL b + natL c
  | [], b, c, _, _ => by simp [mulA, natL]
  | x :: a, b, c, h, h0 => by
    have hl := mulR_len x b c 0#64
    have hn := mulR_nat x b c 0#64 (by simp at h; omega) (h0 _ (Nat.le_refl _)) (by decide)
    have ha := mulR_at x b c 0#64
    cases hm : mulR x b c 0#64 with
    | nil => rw [hm] at hl; simp at hl h; omega
    | cons z t =>
      rw [hm] at hl hn ha
      have e : mulA (x :: a) b c = z :: mulA a b t := by simp [mulA, hm]
      have ih := mulA_nat a b t (by simp at hl h; omega) fun i hi => by
        have h1 := ha (i + 1) (by omega)
        rw [h0 (i + 1) (by omega)] at h1
        exact h1
      rw [e]
      show z.toNat + 4294967296 * natL (mulA a b t) = (x.toNat + 4294967296 * natL a) * natL b + natL c
      rw [ih, Nat.add_mul, Nat.mul_assoc]
      have hn' : z.toNat + 4294967296 * natL t = x.toNat * natL b + natL c + 0 := hn
      generalize natL a * natL b = p at *
      generalize x.toNat * natL b = q at *
      omega
theorem zerosD_at : ∀ n i, nthD (zerosD n) i = 0#32
  | 0, _ => rfl
  | n + 1, 0 => rfl
  | n + 1, i + 1 => zerosD_at n i
theorem zerosD_nat : ∀ n, natL (zerosD n) = 0
  | 0 => rfl
  | n + 1 => by
    show (0#32).toNat + 4294967296 * natL (zerosD n) = 0
    rw [zerosD_nat n]
    rfl
theorem mulL_nat (a b : L32) : natL (mulL a b) = natL a * natL b := by
  unfold mulL
  rw [mulA_nat a b _ (by rw [zerosD_len, lenD_eq, lenD_eq]; exact Nat.le_refl _) fun i _ => zerosD_at _ i, zerosD_nat, Nat.add_zero]
/-! the cost -/
theorem cG_word {x : W} (hx : x.toNat ≤ 34359738368) : (wordL (trimL (shrL 9 (cN x))) 0).toNat = x.toNat * x.toNat / 512 := by
  rw [word0_nat, trim_nat, shrL9_nat]
  unfold cN
  rw [trim_nat, mulL_nat, ofL_nat]
  have : x.toNat * x.toNat ≤ 34359738368 * 34359738368 := Nat.mul_le_mul hx hx
  generalize x.toNat * x.toNat = p at *
  omega
theorem lo32_nat (x : W) : (lo32 x).toNat = x.toNat % 4294967296 := by
  have e : lo32 x = x &&& 4294967295#64 := rfl
  rw [e, BitVec.toNat_and]
  exact Nat.and_two_pow_sub_one_eq_mod x.toNat 32
theorem mulHi_nat {x : W} (hx : x.toNat ≤ 34359738368) : (mulHi x x).toNat = x.toNat * x.toNat / 18446744073709551616 := by
  have hh : (x >>> 32).toNat = x.toNat / 4294967296 := shr32_nat x
  have hl := lo32_nat x
  generalize hH : x.toNat / 4294967296 = H at hh
  generalize hL : x.toNat % 4294967296 = L at hl
  have h1 : H ≤ 8 := by omega
  have h2 : L ≤ 4294967295 := by omega
  have hHL : H * L ≤ 8 * 4294967295 := Nat.mul_le_mul h1 h2
  have hLL : L * L ≤ 4294967295 * 4294967295 := Nat.mul_le_mul h2 h2
  have hHH : H * H ≤ 8 * 8 := Nat.mul_le_mul h1 h1
  have hT : (mulT x x).toNat = H * L + L * L / 4294967296 := by
    have e : mulT x x = (x >>> 32) * lo32 x + (lo32 x * lo32 x) >>> 32 := rfl
    rw [e, BitVec.toNat_add, BitVec.toNat_mul, hh, hl, shr32_nat (lo32 x * lo32 x), BitVec.toNat_mul, hl]
    generalize H * L = p at *
    generalize L * L = q at *
    omega
  have hx2 : x.toNat = 4294967296 * H + L := by omega
  have hsq : x.toNat * x.toNat = 18446744073709551616 * (H * H) + 8589934592 * (H * L) + L * L := by
    rw [hx2, Nat.mul_add, Nat.add_mul, Nat.add_mul, Nat.mul_comm L (4294967296 * H), Nat.mul_assoc, Nat.mul_assoc, Nat.mul_left_comm H 4294967296 H]
    generalize H * L = p
    generalize H * H = r
    generalize L * L = q
    omega
  have e : mulHi x x = (x >>> 32) * (x >>> 32) + (mulT x x) >>> 32 + (lo32 (mulT x x) + lo32 x * (x >>> 32)) >>> 32 := rfl
  rw [e, BitVec.toNat_add, BitVec.toNat_add, BitVec.toNat_mul, shr32_nat (mulT x x), shr32_nat (lo32 (mulT x x) + lo32 x * (x >>> 32)), BitVec.toNat_add, BitVec.toNat_mul, lo32_nat (mulT x x), hT, hh, hl, hsq, Nat.mul_comm L H]
  generalize H * L = p at *
  generalize H * H = r at *
  generalize L * L = q at *
  omega
theorem memW_is {x : W} (hx : x.toNat ≤ 34359738368) : memW x = cG x := by
  have hm := mulHi_nat hx
  have hc := cG_word hx
  have hp : x.toNat * x.toNat ≤ 34359738368 * 34359738368 := Nat.mul_le_mul hx hx
  have e1 : memW x = 3#64 * x + (mulHi x x <<< 55 ||| (x * x) >>> 9) := rfl
  have e2 : cG x = 3#64 * x + wordL (trimL (shrL 9 (cN x))) 0 := rfl
  rw [e1, e2]
  congr 1
  apply BitVec.eq_of_toNat_eq
  rw [hc, BitVec.toNat_or, BitVec.toNat_shiftLeft, BitVec.toNat_ushiftRight, BitVec.toNat_mul, hm]
  generalize x.toNat * x.toNat = p at *
  have h1 : (p / 18446744073709551616) <<< 55 % 2 ^ 64 = (p / 18446744073709551616) <<< 55 := by
    rw [Nat.shiftLeft_eq]
    omega
  have h2 : (p % 2 ^ 64) >>> 9 < 2 ^ 55 := by
    rw [Nat.shiftRight_eq_div_pow]
    omega
  rw [h1, ← Nat.shiftLeft_add_eq_or_of_lt h2, Nat.shiftLeft_eq, Nat.shiftRight_eq_div_pow]
  omega
/-! both -/
theorem wL_nat (a n : Q) : natL (wL a n) = (valQ a + valQ n + 31) / 32 := by
  unfold wL tL sL
  rw [trim_nat, shrL5_nat, trim_nat, addL_nat, trim_nat, addL_nat, nL_nat, nL_nat, ofL_nat]
  rfl
theorem bigB_is (a n : Q) : bigB (wL a n) = decide (34359738368 < (valQ a + valQ n + 31) / 32) := by
  unfold bigB
  have e : natL bigL = 34359738368 := by unfold bigL; rw [ofL_nat]; rfl
  rw [wL_nat, e]
  unfold cmpZ
  by_cases h1 : (valQ a + valQ n + 31) / 32 < 34359738368
  · rw [if_pos h1, decide_eq_false (by omega : ¬ (0 : Int) < -1), decide_eq_false (by omega)]
  · rw [if_neg h1]
    by_cases h2 : 34359738368 < (valQ a + valQ n + 31) / 32
    · rw [if_pos h2, decide_eq_true (by omega : (0 : Int) < 1), decide_eq_true h2]
    · rw [if_neg h2, decide_eq_false (by omega : ¬ (0 : Int) < 0), decide_eq_false h2]
theorem hiB_is (a : Q) : hiB a = decide (18446744073709551616 ≤ valQ a) := by
  have h0 := (a 0).isLt
  have key : (a 1 ||| a 2 ||| a 3).toNat = 0 ↔ (a 1).toNat = 0 ∧ (a 2).toNat = 0 ∧ (a 3).toNat = 0 := by
    rw [BitVec.toNat_or, BitVec.toNat_or]
    constructor
    · intro h
      have h1 := Nat.or_eq_zero_iff.1 h
      have h2 := Nat.or_eq_zero_iff.1 h1.1
      exact ⟨h2.1, h2.2, h1.2⟩
    · intro ⟨h1, h2, h3⟩
      rw [h1, h2, h3]
      rfl
  unfold hiB
  cases hq : Nat.beq (a 1 ||| a 2 ||| a 3).toNat 0 with
  | true =>
    have h := key.1 (Nat.eq_of_beq_eq_true hq)
    have : valQ a < 18446744073709551616 := by unfold valQ; omega
    rw [decide_eq_false (by omega)]
    rfl
  | false =>
    have h : ¬ (a 1 ||| a 2 ||| a 3).toNat = 0 := fun e => by rw [e] at hq; cases hq
    have : 18446744073709551616 ≤ valQ a := by
      have := fun h1 h2 h3 => h (key.2 ⟨h1, h2, h3⟩)
      unfold valQ
      omega
    rw [decide_eq_true this]
    rfl
theorem val_low {a : Q} (h : valQ a < 18446744073709551616) : valQ a = (a 0).toNat := by
  have h0 := (a 0).isLt
  unfold valQ at h ⊢
  omega
theorem overB_is (a n : Q) : overB a n = decide (18446744073709551616 ≤ (a 0).toNat + (n 0).toNat) := by
  have ha := (a 0).isLt
  have hn := (n 0).isLt
  unfold overB
  rw [BitVec.toNat_ofNat]
  by_cases h : 18446744073709551616 ≤ (a 0).toNat + (n 0).toNat
  · rw [decide_eq_true h]
    exact Nat.ble_eq_true_of_le (by omega)
  · rw [decide_eq_false h]
    cases hq : Nat.blt 0 (((a 0).toNat + (n 0).toNat) / 18446744073709551616 % 2 ^ 64) with
    | false => rfl
    | true => have := Nat.le_of_ble_eq_true hq; omega
theorem manyB_is {a n : Q} (h : (a 0).toNat + (n 0).toNat < 18446744073709551616) : manyB a n = decide (34359738368 < ((a 0).toNat + (n 0).toNat + 31) / 32) := by
  unfold manyB
  rw [wordsW_nat, BitVec.toNat_add, Nat.mod_eq_of_lt h]
  by_cases h1 : 34359738368 < ((a 0).toNat + (n 0).toNat + 31) / 32
  · rw [decide_eq_true h1]
    exact Nat.ble_eq_true_of_le (by omega)
  · rw [decide_eq_false h1]
    cases hq : Nat.blt 34359738368 (((a 0).toNat + (n 0).toNat) / 32 + (((a 0).toNat + (n 0).toNat) % 32 + 31) / 32) with
    | false => rfl
    | true => have := Nat.le_of_ble_eq_true hq; omega
theorem badB_is (a n : Q) : badB a n = bigB (wL a n) := by
  rw [bigB_is]
  unfold badB
  rw [hiB_is, hiB_is]
  by_cases h1 : 18446744073709551616 ≤ valQ a
  · rw [decide_eq_true h1, Bool.true_or, decide_eq_true (by omega)]
  · rw [decide_eq_false h1, Bool.false_or]
    by_cases h2 : 18446744073709551616 ≤ valQ n
    · rw [decide_eq_true h2, Bool.true_or, decide_eq_true (by omega)]
    · rw [decide_eq_false h2, Bool.false_or, overB_is]
      have e1 := val_low (a := a) (by omega)
      have e2 := val_low (a := n) (by omega)
      by_cases h3 : 18446744073709551616 ≤ (a 0).toNat + (n 0).toNat
      · rw [decide_eq_true h3, Bool.true_or, decide_eq_true (by omega)]
      · rw [decide_eq_false h3, Bool.false_or, manyB_is (by omega), e1, e2]
theorem small_is {a n : Q} (h : bigB (wL a n) = false) : toW (wL a n) = 32#64 * wordsW (a 0 + n 0) ∧ (toW (wL a n)).toNat ≤ 1099511627776 := by
  have hb := badB_is a n
  rw [h] at hb
  rw [bigB_is] at h
  have h' : ¬ 34359738368 < (valQ a + valQ n + 31) / 32 := of_decide_eq_false h
  have e1 := val_low (a := a) (by omega)
  have e2 := val_low (a := n) (by omega)
  have hw : (wordL (wL a n) 0).toNat = (valQ a + valQ n + 31) / 32 := by rw [word0_nat, wL_nat]; omega
  have hw2 : wordL (wL a n) 0 = wordsW (a 0 + n 0) := by
    apply BitVec.eq_of_toNat_eq
    rw [hw, wordsW_nat, BitVec.toNat_add, e1, e2]
    omega
  refine ⟨by unfold toW; rw [hw2], ?_⟩
  unfold toW
  rw [BitVec.toNat_mul, hw]
  show 32 * _ % _ ≤ _
  omega
theorem maxTo_is {a n : Q} (s : W) (h : bigB (wL a n) = false) : maxTo s a n = bif lessB s (wL a n) then s else toW (wL a n) := by
  obtain ⟨h1, h2⟩ := small_is h
  unfold maxTo lessB
  rw [← h1]
  generalize toW (wL a n) = t
  cases hq : Nat.blt s.toNat t.toNat with
  | true =>
    have := Nat.le_of_ble_eq_true hq
    cases hr : Nat.blt t.toNat s.toNat with
    | true => have := Nat.le_of_ble_eq_true hr; omega
    | false => rfl
  | false =>
    cases hr : Nat.blt t.toNat s.toNat with
    | true => rfl
    | false =>
      show s = t
      apply BitVec.eq_of_toNat_eq
      have f1 : ¬ s.toNat + 1 ≤ t.toNat := fun h => by have h2 := Nat.ble_eq_true_of_le h; have h' : Nat.ble (s.toNat + 1) t.toNat = false := hq; rw [h2] at h'; cases h'
      have f2 : ¬ t.toNat + 1 ≤ s.toNat := fun h => by have h2 := Nat.ble_eq_true_of_le h; have h' : Nat.ble (t.toNat + 1) s.toNat = false := hr; rw [h2] at h'; cases h'
      omega
theorem div32_nat (x : W) : (x / 32#64).toNat = x.toNat / 32 := by rw [BitVec.toNat_udiv]; rfl
theorem grow_same (s : W) (a n : Q) (hs : s.toNat ≤ 1099511627776) : gTo s a n = rTo s a n ∧ gCost s a n = rCost s a n ∧ gOk a n = rOk a n := by
  unfold gTo rTo gCost rCost gOk rOk
  rw [badB_is]
  cases hz : zeroB n with
  | true => exact ⟨rfl, rfl, rfl⟩
  | false =>
    cases hb : bigB (wL a n) with
    | true => exact ⟨rfl, rfl, rfl⟩
    | false =>
      obtain ⟨h1, h2⟩ := small_is hb
      have hm := maxTo_is s hb
      have hs' : (s / 32#64).toNat ≤ 34359738368 := by rw [div32_nat]; omega
      have ht' : (toW (wL a n) / 32#64).toNat ≤ 34359738368 := by rw [div32_nat]; omega
      simp only [cond_false, Bool.false_or]
      rw [hm, memW_is hs']
      cases hl : lessB s (wL a n) with
      | true =>
        simp only [cond_true]
        rw [memW_is hs']
        simp
      | false =>
        simp only [cond_false]
        rw [memW_is ht']
        simp
end Go.Proofs.Sx
