/- The law on two steps: what is owed holds. -/
import Derived.Test.YtinbeihbhnjjnaaGxGrow2
namespace Go.Proofs.Sx
open Go
theorem wordsW_nat (x : W) : (wordsW x).toNat = x.toNat / 32 + (x.toNat % 32 + 31) / 32 := by
  have hx := x.isLt
  unfold wordsW
  simp only [BitVec.toNat_add, BitVec.toNat_udiv, BitVec.toNat_umod, BitVec.toNat_ofNat, Nat.reducePow, Nat.reduceMod]
  omega
theorem hiB_q1 (x : W) : hiB (q1 x) = false := by kernel_rfl
theorem zeroB_q1 {m : W} (h : 1 ≤ m.toNat) : zeroB (q1 m) = false := by
  unfold zeroB q1 nthB
  have : (m == 0#64) = false := by
    rw [beq_eq_false_iff_ne]
    intro e
    rw [e] at h
    exact absurd h (by decide)
  rw [this]
  rfl
theorem overB_q1 {x m : W} (h : x.toNat + m.toNat < 18446744073709551616) : overB (q1 x) (q1 m) = false := by
  unfold overB q1 nthB
  rw [Nat.div_eq_of_lt h]
  rfl
theorem manyB_q1 {x m : W} (h : x.toNat + m.toNat ≤ 1099511627776) : manyB (q1 x) (q1 m) = false := by
  unfold manyB q1 nthB
  have : (wordsW (x + m)).toNat ≤ 34359738368 := by
    rw [wordsW_nat, BitVec.toNat_add]
    omega
  rw [Bool.eq_false_iff]
  intro e
  have := Nat.le_of_ble_eq_true e
  omega
theorem badB_q1 {x m : W} (h : x.toNat + m.toNat ≤ 1099511627776) : badB (q1 x) (q1 m) = false := by
  unfold badB
  rw [hiB_q1, hiB_q1, overB_q1 (by omega), manyB_q1 h]
  rfl
section
variable {x m : W} (hm : 1 ≤ m.toNat) (h : x.toNat + m.toNat ≤ 1099511627776)
include hm h
theorem gOk_q1 : gOk (q1 x) (q1 m) = true := by
  unfold gOk
  rw [zeroB_q1 hm, badB_q1 h]
  rfl
theorem gTo_q1 (s : W) : gTo s (q1 x) (q1 m) = maxTo s (q1 x) (q1 m) := by
  unfold gTo
  rw [zeroB_q1 hm, badB_q1 h]
  rfl
theorem gCost_q1 (s : W) : gCost s (q1 x) (q1 m) = memW (maxTo s (q1 x) (q1 m) / 32#64) - memW (s / 32#64) := by
  unfold gCost
  rw [zeroB_q1 hm, badB_q1 h]
  rfl
/-- the size that reaches the place -/
theorem maxTo_q1 (s : W) : (maxTo s (q1 x) (q1 m)).toNat = if s.toNat < 32 * ((x.toNat + m.toNat + 31) / 32) then 32 * ((x.toNat + m.toNat + 31) / 32) else s.toNat := by
  have e : (32#64 * wordsW (x + m)).toNat = 32 * ((x.toNat + m.toNat + 31) / 32) := by
    rw [BitVec.toNat_mul, wordsW_nat, BitVec.toNat_add, BitVec.toNat_ofNat]
    omega
  show (bif Nat.blt s.toNat (32#64 * wordsW (x + m)).toNat then 32#64 * wordsW (x + m) else s).toNat = _
  rw [← e]
  cases hc : Nat.blt s.toNat (32#64 * wordsW (x + m)).toNat with
  | true =>
    have := Nat.le_of_ble_eq_true hc
    rw [if_pos (by omega)]
    rfl
  | false =>
    have : ¬ s.toNat < (32#64 * wordsW (x + m)).toNat := fun h => by
      have : Nat.blt s.toNat (32#64 * wordsW (x + m)).toNat = true := Nat.ble_eq_true_of_le h
      rw [this] at hc; cases hc
    rw [if_neg this]
    rfl
end
theorem steps_all {x y m : W} {c : Bool} (hm : 1 ≤ m.toNat) (hm' : m.toNat ≤ 1048576) (hxy : x.toNat ≤ y.toNat) (hy : y.toNat < 549755813888) (hc : c = true) : AllT (stepsOb x y m c) := by
  have hx1 : x.toNat + m.toNat ≤ 1099511627776 := by omega
  have hy1 : y.toNat + m.toNat ≤ 1099511627776 := by omega
  have P0 := maxTo_q1 hm hx1 0#64
  have e0 : (0#64).toNat = 0 := rfl
  rw [e0] at P0
  have Q0 := maxTo_q1 hm hy1 (maxTo 0#64 (q1 x) (q1 m))
  have S0 := maxTo_q1 hm hy1 0#64
  rw [e0] at S0
  have qs : maxTo (maxTo 0#64 (q1 x) (q1 m)) (q1 y) (q1 m) = maxTo 0#64 (q1 y) (q1 m) := by
    apply BitVec.eq_of_toNat_eq
    rw [Q0, S0, P0]
    repeat' split
    all_goals omega
  have hq : (maxTo 0#64 (q1 y) (q1 m)).toNat = 32 * ((y.toNat + m.toNat + 31) / 32) := by
    rw [S0, if_pos (by omega)]
  have B0 := maxTo_q1 hm hx1 (maxTo 0#64 (q1 y) (q1 m))
  have bq : maxTo (maxTo 0#64 (q1 y) (q1 m)) (q1 x) (q1 m) = maxTo 0#64 (q1 y) (q1 m) := by
    apply BitVec.eq_of_toNat_eq
    rw [B0, hq, if_neg (by omega)]
  have bt : ∀ {p q : Nat}, p = q → Nat.beq p q = true := fun e => by rw [e]; exact Nat.beq_refl _
  have e32 : (0#64 : W) / 32#64 = 0#64 := rfl
  unfold stepsOb
  simp only [gTo_q1 hm hx1, gTo_q1 hm hy1, gCost_q1 hm hx1, gCost_q1 hm hy1, gOk_q1 hm hx1, gOk_q1 hm hy1, qs, bq]
  refine AllT.cons (bt ?_) (AllT.cons (bt rfl) (AllT.cons ?_ (AllT.cons (bt ?_) (AllT.cons ?_ (AllT.cons (bt ?_) (AllT.cons (bt rfl) (AllT.cons rfl (AllT.cons rfl (AllT.cons rfl (AllT.cons hc AllT.nil))))))))))
  · rw [BitVec.sub_self]; rfl
  · apply Nat.ble_eq_true_of_le
    rw [hq, BitVec.toNat_add, BitVec.toNat_add, BitVec.toNat_ofNat]
    omega
  · rw [BitVec.toNat_umod, hq, BitVec.toNat_ofNat]
    simp only [Nat.reducePow, Nat.reduceMod]
    omega
  · apply Nat.ble_eq_true_of_le
    rw [hq, BitVec.toNat_add]
    omega
  · congr 1
    bv_omega
end Go.Proofs.Sx
