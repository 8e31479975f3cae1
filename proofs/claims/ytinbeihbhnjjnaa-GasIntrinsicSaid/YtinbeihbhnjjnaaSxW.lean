/- Words: what the machine's operations on integers come to, in bit vectors. -/
import Derived.Test.YtinbeihbhnjjnaaSxDef
namespace Go.Proofs.Sx
open Go

theorem wrapU {k : IntKind} (hs : k.signed = false) (n : Int) : k.wrap n = n % (2 ^ k.bits : Int) := by
  simp [IntKind.wrap, hs]

theorem wrapNat {k : IntKind} (hs : k.signed = false) (n : Nat) : k.wrap (n : Int) = ((n % 2 ^ k.bits : Nat) : Int) := by
  rw [wrapU hs, Int.natCast_emod]
  simp

section
variable {k : IntKind} (hs : k.signed = false) (x y : BitVec k.bits)
include hs

theorem w_add : k.wrap ((x.toNat : Int) + y.toNat) = ((x + y).toNat : Int) := by
  rw [← Int.natCast_add, wrapNat hs, BitVec.toNat_add]

theorem w_sub : k.wrap ((x.toNat : Int) - y.toNat) = ((x - y).toNat : Int) := by
  have hx := x.isLt
  have hy := y.isLt
  rw [wrapU hs, BitVec.toNat_sub, Int.natCast_emod, Int.natCast_add, Int.ofNat_sub (Nat.le_of_lt hy)]
  have e : ((2 ^ k.bits : Nat) : Int) = (2 : Int) ^ k.bits := by simp
  rw [e]
  have : (2 : Int) ^ k.bits - y.toNat + x.toNat = ((x.toNat : Int) - y.toNat) + (2 : Int) ^ k.bits := by omega
  rw [this, Int.add_emod_right]

theorem w_mul : k.wrap ((x.toNat : Int) * y.toNat) = ((x * y).toNat : Int) := by
  rw [← Int.natCast_mul, wrapNat hs, BitVec.toNat_mul]

theorem w_back (r : BitVec k.bits) : k.wrap (r.toNat : Int) = (r.toNat : Int) := by
  rw [wrapNat hs, Nat.mod_eq_of_lt r.isLt]

omit hs in
theorem w_of (x : BitVec k.bits) : BitVec.ofInt k.bits (x.toNat : Int) = x := by
  rw [BitVec.ofInt_natCast, BitVec.ofNat_toNat, BitVec.setWidth_eq]

theorem w_shl (n : Nat) : k.wrap ((x.toNat : Int) * 2 ^ (min n k.bits)) = ((x <<< n).toNat : Int) := by
  have e : ((x.toNat : Int) * 2 ^ (min n k.bits)) = ((x.toNat * 2 ^ (min n k.bits) : Nat) : Int) := by simp
  rw [e, wrapNat hs, BitVec.toNat_shiftLeft, Nat.shiftLeft_eq]
  rcases Nat.le_total n k.bits with h | h
  · rw [Nat.min_eq_left h]
  · rw [Nat.min_eq_right h]
    have e1 : x.toNat * 2 ^ n = x.toNat * 2 ^ (n - k.bits) * 2 ^ k.bits := by
      rw [Nat.mul_assoc, ← Nat.pow_add, Nat.sub_add_cancel h]
    rw [e1, Nat.mul_mod_left, Nat.mul_mod_left]

omit hs in
theorem w_shr (n : Nat) : ((x.toNat : Int).fdiv (2 ^ (min n k.bits))) = ((x >>> n).toNat : Int) := by
  have hx := x.isLt
  rw [BitVec.toNat_ushiftRight, Nat.shiftRight_eq_div_pow]
  have e : (2 : Int) ^ (min n k.bits) = ((2 ^ (min n k.bits) : Nat) : Int) := by simp
  rw [e, Int.fdiv_eq_ediv_of_nonneg _ (Int.natCast_nonneg _), ← Int.natCast_ediv]
  rcases Nat.le_total n k.bits with h | h
  · rw [Nat.min_eq_left h]
  · rw [Nat.min_eq_right h, Nat.div_eq_of_lt hx, Nat.div_eq_of_lt (Nat.lt_of_lt_of_le hx (Nat.pow_le_pow_right (by omega) h))]

theorem w_not : k.wrap ((BitVec.ofInt k.bits k.max ^^^ BitVec.ofInt k.bits (x.toNat : Int)).toNat : Int) = ((~~~x).toNat : Int) := by
  rw [w_of, w_back hs]
  congr 2
  have hm : BitVec.ofInt k.bits k.max = BitVec.allOnes k.bits := by
    unfold IntKind.max
    rw [if_neg (by simp [hs])]
    apply BitVec.eq_of_toNat_eq
    rw [BitVec.toNat_ofInt, BitVec.toNat_allOnes]
    have hp : (1 : Int) ≤ 2 ^ k.bits := by
      have : 1 ≤ 2 ^ k.bits := Nat.one_le_two_pow
      have e : ((2 ^ k.bits : Nat) : Int) = (2 : Int) ^ k.bits := by simp
      omega
    have e : ((2 ^ k.bits : Nat) : Int) = (2 : Int) ^ k.bits := by simp
    rw [e, Int.emod_eq_of_lt (by omega) (by omega)]
    omega
  rw [hm, BitVec.allOnes_xor]
end

theorem wrap_i64 (n : Nat) (h : n < 9223372036854775808) : IntKind.i64.wrap (n : Int) = (n : Int) := by
  rw [IntKind.wrap_i64]
  omega

theorem wrap_i64_neg (n : Nat) (h : n < 9223372036854775808) : IntKind.i64.wrap (Int.negSucc n) = Int.negSucc n := by
  rw [IntKind.wrap_i64]
  omega
end Go.Proofs.Sx
