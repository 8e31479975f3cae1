/- Numbers in limbs: words and comparisons; tables. -/
import Derived.Test.YtinbeihbhnjjnaaGxNat5
namespace Go.Proofs.Sx
open Go
set_option linter.unusedVariables false
def natL : L32 → Nat
  | [] => 0
  | x :: l => x.toNat + 4294967296 * natL l
theorem natL_lt : ∀ l : L32, natL l < 4294967296 ^ l.length
  | [] => by simp [natL]
  | x :: l => by
    have h := natL_lt l
    have hx : x.toNat < 4294967296 := x.isLt
    show x.toNat + 4294967296 * natL l < 4294967296 ^ (l.length + 1)
    rw [Nat.pow_succ]
    omega
theorem allZ_nat : ∀ {l : L32}, allZ l = true → natL l = 0
  | [], _ => rfl
  | x :: l, h => by
    unfold allZ at h
    rw [Bool.and_eq_true] at h
    have h1 : x.toNat = 0 := Nat.eq_of_beq_eq_true h.1
    show x.toNat + 4294967296 * natL l = 0
    rw [h1, allZ_nat h.2]
theorem trim_nat : ∀ l : L32, natL (trimL l) = natL l
  | [] => rfl
  | x :: l => by
    have e : trimL (x :: l) = match zero32 x && allZ l with
      | true => []
      | false => x :: trimL l := rfl
    rw [e]
    cases hb : zero32 x && allZ l with
    | true => exact (allZ_nat (l := x :: l) hb).symm
    | false =>
      show x.toNat + 4294967296 * natL (trimL l) = x.toNat + 4294967296 * natL l
      rw [trim_nat l]
/-- A trimmed row is as long as its number wants it. -/
theorem trim_top : ∀ l : L32, trimL l ≠ [] → 4294967296 ^ ((trimL l).length - 1) ≤ natL (trimL l)
  | [], h => absurd rfl h
  | x :: l, h => by
    have e : trimL (x :: l) = match zero32 x && allZ l with
      | true => []
      | false => x :: trimL l := rfl
    cases hb : zero32 x && allZ l with
    | true => rw [hb] at e; exact absurd e h
    | false =>
      rw [hb] at e
      simp only at e
      rw [e]
      show 4294967296 ^ ((trimL l).length + 1 - 1) ≤ x.toNat + 4294967296 * natL (trimL l)
      by_cases hl : trimL l = []
      · have hz : natL l = 0 := by rw [← trim_nat l, hl]; rfl
        rw [hl]
        have hx : x.toNat ≠ 0 := by
          intro h0
          have h1 : zero32 x = true := by unfold zero32; rw [h0]; rfl
          rw [h1, Bool.true_and] at hb
          have key : ∀ l : L32, natL l = 0 → allZ l = true := by
            intro l
            induction l with
            | nil => intro _; rfl
            | cons y l ih =>
              intro h
              have h' : y.toNat + 4294967296 * natL l = 0 := h
              have h2 : y.toNat = 0 := by omega
              have h3 : natL l = 0 := by omega
              unfold allZ
              rw [ih h3]
              unfold zero32
              rw [h2]
              rfl
          rw [key l hz] at hb
          cases hb
        simp [natL]
        omega
      · have ih := trim_top l hl
        have hpos : 0 < (trimL l).length := by
          cases hq : trimL l with
          | nil => exact absurd hq hl
          | cons y t => simp
        have e2 : (trimL l).length + 1 - 1 = (trimL l).length - 1 + 1 := by omega
        rw [e2, Nat.pow_succ]
        omega
section
variable (a b : Nat → BitVec 32) (c d : Nat)
noncomputable def cm40 (ds : List Bool) : Option (V × List Bool) := outV (callD M0 40 [.one (.sl 0 0 2 c), .one (.sl 1 0 2 d)] [.win (toD (lsD a 0 2)), .win (toD (lsD b 0 2))] ds)
def lt32 (x y : BitVec 32) : Bool := Nat.blt x.toNat y.toNat
theorem f40a : cm40 a b c d [true] = some (.one (.ng 0), [lt32 (a 1) (b 1)]) := by kernel_rfl
theorem f40b : cm40 a b c d [false, true] = some (.one (.it 1), [lt32 (b 1) (a 1), !(lt32 (a 1) (b 1))]) := by kernel_rfl
theorem f40c : cm40 a b c d [false, false, true] = some (.one (.ng 0), [lt32 (a 0) (b 0), !(lt32 (b 1) (a 1)), !(lt32 (a 1) (b 1))]) := by kernel_rfl
theorem f40d : cm40 a b c d [false, false, false, true] = some (.one (.it 1), [lt32 (b 0) (a 0), !(lt32 (a 0) (b 0)), !(lt32 (b 1) (a 1)), !(lt32 (a 1) (b 1))]) := by kernel_rfl
theorem f40e : cm40 a b c d [false, false, false, false] = some (.one (.it 0), [true, !(lt32 (b 0) (a 0)), !(lt32 (a 0) (b 0)), !(lt32 (b 1) (a 1)), !(lt32 (a 1) (b 1))]) := by kernel_rfl
end
end Go.Proofs.Sx
