/- How many bits a word has. -/
import Derived.Test.YtinbeihbhnjjnaaGxBs8
namespace Go.Proofs.Sx
open Go
set_option linter.unusedVariables false
def a67B (x : W) : Bool := Nat.ble 4294967296 x.toNat
def b67B (x : W) : Bool := Nat.ble 65536 (sh67 x (a67B x) 32).toNat
def c67B (x : W) : Bool := Nat.ble 256 (sh67 (sh67 x (a67B x) 32) (b67B x) 16).toNat
def y67 (x : W) : W := sh67 (sh67 (sh67 x (a67B x) 32) (b67B x) 16) (c67B x) 8
def len67 (x : W) : Nat := n67 (a67B x) (b67B x) (c67B x) + lenQ (y67 x).toNat
theorem ge67_is (m : Nat) (y : W) : ge67 (Nat.ble m y.toNat) m y = true := by
  unfold ge67
  cases Nat.ble m y.toNat <;> rfl
theorem sh67_nat (x : W) (b : Bool) (s : Nat) : (sh67 x b s).toNat = bif b then x.toNat / 2 ^ s else x.toNat := by
  unfold sh67
  cases b with
  | true => show (x >>> s).toNat = x.toNat / 2 ^ s; rw [BitVec.toNat_ushiftRight, Nat.shiftRight_eq_div_pow]
  | false => rfl
theorem ble_or (a b : Nat) : (Nat.ble a b = true ∧ a ≤ b) ∨ (Nat.ble a b = false ∧ b < a) := by
  rcases Nat.lt_or_ge b a with h | h
  · right
    refine ⟨?_, h⟩
    cases hq : Nat.ble a b with
    | false => rfl
    | true => have := Nat.le_of_ble_eq_true hq; omega
  · exact .inl ⟨Nat.ble_eq_true_of_le h, h⟩
theorem y67_lt (x : W) : (y67 x).toNat < 256 := by
  have hx := x.isLt
  have e1 : (sh67 x (a67B x) 32).toNat < 4294967296 := by
    rw [sh67_nat]
    unfold a67B
    rcases ble_or 4294967296 x.toNat with ⟨h, h'⟩ | ⟨h, h'⟩ <;> rw [h]
    · show x.toNat / 2 ^ 32 < _; omega
    · exact h'
  have e2 : (sh67 (sh67 x (a67B x) 32) (b67B x) 16).toNat < 65536 := by
    rw [sh67_nat]
    unfold b67B
    generalize (sh67 x (a67B x) 32).toNat = y at *
    rcases ble_or 65536 y with ⟨h, h'⟩ | ⟨h, h'⟩ <;> rw [h]
    · show y / 2 ^ 16 < _; omega
    · exact h'
  unfold y67
  rw [sh67_nat]
  unfold c67B
  generalize (sh67 (sh67 x (a67B x) 32) (b67B x) 16).toNat = y at *
  rcases ble_or 256 y with ⟨h, h'⟩ | ⟨h, h'⟩ <;> rw [h]
  · show y / 2 ^ 8 < _; omega
  · exact h'
theorem parts67 : takeC 7 (rowOf Try.prog 67) ++ dropC 7 (rowOf Try.prog 67) = rowOf Try.prog 67 := by kernel_rfl
theorem code67 : hasCode Try.prog 67 = true := by kernel_rfl
theorem tmps67 : Nat.beq (fnOf Try.prog 67).ntmps 25 = true := by kernel_rfl
theorem runs67 (x : W) (hp : List Reg) : Runs Try.prog 67 [.one (.w64 x)] hp (.one (.it (len67 x))) hp false := by
  have hm : (a67B x, b67B x, c67B x) ∈ bools := by
    unfold bools
    cases a67B x <;> cases b67B x <;> cases c67B x <;> simp
  have f := mapAt (f67a x) hm
  have A := sxc_sound fol known_none f (AllT.cons (ge67_is _ _) (AllT.cons (ge67_is _ _) (AllT.cons (ge67_is _ _) AllT.nil)))
  obtain ⟨k, hk, ek⟩ : ∃ k, k < 8 ∧ n67 (a67B x) (b67B x) (c67B x) = 8 * k := by
    cases a67B x <;> cases b67B x <;> cases c67B x
    · exact ⟨0, by decide, rfl⟩
    · exact ⟨1, by decide, rfl⟩
    · exact ⟨2, by decide, rfl⟩
    · exact ⟨3, by decide, rfl⟩
    · exact ⟨4, by decide, rfl⟩
    · exact ⟨5, by decide, rfl⟩
    · exact ⟨6, by decide, rfl⟩
    · exact ⟨7, by decide, rfl⟩
  have g := mapAt (mapAt f67 (a := k) (by simp; omega)) (a := (y67 x).toNat) (by have := y67_lt x; simp; omega)
  obtain ⟨s3, h1, h2, h3⟩ := retV_is known_none g AllT.nil
  have ey : BitVec.ofNat 64 (y67 x).toNat = y67 x := by simp
  rw [ey] at h1
  rw [ek] at A
  have all : DoesL Try.prog (rowOf Try.prog 67) ⟨tmOf [.one (.w64 x)] 0 (T.full 8), [], false, 25, 0, [], [a67B x, b67B x, c67B x]⟩ .ret s3 := by
    rw [← parts67]
    exact DoesL.append (DoesL.spoil A) (DoesL.free h1)
  have hr := runs_of (hp := []) (vs := [.one (.w64 x)]) code67 (.inr rfl) (n := 25) (by rw [Nat.eq_of_beq_eq_true tmps67]; rfl) all h3 h2
  have e : len67 x = 8 * k + lenQ (y67 x).toNat := by unfold len67; rw [ek]
  rw [e]
  exact hr.plain rfl rfl hp
end Go.Proofs.Sx
