/- gas.sum.add: sums that do not run over. -/
import Derived.Test.YtinbeihbhnjjnaaGxIn2
import Derived.Test.YtinbeihbhnjjnaaGxGrow2
namespace Go.Proofs.Sx
open Go
set_option linter.unusedVariables false
noncomputable def M58 : Kn := addK M0 58 (fun vs hp => match vs with
  | [.one (.w64 x), .one (.w64 y)] => some (.tp [(false, [.w64 (mulHi x y)]), (false, [.w64 (x * y)])], hp, false, none)
  | _ => none)
section
variable (a e : W) (n : Nat)
def sumC (a : W) : List C := [.w64 a, .bl false]
theorem f54 : outH (callD M58 54 [.one (.pt 0 0), .one (.w64 e), .one (.sy n)] [.own 86 (sumC a), .dead] [false, false]) =
  some (.un, [.own 86 [.w64 (a + e * BitVec.ofNat 64 n), .sb (Nat.blt 9223372036854775807 (a + e * BitVec.ofNat 64 n).toNat)], .dead], true, [!(Nat.blt 0 (BitVec.ofNat 64 ((a.toNat + (e * BitVec.ofNat 64 n).toNat) / 18446744073709551616)).toNat), !(Nat.blt 0 (mulHi e (BitVec.ofNat 64 n)).toNat)]) := by kernel_rfl
end
theorem k58 : Known Try.prog M58 := known_add known_none fun vs hp v hp' chg ob h _ => by
  split at h
  · cases h
    exact runs_out known_none (f58 _ _) AllT.nil rfl rfl hp
  · cases h
theorem lo32_small {x : W} (h : x.toNat < 4294967296) : lo32 x = x := by
  apply BitVec.eq_of_toNat_eq
  unfold lo32
  rw [BitVec.toNat_and]
  show x.toNat &&& 4294967295 = x.toNat
  have : (4294967295 : Nat) = 2 ^ 32 - 1 := rfl
  rw [this, Nat.and_two_pow_sub_one_eq_mod]
  omega
theorem shr32_small {x : W} (h : x.toNat < 4294967296) : x >>> 32 = 0#64 := by
  apply BitVec.eq_of_toNat_eq
  rw [BitVec.toNat_ushiftRight, Nat.shiftRight_eq_div_pow]
  show x.toNat / 2 ^ 32 = 0
  omega
theorem mulHi_small {x y : W} (hx : x.toNat < 4294967296) (hy : y.toNat < 4294967296) : mulHi x y = 0#64 := by
  have ht : mulT x y = (x * y) >>> 32 := by
    unfold mulT
    rw [shr32_small hx, lo32_small hx, lo32_small hy]
    simp
  have hm : (mulT x y).toNat < 4294967296 := by
    rw [ht, BitVec.toNat_ushiftRight, Nat.shiftRight_eq_div_pow]
    have := (x * y).isLt
    omega
  unfold mulHi
  rw [shr32_small hx, shr32_small hy, shr32_small hm, lo32_small hm]
  simp only [BitVec.mul_zero, BitVec.add_zero, BitVec.zero_add]
  exact shr32_small hm
theorem runs54 {a e : W} {n : Nat} (he : e.toNat ≤ 4294967295) (hn : n ≤ 4294967295) (hs : a.toNat + e.toNat * n ≤ 9223372036854775807) :
    Runs Try.prog 54 [.one (.pt 0 0), .one (.w64 e), .one (.sy n)] [.own 86 (sumC a), .dead] .un [.own 86 (sumC (a + e * BitVec.ofNat 64 n)), .dead] true := by
  have hn' : (BitVec.ofNat 64 n).toNat = n := by rw [BitVec.toNat_ofNat]; omega
  have hp : e.toNat * n ≤ 4294967295 * 4294967295 := Nat.mul_le_mul he hn
  have hlo : (e * BitVec.ofNat 64 n).toNat = e.toNat * n := by rw [BitVec.toNat_mul, hn']; omega
  have hal : (a + e * BitVec.ofNat 64 n).toNat = a.toNat + e.toNat * n := by rw [BitVec.toNat_add, hlo]; omega
  have hf : Nat.blt 9223372036854775807 (a + e * BitVec.ofNat 64 n).toNat = false := by
    rw [hal]
    cases h : Nat.blt 9223372036854775807 (a.toNat + e.toNat * n) with
    | false => rfl
    | true => have := Nat.le_of_ble_eq_true h; omega
  have hr := outH_is k58 (f54 a e n) (AllT.cons (by
    rw [hlo, show (a.toNat + e.toNat * n) / 18446744073709551616 = 0 by omega]; rfl) (AllT.cons (by
    rw [mulHi_small (by omega) (by omega)]; rfl) AllT.nil))
  rw [hf] at hr
  intro B w0 E us w hus hh
  refine Calls.mono (hr B w0 E us w hus hh) fun e1 w1 ⟨E1, u, h1, h2, h3, h4, h5⟩ => ⟨E1, u, h1, h2, h3, ?_, h5⟩
  exact ⟨h4.len, fun r R hR => by
    match r, hR with
    | 0, hR =>
      cases hR
      obtain ⟨g, vs, q1, q2, q3⟩ := h4.at_ 0 (.own 86 [.w64 (a + e * BitVec.ofNat 64 n), .sb false]) rfl
      match vs, q2, q3 with
      | [v1, v2], q2, q3 => exact ⟨g, [v1, v2], q1, ⟨q2.1, q2.2.1, trivial⟩, q3⟩
    | 1, hR => cases hR; exact h4.at_ 1 _ rfl
    | r + 2, hR => simp at hR, fun r r' R R' x x' g q1 q2 q3 q4 q5 q6 q7 q8 => by
    match r, q1, r', q3 with
    | 0, q1, 0, q3 => exact absurd rfl q5
    | 0, q1, 1, q3 => cases q3; cases q4
    | 1, q1, _, _ => cases q1; cases q2
    | r + 2, q1, _, _ => simp at q1
    | 0, _, r' + 2, q3 => simp at q3, fun r R x g q1 q2 q3 q4 => by
    match r, q1 with
    | 0, q1 => exact h4.mine 0 (.own 86 [.w64 (a + e * BitVec.ofNat 64 n), .sb false]) x g rfl rfl q3 q4
    | 1, q1 => cases q1; cases q2
    | r + 2, q1 => simp at q1, h4.lt, h4.ok, h4.os, h4.tape, h4.output, h4.size, h4.keep⟩
noncomputable def sumM : Tab := fun vs hp =>
  match vs with
  | [.one (.pt r 0), .one (.w64 e), .one c] => match numC c, regAt r hp with
    | some n, some (.own 86 [.w64 a, .bl false]) => match regSet r (.own 86 [.w64 (a + e * BitVec.ofNat 64 n), .bl false]) hp with
      | some hp' => some (.un, hp', true, some (Nat.ble e.toNat 4294967295 && (Nat.ble n 4294967295 && Nat.ble (a.toNat + e.toNat * n) 9223372036854775807)))
      | none => none
    | _, _ => none
  | _ => none
theorem ksum : Tells 54 sumM := by
  intro vs hp v hp' chg ob h hob
  unfold sumM at h
  split at h
  · rename_i r e c
    split at h
    · rename_i n a hn hr
      split at h
      · rename_i hp1 hset
        cases h
        rw [regAt_eq] at hr
        have hob := hob _ rfl
        rw [Bool.and_eq_true, Bool.and_eq_true] at hob
        obtain ⟨rfl, _⟩ := regSet_eq _ _ _ _ hset
        have hb := Runs.block (ws := sumC a) (ws' := sumC (a + e * BitVec.ofNat 64 n)) (tl := []) (tl2 := []) (more := []) (runs54 (Nat.le_of_ble_eq_true hob.1) (Nat.le_of_ble_eq_true hob.2.1) (Nat.le_of_ble_eq_true hob.2.2)) .none rfl rfl rfl rfl hr
        refine Runs.conv hb (fun E us h => ?_) fun E u h => h
        match us, h with
        | [u1, u2, u3], ⟨q1, q2, q3, _⟩ =>
          refine ⟨q1, q2, ?_, trivial⟩
          obtain ⟨q4, q5⟩ := numC_is hn q3
          exact ⟨q4, q5⟩
      · cases h
    · cases h
  · cases h
end Go.Proofs.Sx
