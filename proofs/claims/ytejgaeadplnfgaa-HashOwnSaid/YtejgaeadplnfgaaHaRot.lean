/- The words' turns: what math/bits and the reference's own turns hand back. -/
import Derived.Test.YtejgaeadplnfgaaSxRun
import Derived.Test.YtejgaeadplnfgaaProg
namespace Go.Proofs.Sx
open Go

theorem fol : Try.prog.follows .mixedOrders = true := rfl

def rotl (x : BitVec 64) (n : Nat) : BitVec 64 := x <<< n ||| x >>> (64 - n)
def rotl32 (x : BitVec 32) (n : Nat) : BitVec 32 := x <<< n ||| x >>> (32 - n)

noncomputable def call0 (M : Kn) (f : FuncId) (vs : List V) (hp : List Reg) : Option (V × List Reg × Bool × List Bool × List Bool) :=
  callF (sx Try.prog M 1000000) Try.prog M hp [] [] f vs

noncomputable def M0 : Kn := fun _ _ _ => none

theorem f45 (x : BitVec 64) (n : Nat) : call0 M0 45 [.one (.w64 x), .one (.it n)] [] =
    some (.one (.w64 (x <<< (BitVec.ofNat 64 n &&& BitVec.ofNat 64 63).toNat ||| x >>> (BitVec.ofNat 64 64 - (BitVec.ofNat 64 n &&& BitVec.ofNat 64 63)).toNat)), [], false, [], []) := by kernel_rfl
theorem f45n (x : BitVec 64) (n : Nat) : call0 M0 45 [.one (.w64 x), .one (.ng n)] [] =
    some (.one (.w64 (x <<< (BitVec.ofNat 64 (18446744073709551615 - n) &&& BitVec.ofNat 64 63).toNat ||| x >>> (BitVec.ofNat 64 64 - (BitVec.ofNat 64 (18446744073709551615 - n) &&& BitVec.ofNat 64 63)).toNat)), [], false, [], []) := by kernel_rfl
theorem f49 (x : BitVec 32) (n : Nat) : call0 M0 49 [.one (.w32 x), .one (.it n)] [] =
    some (.one (.w32 (x <<< (BitVec.ofNat 64 n &&& BitVec.ofNat 64 31).toNat ||| x >>> (BitVec.ofNat 64 32 - (BitVec.ofNat 64 n &&& BitVec.ofNat 64 31)).toNat)), [], false, [], []) := by kernel_rfl
theorem f49n (x : BitVec 32) (n : Nat) : call0 M0 49 [.one (.w32 x), .one (.ng n)] [] =
    some (.one (.w32 (x <<< (BitVec.ofNat 64 (18446744073709551615 - n) &&& BitVec.ofNat 64 31).toNat ||| x >>> (BitVec.ofNat 64 32 - (BitVec.ofNat 64 (18446744073709551615 - n) &&& BitVec.ofNat 64 31)).toNat)), [], false, [], []) := by kernel_rfl

theorem and63 (n : Nat) (h : n < 64) : (BitVec.ofNat 64 n &&& BitVec.ofNat 64 63).toNat = n := by
  have e : (BitVec.ofNat 64 63).toNat = 2 ^ 6 - 1 := rfl
  rw [BitVec.toNat_and, e, Nat.and_two_pow_sub_one_eq_mod, BitVec.toNat_ofNat]
  omega
theorem and31 (n : Nat) (h : n < 32) : (BitVec.ofNat 64 n &&& BitVec.ofNat 64 31).toNat = n := by
  have e : (BitVec.ofNat 64 31).toNat = 2 ^ 5 - 1 := rfl
  rw [BitVec.toNat_and, e, Nat.and_two_pow_sub_one_eq_mod, BitVec.toNat_ofNat]
  omega
theorem and63n (n : Nat) (h : n < 64) : (BitVec.ofNat 64 (18446744073709551615 - n) &&& BitVec.ofNat 64 63).toNat = 63 - n := by
  have e : (BitVec.ofNat 64 63).toNat = 2 ^ 6 - 1 := rfl
  rw [BitVec.toNat_and, e, Nat.and_two_pow_sub_one_eq_mod, BitVec.toNat_ofNat]
  omega
theorem and31n (n : Nat) (h : n < 32) : (BitVec.ofNat 64 (18446744073709551615 - n) &&& BitVec.ofNat 64 31).toNat = 31 - n := by
  have e : (BitVec.ofNat 64 31).toNat = 2 ^ 5 - 1 := rfl
  rw [BitVec.toNat_and, e, Nat.and_two_pow_sub_one_eq_mod, BitVec.toNat_ofNat]
  omega
theorem subN (k n : Nat) (hk : k ≤ 64) (hn : n ≤ k) (y : BitVec 64) (hy : y.toNat = n) : (BitVec.ofNat 64 k - y).toNat = k - n := by
  rw [BitVec.toNat_sub, hy, BitVec.toNat_ofNat]
  omega

noncomputable def m45 (vs : List V) (hp : List Reg) : Option (V × List Reg × Bool × Option Bool) :=
  match vs with
  | [.one (.w64 x), .one (.it n)] => match Nat.blt n 64 with
    | true => some (.one (.w64 (rotl x n)), hp, false, none)
    | false => none
  | [.one (.w64 x), .one (.ng n)] => match Nat.blt n 64 with
    | true => forceN (63 - n) fun k => some (.one (.w64 (rotl x k)), hp, false, none)
    | false => none
  | _ => none
noncomputable def m49 (vs : List V) (hp : List Reg) : Option (V × List Reg × Bool × Option Bool) :=
  match vs with
  | [.one (.w32 x), .one (.it n)] => match Nat.blt n 32 with
    | true => some (.one (.w32 (rotl32 x n)), hp, false, none)
    | false => none
  | [.one (.w32 x), .one (.ng n)] => match Nat.blt n 32 with
    | true => forceN (31 - n) fun k => some (.one (.w32 (rotl32 x k)), hp, false, none)
    | false => none
  | _ => none

theorem runs45 (x : BitVec 64) (n : Nat) (h : n < 64) (hp : List Reg) : Runs Try.prog 45 [.one (.w64 x), .one (.it n)] hp (.one (.w64 (rotl x n))) hp false := by
  have := (runs_of_call fol known_none (f45 x n) AllT.nil).plain rfl rfl hp
  rwa [subN 64 n (by omega) (by omega) _ (and63 n h), and63 n h] at this
theorem runs45n (x : BitVec 64) (n : Nat) (h : n < 64) (hp : List Reg) : Runs Try.prog 45 [.one (.w64 x), .one (.ng n)] hp (.one (.w64 (rotl x (63 - n)))) hp false := by
  have := (runs_of_call fol known_none (f45n x n) AllT.nil).plain rfl rfl hp
  rwa [subN 64 (63 - n) (by omega) (by omega) _ (and63n n h), and63n n h] at this
theorem runs49 (x : BitVec 32) (n : Nat) (h : n < 32) (hp : List Reg) : Runs Try.prog 49 [.one (.w32 x), .one (.it n)] hp (.one (.w32 (rotl32 x n))) hp false := by
  have := (runs_of_call fol known_none (f49 x n) AllT.nil).plain rfl rfl hp
  rwa [subN 32 n (by omega) (by omega) _ (and31 n h), and31 n h] at this
theorem runs49n (x : BitVec 32) (n : Nat) (h : n < 32) (hp : List Reg) : Runs Try.prog 49 [.one (.w32 x), .one (.ng n)] hp (.one (.w32 (rotl32 x (31 - n)))) hp false := by
  have := (runs_of_call fol known_none (f49n x n) AllT.nil).plain rfl rfl hp
  rwa [subN 32 (31 - n) (by omega) (by omega) _ (and31n n h), and31n n h] at this

theorem k45 : ∀ vs hp v hp' chg ob, m45 vs hp = some (v, hp', chg, ob) → (∀ x, ob = some x → x = true) → Runs Try.prog 45 vs hp v hp' chg := by
  intro vs hp v hp' chg ob h _
  unfold m45 at h
  split at h
  · split at h
    · rename_i hn
      cases h
      exact runs45 _ _ (Nat.le_of_ble_eq_true hn) _
    · cases h
  · split at h
    · rename_i hn
      rw [forceN_eq] at h
      cases h
      exact runs45n _ _ (Nat.le_of_ble_eq_true hn) _
    · cases h
  · cases h
theorem k49 : ∀ vs hp v hp' chg ob, m49 vs hp = some (v, hp', chg, ob) → (∀ x, ob = some x → x = true) → Runs Try.prog 49 vs hp v hp' chg := by
  intro vs hp v hp' chg ob h _
  unfold m49 at h
  split at h
  · split at h
    · rename_i hn
      cases h
      exact runs49 _ _ (Nat.le_of_ble_eq_true hn) _
    · cases h
  · split at h
    · rename_i hn
      rw [forceN_eq] at h
      cases h
      exact runs49n _ _ (Nat.le_of_ble_eq_true hn) _
    · cases h
  · cases h

/-! the reference's rol: 0 and any other -/
theorem f46z (x : BitVec 64) : call0 M0 46 [.one (.w64 x), .one (.it 0)] [] = some (.one (.w64 x), [], false, [], []) := by kernel_rfl
def f46rhs (x : BitVec 64) (n : Nat) : Option (V × List Reg × Bool × List Bool × List Bool) := some (.one (.w64 (rotl x n)), [], false, [], [])
theorem f46s (x : BitVec 64) : (List.range' 1 63).map (fun n => call0 M0 46 [.one (.w64 x), .one (.it n)] []) = (List.range' 1 63).map (f46rhs x) := by kernel_rfl
def f40rhs (x : BitVec 32) (n : Nat) : Option (V × List Reg × Bool × List Bool × List Bool) := some (.one (.w32 (x >>> n ||| x <<< (32 - n))), [], false, [], [])
theorem f40s (x : BitVec 32) : (List.range' 0 33).map (fun n => call0 M0 40 [.one (.w32 x), .one (.it n)] []) = (List.range' 0 33).map (f40rhs x) := by kernel_rfl
end Go.Proofs.Sx
