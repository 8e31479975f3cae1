/- Both Intrinsics: what they hand back, and that it is the same. -/
import Derived.Test.YtinbeihbhnjjnaaGxIn12
import Derived.Test.YtinbeihbhnjjnaaGxIn9
import Derived.Test.YtinbeihbhnjjnaaGxRules
namespace Go.Proofs.Sx
open Go
set_option linter.unusedVariables false
/-- what is known of the rules -/
structure Rk (r : Ru) : Prop where
  w1 : (r.w 1).toNat = 21000
  w2 : (r.w 2).toNat ≤ 32000
  w3 : (r.w 3).toNat ≤ 100
  w4 : (r.w 4).toNat ≤ 100
  w5 : (r.w 5).toNat ≤ 2400
  w6 : (r.w 6).toNat ≤ 1900
  w7 : (r.w 7).toNat ≤ 2
theorem rk_is (k : Nat) (hk : k < 16) : Rk (R k) := by
  have : ∀ k : Fin 16, ((R k.1).w 1).toNat = 21000 ∧ ((R k.1).w 2).toNat ≤ 32000 ∧ ((R k.1).w 3).toNat ≤ 100 ∧ ((R k.1).w 4).toNat ≤ 100 ∧ ((R k.1).w 5).toNat ≤ 2400 ∧ ((R k.1).w 6).toNat ≤ 1900 ∧ ((R k.1).w 7).toNat ≤ 2 := by decide
  obtain ⟨h1, h2, h3, h4, h5, h6, h7⟩ := this ⟨k, hk⟩
  exact ⟨h1, h2, h3, h4, h5, h6, h7⟩
theorem addW_nat {a e : W} {n : Nat} (h : a.toNat + e.toNat * n < 18446744073709551616) (hn : n < 18446744073709551616) : (addW a e n).toNat = a.toNat + e.toNat * n := by
  unfold addW
  rw [BitVec.toNat_add, BitVec.toNat_mul, BitVec.toNat_ofNat, Nat.mod_eq_of_lt (show n < 2 ^ 64 from hn)]
  omega
theorem addO_is {a e : W} {n : Nat} (he : e.toNat ≤ 4294967295) (hn : n ≤ 4294967295) (h : a.toNat + e.toNat * n ≤ 9223372036854775807) : addO a e n = true := by
  unfold addO
  rw [bleT he, bleT hn, bleT h]
  rfl
theorem zc_le (b : By) : ∀ i, zc b i ≤ i
  | 0 => Nat.le_refl _
  | i + 1 => by
    have := zc_le b i
    unfold zc
    cases zeroAt b i <;> simp only [cond_true, cond_false] <;> omega
section
variable {bd m : Nat} {r : Ru} {x : Txx}
def sA (r : Ru) (x : Txx) : Nat → Nat → Nat
  | _, 0 => 0
  | j, n + 1 => (r.w 5).toNat + (r.w 6).toNat * x.K j + sA r x (j + 1) n
theorem sA_le (hr : Rk r) (hK : ∀ j, j < x.n → x.K j ≤ 12) : ∀ (n j : Nat), j + n ≤ x.n → sA r x j n ≤ 25200 * n
  | 0, _, _ => Nat.le_refl _
  | n + 1, j, h => by
    have ih := sA_le hr hK n (j + 1) (by omega)
    have h5 := hr.w5
    have h6 : (r.w 6).toNat * x.K j ≤ 1900 * 12 := Nat.mul_le_mul hr.w6 (hK j (by omega))
    show (r.w 5).toNat + (r.w 6).toNat * x.K j + sA r x (j + 1) n ≤ _
    omega
theorem accW_nat (hr : Rk r) (hK : ∀ j, j < x.n → x.K j ≤ 12) : ∀ (n j : Nat) (a : W) (l : List Bool), j + n ≤ x.n → a.toNat + 25200 * n ≤ 1000000000 → AllT l → (accW r x a j n).toNat = a.toNat + sA r x j n ∧ AllT (accO r x l a j n)
  | 0, _, _, l, _, _, hl => ⟨rfl, hl⟩
  | n + 1, j, a, l, h, ha, hl => by
    have h5 := hr.w5
    have hk := hK j (by omega)
    have h6 : (r.w 6).toNat * x.K j ≤ 1900 * 12 := Nat.mul_le_mul hr.w6 hk
    have h6' := hr.w6
    have e1 : (addW a (r.w 5) 1).toNat = a.toNat + (r.w 5).toNat * 1 := addW_nat (by omega) (by omega)
    have e2 : (addW (addW a (r.w 5) 1) (r.w 6) (x.K j)).toNat = (addW a (r.w 5) 1).toNat + (r.w 6).toNat * x.K j := addW_nat (by omega) (by omega)
    have hlt : Nat.blt j x.n = true := Nat.ble_eq_true_of_le (by omega : j + 1 ≤ x.n)
    obtain ⟨i1, i2⟩ := accW_nat hr hK n (j + 1) (addW (addW a (r.w 5) 1) (r.w 6) (x.K j)) (addO (addW a (r.w 5) 1) (r.w 6) (x.K j) :: addO a (r.w 5) 1 :: Nat.blt j x.n :: Nat.blt j x.n :: l) (by omega) (by omega)
      (AllT.cons (addO_is (by omega) (by omega) (by omega)) (AllT.cons (addO_is (by omega) (by omega) (by omega)) (AllT.cons hlt (AllT.cons hlt hl))))
    refine ⟨?_, i2⟩
    show (accW r x (addW (addW a (r.w 5) 1) (r.w 6) (x.K j)) (j + 1) n).toNat = a.toNat + ((r.w 5).toNat + (r.w 6).toNat * x.K j + sA r x (j + 1) n)
    rw [i1]
    omega
theorem acc29_nat (hr : Rk r) (hK : ∀ j, j < x.n → x.K j ≤ 12) : ∀ (n j : Nat) (a : W), j + n ≤ x.n → a.toNat + 25200 * n ≤ 1000000000 → (acc29 r x a j n).toNat = a.toNat + sA r x j n
  | 0, _, _, _, _ => rfl
  | n + 1, j, a, h, ha => by
    have h5 := hr.w5
    have hk := hK j (by omega)
    have h6 : (r.w 6).toNat * x.K j ≤ 1900 * 12 := Nat.mul_le_mul hr.w6 hk
    have e0 : (a + r.w 5).toNat = a.toNat + (r.w 5).toNat := by rw [BitVec.toNat_add]; omega
    have e2 : (addW (a + r.w 5) (r.w 6) (x.K j)).toNat = (a + r.w 5).toNat + (r.w 6).toNat * x.K j := addW_nat (by omega) (by omega)
    have ih := acc29_nat hr hK n (j + 1) (addW (a + r.w 5) (r.w 6) (x.K j)) (by omega) (by omega)
    show (acc29 r x (addW (a + r.w 5) (r.w 6) (x.K j)) (j + 1) n).toNat = a.toNat + ((r.w 5).toNat + (r.w 6).toNat * x.K j + sA r x (j + 1) n)
    rw [ih]
    omega
theorem accN_is : ∀ (n j : Nat) (l : List Bool), j + n ≤ x.n → AllT l → AllT (accN x l j n)
  | 0, _, _, _, h => h
  | n + 1, j, l, h, hl => by
    have hlt : Nat.blt j x.n = true := Nat.ble_eq_true_of_le (by omega : j + 1 ≤ x.n)
    exact accN_is n (j + 1) _ (by omega) (AllT.cons hlt (AllT.cons hlt hl))
/-- the reference's sum over the bytes -/
def aD (r : Ru) (x : Txx) (a : W) : Nat → W
  | 0 => a
  | i + 1 => bif zeroAt x.b i then aD r x a i + r.w 3 else aD r x a i + r.w 4
theorem aD_nat (hr : Rk r) {a : W} (ha : a.toNat ≤ 100000) : ∀ i, i ≤ 800 → (aD r x a i).toNat = a.toNat + (r.w 3).toNat * zc x.b i + (r.w 4).toNat * (i - zc x.b i)
  | 0, _ => rfl
  | i + 1, hi => by
    have ih := aD_nat hr ha i (by omega)
    have hz := zc_le x.b i
    have h3 := hr.w3
    have h4 := hr.w4
    have b3 : (r.w 3).toNat * zc x.b i ≤ 100 * 800 := Nat.mul_le_mul h3 (by omega)
    have b4 : (r.w 4).toNat * (i - zc x.b i) ≤ 100 * 800 := Nat.mul_le_mul h4 (by omega)
    unfold aD zc
    cases zeroAt x.b i with
    | true =>
      simp only [cond_true]
      rw [BitVec.toNat_add, ih, Nat.mul_add, show i + 1 - (zc x.b i + 1) = i - zc x.b i by omega]
      omega
    | false =>
      simp only [cond_false]
      rw [BitVec.toNat_add, ih, show i + 1 - zc x.b i = i - zc x.b i + 1 by omega, Nat.mul_add]
      omega
theorem words_nat {n : Nat} (h : n ≤ 800) : (wordsW (BitVec.ofNat 64 n)).toNat = (n + 31) / 32 := by
  have e : (BitVec.ofNat 64 n).toNat = n := by rw [BitVec.toNat_ofNat]; omega
  unfold wordsW
  rw [BitVec.toNat_add, BitVec.toNat_udiv, BitVec.toNat_udiv, BitVec.toNat_add, BitVec.toNat_umod, e]
  show (n / 32 + (n % 32 + 31) % 2 ^ 64 / 32) % 2 ^ 64 = _
  omega
def v28 (r : Ru) (x : Txx) : W := bif x.make then mkW x.n r x (zc x.b x.b.length) else a28 x.n r x (zc x.b x.b.length)
def v29 (r : Ru) (x : Txx) : W := acc29 r x (aD r x (bif x.make then mk29 r x else r.w 1) x.b.length) 0 x.n
/-- what both come to -/
theorem v_nat (hr : Rk r) (hn : x.n ≤ 12) (hb : x.b.length ≤ 800) (hK : ∀ j, j < x.n → x.K j ≤ 12) :
    AllT (o28 x.n r x (zc x.b x.b.length)) ∧ (d1W r (zc x.b x.b.length)).toNat ≤ 200000 ∧ (a28 x.n r x (zc x.b x.b.length)).toNat ≤ 1000000 ∧ v28 r x = v29 r x ∧ 21000 ≤ (v28 r x).toNat ∧ ((addW (a28 x.n r x (zc x.b x.b.length)) (r.w 2) 1).toNat ≤ 2000000) := by
  have hz := zc_le x.b x.b.length
  have h1 := hr.w1
  have h2 := hr.w2
  have h3 := hr.w3
  have h4 := hr.w4
  have h7 := hr.w7
  have b3 : (r.w 3).toNat * zc x.b x.b.length ≤ 100 * 800 := Nat.mul_le_mul h3 (by omega)
  have b4 : (r.w 4).toNat * (x.b.length - zc x.b x.b.length) ≤ 100 * 800 := Nat.mul_le_mul h4 (by omega)
  have e1 : (d1W r (zc x.b x.b.length)).toNat = (r.w 1).toNat + (r.w 3).toNat * zc x.b x.b.length := addW_nat (by omega) (by omega)
  have e2 : (d2W r x (zc x.b x.b.length)).toNat = (d1W r (zc x.b x.b.length)).toNat + (r.w 4).toNat * (x.b.length - zc x.b x.b.length) := addW_nat (by omega) (by omega)
  have hs := sA_le hr hK x.n 0 (by omega)
  obtain ⟨e3, o3⟩ := accW_nat hr hK x.n 0 (d2W r x (zc x.b x.b.length)) [addO (d1W r (zc x.b x.b.length)) (r.w 4) (x.b.length - zc x.b x.b.length), Nat.ble (zc x.b x.b.length) x.b.length, addO (r.w 1) (r.w 3) (zc x.b x.b.length)] (by omega) (by omega)
    (AllT.cons (addO_is (by omega) (by omega) (by omega)) (AllT.cons (bleT hz) (AllT.cons (addO_is (by omega) (by omega) (by omega)) AllT.nil)))
  have ea : (a28 x.n r x (zc x.b x.b.length)).toNat = (d2W r x (zc x.b x.b.length)).toNat + sA r x 0 x.n := e3
  have hx : (!(Nat.blt x.n x.n)) = true := by
    cases h : Nat.blt x.n x.n with
    | false => rfl
    | true => have := Nat.le_of_ble_eq_true h; omega
  have em : (addW (a28 x.n r x (zc x.b x.b.length)) (r.w 2) 1).toNat = (a28 x.n r x (zc x.b x.b.length)).toNat + (r.w 2).toNat * 1 := addW_nat (by omega) (by omega)
  have hw := words_nat hb
  have b7 : (r.w 7).toNat * ((x.b.length + 31) / 32) ≤ 2 * 30 := Nat.mul_le_mul h7 (by omega)
  refine ⟨AllT.cons hx o3, by omega, by omega, ?_, ?_, by omega⟩
  · apply BitVec.eq_of_toNat_eq
    unfold v28 v29
    cases hmk : x.make with
    | false =>
      simp only [cond_false]
      have d := aD_nat (x := x) hr (a := r.w 1) (by omega) x.b.length hb
      rw [acc29_nat hr hK x.n 0 _ (by omega) (by omega)]
      omega
    | true =>
      simp only [cond_true]
      have ek : (mkW x.n r x (zc x.b x.b.length)).toNat = (addW (a28 x.n r x (zc x.b x.b.length)) (r.w 2) 1).toNat + (r.w 7).toNat * (wdW x).toNat := addW_nat (by unfold wdW; rw [hw]; omega) (by unfold wdW; rw [hw]; omega)
      have eq : (BitVec.ofNat 64 (x.b.length + 31) / 32#64 : W).toNat = (x.b.length + 31) / 32 := by
        rw [BitVec.toNat_udiv, BitVec.toNat_ofNat]
        show (x.b.length + 31) % 2 ^ 64 / 32 = _
        omega
      have ek2 : (mk29 r x).toNat = (r.w 1).toNat + (r.w 2).toNat + (r.w 7).toNat * ((x.b.length + 31) / 32) := by
        unfold mk29
        rw [BitVec.toNat_add, BitVec.toNat_add, BitVec.toNat_mul, eq]
        omega
      have d := aD_nat (x := x) hr (a := mk29 r x) (by omega) x.b.length hb
      rw [acc29_nat hr hK x.n 0 _ (by omega) (by omega), ek]
      unfold wdW
      rw [hw]
      omega
  · unfold v28
    cases hmk : x.make with
    | false =>
      simp only [cond_false]
      omega
    | true =>
      simp only [cond_true]
      have ek : (mkW x.n r x (zc x.b x.b.length)).toNat = (addW (a28 x.n r x (zc x.b x.b.length)) (r.w 2) 1).toNat + (r.w 7).toNat * (wdW x).toNat := addW_nat (by unfold wdW; rw [hw]; omega) (by unfold wdW; rw [hw]; omega)
      omega
end
end Go.Proofs.Sx
