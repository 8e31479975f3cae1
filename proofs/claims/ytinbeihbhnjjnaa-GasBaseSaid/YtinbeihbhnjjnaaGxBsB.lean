/- How many bytes a word has: the program's and the reference's number are the same. -/
import Derived.Test.YtinbeihbhnjjnaaGxBs12
import Derived.Test.YtinbeihbhnjjnaaGxExp
namespace Go.Proofs.Sx
open Go
set_option linter.unusedVariables false
/-- the least k with m < 256^k -/
def IsLen (m k : Nat) : Prop := m < 256 ^ k ∧ (k = 0 ∨ 256 ^ (k - 1) ≤ m)
theorem isLen_uniq {m k k' : Nat} (h : IsLen m k) (h' : IsLen m k') : k = k' := by
  have key : ∀ {k k' : Nat}, IsLen m k → IsLen m k' → ¬ k < k' := by
    intro k k' h h' hlt
    obtain ⟨h1, _⟩ := h
    obtain ⟨_, h2⟩ := h'
    rcases h2 with h2 | h2
    · omega
    · have : 256 ^ k ≤ 256 ^ (k' - 1) := Nat.pow_le_pow_right (by decide) (by omega)
      omega
  have a := key h h'
  have b := key h' h
  omega
theorem isLen_bits {m b : Nat} (hb : 1 ≤ b) (h1 : 2 ^ (b - 1) ≤ m) (h2 : m < 2 ^ b) : IsLen m ((b + 7) / 8) := by
  have e : ∀ k : Nat, 256 ^ k = 2 ^ (8 * k) := fun k => by rw [Nat.pow_mul]
  refine ⟨?_, .inr ?_⟩
  · rw [e]
    exact Nat.lt_of_lt_of_le h2 (Nat.pow_le_pow_right (by decide) (by omega))
  · rw [e]
    exact Nat.le_trans (Nat.pow_le_pow_right (by decide) (by omega)) h1
theorem lenQ_is : ∀ q : Fin 256, 1 ≤ q.val → 1 ≤ lenQ q.val ∧ 2 ^ (lenQ q.val - 1) ≤ q.val ∧ q.val < 2 ^ lenQ q.val := by decide +kernel
theorem y67_div (x : W) : (y67 x).toNat = x.toNat / 2 ^ n67 (a67B x) (b67B x) (c67B x) := by
  unfold y67
  rw [sh67_nat, sh67_nat, sh67_nat]
  cases a67B x <;> cases b67B x <;> cases c67B x <;> simp only [cond_true, cond_false, n67, Nat.div_div_eq_div_mul, ← Nat.pow_add, Nat.zero_add, Nat.add_zero, Nat.pow_zero, Nat.div_one] <;> rfl
theorem y67_pos {x : W} (hx : 1 ≤ x.toNat) : 1 ≤ (y67 x).toNat := by
  have e1 : 1 ≤ (sh67 x (a67B x) 32).toNat := by
    rw [sh67_nat]
    unfold a67B
    rcases ble_or 4294967296 x.toNat with ⟨h, h'⟩ | ⟨h, h'⟩ <;> rw [h]
    · show 1 ≤ x.toNat / 2 ^ 32; omega
    · exact hx
  have e2 : 1 ≤ (sh67 (sh67 x (a67B x) 32) (b67B x) 16).toNat := by
    rw [sh67_nat]
    unfold b67B
    generalize (sh67 x (a67B x) 32).toNat = y at *
    rcases ble_or 65536 y with ⟨h, h'⟩ | ⟨h, h'⟩ <;> rw [h]
    · show 1 ≤ y / 2 ^ 16; omega
    · exact e1
  unfold y67
  rw [sh67_nat]
  unfold c67B
  generalize (sh67 (sh67 x (a67B x) 32) (b67B x) 16).toNat = y at *
  rcases ble_or 256 y with ⟨h, h'⟩ | ⟨h, h'⟩ <;> rw [h]
  · show 1 ≤ y / 2 ^ 8; omega
  · exact e2
theorem len67_is {x : W} (hx : 1 ≤ x.toNat) : 1 ≤ len67 x ∧ 2 ^ (len67 x - 1) ≤ x.toNat ∧ x.toNat < 2 ^ len67 x := by
  have hy := y67_pos hx
  have hlt := y67_lt x
  obtain ⟨h1, h2, h3⟩ := lenQ_is ⟨(y67 x).toNat, hlt⟩ hy
  simp only at h1 h2 h3
  have hd := y67_div x
  have e : len67 x = n67 (a67B x) (b67B x) (c67B x) + lenQ (y67 x).toNat := rfl
  rw [e]
  generalize n67 (a67B x) (b67B x) (c67B x) = n at *
  generalize lenQ (y67 x).toNat = q at *
  generalize (y67 x).toNat = y at *
  have hp : 0 < 2 ^ n := Nat.pow_pos (by decide)
  have hm := Nat.div_add_mod x.toNat (2 ^ n)
  have hml := Nat.mod_lt x.toNat hp
  rw [← hd] at hm
  refine ⟨by omega, ?_, ?_⟩
  · have e1 : n + q - 1 = n + (q - 1) := by omega
    rw [e1, Nat.pow_add]
    have := Nat.mul_le_mul_left (2 ^ n) h2
    omega
  · rw [Nat.pow_add]
    have h4 : (y + 1) ≤ 2 ^ q := h3
    have := Nat.mul_le_mul_left (2 ^ n) h4
    rw [Nat.mul_add] at this
    omega
theorem nzW_or (x : W) : (nzW x = true ∧ 1 ≤ x.toNat) ∨ (nzW x = false ∧ x.toNat = 0) := by
  unfold nzW
  cases h : Nat.beq x.toNat 0 with
  | true => exact .inr ⟨rfl, Nat.eq_of_beq_eq_true h⟩
  | false =>
    refine .inl ⟨rfl, ?_⟩
    rcases Nat.eq_zero_or_pos x.toNat with h0 | h0
    · rw [h0] at h; cases h
    · exact h0
theorem bits_mul {m b L x : Nat} (h1 : 2 ^ b * x ≤ m) (h2 : m < 2 ^ b * (x + 1)) (hL : 1 ≤ L) (h3 : 2 ^ (L - 1) ≤ x) (h4 : x < 2 ^ L) : IsLen m ((b + L + 7) / 8) := by
  refine isLen_bits (by omega) ?_ ?_
  · have e : b + L - 1 = b + (L - 1) := by omega
    rw [e, Nat.pow_add]
    exact Nat.le_trans (Nat.mul_le_mul_left _ h3) h1
  · rw [Nat.pow_add]
    exact Nat.lt_of_lt_of_le h2 (Nat.mul_le_mul_left _ h4)
theorem bytesQ_is (a : Q) : IsLen (valQ a) (bytesQ a) := by
  have l0 := (a 0).isLt
  have l1 := (a 1).isLt
  have l2 := (a 2).isLt
  unfold bytesQ bitsQ valQ
  rcases nzW_or (a 3) with ⟨e, h⟩ | ⟨e, h⟩ <;> rw [e]
  · obtain ⟨p1, p2, p3⟩ := len67_is h
    simp only [cond_true]
    exact bits_mul (b := 192) (by omega) (by omega) p1 p2 p3
  rcases nzW_or (a 2) with ⟨e2, h2⟩ | ⟨e2, h2⟩ <;> rw [e2, h]
  · obtain ⟨p1, p2, p3⟩ := len67_is h2
    simp only [cond_true, cond_false]
    exact bits_mul (b := 128) (by omega) (by omega) p1 p2 p3
  rcases nzW_or (a 1) with ⟨e3, h3⟩ | ⟨e3, h3⟩ <;> rw [e3, h2]
  · obtain ⟨p1, p2, p3⟩ := len67_is h3
    simp only [cond_true, cond_false]
    exact bits_mul (b := 64) (by omega) (by omega) p1 p2 p3
  rcases nzW_or (a 0) with ⟨e4, h4⟩ | ⟨e4, h4⟩ <;> rw [e4, h3]
  · obtain ⟨p1, p2, p3⟩ := len67_is h4
    simp only [cond_true, cond_false]
    exact bits_mul (b := 0) (by simp) (by simp) p1 p2 p3
  · rw [h4]
    simp only [cond_false]
    exact ⟨by decide, .inl rfl⟩
/-! the reference -/
def nzB (x : BitVec 8) : Bool := !(Nat.beq x.toNat 0)
def topZ (x : BitVec 32) : Nat := bif nzB ((x >>> (8 * 3)).setWidth 8) then 0 else bif nzB ((x >>> (8 * 2)).setWidth 8) then 1 else bif nzB ((x >>> (8 * 1)).setWidth 8) then 2 else 3
def bytesL (l : L32) : Nat := match l.length with
  | 0 => 0
  | k + 1 => 4 * k + 4 - topZ (nthD l k)
theorem top_nz : ∀ {l : L32} {k : Nat}, trimL l = l → l.length = k + 1 → 1 ≤ (nthD l k).toNat
  | [], _, _, h => by cases h
  | x :: t, k, ht, hk => by
    have e : trimL (x :: t) = match zero32 x && allZ t with
      | true => []
      | false => x :: trimL t := rfl
    cases hb : zero32 x && allZ t with
    | true => rw [hb] at e; simp only at e; rw [e] at ht; cases ht
    | false =>
      rw [hb] at e
      simp only at e
      rw [e] at ht
      have ht' : trimL t = t := by injection ht
      match k, hk with
      | 0, hk =>
        have : t = [] := List.eq_nil_of_length_eq_zero (by simpa using hk)
        subst this
        have hz : zero32 x = false := by simpa [allZ] using hb
        show 1 ≤ x.toNat
        rcases Nat.eq_zero_or_pos x.toNat with h0 | h0
        · unfold zero32 at hz; rw [h0] at hz; cases hz
        · exact h0
      | k + 1, hk => exact top_nz (l := t) ht' (by simpa using hk)
theorem natL_top : ∀ {l : L32} {k : Nat}, l.length = k + 1 → 4294967296 ^ k * (nthD l k).toNat ≤ natL l ∧ natL l < 4294967296 ^ k * ((nthD l k).toNat + 1)
  | [], _, h => by cases h
  | x :: t, 0, h => by
    have : t = [] := List.eq_nil_of_length_eq_zero (by simpa using h)
    subst this
    show 4294967296 ^ 0 * x.toNat ≤ x.toNat + 4294967296 * 0 ∧ x.toNat + 4294967296 * 0 < 4294967296 ^ 0 * (x.toNat + 1)
    simp
  | x :: t, k + 1, h => by
    obtain ⟨h1, h2⟩ := natL_top (l := t) (k := k) (by simpa using h)
    have hx := x.isLt
    show 4294967296 ^ (k + 1) * (nthD t k).toNat ≤ x.toNat + 4294967296 * natL t ∧ x.toNat + 4294967296 * natL t < 4294967296 ^ (k + 1) * ((nthD t k).toNat + 1)
    rw [Nat.pow_succ]
    have e : ∀ y : Nat, 4294967296 ^ k * 4294967296 * y = 4294967296 * (4294967296 ^ k * y) := fun y => by rw [Nat.mul_right_comm, Nat.mul_comm]
    rw [e, e]
    omega
theorem byte_nat (x : BitVec 32) (s : Nat) : ((x >>> s).setWidth 8 : BitVec 8).toNat = x.toNat / 2 ^ s % 256 := by
  rw [BitVec.toNat_setWidth, BitVec.toNat_ushiftRight, Nat.shiftRight_eq_div_pow]
theorem nzB_or (x : BitVec 32) (s : Nat) : (nzB ((x >>> s).setWidth 8) = true ∧ 1 ≤ x.toNat / 2 ^ s % 256) ∨ (nzB ((x >>> s).setWidth 8) = false ∧ x.toNat / 2 ^ s % 256 = 0) := by
  unfold nzB
  rw [byte_nat]
  generalize x.toNat / 2 ^ s % 256 = y
  cases h : Nat.beq y 0 with
  | true => exact .inr ⟨rfl, Nat.eq_of_beq_eq_true h⟩
  | false =>
    refine .inl ⟨rfl, ?_⟩
    rcases Nat.eq_zero_or_pos y with h0 | h0
    · rw [h0] at h; cases h
    · exact h0
def zerX (x : BitVec 32) : Nat → List Bool
  | 0 => []
  | z + 1 => (!(nzB ((x >>> (8 * (3 - z))).setWidth 8))) :: zerX x z
theorem topZ_is {x : BitVec 32} (hx : 1 ≤ x.toNat) : topZ x ≤ 3 ∧ 256 ^ (3 - topZ x) ≤ x.toNat ∧ x.toNat < 256 ^ (4 - topZ x) ∧ nzB ((x >>> (8 * (3 - topZ x))).setWidth 8) = true ∧ AllT (zerX x (topZ x)) := by
  have hl := x.isLt
  unfold topZ
  rcases nzB_or x (8 * 3) with ⟨e, h⟩ | ⟨e, h⟩ <;> rw [e]
  · simp only [cond_true]
    exact ⟨by decide, by omega, by omega, e, AllT.nil⟩
  have g3 : (!(nzB ((x >>> (8 * 3)).setWidth 8))) = true := by rw [e]; rfl
  rcases nzB_or x (8 * 2) with ⟨e2, h2⟩ | ⟨e2, h2⟩ <;> rw [e2]
  · simp only [cond_true, cond_false]
    exact ⟨by decide, by omega, by omega, e2, AllT.cons g3 AllT.nil⟩
  have g2 : (!(nzB ((x >>> (8 * 2)).setWidth 8))) = true := by rw [e2]; rfl
  rcases nzB_or x (8 * 1) with ⟨e1, h1⟩ | ⟨e1, h1⟩ <;> rw [e1]
  · simp only [cond_true, cond_false]
    exact ⟨by decide, by omega, by omega, e1, AllT.cons g2 (AllT.cons g3 AllT.nil)⟩
  have g1 : (!(nzB ((x >>> (8 * 1)).setWidth 8))) = true := by rw [e1]; rfl
  simp only [cond_false]
  refine ⟨by decide, by omega, by omega, ?_, AllT.cons g1 (AllT.cons g2 (AllT.cons g3 AllT.nil))⟩
  rcases nzB_or x (8 * 0) with ⟨e0, h0⟩ | ⟨e0, h0⟩
  · exact e0
  · omega
theorem bytesL_is {l : L32} (ht : trimL l = l) : IsLen (natL l) (bytesL l) := by
  unfold bytesL
  split
  · rename_i h
    have : l = [] := List.eq_nil_of_length_eq_zero h
    subst this
    exact ⟨by decide, .inl rfl⟩
  · rename_i k h
    obtain ⟨h1, h2⟩ := natL_top h
    obtain ⟨z1, z2, z3, _, _⟩ := topZ_is (top_nz ht h)
    have e : ∀ j, 4294967296 ^ k * 256 ^ j = 256 ^ (4 * k + j) := fun j => by rw [Nat.pow_add, Nat.pow_mul]
    refine ⟨?_, .inr ?_⟩
    · rw [show 4 * k + 4 - topZ (nthD l k) = 4 * k + (4 - topZ (nthD l k)) by omega, ← e]
      exact Nat.lt_of_lt_of_le h2 (Nat.mul_le_mul_left _ z3)
    · rw [show 4 * k + 4 - topZ (nthD l k) - 1 = 4 * k + (3 - topZ (nthD l k)) by omega, ← e]
      exact Nat.le_trans (Nat.mul_le_mul_left _ z2) h1
theorem bytes_same (a : Q) : bytesL (nL a) = bytesQ a := isLen_uniq (by have h := bytesL_is (l := nL a) (trim_trim _); rwa [nL_nat] at h) (bytesQ_is a)
end Go.Proofs.Sx
/- How many bytes a word has: the reference's Short. -/
namespace Go.Proofs.Sx
open Go
set_option linter.unusedVariables false
theorem trues_is : ∀ (n : Nat) {l : List Bool}, AllT l → AllT (trues n l)
  | 0, _, h => h
  | n + 1, _, h => AllT.cons rfl (trues_is n h)
theorem outL_is {M : Kn} (hM : Known Try.prog M) {f : FuncId} {vs : List V} {hp : List Reg} {n : Nat} {ds ob : List Bool} (h : outL (callD M f vs hp ds) = some (n, ob)) (hob : AllT ob) : ∃ v hp1 chg, Runs Try.prog f vs hp v hp1 chg ∧ lenR v hp1 = some n := by
  unfold outL at h
  split at h
  · rename_i v1 hp1 c1 ob1 ds1 hc
    split at h
    · rename_i n1 hn
      cases h
      exact ⟨v1, hp1, c1, fun B w0 E us w hv hh => (callF_is (sx_sound fol hM _) hM hc).2.2 hob E B w0 w us hv hh, hn⟩
    · cases h
  · cases h
theorem zerD_is (a : Nat → BitVec 32) (k : Nat) : ∀ z : Nat, z ≤ 3 → zerD a (4 * k + 3) z = zerX (a k) z
  | 0, _ => rfl
  | z + 1, hz => by
    have e1 : (4 * k + 3 - z) / 4 = k := by omega
    have e2 : (4 * k + 3 - z) % 4 = 3 - z := by omega
    show (!(!(Nat.beq (byteD a (4 * k + 3 - z)).toNat 0))) :: zerD a (4 * k + 3) z = (!(nzB ((a k >>> (8 * (3 - z))).setWidth 8))) :: zerX (a k) z
    rw [zerD_is a k z (by omega)]
    unfold byteD
    rw [e1, e2]
    rfl
theorem owe66_is {x : BitVec 32} {a : Nat → BitVec 32} {k : Nat} (hx : a k = x) (h : 1 ≤ x.toNat) : AllT (owe66 a k (topZ x)) := by
  subst hx
  obtain ⟨z1, _, _, z4, z5⟩ := topZ_is h
  have e1 : (4 * k + 3 - topZ (a k)) / 4 = k := by omega
  have e2 : (4 * k + 3 - topZ (a k)) % 4 = 3 - topZ (a k) := by omega
  unfold owe66
  refine trues_is _ (AllT.cons ?_ (by rw [zerD_is a k _ z1]; exact z5))
  unfold byteD
  rw [e1, e2]
  exact z4
theorem r66_is (a : Nat → BitVec 32) (c : Nat) {k z : Nat} (hk : k ≤ 7) (hz : z ≤ 3) : r66 a c k z = some (4 * k + 4 - z, owe66 a k z) := by
  have hm : z ∈ List.range' 0 4 := by simp; omega
  rcases (by omega : k = 0 ∨ k = 1 ∨ k = 2 ∨ k = 3 ∨ k = 4 ∨ k = 5 ∨ k = 6 ∨ k = 7) with rfl | rfl | rfl | rfl | rfl | rfl | rfl | rfl
  · exact mapAt (f66_0 a c) hm
  · exact mapAt (f66_1 a c) hm
  · exact mapAt (f66_2 a c) hm
  · exact mapAt (f66_3 a c) hm
  · exact mapAt (f66_4 a c) hm
  · exact mapAt (f66_5 a c) hm
  · exact mapAt (f66_6 a c) hm
  · exact mapAt (f66_7 a c) hm
theorem bytesL_le {l : L32} (hl : l.length ≤ 8) : bytesL l ≤ 32 := by
  unfold bytesL
  split
  · omega
  · omega
theorem bytes_calls {w : World} {v : Value} {l : L32} (h : Shows w v l) (ht : trimL l = l) (hl : l.length ≤ 8) : Calls Try.prog 66 #[v] w (LenPost w (bytesL l)) := by
  obtain ⟨_, a2, a3, a4⟩ := arg_is h (E := ⟨[entOf v]⟩) (r := 0) rfl
  have hb := bytesL_le hl
  cases hk : l.length with
  | zero =>
    have e : bytesL l = 0 := by unfold bytesL; rw [hk]
    have hm : qOf l v ∈ [0, 1] := by
      rw [hk] at a4
      have : qOf l v = 0 ∨ qOf l v = 1 := by omega
      simpa using this
    obtain ⟨v1, hp1, chg, hr, hn⟩ := outL_is known_none (mapAt (f66z (nthD l) (capOf v)) hm) (AllT.cons rfl AllT.nil)
    rw [e]
    exact hr.lenPost hn (by omega) (us := [v]) ⟨a2, trivial⟩ (arg1_hr h)
  | succ k =>
    have hq : qOf l v = k + 2 := by
      rcases h with ⟨rfl, rfl⟩ | ⟨g, o, K, rfl, _⟩
      · cases hk
      · show l.length + 1 = k + 2; omega
    have hx := top_nz ht hk
    obtain ⟨z1, _⟩ := topZ_is hx
    have f := r66_is (nthD l) (capOf v) (k := k) (z := topZ (nthD l k)) (by omega) z1
    obtain ⟨v1, hp1, chg, hr, hn⟩ := outL_is known_none f (owe66_is rfl hx)
    have e : bytesL l = 4 * k + 4 - topZ (nthD l k) := by unfold bytesL; rw [hk]
    rw [← e] at hn
    have hh := arg1_hr h
    rw [hq] at a2 hh
    exact hr.lenPost hn (by omega) (us := [v]) ⟨a2, trivial⟩ hh
noncomputable def bytesM : Tab := fun vs hp =>
  match vs with
  | [.one (.dy r)] => match regAt r hp with
    | some (.nt l) => pushL hp (bytesL l) (some (trimL l == l && Nat.ble l.length 8))
    | _ => none
  | _ => none
theorem kbytes : Tells 66 bytesM := by
  intro vs hp v hp' chg ob h hob
  unfold bytesM at h
  split at h
  · rename_i r
    split at h
    · rename_i l hl
      rw [pushL_eq] at h
      cases h
      rw [regAt_eq] at hl
      have hob := hob _ rfl
      rw [Bool.and_eq_true] at hob
      refine len_at fun B w0 E us w hus hh => ?_
      match us, hus with
      | [u], ⟨h1, _⟩ => exact bytes_calls (shows_at hh hl h1) (eq_of_beq hob.1) (Nat.le_of_ble_eq_true hob.2)
    · cases h
  · cases h
noncomputable def Msr : Kn := addK (addK M0 38 nM) 66 bytesM
theorem knownsr : Known Try.prog Msr := known_add (known_add known_none knM) kbytes
section
variable (a : Q)
theorem f51 : outL (callD Msr 51 [.ag (w4 a)] [] []) = some (bytesL (nL (q4 a)), [trimL (nL (q4 a)) == nL (q4 a) && Nat.ble (nL (q4 a)).length 8]) := by kernel_rfl
end
theorem shortR_calls (a : Q) (w : World) (u : Value) (hu : (V.ag (w4 a)).is ⟨[]⟩ u) : Calls Try.prog 51 #[u] w (LenPost w (bytesQ a)) := by
  have e : trimL (nL (q4 a)) = nL (q4 a) := trim_trim _
  obtain ⟨v1, hp1, chg, hr, hn⟩ := outL_is knownsr (f51 a) (AllT.cons (by rw [e, bleN (nL_le _)]; simp) AllT.nil)
  have e2 : bytesL (nL (q4 a)) = bytesQ a := bytes_same (q4 a)
  rw [e2] at hn
  exact hr.lenPost hn (by have := bytesQ_le a; omega) (us := [u]) ⟨hu, trivial⟩ (HR.bare w)
theorem kshortR : Tells 51 (lenQM bytesQ) := klenQ shortR_calls
end Go.Proofs.Sx
/- What a power takes: the program and the reference hand back the same. -/
namespace Go.Proofs.Sx
open Go
set_option linter.unusedVariables false
noncomputable def Me : Kn := addK (addK M0 50 (lenQM bytesQ)) 51 (lenQM bytesQ)
theorem knowne : Known Try.prog Me := known_add (known_add known_none kshort) kshortR
/-- 25 or 26 -/
noncomputable def yops (f : Nat) : Array Oper := opsArr (nthC (rowOf Try.prog f) 1)
noncomputable def yop (f j : Nat) : Oper := ((yops f)[j]?).getD default
noncomputable def yplain (f j d : Nat) : Bool :=
  match (yop f j).guard, (yop f j).dst with
  | none, some e => Nat.beq e d
  | _, _ => false
theorem yplain_is {f j d : Nat} (h : yplain f j d = true) : (yop f j).guard = none ∧ (yop f j).dst = some d := by
  unfold yplain at h
  split at h
  · rename_i e h1 h2
    exact ⟨h1, by rw [h2, Nat.eq_of_beq_eq_true h]⟩
  · cases h
/-- what is asked of the shape -/
noncomputable def yshape (f : Nat) : Bool :=
  Nat.beq (yops f).size 8 && (((List.range' 0 8).all (fun j => yplain f j (xd j))) && (((List.range' 0 8).all (fun j => downB (yops f) j)) && ([(1, 0), (3, 2), (4, 3), (5, 4), (6, 1), (6, 5), (7, 6)].all (fun p => edgeB (yops f) p.1 p.2))))
theorem yshape25 : yshape 25 = true := by kernel_rfl
theorem yshape26 : yshape 26 = true := by kernel_rfl
section
variable (r : Ru) (a : Q)
def eW : W := r.w 21 * BitVec.ofNat 64 (bytesQ a)
noncomputable def yhp : List Reg := [.own 34 (rulesC r), .own 24 (w4 a)]
noncomputable def yhp1 : List Reg := [.own 34 (rulesC r), .own 24 (w4 a), .dead]
noncomputable def yl (j : Nat) : List (Nat × V) :=
  match j with
  | 0 => xbase
  | 1 => [(5, .one (.pt 0 21))]
  | 2 => xbase
  | 3 => [(7, .ag (w4 a))]
  | 4 => [(8, .one (.qv 2 (bytesQ a)))]
  | 5 => [(9, .one (.sy (bytesQ a)))]
  | 6 => [(6, .one (.w64 (r.w 21))), (10, .one (.w64 (BitVec.ofNat 64 (bytesQ a))))]
  | _ => [(11, .one (.w64 (eW r a)))]
noncomputable def yval (j : Nat) : V :=
  match j with
  | 0 => .one (.pt 0 21)
  | 1 => .one (.w64 (r.w 21))
  | 2 => .ag (w4 a)
  | 3 => .one (.qv 2 (bytesQ a))
  | 4 => .one (.sy (bytesQ a))
  | 5 => .one (.w64 (BitVec.ofNat 64 (bytesQ a)))
  | _ => .one (.w64 (eW r a))
noncomputable def ystep (f : Nat) (hp : List Reg) (j : Nat) : Res := stepOp (sx Try.prog Me 1000000) Try.prog Me (slots (yl r a j)) hp 0 [] [] (yop f j).op
def quiet : List Nat := [0, 1, 2, 5, 6, 7]
def late : List Nat := [0, 1, 2, 4, 5, 6, 7]
theorem y25q : quiet.map (ystep r a 25 (yhp r a)) = quiet.map fun j => some (yval r a j, yhp r a, false, [], []) := by kernel_rfl
theorem y25l : late.map (ystep r a 25 (yhp1 r a)) = late.map fun j => some (yval r a j, yhp1 r a, false, [], []) := by kernel_rfl
theorem y25c : ystep r a 25 (yhp r a) 3 = some (yval r a 3, yhp1 r a, true, [], []) := by kernel_rfl
theorem y26q : quiet.map (ystep r a 26 (yhp r a)) = quiet.map fun j => some (yval r a j, yhp r a, false, [], []) := by kernel_rfl
theorem y26l : late.map (ystep r a 26 (yhp1 r a)) = late.map fun j => some (yval r a j, yhp1 r a, false, [], []) := by kernel_rfl
theorem y26c : ystep r a 26 (yhp r a) 3 = some (yval r a 3, yhp1 r a, true, [], []) := by kernel_rfl
theorem ysh25 : nthC (rowOf Try.prog 25) 1 = .region (regId (nthC (rowOf Try.prog 25) 1)) (yops 25) true := by kernel_rfl
theorem ysh26 : nthC (rowOf Try.prog 26) 1 = .region (regId (nthC (rowOf Try.prog 26) 1)) (yops 26) true := by kernel_rfl
end
theorem yop_at {f j : Nat} (hs : (yops f).size = 8) (h : j < 8) : (yops f)[j]? = some (yop f j) := by
  unfold yop
  have h1 : j < (yops f).size := by rw [hs]; exact h
  rw [Array.getElem?_eq_getElem h1]
  rfl
theorem ysteps {M : Kn} {l : List (Nat × V)} {hp hp' : List Reg} {v : V} {o : Op} {c : Bool} (h : stepOp (sx Try.prog M 1000000) Try.prog M (slots l) hp 0 [] [] o = some (v, hp', c, [], [])) : Steps (sx Try.prog M 1000000) Try.prog M l hp hp' v o :=
  ⟨0, c, [], [], [], AllT.nil, h⟩
theorem yreg {r : Ru} {a : Q} {f : Nat} (hsh : nthC (rowOf Try.prog f) 1 = .region (regId (nthC (rowOf Try.prog f) 1)) (yops f) true) (hy : yshape f = true) (hq : quiet.map (ystep r a f (yhp r a)) = quiet.map fun j => some (yval r a j, yhp r a, false, [], []))
    (hl : late.map (ystep r a f (yhp1 r a)) = late.map fun j => some (yval r a j, yhp1 r a, false, [], [])) (hc : ystep r a f (yhp r a) 3 = some (yval r a 3, yhp1 r a, true, [], [])) (chg : Bool) (n base : Nat) (hn : 12 ≤ n) (ob ds : List Bool) :
    Does Try.prog (nthC (rowOf Try.prog f) 1) ⟨slots xbase, yhp r a, chg, n, base, ob, ds⟩ .normal ⟨slots [(4, .one (.w64 (eW r a)))], yhp1 r a, true, n, base, [], []⟩ := by
  unfold yshape at hy
  simp only [Bool.and_eq_true] at hy
  obtain ⟨h8, hpl, hdn, hed⟩ := hy
  have hs8 : (yops f).size = 8 := Nat.eq_of_beq_eq_true h8
  have edge : ∀ {i j : Nat}, (i, j) ∈ [(1, 0), (3, 2), (4, 3), (5, 4), (6, 1), (6, 5), (7, 6)] → edgeB (yops f) i j = true := fun {i j} h => List.all_eq_true.1 hed (i, j) h
  rw [hsh]
  refine region_grow (g := 3) (l := yl r a) (val := yval r a) (d := xd) fol (sx_sound fol knowne 1000000) knowne hs8 (by decide) ?_ ?_ (fun i hi => List.all_eq_true.1 hdn i (by simp; omega)) ?_ ?_ ?_ ?_ ?_
  · intro j hj
    obtain ⟨e1, e2⟩ := yplain_is (List.all_eq_true.1 hpl j (by simp; omega))
    refine ⟨_, yop_at hs8 hj, e1, e2, ?_⟩
    have hj' : j = 0 ∨ j = 1 ∨ j = 2 ∨ j = 3 ∨ j = 4 ∨ j = 5 ∨ j = 6 ∨ j = 7 := by omega
    clear e1 e2
    have both : ∀ {j : Nat}, j ∈ quiet → j ∈ late → Steps (sx Try.prog Me 1000000) Try.prog Me (yl r a j) (yhp r a) (yhp r a) (yval r a j) (yop f j).op ∧ Steps (sx Try.prog Me 1000000) Try.prog Me (yl r a j) (yhp1 r a) (yhp1 r a) (yval r a j) (yop f j).op :=
      fun h1 h2 => ⟨ysteps (mapAt hq h1), ysteps (mapAt hl h2)⟩
    rcases hj' with h | h | h | h | h | h | h | h <;> subst h
    · exact .inl (both (by decide) (by decide))
    · exact .inl (both (by decide) (by decide))
    · exact .inl (both (by decide) (by decide))
    · exact ysteps hc
    · exact .inr ⟨edge (by decide), ysteps (mapAt hl (a := 4) (by decide))⟩
    · exact .inl (both (by decide) (by decide))
    · exact .inl (both (by decide) (by decide))
    · exact .inl (both (by decide) (by decide))
  · intro j hj p hp
    have hj' : j = 0 ∨ j = 1 ∨ j = 2 ∨ j = 3 ∨ j = 4 ∨ j = 5 ∨ j = 6 ∨ j = 7 := by omega
    rcases hj' with h | h | h | h | h | h | h | h <;> subst h
    · exact .inl hp
    · exact .inr ⟨0, by decide, edge (by decide), one_of hp⟩
    · exact .inl hp
    · exact .inr ⟨2, by decide, edge (by decide), one_of hp⟩
    · exact .inr ⟨3, by decide, edge (by decide), one_of hp⟩
    · exact .inr ⟨4, by decide, edge (by decide), one_of hp⟩
    · rcases two_of hp with hp | hp
      · exact .inr ⟨1, by decide, edge (by decide), hp⟩
      · exact .inr ⟨5, by decide, edge (by decide), hp⟩
    · exact .inr ⟨6, by decide, edge (by decide), one_of hp⟩
  · intro i j hi hj
    have : ∀ i j : Fin 8, xd i = xd j → i = j := by decide
    intro h
    have := this ⟨i, hi⟩ ⟨j, hj⟩ h
    simpa using this
  · intro j hj
    have : ∀ j : Fin 8, xd j < 12 := by decide
    have := this ⟨j, hj⟩
    simp only at this
    omega
  · intro p hp j hj
    have : ∀ j : Fin 8, 2 ≠ xd j ∧ 3 ≠ xd j := by decide
    have := this ⟨j, hj⟩
    rcases two_of hp with rfl | rfl
    · exact this.1
    · exact this.2
  · intro p hp
    rcases two_of hp with rfl | rfl <;> kernel_rfl
  · intro p hp
    exact .inr ⟨7, by decide, one_of hp⟩
section
variable (r : Ru) (a : Q)
noncomputable def yA (f : Nat) : Option (Ex × St) := sxc Try.prog M0 1000000 (takeC 1 (rowOf Try.prog f)) [(2, false), (3, false)] 2 ⟨tmOf [.ag (rulesC r), .ag (w4 a)] 0 (T.full 8), [], false, 12, 0, [], []⟩
theorem yA25 : yA r a 25 = some (.normal, ⟨slots xbase, yhp r a, false, 12, 0, [], []⟩) := by kernel_rfl
theorem yA26 : yA r a 26 = some (.normal, ⟨slots xbase, yhp r a, false, 12, 0, [], []⟩) := by kernel_rfl
noncomputable def yF (f : Nat) : Bool := hasCode Try.prog f && (Nat.beq (fnOf Try.prog f).ntmps 12 && Nat.blt 1 (lenL (rowOf Try.prog f)))
theorem yF25 : yF 25 = true := by kernel_rfl
theorem yF26 : yF 26 = true := by kernel_rfl
noncomputable def yE (f : Nat) (hp1 : List Reg) : Option (V × List Bool) := retV f (sxs Try.prog M0 1000000 (dropC 2 (rowOf Try.prog f)) ⟨slots [(4, .one (.w64 (eW r a)))], hp1, true, 12, 0, [], []⟩)
theorem yE25 (hp1 : List Reg) : yE r a 25 hp1 = some (.one (.w64 (eW r a)), []) := by kernel_rfl
theorem yE26 (hp1 : List Reg) : yE r a 26 hp1 = some (.one (.w64 (eW r a)), []) := by kernel_rfl
theorem yruns {f : Nat} (hF : yF f = true) (hA : yA r a f = some (.normal, ⟨slots xbase, yhp r a, false, 12, 0, [], []⟩)) (hreg : Does Try.prog (nthC (rowOf Try.prog f) 1) ⟨slots xbase, yhp r a, false, 12, 0, [], []⟩ .normal ⟨slots [(4, .one (.w64 (eW r a)))], yhp1 r a, true, 12, 0, [], []⟩)
    (hE : ∀ hp1, yE r a f hp1 = some (.one (.w64 (eW r a)), [])) (hp : List Reg) : Runs Try.prog f [.ag (rulesC r), .ag (w4 a)] hp (.one (.w64 (eW r a))) hp false := by
  unfold yF at hF
  simp only [Bool.and_eq_true] at hF
  obtain ⟨h1, h2, h3⟩ := hF
  have dA : DoesL Try.prog (takeC 1 (rowOf Try.prog f)) ⟨tmOf [.ag (rulesC r), .ag (w4 a)] 0 (T.full 8), [], false, 12, 0, [], []⟩ .normal ⟨slots xbase, yhp r a, false, 12, 0, [], []⟩ := sxc_sound fol known_none hA AllT.nil
  obtain ⟨s3, d3, b3, v3⟩ := retV_is known_none (hE (yhp1 r a)) AllT.nil
  have hd : DoesL Try.prog (rowOf Try.prog f) ⟨tmOf [.ag (rulesC r), .ag (w4 a)] 0 (T.full 8), [], false, 12, 0, [], []⟩ .ret s3 := by
    have hl := parts3 1 (rowOf Try.prog f) (Nat.le_of_ble_eq_true h3)
    rw [← hl]
    exact dA.append (DoesL.cons hreg d3)
  have := runs_of (hp := []) h1 (.inr rfl) (n := 12) (by rw [Nat.eq_of_beq_eq_true h2]; rfl) hd v3 b3
  exact Runs.plain this rfl rfl hp
theorem runsE25 (hp : List Reg) : Runs Try.prog 25 [.ag (rulesC r), .ag (w4 a)] hp (.one (.w64 (eW r a))) hp false :=
  yruns r a yF25 (yA25 r a) (yreg ysh25 yshape25 (y25q r a) (y25l r a) (y25c r a) false 12 0 (by decide) [] []) (yE25 r a) hp
theorem runsE26 (hp : List Reg) : Runs Try.prog 26 [.ag (rulesC r), .ag (w4 a)] hp (.one (.w64 (eW r a))) hp false :=
  yruns r a yF26 (yA26 r a) (yreg ysh26 yshape26 (y26q r a) (y26l r a) (y26c r a) false 12 0 (by decide) [] []) (yE26 r a) hp
end
end Go.Proofs.Sx
