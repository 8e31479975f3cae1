/- The operations that leave memory alone: what is reckoned in letters is what the machine does. -/
import Derived.Test.YtinbeihbhnjjnaaSxRel
import Derived.Laws.Build
namespace Go.Proofs.Sx
open Go
variable {P : Program} {E : Env}

theorem ofInt_is {k : IntKind} {n : Int} {c : C} (h : C.ofInt k n = some c) : c.is E (.int k n) := by
  unfold C.ofInt at h
  split at h <;> (try (split at h)) <;> simp only [Option.some.injEq, reduceCtorEq] at h <;> subst h
  · rename_i m hm
    show Value.int _ _ = Value.int _ _
    rw [BitVec.toNat_ofNat, Nat.mod_eq_of_lt hm]; rfl
  · rename_i m hm
    show Value.int _ _ = Value.int _ _
    rw [BitVec.toNat_ofNat, Nat.mod_eq_of_lt hm]; rfl
  · rename_i m hm
    show Value.int _ _ = Value.int _ _
    rw [BitVec.toNat_ofNat, Nat.mod_eq_of_lt hm]; rfl
  · rename_i m hm
    exact ⟨rfl, hm⟩
  · rename_i m hm
    exact ⟨rfl, hm⟩

theorem cofValue_is {v : Value} {c : C} (h : C.ofValue v = some c) : c.is E v := by
  unfold C.ofValue at h
  split at h
  · cases h; rfl
  · exact ofInt_is h
  · cases h; rfl
  · cases h; rfl
  · cases h

theorem ofList_is : ∀ {vs : List Value} {cs : List C}, C.ofList vs = some cs → All2 (C.is E) cs vs
  | [], cs, h => by cases h; trivial
  | v :: vs, cs, h => by
    simp only [C.ofList] at h
    split at h
    · cases h
    · rename_i c hc
      split at h
      · cases h
      · rename_i l hl
        cases h
        exact ⟨cofValue_is hc, ofList_is hl⟩

theorem ofValue_is {v : Value} {x : V} (h : V.ofValue v = some x) : x.is E v := by
  unfold V.ofValue at h
  split at h
  · rename_i cs
    split at h
    · rename_i l hl
      cases h
      exact ⟨cs.toList, by simp, ofList_is hl⟩
    · cases h
  · cases h; rfl
  · split at h
    · rename_i hc
      cases h
      exact ofInt_is hc
    · cases h
  · cases h; rfl
  · cases h; rfl
  · cases h; rfl
  · cases h

variable {tm : T} {n : Nat} {a : Act}

theorem ev_is (ht : TR E tm n a) {x : Operand} {v : V} (h : ev tm x = some v) : v.is E (a.eval x) := by
  unfold ev at h
  split at h
  · obtain ⟨u, h1, h2⟩ := ht.at_ _ _ h
    simp only [Act.eval]
    rw [Array.getD_eq_getD_getElem?, h1]
    exact h2
  · exact ofValue_is h
  · cases h

theorem evs_is (ht : TR E tm n a) : ∀ {xs : List Operand} {vs : List V}, evs tm xs = some vs → All2 (V.is E) vs (xs.map a.eval)
  | [], vs, h => by cases h; trivial
  | x :: xs, vs, h => by
    simp only [evs] at h
    split at h
    · cases h
    · rename_i v hv
      split at h
      · cases h
      · rename_i l hl
        cases h
        exact ⟨ev_is ht hv, evs_is ht hl⟩

theorem itK_is {m : Nat} {v : V} (h : itK m = some v) : v.is E (.int .i64 (m : Int)) ∧ m < 9223372036854775808 := by
  unfold itK at h
  split at h
  · rename_i hm
    rw [forceN_eq] at h
    cases h
    exact ⟨⟨rfl, hm⟩, hm⟩
  · cases h

theorem blK_is {b : Bool} {v : V} (h : blK b = some v) : v.is E (.bool b) := by
  unfold blK at h
  rw [forceB_eq] at h
  cases h
  rfl

theorem ptK_is {r off : Nat} {v : V} (h : ptK r off = some v) : v = .one (.pt r off) := by
  unfold ptK at h
  rw [forceN_eq] at h
  exact (Option.some.inj h).symm

section bin
variable (t : TypeId) (x y : Operand) (w : World)
/-- What is to be shown of an operation on two numbers. -/
def Bin (P : Program) (op : BinOp) (t : TypeId) (x y : Operand) (u1 u2 u : Value) : Prop := ∀ w : World, (do eqGuard op t x y u1 u2; binOp op t u1 u2 : Sem Value).run P w = .ok u w

theorem bin_int {op : BinOp} {k : IntKind} {i j : Int} {u : Value} (h : binOp op t (.int k i) (.int k j) = pure u) : Bin P op t x y (.int k i) (.int k j) u := by
  intro w
  rw [eqGuard_at_int, h]
  rfl

theorem bin_sh {op : BinOp} {k k' : IntKind} {i j : Int} {u : Value} (h : binOp op t (.int k i) (.int k' j) = pure u) : Bin P op t x y (.int k i) (.int k' j) u := by
  intro w
  rw [eqGuard_at_int, h]
  rfl

theorem word_arith {k : IntKind} (hs : k.signed = false) (a b : BitVec k.bits) :
    Bin P .add t x y (.int k a.toNat) (.int k b.toNat) (.int k (a + b).toNat) ∧ Bin P .sub t x y (.int k a.toNat) (.int k b.toNat) (.int k (a - b).toNat) ∧
    Bin P .mul t x y (.int k a.toNat) (.int k b.toNat) (.int k (a * b).toNat) ∧ Bin P .and t x y (.int k a.toNat) (.int k b.toNat) (.int k (a &&& b).toNat) ∧
    Bin P .or t x y (.int k a.toNat) (.int k b.toNat) (.int k (a ||| b).toNat) ∧ Bin P .xor t x y (.int k a.toNat) (.int k b.toNat) (.int k (a ^^^ b).toNat) ∧
    Bin P .andNot t x y (.int k a.toNat) (.int k b.toNat) (.int k (a &&& ~~~b).toNat) := by
  refine ⟨bin_int t x y ?_, bin_int t x y ?_, bin_int t x y ?_, bin_int t x y ?_, bin_int t x y ?_, bin_int t x y ?_, bin_int t x y ?_⟩
  · rw [binOp_add]; unfold Op.intArith; rw [w_add hs]
  · rw [binOp_sub]; unfold Op.intArith; rw [w_sub hs]
  · rw [binOp_mul]; unfold Op.intArith; rw [w_mul hs]
  · rw [binOp_and]; unfold Op.intBits; simp only [w_of, w_back hs]
  · rw [binOp_or]; unfold Op.intBits; simp only [w_of, w_back hs]
  · rw [binOp_xor]; unfold Op.intBits; simp only [w_of, w_back hs]
  · rw [binOp_andNot]; unfold Op.intBits; simp only [w_of, w_back hs]

theorem word_shift {k k' : IntKind} (hs : k.signed = false) (a : BitVec k.bits) (m : Nat) :
    Bin P .shl t x y (.int k a.toNat) (.int k' m) (.int k (a <<< m).toNat) ∧ Bin P .shr t x y (.int k a.toNat) (.int k' m) (.int k (a >>> m).toNat) := by
  refine ⟨bin_sh t x y ?_, bin_sh t x y ?_⟩
  · rw [binOp_shl]
    unfold Op.shift
    rw [if_neg (by omega)]
    simp only [Int.toNat_natCast]
    rw [w_shl hs a]
  · rw [binOp_shr]
    unfold Op.shift
    rw [if_neg (by omega)]
    simp only [Int.toNat_natCast]
    rw [w_shr a]

theorem nat_cmp {k : IntKind} (i j : Nat) :
    Bin P .lss t x y (.int k i) (.int k j) (.bool (Nat.blt i j)) ∧ Bin P .leq t x y (.int k i) (.int k j) (.bool (Nat.ble i j)) ∧
    Bin P .gtr t x y (.int k i) (.int k j) (.bool (Nat.blt j i)) ∧ Bin P .geq t x y (.int k i) (.int k j) (.bool (Nat.ble j i)) ∧
    Bin P .eql t x y (.int k i) (.int k j) (.bool (Nat.beq i j)) ∧ Bin P .neq t x y (.int k i) (.int k j) (.bool (!(Nat.beq i j))) := by
  have hlt : ∀ p q : Nat, decide ((p : Int) < (q : Int)) = Nat.blt p q := by
    intro p q
    rw [Bool.eq_iff_iff, decide_eq_true_eq]
    show _ ↔ Nat.ble (p + 1) q = true
    rw [Nat.ble_eq]; omega
  have hle : ∀ p q : Nat, decide ((p : Int) ≤ (q : Int)) = Nat.ble p q := by
    intro p q
    rw [Bool.eq_iff_iff, decide_eq_true_eq, Nat.ble_eq]; omega
  have heq : ((i : Int) == (j : Int)) = Nat.beq i j := by
    rw [Bool.eq_iff_iff, beq_iff_eq, Nat.beq_eq]; omega
  refine ⟨bin_int t x y ?_, bin_int t x y ?_, bin_int t x y ?_, bin_int t x y ?_, bin_int t x y ?_, bin_int t x y ?_⟩
  · rw [binOp_lss, hlt]
  · rw [binOp_leq, hle]
  · rw [binOp_gtr]; show pure (Value.bool (decide ((j : Int) < i))) = _; rw [hlt]
  · rw [binOp_geq]; show pure (Value.bool (decide ((j : Int) ≤ i))) = _; rw [hle]
  · rw [binOp_eql, heq]
  · rw [binOp_neq]; show pure (Value.bool (!((i : Int) == (j : Int)))) = _; rw [heq]

theorem nat_rem {k : IntKind} (i j : Nat) (hj : j ≠ 0) : Bin P .rem t x y (.int k i) (.int k j) (.int k ((i % j : Nat) : Int)) := by
  refine bin_int t x y ?_
  rw [binOp_rem]
  unfold Op.intDiv
  rw [if_neg (by omega)]
  have e : (i : Int).tmod j = ((i % j : Nat) : Int) := by rw [Int.tmod_eq_emod_of_nonneg (by omega)]; simp
  simp only [e]

theorem nat_quo64 (i j : Nat) (hj : j ≠ 0) (hi : i < 2 ^ 64) : Bin P .quo t x y (.int .u64 i) (.int .u64 j) (.int .u64 ((i / j : Nat) : Int)) := by
  refine bin_int t x y ?_
  rw [binOp_quo]
  unfold Op.intDiv
  rw [if_neg (by omega)]
  have e : (i : Int).tdiv j = ((i / j : Nat) : Int) := by rw [Int.tdiv_eq_ediv_of_nonneg (by omega)]; simp
  have hlt : i / j < 2 ^ 64 := Nat.lt_of_le_of_lt (Nat.div_le_self _ _) hi
  simp only [e]
  rw [wrapNat rfl, Nat.mod_eq_of_lt (by simpa [IntKind.bits] using hlt)]

theorem int_arith (i j : Nat) :
    (i + j < 9223372036854775808 → Bin P .add t x y (.int .i64 i) (.int .i64 j) (.int .i64 ((i + j : Nat) : Int))) ∧
    (j ≤ i → i < 9223372036854775808 → Bin P .sub t x y (.int .i64 i) (.int .i64 j) (.int .i64 ((i - j : Nat) : Int))) ∧
    (∀ m, j - i = m + 1 → j < 9223372036854775808 → Bin P .sub t x y (.int .i64 i) (.int .i64 j) (.int .i64 (Int.negSucc m))) ∧
    (i * j < 9223372036854775808 → Bin P .mul t x y (.int .i64 i) (.int .i64 j) (.int .i64 ((i * j : Nat) : Int))) ∧
    (j ≠ 0 → i < 9223372036854775808 → Bin P .quo t x y (.int .i64 i) (.int .i64 j) (.int .i64 ((i / j : Nat) : Int))) ∧
    (∀ k', j ≤ 64 → i * 2 ^ j < 9223372036854775808 → Bin P .shl t x y (.int .i64 i) (.int k' j) (.int .i64 ((i * 2 ^ j : Nat) : Int))) := by
  refine ⟨fun h => bin_int t x y ?_, fun h h' => bin_int t x y ?_, fun m h h' => bin_int t x y ?_, fun h => bin_int t x y ?_, fun h h' => bin_int t x y ?_, fun k' h h' => bin_sh t x y ?_⟩
  · rw [binOp_add]; unfold Op.intArith; rw [← Int.natCast_add, wrap_i64 _ h]
  · rw [binOp_sub]; unfold Op.intArith; rw [← Int.ofNat_sub h, wrap_i64 _ (by omega)]
  · rw [binOp_sub]; unfold Op.intArith; rw [show (i : Int) - j = Int.negSucc m by omega, wrap_i64_neg _ (by omega)]
  · rw [binOp_mul]; unfold Op.intArith; rw [← Int.natCast_mul, wrap_i64 _ h]
  · rw [binOp_quo]
    unfold Op.intDiv
    rw [if_neg (by omega)]
    have e : (i : Int).tdiv j = ((i / j : Nat) : Int) := by rw [Int.tdiv_eq_ediv_of_nonneg (by omega)]; simp
    have hlt : i / j < 9223372036854775808 := Nat.lt_of_le_of_lt (Nat.div_le_self _ _) h'
    simp only [e, wrap_i64 _ hlt]
  · rw [binOp_shl]
    unfold Op.shift
    rw [if_neg (by omega)]
    have e : min (j : Int).toNat IntKind.i64.bits = j := by simp only [Int.toNat_natCast, IntKind.bits]; omega
    have e2 : (i : Int) * 2 ^ j = ((i * 2 ^ j : Nat) : Int) := by simp
    simp only [e, e2, wrap_i64 _ h']

theorem int_bits (i j : Nat) (hi : i < 9223372036854775808) (hj : j < 9223372036854775808) :
    Bin P .and t x y (.int .i64 i) (.int .i64 j) (.int .i64 ((Nat.land i j : Nat) : Int)) ∧ Bin P .xor t x y (.int .i64 i) (.int .i64 j) (.int .i64 ((Nat.xor i j : Nat) : Int)) := by
  have e : ∀ p : Nat, p < 9223372036854775808 → (BitVec.ofInt IntKind.i64.bits (p : Int)).toNat = p := by
    intro p hp
    rw [BitVec.ofInt_natCast, BitVec.toNat_ofNat]
    exact Nat.mod_eq_of_lt (by simp only [IntKind.bits]; omega)
  refine ⟨bin_int t x y ?_, bin_int t x y ?_⟩
  · rw [binOp_and]
    unfold Op.intBits
    simp only [BitVec.toNat_and, e i hi, e j hj]
    have : i &&& j < 2 ^ 63 := Nat.and_lt_two_pow _ (by omega)
    rw [wrap_i64 _ (by omega)]
    rfl
  · rw [binOp_xor]
    unfold Op.intBits
    simp only [BitVec.toNat_xor, e i hi, e j hj]
    have : i ^^^ j < 2 ^ 63 := Nat.xor_lt_two_pow (by omega) (by omega)
    rw [wrap_i64 _ (by omega)]
    rfl
end bin

theorem binC_is {op : BinOp} {c d : C} {v : V} {u1 u2 : Value} (h : binC op c d = some v) (hc : c.is E u1) (hd : d.is E u2) (t : TypeId) (x y : Operand) :
    ∃ u, v.is E u ∧ Bin P op t x y u1 u2 u := by
  unfold binC at h
  split at h
  · rename_i p q
    cases hc; cases hd
    obtain ⟨h1, h2, h3, h4, h5, h6, h7⟩ := word_arith (P := P) t x y (k := .u64) rfl p q
    obtain ⟨s1, s2⟩ := word_shift (P := P) t x y (k := .u64) (k' := .u64) rfl p q.toNat
    obtain ⟨c1, c2, c3, c4, c5, c6⟩ := nat_cmp (P := P) t x y (k := .u64) p.toNat q.toNat
    split at h
    · cases h; exact ⟨_, rfl, h1⟩
    · cases h; exact ⟨_, rfl, h2⟩
    · cases h; exact ⟨_, rfl, h3⟩
    · cases h; exact ⟨_, rfl, h4⟩
    · cases h; exact ⟨_, rfl, h5⟩
    · cases h; exact ⟨_, rfl, h6⟩
    · cases h; exact ⟨_, rfl, h7⟩
    · cases h; exact ⟨_, rfl, s1⟩
    · cases h; exact ⟨_, rfl, s2⟩
    · split at h
      · cases h
      · rename_i hq
        cases h
        have h8 := nat_rem (P := P) t x y (k := .u64) p.toNat q.toNat (fun e => by rw [e] at hq; cases hq)
        exact ⟨_, rfl, by rw [BitVec.toNat_umod]; exact h8⟩
    · split at h
      · cases h
      · rename_i hq
        cases h
        have h8 := nat_quo64 (P := P) t x y p.toNat q.toNat (fun e => by rw [e] at hq; cases hq) p.isLt
        exact ⟨_, rfl, by rw [BitVec.toNat_udiv]; exact h8⟩
    · cases h
  · rename_i p q
    cases hc; cases hd
    obtain ⟨h1, h2, h3, h4, h5, h6, h7⟩ := word_arith (P := P) t x y (k := .u32) rfl p q
    obtain ⟨c1, c2, c3, c4, c5, c6⟩ := nat_cmp (P := P) t x y (k := .u32) p.toNat q.toNat
    split at h
    · cases h; exact ⟨_, rfl, h1⟩
    · cases h; exact ⟨_, rfl, h2⟩
    · cases h; exact ⟨_, rfl, h3⟩
    · cases h; exact ⟨_, rfl, h4⟩
    · cases h; exact ⟨_, rfl, h5⟩
    · cases h; exact ⟨_, rfl, h6⟩
    · cases h; exact ⟨_, rfl, h7⟩
    · split at h
      · cases h
      · rename_i hq
        cases h
        have h8 := nat_rem (P := P) t x y (k := .u32) p.toNat q.toNat (fun e => by rw [e] at hq; cases hq)
        exact ⟨_, rfl, by rw [BitVec.toNat_umod]; exact h8⟩
    · cases h
  · rename_i p q
    cases hc; cases hd
    obtain ⟨h1, h2, h3, h4, h5, h6, h7⟩ := word_arith (P := P) t x y (k := .u8) rfl p q
    obtain ⟨c1, c2, c3, c4, c5, c6⟩ := nat_cmp (P := P) t x y (k := .u8) p.toNat q.toNat
    split at h
    · cases h; exact ⟨_, rfl, h1⟩
    · cases h; exact ⟨_, rfl, h2⟩
    · cases h; exact ⟨_, rfl, h3⟩
    · cases h; exact ⟨_, rfl, h4⟩
    · cases h; exact ⟨_, rfl, h5⟩
    · cases h; exact ⟨_, rfl, h6⟩
    · exact ⟨_, blK_is h, c1⟩
    · exact ⟨_, blK_is h, c4⟩
    · cases h
  · rename_i p m
    cases hc; obtain ⟨hd, hm⟩ := hd; subst hd
    obtain ⟨s1, s2⟩ := word_shift (P := P) t x y (k := .u64) (k' := .i64) rfl p m
    split at h
    · cases h; exact ⟨_, rfl, s1⟩
    · cases h; exact ⟨_, rfl, s2⟩
    · cases h
  · rename_i p m
    cases hc; obtain ⟨hd, hm⟩ := hd; subst hd
    obtain ⟨s1, s2⟩ := word_shift (P := P) t x y (k := .u32) (k' := .i64) rfl p m
    split at h
    · cases h; exact ⟨_, rfl, s1⟩
    · cases h; exact ⟨_, rfl, s2⟩
    · cases h
  · rename_i p m
    cases hc; obtain ⟨hd, hm⟩ := hd; subst hd
    obtain ⟨s1, s2⟩ := word_shift (P := P) t x y (k := .u8) (k' := .i64) rfl p m
    split at h
    · cases h; exact ⟨_, rfl, s1⟩
    · cases h; exact ⟨_, rfl, s2⟩
    · cases h
  · rename_i p q
    cases hc; cases hd
    obtain ⟨s1, s2⟩ := word_shift (P := P) t x y (k := .u32) (k' := .u64) rfl p q.toNat
    split at h
    · cases h; exact ⟨_, rfl, s1⟩
    · cases h; exact ⟨_, rfl, s2⟩
    · cases h
  · rename_i p q
    cases hc; cases hd
    obtain ⟨s1, s2⟩ := word_shift (P := P) t x y (k := .u8) (k' := .u64) rfl p q.toNat
    split at h
    · cases h; exact ⟨_, rfl, s1⟩
    · cases h; exact ⟨_, rfl, s2⟩
    · cases h
  · rename_i i j
    obtain ⟨hc, hi⟩ := hc; subst hc
    obtain ⟨hd, hj⟩ := hd; subst hd
    obtain ⟨a1, a2, a3, a4, a5, a6⟩ := int_arith (P := P) t x y i j
    obtain ⟨b1, b2⟩ := int_bits (P := P) t x y i j hi hj
    obtain ⟨c1, c2, c3, c4, c5, c6⟩ := nat_cmp (P := P) t x y (k := .i64) i j
    split at h
    · exact ⟨_, (itK_is h).1, a1 (itK_is (E := E) h).2⟩
    · split at h
      · rename_i hb
        exact ⟨_, (itK_is h).1, a2 (Nat.le_of_ble_eq_true hb) hi⟩
      · rename_i hb
        rw [forceN_eq] at h
        split at h
        · cases h
        · rename_i m hm
          cases h
          exact ⟨_, ⟨rfl, by omega⟩, a3 m hm hj⟩
    · exact ⟨_, (itK_is h).1, a4 (itK_is (E := E) h).2⟩
    · split at h
      · cases h
      · rename_i hb
        exact ⟨_, (itK_is h).1, a5 (fun e => by rw [e] at hb; cases hb) hi⟩
    · split at h
      · cases h
      · rename_i hb
        exact ⟨_, (itK_is h).1, nat_rem (P := P) t x y i j (fun e => by rw [e] at hb; cases hb)⟩
    · split at h
      · rename_i hb
        have := Nat.le_of_ble_eq_true hb
        exact ⟨_, (itK_is h).1, a6 .i64 (by omega) (itK_is (E := E) h).2⟩
      · cases h
    · exact ⟨_, blK_is h, c1⟩
    · exact ⟨_, blK_is h, c2⟩
    · exact ⟨_, blK_is h, c3⟩
    · exact ⟨_, blK_is h, c4⟩
    · exact ⟨_, blK_is h, c5⟩
    · exact ⟨_, blK_is h, c6⟩
    · exact ⟨_, (itK_is h).1, b1⟩
    · exact ⟨_, (itK_is h).1, b2⟩
    · cases h
  · cases h
end Go.Proofs.Sx
