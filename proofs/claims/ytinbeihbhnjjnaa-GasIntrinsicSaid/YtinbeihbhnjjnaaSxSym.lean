/- Operations over letters: what is reckoned is what the machine does. -/
import Derived.Test.YtinbeihbhnjjnaaSxOps3
import Derived.Laws.StructEq
import Derived.Laws.Small
namespace Go.Proofs.Sx
open Go
variable {P : Program} {E : Env} {tm : T} {n : Nat} {a : Act} {w : World} {hp : List Reg}

theorem run_eq_array (d : Nat) (t elem : TypeId) (len : Nat) (k : IntKind) (xs ys : Array Value) (bs : List Bool) (hu : P.underlying t = some (.array len elem)) (he : P.underlying elem = some (.int k)) (hs : szOf P elem = some 1)
    (hb : bs.length = len) (hxy : ∀ (i : Nat) (b : Bool), bs[i]? = some b → ∃ (k' : IntKind) (p q : Int), xs[i]? = some (Value.int k' p) ∧ ys[i]? = some (Value.int k' q) ∧ (p == q) = b) (w : World) :
    (Op.equalIn (d + 2) t (.agg xs) (.agg ys)).run P w = .ok (bs.all id) w := by
  have hagg : aggB P elem = some false := by simp [aggB, he]
  unfold Op.equalIn
  simp only [Sem.run_bind, run_underlying hu, Result.andThen_ok, szOf_run hs]
  rw [Std.Legacy.Range.forIn_eq_forIn_range']
  have e1 : (List.range' [:len].start [:len].size [:len].step) = List.range' 0 bs.length 1 := by simp [Std.Legacy.Range.size, hb]
  rw [e1]
  have key : ∀ (l : List Bool) (i : Nat), (∀ (j : Nat) (b : Bool), l[j]? = some b → ∃ (k' : IntKind) (p q : Int), xs[i + j]? = some (Value.int k' p) ∧ ys[i + j]? = some (Value.int k' q) ∧ (p == q) = b) →
      (forIn (List.range' i l.length 1) ((none, ()) : Option Bool × Unit) (fun i _ => (do
            let x ← part elem xs (i * 1)
            let y ← part elem ys (i * 1)
            let z ← Op.equalIn (d + 1) elem x y
            if (!z) = true then pure (ForInStep.done (some false, ())) else pure (ForInStep.yield (none, ())) : Sem (ForInStep (Option Bool × Unit))))).run P w =
        .ok (if l.all id then (none, ()) else (some false, ())) w := by
    intro l
    induction l with
    | nil => intro i _; rfl
    | cons b l ih =>
      intro i h
      obtain ⟨k', p, q, h1, h2, h3⟩ := h 0 b rfl
      rw [Nat.add_zero] at h1 h2
      have ih' := ih (i + 1) fun j b hj => by
        have := h (j + 1) b (by simpa using hj)
        rwa [show i + (j + 1) = i + 1 + j by omega] at this
      simp only [List.length_cons, List.range'_succ, List.forIn_cons, Sem.run_bind, part, aggB_run hagg, Result.andThen_ok, Bool.false_eq_true, if_false, Nat.mul_one, h1, h2, Sem.run_pure,
        run_equalIn_int w d elem k' k p q he, h3] at ih' ⊢
      cases b
      · simp
      · simp only [Bool.not_true, Bool.false_eq_true, if_false, Sem.run_pure, Result.andThen_ok]
        rw [ih']
        simp
  have h0 := key bs 0 (fun j b hj => by rw [Nat.zero_add]; exact hxy j b hj)
  rw [h0]
  cases bs.all id <;> rfl

theorem eqCs_bits : ∀ {as bs : List C} {us vs : List Value} {q : Bool}, eqCs as bs = some q → All2 (C.is E) as us → All2 (C.is E) bs vs →
    ∃ l : List Bool, l.length = as.length ∧ l.all id = q ∧ ∀ (i : Nat) (b : Bool), l[i]? = some b → ∃ (k' : IntKind) (x y : Int), us[i]? = some (Value.int k' x) ∧ vs[i]? = some (Value.int k' y) ∧ (x == y) = b
  | [], [], [], [], q, h, _, _ => by cases h; exact ⟨[], rfl, rfl, fun i b h => by simp at h⟩
  | a :: as, b :: bs, u :: us, v :: vs, q, h, ha, hb => by
    simp only [eqCs] at h
    split at h
    · rename_i x hx
      split at h
      · rename_i y hy
        cases h
        obtain ⟨l, h1, h2, h3⟩ := eqCs_bits hy ha.2 hb.2
        have hd : ∃ (k' : IntKind) (p q : Int), u = Value.int k' p ∧ v = Value.int k' q ∧ (p == q) = x := by
          have ha1 := ha.1
          have hb1 := hb.1
          unfold eqC at hx
          have eqw : ∀ {m : Nat} (p q : BitVec m), (((p.toNat : Int)) == (q.toNat : Int)) = (p == q) := by
            intro m p q
            rw [Bool.eq_iff_iff, beq_iff_eq, beq_iff_eq]
            constructor
            · intro h
              exact BitVec.eq_of_toNat_eq (by omega)
            · intro h
              rw [h]
          split at hx
          · cases hx; exact ⟨_, _, _, ha1, hb1, eqw _ _⟩
          · cases hx; exact ⟨_, _, _, ha1, hb1, eqw _ _⟩
          · cases hx; exact ⟨_, _, _, ha1, hb1, eqw _ _⟩
          · cases hx
        obtain ⟨k', p, q, e1, e2, e3⟩ := hd
        refine ⟨x :: l, by simp [h1], by simp [h2], fun i b hi => ?_⟩
        cases i with
        | zero =>
          simp only [List.getElem?_cons_zero, Option.some.injEq] at hi
          subst hi
          exact ⟨k', p, q, by simp [e1], by simp [e2], e3⟩
        | succ i =>
          simpa using h3 i b (by simpa using hi)
      · cases h
    · cases h
  | [], _ :: _, _, _, _, h, _, _ => by cases h
  | _ :: _, [], _, _, _, h, _, _ => by cases h

theorem numC_is {c : C} {x : Nat} {u : Value} (h : numC c = some x) (hc : c.is E u) : u = .int .i64 (x : Int) ∧ x < 9223372036854775808 := by
  unfold numC at h
  split at h
  · cases h; exact hc
  · cases h; exact hc
  · cases h

theorem cmpN_is {op : BinOp} {k : IntKind} {i j : Nat} {v : V} {ob : Option Bool} (h : cmpN op i j = some (v, ob)) (t : TypeId) (x y : Operand) :
    ∃ u, v.is E u ∧ Bin P op t x y (.int k (i : Int)) (.int k (j : Int)) u := by
  obtain ⟨c1, c2, c3, c4, c5, c6⟩ := nat_cmp (P := P) t x y (k := k) i j
  unfold cmpN at h
  split at h
  · cases h; exact ⟨_, rfl, c1⟩
  · cases h; exact ⟨_, rfl, c2⟩
  · cases h; exact ⟨_, rfl, c3⟩
  · cases h; exact ⟨_, rfl, c4⟩
  · cases h; exact ⟨_, rfl, c5⟩
  · cases h; exact ⟨_, rfl, c6⟩
  · cases h

theorem intC_is {c : C} {x : Int} {u : Value} (h : intC c = some x) (hc : c.is E u) : u = .int .i64 x := by
  unfold intC at h
  split at h
  · cases h; exact hc.1
  · cases h; exact hc.1
  · cases h; exact hc.1
  · cases h; exact hc
  · cases h
theorem wrap_in {z : Int} (h : inI64 z = true) : IntKind.i64.wrap z = z := by
  unfold inI64 at h
  simp only [Bool.and_eq_true, decide_eq_true_eq] at h
  rw [IntKind.wrap_i64]
  omega
theorem symInt_is {op : BinOp} {i j : Int} {v : V} {ob : Option Bool} (h : symInt op i j = some (v, ob)) (hob : ∀ x, ob = some x → x = true) (t : TypeId) (x y : Operand) :
    ∃ u, v.is E u ∧ Bin P op t x y (.int .i64 i) (.int .i64 j) u := by
  have heq : (i == j) = decide (i = j) := by
    rw [Bool.eq_iff_iff, beq_iff_eq, decide_eq_true_eq]
  unfold symInt at h
  split at h
  · cases h
    refine ⟨_, rfl, bin_int t x y ?_⟩
    rw [binOp_add]; unfold Op.intArith; rw [wrap_in (hob _ rfl)]
  · cases h
    refine ⟨_, rfl, bin_int t x y ?_⟩
    rw [binOp_sub]; unfold Op.intArith; rw [wrap_in (hob _ rfl)]
  · cases h
    have hj := hob _ rfl
    simp only [Bool.not_eq_true', decide_eq_false_iff_not] at hj
    refine ⟨_, rfl, bin_int t x y ?_⟩
    rw [binOp_rem]
    unfold Op.intDiv
    rw [if_neg hj]
  · cases h
    have hj : (BitVec.ofInt 64 j).toNat < 9223372036854775808 := Nat.le_of_ble_eq_true (hob _ rfl)
    have hle : (BitVec.ofInt 64 i &&& BitVec.ofInt 64 j).toNat ≤ (BitVec.ofInt 64 j).toNat := by
      rw [BitVec.toNat_and]
      exact Nat.and_le_right
    refine ⟨_, ⟨rfl, by omega⟩, bin_int t x y ?_⟩
    rw [binOp_and]
    unfold Op.intBits
    have e : IntKind.i64.bits = 64 := rfl
    show pure (Value.int .i64 (IntKind.i64.wrap ((BitVec.ofInt 64 i &&& BitVec.ofInt 64 j).toNat : Int))) = _
    rw [wrap_i64 _ (by omega)]
  · cases h; exact ⟨_, rfl, bin_int t x y (by rw [binOp_lss])⟩
  · cases h; exact ⟨_, rfl, bin_int t x y (by rw [binOp_leq])⟩
  · cases h; exact ⟨_, rfl, bin_int t x y (by rw [binOp_gtr])⟩
  · cases h; exact ⟨_, rfl, bin_int t x y (by rw [binOp_geq])⟩
  · cases h; exact ⟨_, rfl, bin_int t x y (by rw [binOp_eql, heq])⟩
  · cases h
    refine ⟨_, rfl, bin_int t x y ?_⟩
    rw [binOp_neq]
    show pure (Value.bool (!(i == j))) = _
    rw [heq]
  · cases h

theorem symBin_is {op : BinOp} {c d : C} {v : V} {ob : Option Bool} {u1 u2 : Value} (h : symBin op c d = some (v, ob)) (hob : ∀ x, ob = some x → x = true) (hc : c.is E u1) (hd : d.is E u2) (t : TypeId) (x y : Operand) :
    ∃ u, v.is E u ∧ Bin P op t x y u1 u2 u := by
  unfold symBin at h
  split at h
  · rename_i i j hi hj
    obtain ⟨rfl, hi'⟩ := numC_is hi hc
    obtain ⟨rfl, hj'⟩ := numC_is hj hd
    obtain ⟨a1, a2, a3, a4, a5, a6⟩ := int_arith (P := P) t x y i j
    obtain ⟨c1, c2, c3, c4, c5, c6⟩ := nat_cmp (P := P) t x y (k := .i64) i j
    have nz : (!(Nat.beq j 0)) = true → j ≠ 0 := by
      intro h e
      rw [e] at h
      cases h
    split at h
    · cases h
      have h1 := Nat.le_of_ble_eq_true (hob _ rfl)
      exact ⟨_, ⟨rfl, by omega⟩, a1 (by omega)⟩
    · cases h
      have h1 := Nat.le_of_ble_eq_true (hob _ rfl)
      exact ⟨_, ⟨rfl, by omega⟩, a2 h1 hi'⟩
    · cases h
      have h1 := Nat.le_of_ble_eq_true (hob _ rfl)
      exact ⟨_, ⟨rfl, by omega⟩, a4 (by omega)⟩
    · cases h
      have h1 := nz (hob _ rfl)
      have h2 := Nat.mod_le i j
      exact ⟨_, ⟨rfl, by omega⟩, nat_rem (P := P) t x y i j h1⟩
    · cases h
      have h1 := nz (hob _ rfl)
      have h2 := Nat.div_le_self i j
      exact ⟨_, ⟨rfl, by omega⟩, a5 h1 hi'⟩
    · cases h; exact ⟨_, rfl, c1⟩
    · cases h; exact ⟨_, rfl, c2⟩
    · cases h; exact ⟨_, rfl, c3⟩
    · cases h; exact ⟨_, rfl, c4⟩
    · cases h; exact ⟨_, rfl, c5⟩
    · cases h; exact ⟨_, rfl, c6⟩
    · cases h
  · split at h
    · rename_i p q hne
      cases hc
      cases hd
      exact cmpN_is h t x y
    · rename_i p q hne
      cases hc
      cases hd
      exact cmpN_is h t x y
    · rename_i p q hne
      cases hc
      cases hd
      exact cmpN_is h t x y
    · split at h
      · rename_i i j hi hj
        rw [intC_is hi hc, intC_is hj hd]
        exact symInt_is h hob t x y
      · cases h

/-- What a slice of bytes shows. -/
theorem viewC_is (hat : ∀ (r : Nat) (R : Reg), hp[r]? = some R → RegIs E w r R) {c : C} {r i m bd : Nat} {b : List (BitVec 8)} {u : Value} (h : viewC hp c = some (r, i, m, b, bd)) (hc : c.is E u) :
    (∃ R bd', hp[r]? = some R ∧ R.bytes = some (b, bd')) ∧ i + m ≤ b.length ∧ m ≤ bd ∧ ∃ A' cc, u = .slice A' m cc ∧ m ≤ cc ∧ cc ≤ maxLen ∧
      (0 < m → ∃ ad K, E.reg[r]? = some (.sv (.slice (some ad) b.length K)) ∧ A' = some (ad.add i)) ∧ ∃ A K, E.reg[r]? = some (.sv (.slice A b.length K)) := by
  have vw : ∀ (r i m : Nat) (R : Reg) (b : List (BitVec 8)) (bd : Nat), hp[r]? = some R → R.bytes = some (b, bd) → (C.vw r i m).is E u →
      i + m ≤ b.length ∧ m ≤ bd ∧ ∃ A' cc, u = .slice A' m cc ∧ m ≤ cc ∧ cc ≤ maxLen ∧ (0 < m → ∃ ad K, E.reg[r]? = some (.sv (.slice (some ad) b.length K)) ∧ A' = some (ad.add i)) ∧ ∃ A K, E.reg[r]? = some (.sv (.slice A b.length K)) := by
    intro r i m R b bd hR hb hc
    obtain ⟨A, K, h1, h2, h3, h4, h5⟩ := (hat r R hR).bytes hb
    obtain ⟨A1, L, K1, A', cc, e1, e2, e3, e4, e5, e6⟩ := hc
    rw [h1] at e1
    cases e1
    refine ⟨e4, by omega, A', cc, e2, e5, e6, fun hm => ?_, A, K, h1⟩
    obtain ⟨ad, rfl, e7⟩ := e3 hm
    exact ⟨ad, K, h1, e7⟩
  unfold viewC at h
  split at h
  · rename_i r'
    split at h
    · rename_i R hR
      rw [regAt_eq] at hR
      split at h
      · rename_i b' bd' hb
        cases h
        obtain ⟨A, K, h1, h2, h3, h4, h5⟩ := (hat _ R hR).bytes hb
        have hc' : E.reg[r]? = some (Ent.sv u) := hc
        rw [h1] at hc'
        cases hc'
        refine ⟨⟨R, _, hR, hb⟩, by omega, h2, A, K, rfl, h3, h4, fun hm => ?_, A, K, h1⟩
        obtain ⟨ad, e1, _⟩ := h5 0 b[0] (List.getElem?_eq_getElem hm)
        subst e1
        exact ⟨ad, K, h1, by simp [Addr.add]⟩
      · cases h
    · cases h
  · rename_i r' i' m'
    split at h
    · rename_i R hR
      rw [regAt_eq] at hR
      split at h
      · rename_i b' bd' hb
        cases h
        obtain ⟨e1, e2, e3⟩ := vw _ _ _ R _ _ hR hb hc
        exact ⟨⟨R, _, hR, hb⟩, e1, e2, e3⟩
      · cases h
    · cases h
  · rename_i r' i' m'
    split at h
    · rename_i R hR
      rw [regAt_eq] at hR
      split at h
      · rename_i b' bd' hb
        cases h
        obtain ⟨e1, e2, e3⟩ := vw _ _ _ R _ _ hR hb hc
        exact ⟨⟨R, _, hR, hb⟩, e1, Nat.le_refl _, e3⟩
      · cases h
    · cases h
  · cases h

theorem add_add (ad : Addr) (i j : Nat) : (ad.add i).add j = ad.add (i + j) := by
  unfold Addr.add
  by_cases hi : i = 0 <;> by_cases hj : j = 0 <;> simp [hi, hj, Nat.add_assoc]

theorem symSlice_is (hat : ∀ (r : Nat) (R : Reg), hp[r]? = some R → RegIs E w r R) {c : C} {lo hi : Option C} {v : V} {ob : Option Bool} {u : Value} {t elem : TypeId} (hu : P.underlying t = some (.slice elem)) (hs : szOf P elem = some 1)
    (h : symSlice hp c lo hi = some (v, ob)) (hob : ∀ x, ob = some x → x = true) (hc : c.is E u) {lov hiv : Option Value} (hlo : (lo = none ∧ lov = none) ∨ ∃ l x, lo = some l ∧ lov = some x ∧ l.is E x) (hhi : (hi = none ∧ hiv = none) ∨ ∃ l x, hi = some l ∧ hiv = some x ∧ l.is E x) :
    ∃ u', v.is E u' ∧ ∀ w : World, (Instr.sliceAt t u lov hiv none).run P w = .ok u' w := by
  unfold symSlice at h
  split at h
  · cases h
  · rename_i r i m b bd hv
    obtain ⟨⟨R, bd', hR, hb⟩, h1, h2, A', cc, rfl, h3, h4, h5, A, K, h6⟩ := viewC_is hat hv hc
    -- the cut itself
    have cut : ∀ (l hh : Nat), l ≤ hh → hh ≤ m → (do let (l, h, q) ← (pure (l, hh, cc) : Sem (Nat × Nat × Nat)); let size ← sizeOf elem; pure (Value.slice (if q = l then A' else A'.map (·.add (l * size))) (h - l) (q - l)) : Sem Value).run P w =
        .ok (.slice (if cc = l then A' else A'.map (·.add (l * 1))) (hh - l) (cc - l)) w := by
      intro l hh _ _
      simp only [Sem.run_bind, Sem.run_pure, Result.andThen_ok, szOf_run hs]
    have isv : ∀ (l hh : Nat), l ≤ hh → hh ≤ m → (C.vw r (i + l) (hh - l)).is E (.slice (if cc = l then A' else A'.map (·.add (l * 1))) (hh - l) (cc - l)) := by
      intro l hh hl hh'
      refine ⟨A, b.length, K, _, _, h6, rfl, fun hpos => ?_, by omega, by omega, by omega⟩
      obtain ⟨ad, K', e1, e2⟩ := h5 (by omega)
      rw [h6] at e1
      cases e1
      refine ⟨ad, rfl, ?_⟩
      rw [if_neg (by omega), e2, Option.map_some, Nat.mul_one, add_add]
    split at h
    · cases h
      obtain ⟨_, rfl⟩ | ⟨l, x, e, _⟩ := hlo
      · obtain ⟨_, rfl⟩ | ⟨l, x, e, _⟩ := hhi
        · refine ⟨_, isv 0 m (Nat.zero_le _) (Nat.le_refl _), fun w => ?_⟩
          simp only [Instr.sliceAt, Sem.run_bind, run_underlying hu, Result.andThen_ok, Instr.slice, Instr.sliceBounds, Sem.run_pure, szOf_run hs]
        · cases e
      · cases e
    · rename_i k
      cases h
      obtain ⟨_, rfl⟩ | ⟨l, x, e, _⟩ := hlo
      · obtain ⟨e, _⟩ | ⟨l, x, e, rfl, hx⟩ := hhi
        · cases e
        · cases e
          obtain ⟨rfl, _⟩ := hx
          have hk := Nat.le_of_ble_eq_true (hob _ rfl)
          refine ⟨_, isv 0 k (Nat.zero_le _) hk, fun w => ?_⟩
          simp only [Instr.sliceAt, Sem.run_bind, run_underlying hu, Result.andThen_ok, Instr.slice, Instr.sliceBounds, Sem.run_pure, szOf_run hs, sliceBound_run (show k ≤ cc by omega)]
      · cases e
    · rename_i k
      cases h
      obtain ⟨_, rfl⟩ | ⟨l, x, e, _⟩ := hlo
      · obtain ⟨e, _⟩ | ⟨l, x, e, rfl, hx⟩ := hhi
        · cases e
        · cases e
          obtain ⟨rfl, _⟩ := hx
          have hk := Nat.le_of_ble_eq_true (hob _ rfl)
          refine ⟨_, isv 0 k (Nat.zero_le _) hk, fun w => ?_⟩
          simp only [Instr.sliceAt, Sem.run_bind, run_underlying hu, Result.andThen_ok, Instr.slice, Instr.sliceBounds, Sem.run_pure, szOf_run hs, sliceBound_run (show k ≤ cc by omega)]
      · cases e
    · rename_i lc
      split at h
      · rename_i l hl
        cases h
        obtain ⟨e, _⟩ | ⟨l', x, e, rfl, hx⟩ := hlo
        · cases e
        · cases e
          obtain ⟨rfl, _⟩ := numC_is hl hx
          obtain ⟨_, rfl⟩ | ⟨l', x, e, _⟩ := hhi
          · have hk := Nat.le_of_ble_eq_true (hob _ rfl)
            refine ⟨_, isv l m hk (Nat.le_refl _), fun w => ?_⟩
            simp only [Instr.sliceAt, Sem.run_bind, run_underlying hu, Result.andThen_ok, Instr.slice, Instr.sliceBounds, Sem.run_pure, szOf_run hs, sliceBound_run hk]
          · cases e
      · cases h
    · cases h

theorem optNum_is (ht : TR E tm n a) {x : Option Operand} {c : Option C} (h : optNum tm x = some c) : (c = none ∧ x.map a.eval = none) ∨ ∃ l v, c = some l ∧ x.map a.eval = some v ∧ l.is E v := by
  unfold optNum at h
  split at h
  · cases h; exact .inl ⟨rfl, rfl⟩
  · rename_i y
    split at h
    · rename_i c hc
      cases h
      exact .inr ⟨c, _, rfl, rfl, ev_is ht hc⟩
    · cases h

theorem boolC_is {c : C} {b : Bool} {u : Value} (h : boolC c = some b) (hc : c.is E u) : u = .bool b := by
  unfold boolC at h
  split at h
  · cases h; exact hc
  · cases h; exact hc
  · cases h

/-- **Operations over letters that leave memory alone.** -/
theorem symOp_is (ht : TR E tm n a) (hat : ∀ (r : Nat) (R : Reg), hp[r]? = some R → RegIs E w r R) {o : Oper} {v : V} {ob : Option Bool} (h : symOp P tm hp o.op = some (v, ob)) (hob : ∀ x, ob = some x → x = true) :
    ∃ u, v.is E u ∧ ∀ w' : World, Grow w w' → (execOp a.eval o).run P w' = .ok (.value u) w' := by
  obtain ⟨dst, op, type, pos, after, guard⟩ := o
  change symOp P tm hp op = some (v, ob) at h
  unfold symOp at h
  split at h
  · rename_i op t x y yt
    split at h
    · rename_i c d hx hy
      split at h
      · rename_i r hr
        cases h
        obtain ⟨u, h1, h2⟩ := symBin_is (P := P) hr hob (ev_is ht hx) (ev_is ht hy) t x y
        refine ⟨u, h1, fun w' _ => ?_⟩
        have := h2 w'
        simp only [execOp]
        rw [Sem.run_bind, this]
        rfl
      · split at h
        · rename_i p q hp hq hu _
          cases h
          have e1 := boolC_is hp (ev_is ht hx)
          have e2 := boolC_is hq (ev_is ht hy)
          refine ⟨.bool (p == q), rfl, fun w' _ => ?_⟩
          simp only [execOp, e1, e2, eqGuard]
          simp [run_eql_bool w' t p q hu]
        · rename_i p q hp hq hu _
          cases h
          have e1 := boolC_is hp (ev_is ht hx)
          have e2 := boolC_is hq (ev_is ht hy)
          refine ⟨.bool (!(p == q)), rfl, fun w' _ => ?_⟩
          simp only [execOp, e1, e2, eqGuard]
          simp [run_neq_bool w' t p q hu]
        · cases h
    · rename_i cs ds hx hy
      split at h
      · split at h
        · rename_i len elem hu
          split at h
          · rename_i k he hs hl1 hl2 hg
            split at h
            · rename_i q hq
              cases h
              obtain ⟨us, e1, h1⟩ := ev_is ht hx
              obtain ⟨vs, e2, h2⟩ := ev_is ht hy
              obtain ⟨l, l1, l2, l3⟩ := eqCs_bits hq h1 h2
              have hlen : l.length = len := by rw [l1, ← lenC_eq]; exact Nat.eq_of_beq_eq_true hl1
              refine ⟨.bool q, rfl, fun w' _ => ?_⟩
              have hr := run_eq_array (P := P) 9998 t elem len k us.toArray vs.toArray l hu he hs hlen (fun i b hi => by simpa using l3 i b hi) w'
              simp only [execOp, e1, e2]
              rw [Sem.run_bind, Sem.run_bind, run_eqGuard_agg w' .eql t x y us.toArray vs.toArray hg, Result.andThen_ok, run_eql_struct w' t us.toArray vs.toArray, hr, l2]
              rfl
            · cases h
          · cases h
        · cases h
      · split at h
        · rename_i len elem hu
          split at h
          · rename_i k he hs hl1 hl2 hg
            split at h
            · rename_i q hq
              cases h
              obtain ⟨us, e1, h1⟩ := ev_is ht hx
              obtain ⟨vs, e2, h2⟩ := ev_is ht hy
              obtain ⟨l, l1, l2, l3⟩ := eqCs_bits hq h1 h2
              have hlen : l.length = len := by rw [l1, ← lenC_eq]; exact Nat.eq_of_beq_eq_true hl1
              refine ⟨.bool (!q), rfl, fun w' _ => ?_⟩
              have hr := run_eq_array (P := P) 9998 t elem len k us.toArray vs.toArray l hu he hs hlen (fun i b hi => by simpa using l3 i b hi) w'
              simp only [execOp, e1, e2]
              rw [Sem.run_bind, Sem.run_bind, run_eqGuard_agg w' .neq t x y us.toArray vs.toArray hg, Result.andThen_ok, run_neq_struct w' t us.toArray vs.toArray, hr, l2]
              rfl
            · cases h
          · cases h
        · cases h
      · cases h
    · cases h
  · rename_i src dst x
    split at h
    · rename_i m hx
      split at h
      · rename_i d hs hd
        cases h
        obtain ⟨e, hm⟩ := ev_is ht hx
        refine ⟨_, rfl, fun w' _ => ?_⟩
        simp only [execOp, e, convert, Sem.run_bind, run_underlying hs, run_underlying hd, Result.andThen_ok, Conv.intToInt, wrapNat (k := .u64) rfl, BitVec.toNat_ofNat, Sem.run_pure]
        rfl
      · cases h
    · rename_i m hx
      split at h
      · rename_i d hs hd
        cases h
        have e : a.eval x = .int .u64 (m.toNat : Int) := ev_is ht hx
        have hm := Nat.le_of_ble_eq_true (hob _ rfl)
        refine ⟨_, ⟨rfl, by omega⟩, fun w' _ => ?_⟩
        simp only [execOp, e, convert, Sem.run_bind, run_underlying hs, run_underlying hd, Result.andThen_ok, Conv.intToInt, wrap_i64 m.toNat (by omega), Sem.run_pure]
      · cases h
    · cases h
  · rename_i t x lo hi
    split at h
    · rename_i c l hh hx hlo hhi
      split at h
      · rename_i elem hu
        split at h
        · rename_i hs
          obtain ⟨u, h1, h2⟩ := symSlice_is hat hu hs h hob (ev_is ht hx) (optNum_is ht hlo) (optNum_is ht hhi)
          exact ⟨u, h1, fun w' _ => by simp only [execOp, Option.map_none]; rw [Sem.run_bind, h2]; rfl⟩
        · rename_i sz _ hs
          split at h
          · rename_i r n k
            cases h
            have hk := Nat.le_of_ble_eq_true (hob _ rfl)
            obtain ⟨A, cc, e, ⟨hn, hnc, hcm⟩, h1⟩ := ev_is ht hx
            obtain ⟨_, e1⟩ | ⟨l', x', e1, _⟩ := optNum_is ht hlo
            · obtain ⟨e2, _⟩ | ⟨l', x', e2, e3, e4⟩ := optNum_is ht hhi
              · cases e2
              · cases e2
                obtain ⟨rfl, _⟩ := e4
                refine ⟨.slice A k cc, ⟨A, cc, rfl, ⟨by omega, by omega, hcm⟩, fun h0 => h1 (by omega)⟩, fun w' _ => ?_⟩
                have ez : A.map (·.add (0 * sz)) = A := by
                  cases A with
                  | none => rfl
                  | some ad => simp [Addr.add]
                have ei : (if cc = 0 then A else A.map (·.add (0 * sz))) = A := by rw [ez]; simp
                have run : (Instr.sliceAt t (.slice A n cc) none (some (.int .i64 (k : Int))) none).run P w' = .ok (.slice A k cc) w' := by
                  simp only [Instr.sliceAt, Sem.run_bind, run_underlying hu, Result.andThen_ok, Instr.slice, Instr.sliceBounds, Sem.run_pure, szOf_run hs, sliceBound_run (show k ≤ cc by omega), ei, Nat.sub_zero]
                simp only [execOp, Option.map_none, e, e1, e3]
                rw [Sem.run_bind, run]
                rfl
            · cases e1
          · cases h
        · cases h
      · cases h
    · cases h
  · rename_i t x ix
    split at h
    · rename_i c ic hx hi
      split at h
      · rename_i j hj
        obtain ⟨ei, hj'⟩ := numC_is hj (ev_is ht hi)
        split at h
        · rename_i elem hu
          split at h
          · rename_i r i m b bd hs hv
            cases h
            have hlt : j < m := Nat.le_of_ble_eq_true (hob _ rfl)
            obtain ⟨⟨R, bd', hR, hb⟩, h1, h2, A', cc, e, h3, h4, h5, _⟩ := viewC_is hat hv (ev_is ht hx)
            obtain ⟨ad, K, h6, rfl⟩ := h5 (by omega)
            refine ⟨_, ⟨ad, _, K, h6, rfl, by omega⟩, fun w' _ => ?_⟩
            have hc : 0 ≤ (j : Int) ∧ (j : Int) < (m : Int) := ⟨by omega, by omega⟩
            simp only [execOp, e, ei, Instr.indexAt, asIntOf, Sem.run_bind, Sem.run_pure, Result.andThen_ok, run_underlying hu, hc, and_self, if_true, szOf_run hs, Int.toNat_natCast, Nat.mul_one, add_add]
          · rename_i _ hs
            split at h
            · rename_i r n
              cases h
              have hlt : j < n := Nat.le_of_ble_eq_true (hob _ rfl)
              obtain ⟨A, cc, e, hn, h1⟩ := ev_is ht hx
              obtain ⟨g, o, h2, rfl⟩ := h1 (by omega)
              refine ⟨_, ⟨g, o, h2, rfl⟩, fun w' _ => ?_⟩
              have hc : 0 ≤ (j : Int) ∧ (j : Int) < (n : Int) := ⟨by omega, by omega⟩
              simp only [execOp, e, ei, Instr.indexAt, asIntOf, Sem.run_bind, Sem.run_pure, Result.andThen_ok, run_underlying hu, hc, and_self, if_true, szOf_run hs, Int.toNat_natCast, add_off]
            · cases h
          · rename_i sz _ hs _
            split at h
            · rename_i r n _
              cases h
              have hlt : j < n := Nat.le_of_ble_eq_true (hob _ rfl)
              obtain ⟨A, cc, e, hn, h1⟩ := ev_is ht hx
              obtain ⟨g, o, h2, rfl⟩ := h1 (by omega)
              refine ⟨_, ⟨g, o, h2, rfl⟩, fun w' _ => ?_⟩
              have hc : 0 ≤ (j : Int) ∧ (j : Int) < (n : Int) := ⟨by omega, by omega⟩
              simp only [execOp, e, ei, Instr.indexAt, asIntOf, Sem.run_bind, Sem.run_pure, Result.andThen_ok, run_underlying hu, hc, and_self, if_true, szOf_run hs, Int.toNat_natCast, add_off]
            · cases h
          · cases h
        · rename_i len elem hu
          split at h
          · rename_i r hs
            cases h
            have hlt : j < len := Nat.le_of_ble_eq_true (hob _ rfl)
            obtain ⟨g, o, h1, e⟩ := ev_is ht hx
            refine ⟨_, ⟨g, o, h1, rfl⟩, fun w' _ => ?_⟩
            have hc : 0 ≤ (j : Int) ∧ (j : Int) < (len : Int) := ⟨by omega, by omega⟩
            simp only [execOp, e, ei, Instr.indexAt, asIntOf, Instr.sureAddr, Sem.run_bind, Sem.run_pure, Result.andThen_ok, run_underlying hu, hc, and_self, if_true, szOf_run hs, Int.toNat_natCast, Nat.mul_one, add_off, Nat.add_zero]
          · cases h
        · cases h
      · cases h
    · cases h
  · rename_i t x
    split at h
    · rename_i r p hx
      split at h
      · rename_i hagg
        split at h
        · rename_i R hR
          rw [regAt_eq] at hR
          split at h
          · rename_i b bd hb
            cases h
            obtain ⟨ad, L, K, h1, e, h2⟩ := ev_is ht hx
            obtain ⟨A, K', h3, h4, h5, h6, h7⟩ := (hat r R hR).bytes hb
            rw [h1] at h3
            cases h3
            obtain ⟨ad', e1, h8⟩ := h7 p (b[p]) (List.getElem?_eq_getElem h2)
            cases e1
            have hd : b.getD p 0#8 = b[p] := by simp [List.getD, h2]
            refine ⟨B8 b[p], by rw [hd]; rfl, fun w' hw' => ?_⟩
            simp [execOp, e, Instr.loadAt, Instr.sureAddr, loadVar, aggB_run hagg, hw'.cell h8]
          · cases h
        · cases h
      · cases h
    · rename_i r j hx
      split at h
      · rename_i f n hagg hs hR
        rw [regAt_eq] at hR
        cases h
        have hlt : j < n := Nat.le_of_ble_eq_true (hob _ rfl)
        obtain ⟨g, o, h1, e⟩ := ev_is ht hx
        rcases hat r _ hR with h0 | ⟨g', o', h2, h3⟩
        · omega
        · rw [h1] at h2
          cases h2
          refine ⟨_, ⟨[.int .u64 ((f j 0).toNat : Int), .int .u64 ((f j 1).toNat : Int), .int .u64 ((f j 2).toNat : Int), .int .u64 ((f j 3).toNat : Int)], rfl, rfl, rfl, rfl, rfl, trivial⟩, fun w' hw' => ?_⟩
          have hl := run_loadCells_list (P := P) w' ⟨g, o + j * 4, none⟩ [.int .u64 ((f j 0).toNat : Int), .int .u64 ((f j 1).toNat : Int), .int .u64 ((f j 2).toNat : Int), .int .u64 ((f j 3).toNat : Int)] (fun i v hv => by
            rw [add_off]
            match i, hv with
            | 0, hv => simp at hv; subst hv; exact hw'.cell (h3 j 0 hlt (by decide))
            | 1, hv => simp at hv; subst hv; exact hw'.cell (h3 j 1 hlt (by decide))
            | 2, hv => simp at hv; subst hv; exact hw'.cell (h3 j 2 hlt (by decide))
            | 3, hv => simp at hv; subst hv; exact hw'.cell (h3 j 3 hlt (by decide))
            | _ + 4, hv => simp at hv)
          simp only [List.length_cons, List.length_nil, Nat.zero_add, Nat.reduceAdd] at hl
          simp [execOp, e, Instr.loadAt, Instr.sureAddr, loadVar, Sem.run_bind, aggB_run hagg, szOf_run hs, hl]
      · cases h
    · cases h
  · rename_i c
    obtain ⟨callee, args, argTypes⟩ := c
    split at h
    · rename_i x t hcal hargs hty
      simp only at hcal hargs hty
      subst hcal
      have ea : args = #[x] := by apply Array.ext'; simpa using hargs
      have et : argTypes = #[t] := by apply Array.ext'; simpa using hty
      subst ea et
      split at h
      · rename_i c hx
        split at h
        · rename_i elem hu
          split at h
          · rename_i r i m
            split at h
            · rename_i v1 hv1
              cases h
              obtain ⟨A, L, K, A', cc, _, e, _⟩ := ev_is ht hx
              refine ⟨_, (itK_is hv1).1, fun w' _ => ?_⟩
              simp [execOp, resolve, invoke, builtin, e, Builtin.len_, run_underlying hu, goInt]
            · cases h
          · rename_i r m
            cases h
            obtain ⟨A, cc, e, hn, _⟩ := ev_is ht hx
            refine ⟨.int .i64 (m : Int), ⟨rfl, hn.1⟩, fun w' _ => ?_⟩
            simp [execOp, resolve, invoke, builtin, e, Builtin.len_, run_underlying hu, goInt]
          · split at h
            · rename_i r i m b bd hv
              cases h
              obtain ⟨_, h1, h2, A', cc, e, h3, h4, _⟩ := viewC_is hat hv (ev_is ht hx)
              refine ⟨.int .i64 (m : Int), ⟨rfl, by simp only [maxLen] at h4; omega⟩, fun w' _ => ?_⟩
              simp [execOp, resolve, invoke, builtin, e, Builtin.len_, run_underlying hu, goInt]
            · cases h
        · cases h
      · cases h
    · cases h
  · cases h
end Go.Proofs.Sx
