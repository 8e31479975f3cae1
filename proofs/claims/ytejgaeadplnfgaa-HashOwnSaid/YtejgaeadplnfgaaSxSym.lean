/- Operations over letters: what is reckoned is what the machine does. -/
import Derived.Test.YtejgaeadplnfgaaSxOps3
import Derived.Laws.StructEq
import Derived.Laws.Pointers
import Derived.Laws.IdiomStrings
namespace Go.Proofs.Sx
open Go
variable {P : Program} {E : Env} {tm : T} {n : Nat} {a : Act} {w : World} {hp : List Reg}

theorem run_eq_array (d : Nat) (t elem : TypeId) (len : Nat) (k : IntKind) (xs ys : Array Value) (bs : List Bool) (hu : P.underlying t = some (.array len elem)) (he : P.underlying elem = some (.int k)) (hs : szOf P elem = some 1)
    (hb : bs.length = len) (hxy : ∀ (i : Nat) (b : Bool), bs[i]? = some b → ∃ (k' : IntKind) (p q : Int), xs[i]? = some (Value.int k' p) ∧ ys[i]? = some (Value.int k' q) ∧ (p == q) = b) (w : World) :
    (Op.equalIn (d + 2) t (.agg xs) (.agg ys)).run P w = .ok (bs.all id) w := by
  have hagg : aggB P elem = some false := by simp [aggB, he]
  unfold Op.equalIn
  simp only [Sem.run_bind, run_underlying hu, Result.andThen_ok, szOf_run hs]
  rw [Std.Legacy.Range.forIn_eq_forIn_range']
  have e1 : (List.range' [:len].start [:len].size [:len].step) = List.range' 0 bs.length 1 := by simp [Std.Legacy.Range.size, hb]
  rw [e1]
  have key : ∀ (l : List Bool) (i : Nat), (∀ (j : Nat) (b : Bool), l[j]? = some b → ∃ (k' : IntKind) (p q : Int), xs[i + j]? = some (Value.int k' p) ∧ ys[i + j]? = some (Value.int k' q) ∧ (p == q) = b) →
      (forIn (List.range' i l.length 1) ((none, ()) : Option Bool × Unit) (fun i _ => (do
            let x ← part elem xs (i * 1)
            let y ← part elem ys (i * 1)
            let z ← Op.equalIn (d + 1) elem x y
            if (!z) = true then pure (ForInStep.done (some false, ())) else pure (ForInStep.yield (none, ())) : Sem (ForInStep (Option Bool × Unit))))).run P w =
        .ok (if l.all id then (none, ()) else (some false, ())) w := by
    intro l
    induction l with
    | nil => intro i _; rfl
    | cons b l ih =>
      intro i h
      obtain ⟨k', p, q, h1, h2, h3⟩ := h 0 b rfl
      rw [Nat.add_zero] at h1 h2
      have ih' := ih (i + 1) fun j b hj => by
        have := h (j + 1) b (by simpa using hj)
        rwa [show i + (j + 1) = i + 1 + j by omega] at this
      simp only [List.length_cons, List.range'_succ, List.forIn_cons, Sem.run_bind, part, aggB_run hagg, Result.andThen_ok, Bool.false_eq_true, if_false, Nat.mul_one, h1, h2, Sem.run_pure,
        run_equalIn_int w d elem k' k p q he, h3] at ih' ⊢
      cases b
      · simp
      · simp only [Bool.not_true, Bool.false_eq_true, if_false, Sem.run_pure, Result.andThen_ok]
        rw [ih']
        simp
  have h0 := key bs 0 (fun j b hj => by rw [Nat.zero_add]; exact hxy j b hj)
  rw [h0]
  cases bs.all id <;> rfl

theorem eqCs_bits : ∀ {as bs : List C} {us vs : List Value} {q : Bool}, eqCs as bs = some q → All2 (C.is E) as us → All2 (C.is E) bs vs →
    ∃ l : List Bool, l.length = as.length ∧ l.all id = q ∧ ∀ (i : Nat) (b : Bool), l[i]? = some b → ∃ (k' : IntKind) (x y : Int), us[i]? = some (Value.int k' x) ∧ vs[i]? = some (Value.int k' y) ∧ (x == y) = b
  | [], [], [], [], q, h, _, _ => by cases h; exact ⟨[], rfl, rfl, fun i b h => by simp at h⟩
  | a :: as, b :: bs, u :: us, v :: vs, q, h, ha, hb => by
    simp only [eqCs] at h
    split at h
    · rename_i x hx
      split at h
      · rename_i y hy
        cases h
        obtain ⟨l, h1, h2, h3⟩ := eqCs_bits hy ha.2 hb.2
        have hd : ∃ (k' : IntKind) (p q : Int), u = Value.int k' p ∧ v = Value.int k' q ∧ (p == q) = x := by
          have ha1 := ha.1
          have hb1 := hb.1
          unfold eqC at hx
          have eqw : ∀ {m : Nat} (p q : BitVec m), (((p.toNat : Int)) == (q.toNat : Int)) = (p == q) := by
            intro m p q
            rw [Bool.eq_iff_iff, beq_iff_eq, beq_iff_eq]
            constructor
            · intro h
              exact BitVec.eq_of_toNat_eq (by omega)
            · intro h
              rw [h]
          split at hx
          · cases hx; exact ⟨_, _, _, ha1, hb1, eqw _ _⟩
          · cases hx; exact ⟨_, _, _, ha1, hb1, eqw _ _⟩
          · cases hx; exact ⟨_, _, _, ha1, hb1, eqw _ _⟩
          · cases hx
        obtain ⟨k', p, q, e1, e2, e3⟩ := hd
        refine ⟨x :: l, by simp [h1], by simp [h2], fun i b hi => ?_⟩
        cases i with
        | zero =>
          simp only [List.getElem?_cons_zero, Option.some.injEq] at hi
          subst hi
          exact ⟨k', p, q, by simp [e1], by simp [e2], e3⟩
        | succ i =>
          simpa using h3 i b (by simpa using hi)
      · cases h
    · cases h
  | [], _ :: _, _, _, _, h, _, _ => by cases h
  | _ :: _, [], _, _, _, h, _, _ => by cases h

theorem numC_is {c : C} {x : Nat} {u : Value} (h : numC c = some x) (hc : c.is E u) : u = .int .i64 (x : Int) ∧ x < 9223372036854775808 := by
  unfold numC at h
  split at h
  · cases h; exact hc
  · cases h; exact hc
  · cases h

theorem cmpN_is {op : BinOp} {k : IntKind} {i j : Nat} {v : V} {ob : Option Bool} (h : cmpN op i j = some (v, ob)) (t : TypeId) (x y : Operand) :
    ∃ u, v.is E u ∧ Bin P op t x y (.int k (i : Int)) (.int k (j : Int)) u := by
  obtain ⟨c1, c2, c3, c4, c5, c6⟩ := nat_cmp (P := P) t x y (k := k) i j
  unfold cmpN at h
  split at h
  · cases h; exact ⟨_, rfl, c1⟩
  · cases h; exact ⟨_, rfl, c2⟩
  · cases h; exact ⟨_, rfl, c3⟩
  · cases h; exact ⟨_, rfl, c4⟩
  · cases h; exact ⟨_, rfl, c5⟩
  · cases h; exact ⟨_, rfl, c6⟩
  · cases h

theorem symBin_is {op : BinOp} {c d : C} {v : V} {ob : Option Bool} {u1 u2 : Value} (h : symBin op c d = some (v, ob)) (hob : ∀ x, ob = some x → x = true) (hc : c.is E u1) (hd : d.is E u2) (t : TypeId) (x y : Operand) :
    ∃ u, v.is E u ∧ Bin P op t x y u1 u2 u := by
  unfold symBin at h
  split at h
  · rename_i i j hi hj
    obtain ⟨rfl, hi'⟩ := numC_is hi hc
    obtain ⟨rfl, hj'⟩ := numC_is hj hd
    obtain ⟨a1, a2, a3, a4, a5, a6⟩ := int_arith (P := P) t x y i j
    obtain ⟨c1, c2, c3, c4, c5, c6⟩ := nat_cmp (P := P) t x y (k := .i64) i j
    have nz : (!(Nat.beq j 0)) = true → j ≠ 0 := by
      intro h e
      rw [e] at h
      cases h
    split at h
    · cases h
      have h1 := Nat.le_of_ble_eq_true (hob _ rfl)
      exact ⟨_, ⟨rfl, by omega⟩, a1 (by omega)⟩
    · cases h
      have h1 := Nat.le_of_ble_eq_true (hob _ rfl)
      exact ⟨_, ⟨rfl, by omega⟩, a2 h1 hi'⟩
    · cases h
      have h1 := Nat.le_of_ble_eq_true (hob _ rfl)
      exact ⟨_, ⟨rfl, by omega⟩, a4 (by omega)⟩
    · cases h
      have h1 := nz (hob _ rfl)
      have h2 := Nat.mod_le i j
      exact ⟨_, ⟨rfl, by omega⟩, nat_rem (P := P) t x y i j h1⟩
    · cases h
      have h1 := nz (hob _ rfl)
      have h2 := Nat.div_le_self i j
      exact ⟨_, ⟨rfl, by omega⟩, a5 h1 hi'⟩
    · cases h; exact ⟨_, rfl, c1⟩
    · cases h; exact ⟨_, rfl, c2⟩
    · cases h; exact ⟨_, rfl, c3⟩
    · cases h; exact ⟨_, rfl, c4⟩
    · cases h; exact ⟨_, rfl, c5⟩
    · cases h; exact ⟨_, rfl, c6⟩
    · cases h
  · split at h
    · rename_i p q hne
      cases hc
      cases hd
      exact cmpN_is h t x y
    · rename_i p q hne
      cases hc
      cases hd
      exact cmpN_is h t x y
    · rename_i p q hne
      cases hc
      cases hd
      exact cmpN_is h t x y
    · cases h

/-- What a slice of bytes shows. -/
theorem viewC_is (hat : ∀ (r : Nat) (R : Reg), hp[r]? = some R → RegIs E w r R) {c : C} {r i m bd : Nat} {b : List (BitVec 8)} {u : Value} (h : viewC hp c = some (r, i, m, b, bd)) (hc : c.is E u) :
    (∃ R bd', hp[r]? = some R ∧ R.bytes = some (b, bd')) ∧ i + m ≤ b.length ∧ m ≤ bd ∧ ∃ A' cc, u = .slice A' m cc ∧ m ≤ cc ∧ cc ≤ maxLen ∧
      (0 < m → ∃ ad K, E.reg[r]? = some (.sv (.slice (some ad) b.length K)) ∧ A' = some (ad.add i)) ∧ ∃ A K, E.reg[r]? = some (.sv (.slice A b.length K)) := by
  have vw : ∀ (r i m : Nat) (R : Reg) (b : List (BitVec 8)) (bd : Nat), hp[r]? = some R → R.bytes = some (b, bd) → (C.vw r i m).is E u →
      i + m ≤ b.length ∧ m ≤ bd ∧ ∃ A' cc, u = .slice A' m cc ∧ m ≤ cc ∧ cc ≤ maxLen ∧ (0 < m → ∃ ad K, E.reg[r]? = some (.sv (.slice (some ad) b.length K)) ∧ A' = some (ad.add i)) ∧ ∃ A K, E.reg[r]? = some (.sv (.slice A b.length K)) := by
    intro r i m R b bd hR hb hc
    obtain ⟨A, K, h1, h2, h3, h4, h5⟩ := (hat r R hR).bytes hb
    obtain ⟨A1, L, K1, A', cc, e1, e2, e3, e4, e5, e6⟩ := hc
    rw [h1] at e1
    cases e1
    refine ⟨e4, by omega, A', cc, e2, e5, e6, fun hm => ?_, A, K, h1⟩
    obtain ⟨ad, rfl, e7⟩ := e3 hm
    exact ⟨ad, K, h1, e7⟩
  unfold viewC at h
  split at h
  · rename_i r'
    split at h
    · rename_i R hR
      rw [regAt_eq] at hR
      split at h
      · rename_i b' bd' hb
        cases h
        obtain ⟨A, K, h1, h2, h3, h4, h5⟩ := (hat _ R hR).bytes hb
        have hc' : E.reg[r]? = some (Ent.sv u) := hc
        rw [h1] at hc'
        cases hc'
        refine ⟨⟨R, _, hR, hb⟩, by omega, h2, A, K, rfl, h3, h4, fun hm => ?_, A, K, h1⟩
        obtain ⟨ad, e1, _⟩ := h5 0 b[0] (List.getElem?_eq_getElem hm)
        subst e1
        exact ⟨ad, K, h1, by simp [Addr.add]⟩
      · cases h
    · cases h
  · rename_i r' i' m'
    split at h
    · rename_i R hR
      rw [regAt_eq] at hR
      split at h
      · rename_i b' bd' hb
        cases h
        obtain ⟨e1, e2, e3⟩ := vw _ _ _ R _ _ hR hb hc
        exact ⟨⟨R, _, hR, hb⟩, e1, e2, e3⟩
      · cases h
    · cases h
  · rename_i r' i' m'
    split at h
    · rename_i R hR
      rw [regAt_eq] at hR
      split at h
      · rename_i b' bd' hb
        cases h
        obtain ⟨e1, e2, e3⟩ := vw _ _ _ R _ _ hR hb hc
        exact ⟨⟨R, _, hR, hb⟩, e1, Nat.le_refl _, e3⟩
      · cases h
    · cases h
  · cases h

theorem add_add (ad : Addr) (i j : Nat) : (ad.add i).add j = ad.add (i + j) := by
  unfold Addr.add
  by_cases hi : i = 0 <;> by_cases hj : j = 0 <;> simp [hi, hj, Nat.add_assoc]

theorem symSlice_is (hat : ∀ (r : Nat) (R : Reg), hp[r]? = some R → RegIs E w r R) {c : C} {lo hi : Option C} {v : V} {ob : Option Bool} {u : Value} {t elem : TypeId} (hu : P.underlying t = some (.slice elem)) (hs : szOf P elem = some 1)
    (h : symSlice hp c lo hi = some (v, ob)) (hob : ∀ x, ob = some x → x = true) (hc : c.is E u) {lov hiv : Option Value} (hlo : (lo = none ∧ lov = none) ∨ ∃ l x, lo = some l ∧ lov = some x ∧ l.is E x) (hhi : (hi = none ∧ hiv = none) ∨ ∃ l x, hi = some l ∧ hiv = some x ∧ l.is E x) :
    ∃ u', v.is E u' ∧ ∀ w : World, (Instr.sliceAt t u lov hiv none).run P w = .ok u' w := by
  unfold symSlice at h
  split at h
  · cases h
  · rename_i r i m b bd hv
    obtain ⟨⟨R, bd', hR, hb⟩, h1, h2, A', cc, rfl, h3, h4, h5, A, K, h6⟩ := viewC_is hat hv hc
    -- the cut itself
    have cut : ∀ (l hh : Nat), l ≤ hh → hh ≤ m → (do let (l, h, q) ← (pure (l, hh, cc) : Sem (Nat × Nat × Nat)); let size ← sizeOf elem; pure (Value.slice (if q = l then A' else A'.map (·.add (l * size))) (h - l) (q - l)) : Sem Value).run P w =
        .ok (.slice (if cc = l then A' else A'.map (·.add (l * 1))) (hh - l) (cc - l)) w := by
      intro l hh _ _
      simp only [Sem.run_bind, Sem.run_pure, Result.andThen_ok, szOf_run hs]
    have isv : ∀ (l hh : Nat), l ≤ hh → hh ≤ m → (C.vw r (i + l) (hh - l)).is E (.slice (if cc = l then A' else A'.map (·.add (l * 1))) (hh - l) (cc - l)) := by
      intro l hh hl hh'
      refine ⟨A, b.length, K, _, _, h6, rfl, fun hpos => ?_, by omega, by omega, by omega⟩
      obtain ⟨ad, K', e1, e2⟩ := h5 (by omega)
      rw [h6] at e1
      cases e1
      refine ⟨ad, rfl, ?_⟩
      rw [if_neg (by omega), e2, Option.map_some, Nat.mul_one, add_add]
    split at h
    · cases h
      obtain ⟨_, rfl⟩ | ⟨l, x, e, _⟩ := hlo
      · obtain ⟨_, rfl⟩ | ⟨l, x, e, _⟩ := hhi
        · refine ⟨_, isv 0 m (Nat.zero_le _) (Nat.le_refl _), fun w => ?_⟩
          simp only [Instr.sliceAt, Sem.run_bind, run_underlying hu, Result.andThen_ok, Instr.slice, Instr.sliceBounds, Sem.run_pure, szOf_run hs]
        · cases e
      · cases e
    · rename_i k
      cases h
      obtain ⟨_, rfl⟩ | ⟨l, x, e, _⟩ := hlo
      · obtain ⟨e, _⟩ | ⟨l, x, e, rfl, hx⟩ := hhi
        · cases e
        · cases e
          obtain ⟨rfl, _⟩ := hx
          have hk := Nat.le_of_ble_eq_true (hob _ rfl)
          refine ⟨_, isv 0 k (Nat.zero_le _) hk, fun w => ?_⟩
          simp only [Instr.sliceAt, Sem.run_bind, run_underlying hu, Result.andThen_ok, Instr.slice, Instr.sliceBounds, Sem.run_pure, szOf_run hs, sliceBound_run (show k ≤ cc by omega)]
      · cases e
    · rename_i k
      cases h
      obtain ⟨_, rfl⟩ | ⟨l, x, e, _⟩ := hlo
      · obtain ⟨e, _⟩ | ⟨l, x, e, rfl, hx⟩ := hhi
        · cases e
        · cases e
          obtain ⟨rfl, _⟩ := hx
          have hk := Nat.le_of_ble_eq_true (hob _ rfl)
          refine ⟨_, isv 0 k (Nat.zero_le _) hk, fun w => ?_⟩
          simp only [Instr.sliceAt, Sem.run_bind, run_underlying hu, Result.andThen_ok, Instr.slice, Instr.sliceBounds, Sem.run_pure, szOf_run hs, sliceBound_run (show k ≤ cc by omega)]
      · cases e
    · rename_i lc
      split at h
      · rename_i l hl
        cases h
        obtain ⟨e, _⟩ | ⟨l', x, e, rfl, hx⟩ := hlo
        · cases e
        · cases e
          obtain ⟨rfl, _⟩ := numC_is hl hx
          obtain ⟨_, rfl⟩ | ⟨l', x, e, _⟩ := hhi
          · have hk := Nat.le_of_ble_eq_true (hob _ rfl)
            refine ⟨_, isv l m hk (Nat.le_refl _), fun w => ?_⟩
            simp only [Instr.sliceAt, Sem.run_bind, run_underlying hu, Result.andThen_ok, Instr.slice, Instr.sliceBounds, Sem.run_pure, szOf_run hs, sliceBound_run hk]
          · cases e
      · cases h
    · cases h

theorem optNum_is (ht : TR E tm n a) {x : Option Operand} {c : Option C} (h : optNum tm x = some c) : (c = none ∧ x.map a.eval = none) ∨ ∃ l v, c = some l ∧ x.map a.eval = some v ∧ l.is E v := by
  unfold optNum at h
  split at h
  · cases h; exact .inl ⟨rfl, rfl⟩
  · rename_i y
    split at h
    · rename_i c hc
      cases h
      exact .inr ⟨c, _, rfl, rfl, ev_is ht hc⟩
    · cases h

/-- **Operations over letters that leave memory alone.** -/
theorem symOp0_is (ht : TR E tm n a) (hat : ∀ (r : Nat) (R : Reg), hp[r]? = some R → RegIs E w r R) {o : Oper} {v : V} {ob : Option Bool} (h : symOp0 P tm hp o.op = some (v, ob)) (hob : ∀ x, ob = some x → x = true) :
    ∃ u, v.is E u ∧ ∀ w' : World, Grow w w' → (execOp a.eval o).run P w' = .ok (.value u) w' := by
  obtain ⟨dst, op, type, pos, after, guard⟩ := o
  change symOp0 P tm hp op = some (v, ob) at h
  unfold symOp0 at h
  split at h
  · rename_i op t x y yt
    split at h
    · rename_i c d hx hy
      obtain ⟨u, h1, h2⟩ := symBin_is (P := P) h hob (ev_is ht hx) (ev_is ht hy) t x y
      refine ⟨u, h1, fun w' _ => ?_⟩
      have := h2 w'
      simp only [execOp]
      rw [Sem.run_bind, this]
      rfl
    · rename_i cs ds hx hy
      split at h
      · split at h
        · rename_i len elem hu
          split at h
          · rename_i k he hs hl1 hl2 hg
            split at h
            · rename_i q hq
              cases h
              obtain ⟨us, e1, h1⟩ := ev_is ht hx
              obtain ⟨vs, e2, h2⟩ := ev_is ht hy
              obtain ⟨l, l1, l2, l3⟩ := eqCs_bits hq h1 h2
              have hlen : l.length = len := by rw [l1, ← lenC_eq]; exact Nat.eq_of_beq_eq_true hl1
              refine ⟨.bool q, rfl, fun w' _ => ?_⟩
              have hr := run_eq_array (P := P) 9998 t elem len k us.toArray vs.toArray l hu he hs hlen (fun i b hi => by simpa using l3 i b hi) w'
              simp only [execOp, e1, e2]
              rw [Sem.run_bind, Sem.run_bind, run_eqGuard_agg w' .eql t x y us.toArray vs.toArray hg, Result.andThen_ok, run_eql_struct w' t us.toArray vs.toArray, hr, l2]
              rfl
            · cases h
          · cases h
        · cases h
      · cases h
    · cases h
  · rename_i src dst x
    split at h
    · rename_i m hx
      split at h
      · rename_i d hs hd
        cases h
        obtain ⟨e, hm⟩ := ev_is ht hx
        refine ⟨_, rfl, fun w' _ => ?_⟩
        simp only [execOp, e, convert, Sem.run_bind, run_underlying hs, run_underlying hd, Result.andThen_ok, Conv.intToInt, wrapNat (k := .u64) rfl, BitVec.toNat_ofNat, Sem.run_pure]
        rfl
      · cases h
    · cases h
  · rename_i t x lo hi
    split at h
    · rename_i c l hh hx hlo hhi
      split at h
      · rename_i elem hu
        split at h
        · rename_i hs
          obtain ⟨u, h1, h2⟩ := symSlice_is hat hu hs h hob (ev_is ht hx) (optNum_is ht hlo) (optNum_is ht hhi)
          exact ⟨u, h1, fun w' _ => by simp only [execOp, Option.map_none]; rw [Sem.run_bind, h2]; rfl⟩
        · cases h
      · cases h
    · cases h
  · rename_i t x ix
    split at h
    · rename_i c ic hx hi
      split at h
      · rename_i j hj
        obtain ⟨ei, hj'⟩ := numC_is hj (ev_is ht hi)
        split at h
        · rename_i elem hu
          split at h
          · rename_i r i m b bd hs hv
            cases h
            have hlt : j < m := Nat.le_of_ble_eq_true (hob _ rfl)
            obtain ⟨⟨R, bd', hR, hb⟩, h1, h2, A', cc, e, h3, h4, h5, _⟩ := viewC_is hat hv (ev_is ht hx)
            obtain ⟨ad, K, h6, rfl⟩ := h5 (by omega)
            refine ⟨_, ⟨ad, _, K, h6, rfl, by omega⟩, fun w' _ => ?_⟩
            have hc : 0 ≤ (j : Int) ∧ (j : Int) < (m : Int) := ⟨by omega, by omega⟩
            simp only [execOp, e, ei, Instr.indexAt, asIntOf, Sem.run_bind, Sem.run_pure, Result.andThen_ok, run_underlying hu, hc, and_self, if_true, szOf_run hs, Int.toNat_natCast, Nat.mul_one, add_add]
          · cases h
        · rename_i len elem hu
          split at h
          · rename_i r hs
            cases h
            have hlt : j < len := Nat.le_of_ble_eq_true (hob _ rfl)
            obtain ⟨g, o, h1, e⟩ := ev_is ht hx
            refine ⟨_, ⟨g, o, h1, rfl⟩, fun w' _ => ?_⟩
            have hc : 0 ≤ (j : Int) ∧ (j : Int) < (len : Int) := ⟨by omega, by omega⟩
            simp only [execOp, e, ei, Instr.indexAt, asIntOf, Instr.sureAddr, Sem.run_bind, Sem.run_pure, Result.andThen_ok, run_underlying hu, hc, and_self, if_true, szOf_run hs, Int.toNat_natCast, Nat.mul_one, add_off, Nat.add_zero]
          · cases h
        · cases h
      · cases h
    · cases h
  · rename_i t x
    split at h
    · rename_i r p hx
      split at h
      · rename_i hagg
        split at h
        · rename_i R hR
          rw [regAt_eq] at hR
          split at h
          · rename_i b bd hb
            cases h
            obtain ⟨ad, L, K, h1, e, h2⟩ := ev_is ht hx
            obtain ⟨A, K', h3, h4, h5, h6, h7⟩ := (hat r R hR).bytes hb
            rw [h1] at h3
            cases h3
            obtain ⟨ad', e1, h8⟩ := h7 p (b[p]) (List.getElem?_eq_getElem h2)
            cases e1
            have hd : b.getD p 0#8 = b[p] := by simp [List.getD, h2]
            refine ⟨B8 b[p], by rw [hd]; rfl, fun w' hw' => ?_⟩
            simp [execOp, e, Instr.loadAt, Instr.sureAddr, loadVar, aggB_run hagg, hw'.cell h8]
          · cases h
        · cases h
      · cases h
    · cases h
  · rename_i c
    obtain ⟨callee, args, argTypes⟩ := c
    split at h
    · rename_i x t hcal hargs hty
      simp only at hcal hargs hty
      subst hcal
      have ea : args = #[x] := by apply Array.ext'; simpa using hargs
      have et : argTypes = #[t] := by apply Array.ext'; simpa using hty
      subst ea et
      split at h
      · rename_i c hx
        split at h
        · rename_i elem hu
          split at h
          · rename_i r i m
            split at h
            · rename_i v1 hv1
              cases h
              obtain ⟨A, L, K, A', cc, _, e, _⟩ := ev_is ht hx
              refine ⟨_, (itK_is hv1).1, fun w' _ => ?_⟩
              simp [execOp, resolve, invoke, builtin, e, Builtin.len_, run_underlying hu, goInt]
            · cases h
          · split at h
            · rename_i r i m b bd hv
              cases h
              obtain ⟨_, h1, h2, A', cc, e, h3, h4, _⟩ := viewC_is hat hv (ev_is ht hx)
              refine ⟨.int .i64 (m : Int), ⟨rfl, by simp only [maxLen] at h4; omega⟩, fun w' _ => ?_⟩
              simp [execOp, resolve, invoke, builtin, e, Builtin.len_, run_underlying hu, goInt]
            · cases h
        · cases h
      · cases h
    · cases h
  · cases h

theorem extBin_is {op : BinOp} {t : TypeId} {x y : Operand} {a b v : V} {ob : Option Bool} {u1 u2 : Value} (h : extBin P op t a b = some (v, ob)) (hob : ∀ x, ob = some x → x = true) (ha : a.is E u1) (hb : b.is E u2) :
    ∃ u, v.is E u ∧ Bin P op t x y u1 u2 u := by
  unfold extBin at h
  split at h
  · rename_i i j
    split at h
    · rename_i h1 h2
      cases h
      obtain ⟨rfl, hi⟩ := ha
      cases hb
      have h1' := Nat.le_of_ble_eq_true h1
      have h2' := Nat.le_of_ble_eq_true h2
      obtain ⟨_, _, _, _, _, a6⟩ := int_arith (P := P) t x y i j.toNat
      exact ⟨_, ⟨rfl, by omega⟩, a6 .u64 (by omega) (by omega)⟩
    · cases h
  · split at h
    · rename_i e hu
      cases h
      obtain ⟨g, o, _, rfl⟩ := ha
      cases hb
      refine ⟨.bool false, rfl, fun w => ?_⟩
      have hp : P.underlying t = some (.pointer (P.pointee t)) := by unfold Program.pointee; rw [hu]
      have hg : ∀ p : Option Addr, (eqGuard .eql t x y (.pointer p) (.pointer none)).run P w = .ok () w := fun p => by simp [eqGuard]
      rw [Sem.run_bind, hg, Result.andThen_ok, run_eql_pointer_nil (P := P) w t _ hp]
      rfl
    · rename_i e hu
      cases h
      obtain ⟨g, o, _, rfl⟩ := ha
      cases hb
      refine ⟨.bool true, rfl, fun w => ?_⟩
      have hp : P.underlying t = some (.pointer (P.pointee t)) := by unfold Program.pointee; rw [hu]
      have hg : ∀ p : Option Addr, (eqGuard .neq t x y (.pointer p) (.pointer none)).run P w = .ok () w := fun p => by simp [eqGuard]
      rw [Sem.run_bind, hg, Result.andThen_ok, run_neq_pointer_nil (P := P) w t _ hp]
      rfl
    · cases h
  · split at h
    · rename_i hu
      cases h
      have e := eq_of_beq (hob _ rfl)
      subst e
      cases ha
      cases hb
      refine ⟨.bool true, rfl, fun w => ?_⟩
      rw [Sem.run_bind]
      have hg : ∀ s s' : ByteArray, (eqGuard .eql t x y (.string s) (.string s')).run P w = .ok () w := fun s s' => by simp [eqGuard]
      rw [hg, Result.andThen_ok, binOp_string_eql]
      simp [Sem.run_pure]
    · cases h
  · split at h
    · split at h
      · rename_i len elem hu
        split at h
        · rename_i k he hs hl1 hl2 hg
          split at h
          · rename_i q hq
            cases h
            obtain ⟨us, e1, h1⟩ := ha
            obtain ⟨vs, e2, h2⟩ := hb
            subst e1 e2
            obtain ⟨l, l1, l2, l3⟩ := eqCs_bits hq h1 h2
            have hlen : l.length = len := by rw [l1, ← lenC_eq]; exact Nat.eq_of_beq_eq_true hl1
            refine ⟨.bool (!q), rfl, fun w' => ?_⟩
            have hr := run_eq_array (P := P) 9998 t elem len k us.toArray vs.toArray l hu he hs hlen (fun i b hi => by simpa using l3 i b hi) w'
            rw [Sem.run_bind, run_eqGuard_agg w' .neq t x y us.toArray vs.toArray hg, Result.andThen_ok, run_neq_struct w' t us.toArray vs.toArray, hr, l2]
            rfl
          · cases h
        · cases h
      · cases h
    · cases h
  · cases h

/-- **More operations over letters.** -/
theorem extOp_is (_ : SlicesOk E) (ht : TR E tm n a) (hat : ∀ (r : Nat) (R : Reg), hp[r]? = some R → RegIs E w r R) {o : Oper} {v : V} {ob : Option Bool} (h : extOp P tm hp o.op = some (v, ob)) (hob : ∀ x, ob = some x → x = true) :
    ∃ u, v.is E u ∧ ∀ w' : World, Grow w w' → (execOp a.eval o).run P w' = .ok (.value u) w' := by
  obtain ⟨dst, op, type, pos, after, guard⟩ := o
  change extOp P tm hp op = some (v, ob) at h
  unfold extOp at h
  split at h
  · rename_i op t x y yt
    split at h
    · rename_i c d hx hy
      obtain ⟨u, h1, h2⟩ := extBin_is (P := P) (x := x) (y := y) h hob (ev_is ht hx) (ev_is ht hy)
      refine ⟨u, h1, fun w' _ => ?_⟩
      have := h2 w'
      simp only [execOp]
      rw [Sem.run_bind, this]
      rfl
    · cases h
  · rename_i src dst x
    split at h
    · rename_i c hx
      split at h
      · rename_i e r i m b bd hs hd hv
        split at h
        · rename_i he
          cases h
          have hpos : 0 < m := Nat.le_of_ble_eq_true (hob _ rfl)
          obtain ⟨⟨R, bd', hR, hb⟩, h1, h2, A', cc, e1, h3, h4, h5, _⟩ := viewC_is hat hv (ev_is ht hx)
          obtain ⟨ad, K, h6, rfl⟩ := h5 hpos
          obtain ⟨A2, K2, g1, g2, g3, g4, g5⟩ := (hat r R hR).bytes hb
          rw [h6] at g1
          cases g1
          refine ⟨_, rfl, fun w' hw' => ?_⟩
          have hu : P.underlying e = some (.int .u8) := by
            unfold isU8 at he
            split at he
            · assumption
            · cases he
          have hlen : (((b.drop i).take m).map UInt8.ofBitVec).length = m := by rw [List.length_map, List.length_take, List.length_drop]; omega
          have hr := run_convert_bytes_back (P := P) w' src dst e (ad.add i) cc (((b.drop i).take m).map UInt8.ofBitVec) hs hu hd (fun j hj => by
            rw [hlen] at hj
            have hj' : i + j < b.length := by omega
            obtain ⟨ad', e2, hcell⟩ := g5 (i + j) b[i + j] (List.getElem?_eq_getElem hj')
            cases e2
            rw [add_add, hw'.cell hcell]
            simp [B8])
          rw [hlen] at hr
          simp only [execOp, e1]
          rw [Sem.run_bind, hr]
          rfl
        · cases h
      · cases h
    · cases h
  · rename_i t x ix
    split at h
    · rename_i c ic hx hi
      unfold extIx at h
      split at h
      · rename_i j elem hj hu
        obtain ⟨ei, hj'⟩ := numC_is hj (ev_is ht hi)
        split at h
        · rename_i hs
          split at h
          · rename_i r i m
            split at h
            · rename_i i0 c0 hR
              rw [regAt_eq] at hR
              cases h
              have hlt : j < m := Nat.le_of_ble_eq_true (hob _ rfl)
              obtain ⟨A, L, K, A', cc, h1, e, h3, h4, h5, h6⟩ := ev_is ht hx
              obtain ⟨ad, rfl, rfl⟩ := h3 (by omega)
              refine ⟨_, ⟨ad, L, K, h1, rfl, by omega⟩, fun w' _ => ?_⟩
              have hc : 0 ≤ (j : Int) ∧ (j : Int) < (m : Int) := ⟨by omega, by omega⟩
              simp only [execOp, e, ei, Instr.indexAt, asIntOf, Sem.run_bind, Sem.run_pure, Result.andThen_ok, run_underlying hu, hc, and_self, if_true, szOf_run hs, Int.toNat_natCast, Nat.mul_one, add_add]
            · cases h
          · rename_i r
            split at h
            · rename_i e0 cs hR
              rw [regAt_eq] at hR
              cases h
              have hlt : j < lenC cs := Nat.le_of_ble_eq_true (hob _ rfl)
              rw [lenC_eq] at hlt
              obtain ⟨v, vs, h1, h2, h3⟩ := hat r _ hR
              have hx' : E.reg[r]? = some (.sv (a.eval x)) := ev_is ht hx
              rw [h1] at hx'
              injection hx' with hx'
              injection hx' with hx'
              rcases h3.2 with ⟨rfl, h4⟩ | ⟨g, cap, cur, rfl, _, _, h5, h6, _⟩
              · omega
              · refine ⟨_, ⟨⟨g, 0, none⟩, _, _, h1, rfl, hlt⟩, fun w' _ => ?_⟩
                have hc : 0 ≤ (j : Int) ∧ (j : Int) < (cs.length : Int) := ⟨by omega, by omega⟩
                simp only [execOp, ← hx', ei, Instr.indexAt, asIntOf, Sem.run_bind, Sem.run_pure, Result.andThen_ok, run_underlying hu, hc, and_self, if_true, szOf_run hs, Int.toNat_natCast, Nat.mul_one]
            · cases h
          · cases h
        · cases h
      · cases h
    · cases h
  · rename_i t x
    split at h
    · rename_i r p hx
      unfold extLd at h
      split at h
      · rename_i hagg
        obtain ⟨ad, L, K, h1, e, h2⟩ := ev_is ht hx
        split at h
        · rename_i i c hR
          rw [regAt_eq] at hR
          cases h
          have hpi := Nat.eq_of_beq_eq_true (hob _ rfl)
          subst hpi
          obtain ⟨ad', L', K', u, h3, h4, h5⟩ := hat r _ hR
          rw [h1] at h3
          cases h3
          refine ⟨u, h4, fun w' hw' => ?_⟩
          simp [execOp, e, Instr.loadAt, Instr.sureAddr, loadVar, aggB_run hagg, hw'.cell h5]
        · rename_i e0 cs hR
          rw [regAt_eq] at hR
          split at h
          · rename_i c hc
            cases h
            obtain ⟨v, vs, h3, h4, h5⟩ := hat r _ hR
            rw [h1] at h3
            cases h3
            rw [atN_eq] at hc
            obtain ⟨u, hu, hcu⟩ := h4.get (n := p) (a := c) hc
            rcases h5.2 with ⟨h6, _⟩ | ⟨g, cap, cur, h6, _, _⟩
            · cases h6
            · cases h6
              have hcell := h5.cells (g := g) rfl p u hu
              refine ⟨u, hcu, fun w' hw' => ?_⟩
              simp [execOp, e, Instr.loadAt, Instr.sureAddr, loadVar, aggB_run hagg, hw'.cell hcell]
          · cases h
        · cases h
      · cases h
    · cases h
  · rename_i c
    obtain ⟨callee, args, argTypes⟩ := c
    split at h
    · rename_i x t hcal hargs hty
      simp only at hcal hargs hty
      subst hcal
      have ea : args = #[x] := by apply Array.ext'; simpa using hargs
      have et : argTypes = #[t] := by apply Array.ext'; simpa using hty
      subst ea et
      split at h
      · rename_i c hx
        unfold extLen at h
        split at h
        · rename_i elem hu
          split at h
          · rename_i r i m
            cases h
            obtain ⟨A, L, K, A', cc, _, e, _, h4, h5, h6⟩ := ev_is ht hx
            refine ⟨.int .i64 (m : Int), ⟨rfl, by simp only [maxLen] at h6; omega⟩, fun w' _ => ?_⟩
            simp [execOp, resolve, invoke, builtin, e, Builtin.len_, run_underlying hu, goInt]
          · rename_i r
            split at h
            · rename_i e0 cs hR
              rw [regAt_eq] at hR
              split at h
              · rename_i v1 hv1
                cases h
                obtain ⟨u, vs, h1, h2, h3⟩ := hat r _ hR
                have hx' : E.reg[r]? = some (.sv (a.eval x)) := ev_is ht hx
                rw [h1] at hx'
                injection hx' with hx'
                injection hx' with hx'
                rw [lenC_eq] at hv1
                refine ⟨_, (itK_is hv1).1, fun w' _ => ?_⟩
                rcases h3.2 with ⟨e, h4⟩ | ⟨g, cap, cur, e, _⟩
                · rw [e] at hx'
                  simp [execOp, resolve, invoke, builtin, ← hx', Builtin.len_, run_underlying hu, goInt, h4]
                · rw [e] at hx'
                  simp [execOp, resolve, invoke, builtin, ← hx', Builtin.len_, run_underlying hu, goInt]
              · cases h
            · cases h
          · cases h
        · cases h
      · cases h
    · cases h
  · cases h
theorem symOp_is (hE : SlicesOk E) (ht : TR E tm n a) (hat : ∀ (r : Nat) (R : Reg), hp[r]? = some R → RegIs E w r R) {o : Oper} {v : V} {ob : Option Bool} (h : symOp P tm hp o.op = some (v, ob)) (hob : ∀ x, ob = some x → x = true) :
    ∃ u, v.is E u ∧ ∀ w' : World, Grow w w' → (execOp a.eval o).run P w' = .ok (.value u) w' := by
  unfold symOp at h
  split at h
  · rename_i r hr
    cases h
    exact symOp0_is ht hat hr hob
  · exact extOp_is hE ht hat h hob
end Go.Proofs.Sx
