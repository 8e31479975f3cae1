/- Operations that make or write memory. -/
import Derived.Test.YtinbeihbhnjjnaaSxSym
import Derived.Laws.MakeOwn
namespace Go.Proofs.Sx
open Go

/-- Since wc nothing that was there has turned, and what has been made since lies behind it. -/
def Chg (base : Nat) (wc : World) (E : Env) (w : World) : Prop :=
  Grow wc w ∧ ∀ (r : Nat) (x : Ent) (g : Nat), base ≤ r → E.reg[r]? = some x → x.blk = some g → wc.heap.size ≤ g

section eff
variable {P : Program} {E : Env} {tm : T} {n : Nat} {a : Act} {w w0 : World} {hp hp' : List Reg} {B : Nat → Prop}

theorem run_newRow (t : TypeId) (cs : Array Value) (w : World) : (newRow t cs).run P w = .ok ⟨w.heap.size, 0, none⟩ (w.alloc (.cells cs t)) := rfl

theorem Chg.push {base : Nat} {wc : World} (h : Chg base wc E w) (x : Ent) (hx : ∀ g, x.blk = some g → wc.heap.size ≤ g) {w' : World} (hg : Grow wc w') : Chg base wc ⟨E.reg ++ [x]⟩ w' := by
  refine ⟨hg, fun r y g hr hy hyg => ?_⟩
  rcases last_or hy with ⟨_, rfl⟩ | ⟨_, hy⟩
  · exact hx g hyg
  · exact h.2 r y g hr hy hyg

/-- A block of its own is written: it lies behind wc. -/
theorem Chg.write {base : Nat} {wc : World} (h : Chg base wc E w) {r : Nat} {x : Ent} (hr : base ≤ r) (hx : E.reg[r]? = some x) {w' : World} (hg : w.grownBy w' x.blk) : Grow wc w' := by
  refine ⟨hg.os.trans h.1.os, hg.tape.trans h.1.tape, hg.output.trans h.1.output, Nat.le_trans h.1.size hg.size, fun k hk _ => ?_⟩
  rw [hg.block k (Nat.lt_of_lt_of_le hk h.1.size) (fun e => by have := h.2 r x k hr hx e.symm; omega)]
  exact h.1.block k hk (by simp)

theorem not_lt_base {r base : Nat} (h : Nat.blt r base = false) : base ≤ r := by
  rcases Nat.lt_or_ge r base with h1 | h1
  · have : Nat.blt r base = true := Nat.ble_eq_true_of_le h1
    rw [this] at h
    cases h
  · exact h1

/-- What an operation that makes or writes memory leaves. -/
def Eff (P : Program) (B : Nat → Prop) (w0 : World) (E : Env) (a : Act) (w : World) (o : Oper) (base : Nat) (v : V) (hp' : List Reg) (wr : Bool) : Prop :=
  ∃ (u : Value) (w' : World) (E' : Env), E.le E' ∧ v.is E' u ∧ HR B w0 E' hp' w' ∧ (wr = false → ∀ wc, Chg base wc E w → Chg base wc E' w') ∧
    ((execOp a.eval o).run P w = .ok (.value u) w' ∨ (u = undef ∧ (execOp a.eval o).run P w = .ok .skip w'))

theorem eff_push (hh : HR B w0 E hp w) {o : Oper} {base : Nat} (t : TypeId) {cs : List C} {vs : List Value} (ha : All2 (C.is E) cs vs) {v : V} {u : Value}
    (hv : v.is ⟨E.reg ++ [.at_ w.heap.size 0]⟩ u) (hrun : (execOp a.eval o).run P w = .ok (.value u) (w.alloc (.cells vs.toArray t))) : Eff P B w0 E a w o base v (hp ++ [.own t cs]) false := by
  refine ⟨u, _, _, E.le_push _, hv, hh.push t ha, fun _ wc hc => ?_, .inl hrun⟩
  have hg : Grow wc (w.alloc (.cells vs.toArray t)) := hc.1.trans (World.grownBy_alloc w _ none)
  refine hc.push _ (fun g e => ?_) hg
  cases e
  exact hc.1.size

theorem new_at (hh : HR B w0 E hp w) (x : Ent) : (E.reg ++ [x])[hp.length]? = some x := by
  rw [hh.len]
  simp

theorem eff_write (hh : HR B w0 E hp w) {o : Oper} {base r g : Nat} {t : TypeId} {cs cs' : List C} {vs' : List Value} (hr : hp[r]? = some (.own t cs)) (hg : E.reg[r]? = some (.at_ g 0)) (ha : All2 (C.is E) cs' vs') {v : V} {u : Value} (hv : v.is E u)
    (hrun : (execOp a.eval o).run P w = .ok (.value u) (w.setRow g vs'.toArray) ∨ (u = undef ∧ (execOp a.eval o).run P w = .ok .skip (w.setRow g vs'.toArray))) :
    Eff P B w0 E a w o base v (hp.set r (.own t cs')) (Nat.blt r base) :=
  ⟨u, _, E, E.le_refl, hv, hh.write hr hg ha, fun hw _ hc => ⟨hc.write (not_lt_base hw) hg (grown_setRow w g _), hc.2⟩, hrun⟩

theorem overC_is (b : List (BitVec 8)) (i m : Nat) : ∀ (cs cs' : List C) (j : Nat) (us : List Value), overC b i m j cs = some cs' → All2 (C.is E) cs us →
    cs'.length = cs.length ∧ All2 (C.is E) cs' ((List.range' j cs.length).zip us |>.map fun (p : Nat × Value) => if p.1 < m then B8 (b.getD (i + p.1) 0#8) else p.2)
  | [], cs', j, [], h, _ => by
    simp only [overC, Option.some.injEq] at h
    subst h
    exact ⟨rfl, trivial⟩
  | c :: cs, cs', j, u :: us, h, ha => by
    cases c with
    | w8 x =>
      simp only [overC] at h
      split at h
      · rename_i l hl
        cases h
        obtain ⟨h1, h2⟩ := overC_is b i m cs l (j + 1) us hl ha.2
        refine ⟨by simp [h1], ?_⟩
        simp only [List.length_cons, List.range'_succ, List.zip_cons_cons, List.map_cons]
        refine ⟨?_, h2⟩
        have hx : u = B8 x := ha.1
        by_cases hj : j < m
        · have : Nat.blt j m = true := Nat.ble_eq_true_of_le hj
          rw [this, if_pos hj]
          rfl
        · have : Nat.blt j m = false := by
            rw [Bool.eq_false_iff]
            intro e
            exact hj (Nat.le_of_ble_eq_true e)
          rw [this, if_neg hj]
          exact hx
      · cases h
    | _ => simp [overC] at h

theorem pokeC_is (x : BitVec 8) (p : Nat) : ∀ (cs cs' : List C) (j : Nat) (us : List Value), pokeC x p j cs = some cs' → All2 (C.is E) cs us →
    cs'.length = cs.length ∧ All2 (C.is E) cs' ((List.range' j cs.length).zip us |>.map fun (q : Nat × Value) => if q.1 = p then B8 x else q.2)
  | [], cs', j, [], h, _ => by
    simp only [pokeC, Option.some.injEq] at h
    subst h
    exact ⟨rfl, trivial⟩
  | c :: cs, cs', j, u :: us, h, ha => by
    cases c with
    | w8 y =>
      simp only [pokeC] at h
      split at h
      · rename_i l hl
        cases h
        obtain ⟨h1, h2⟩ := pokeC_is x p cs l (j + 1) us hl ha.2
        refine ⟨by simp [h1], ?_⟩
        simp only [List.length_cons, List.range'_succ, List.zip_cons_cons, List.map_cons]
        refine ⟨?_, h2⟩
        have hx : u = B8 y := ha.1
        by_cases hj : j = p
        · subst hj
          rw [Nat.beq_refl, if_pos rfl]
          rfl
        · have : Nat.beq j p = false := by
            rw [Bool.eq_false_iff]
            intro e
            exact hj (Nat.eq_of_beq_eq_true e)
          rw [this, if_neg hj]
          exact hx
      · cases h
    | _ => simp [pokeC] at h

theorem zip_set (x : Value) (p : Nat) : ∀ (us : List Value) (j : Nat), j ≤ p → ((List.range' j us.length).zip us |>.map fun (q : Nat × Value) => if q.1 = p then x else q.2) = us.set (p - j) x
  | [], j, _ => by simp
  | u :: us, j, hj => by
    simp only [List.length_cons, List.range'_succ, List.zip_cons_cons, List.map_cons]
    by_cases h : j = p
    · subst h
      rw [if_pos rfl, Nat.sub_self]
      simp only [List.set_cons_zero, List.cons.injEq, true_and]
      apply List.ext_getElem
      · simp
      · intro k h1 h2
        simp only [List.getElem_map, List.getElem_zip, List.getElem_range']
        rw [if_neg (by omega)]
    · rw [if_neg h, zip_set x p us (j + 1) (by omega), show p - j = (p - (j + 1)) + 1 by omega]
      rfl

theorem byteElem_is {e : TypeId} (h : byteElem P e = true) : ∃ i z, P.info? e = some i ∧ i.zero = some (.int .u8 z) ∧ i.size = 1 ∧ i.bytes = 1 := by
  unfold byteElem at h
  split at h
  · rename_i i hi
    split at h
    · rename_i z hz
      simp only [Bool.and_eq_true] at h
      exact ⟨i, z, hi, hz, Nat.eq_of_beq_eq_true h.1, Nat.eq_of_beq_eq_true h.2⟩
    · cases h
  · cases h

theorem bytesC_is : ∀ {cs : List C} {b : List (BitVec 8)} {us : List Value}, bytesC cs = some b → All2 (C.is E) cs us → us = b.map B8
  | [], b, [], h, _ => by cases h; rfl
  | c :: cs, b, u :: us, h, ha => by
    cases c with
    | w8 x =>
      simp only [bytesC] at h
      split at h
      · rename_i l hl
        cases h
        have h1 := bytesC_is hl ha.2
        have h2 : u = B8 x := ha.1
        rw [h1, h2]
        rfl
      · cases h
    | _ => simp [bytesC] at h

/-- What is appended. -/
theorem srcC_is (hat : ∀ (r : Nat) (R : Reg), hp[r]? = some R → RegIs E w r R) {s : C} {b : List (BitVec 8)} {bd : Nat} {u : Value} (h : srcC hp s = some (b, bd)) (hs : s.is E u) :
    b.length ≤ bd ∧ ∃ A cc, u = .slice A b.length cc ∧ (0 < b.length → ∃ ad, A = some ad ∧ ∀ (j : Nat) (x : BitVec 8), b[j]? = some x → w.cell? (ad.add j) = some (B8 x)) := by
  unfold srcC at h
  split at h
  · cases h
    exact ⟨Nat.le_refl _, none, 0, hs, fun h => absurd h (by simp)⟩
  · rename_i r off len cap
    split at h
    · rename_i R hR
      rw [regAt_eq] at hR
      split at h
      · rename_i l hl
        split at h
        · rename_i l' hl'
          split at h
          · rename_i b' hb
            cases h
            obtain ⟨g, o, h1, rfl⟩ := hs
            have hc := (hat r R hR).cells h1
            obtain ⟨rfl, hoff⟩ := dropN_eq _ _ _ hl
            obtain ⟨rfl, hlen⟩ := takeN_eq _ _ _ hl'
            obtain ⟨vs, h3, h4⟩ := row_vals (w := w) (E := E) g ((R.cells.drop off).take bd) (o + off) fun j c hj => by
              have hjs : j < bd := by
                rcases Nat.lt_or_ge j bd with h | h
                · exact h
                · rw [List.getElem?_eq_none (by simp; omega)] at hj; cases hj
              rw [List.getElem?_take_of_lt hjs, List.getElem?_drop] at hj
              have := hc (off + j) c hj
              rwa [← Nat.add_assoc] at this
            have hvs := bytesC_is hb h3
            have hbl : b.length = bd := by
              have := h3.length
              rw [hvs, List.length_take, List.length_map] at this
              omega
            refine ⟨by omega, _, cap, by rw [hbl], fun _ => ⟨_, rfl, fun j x hj => ?_⟩⟩
            rw [add_off]
            exact h4 j (B8 x) (by rw [hvs]; simp [hj])
          · cases h
        · cases h
      · cases h
    · cases h
  · split at h
    · rename_i r i m b' bd' hv
      cases h
      obtain ⟨⟨R, bd2, hR, hb⟩, h1, h2, A', cc, rfl, h3, h4, h5, A, K, h6⟩ := viewC_is hat hv hs
      have hl : ((b'.drop i).take m).length = m := by simp; omega
      refine ⟨by omega, A', cc, by rw [hl], fun hpos => ?_⟩
      rw [hl] at hpos
      obtain ⟨ad, K', h7, rfl⟩ := h5 hpos
      obtain ⟨A2, K2, h8, _, _, _, h9⟩ := (hat r R hR).bytes hb
      refine ⟨_, rfl, fun j x hj => ?_⟩
      rw [h7] at h8
      cases h8
      have hjm : j < m := by
        rcases Nat.lt_or_ge j m with h | h
        · exact h
        · rw [List.getElem?_eq_none (by omega)] at hj; cases hj
      rw [List.getElem?_take_of_lt hjm, List.getElem?_drop] at hj
      obtain ⟨ad', e, h10⟩ := h9 (i + j) x hj
      cases e
      rw [add_add]
      exact h10
    · cases h

theorem run_append_bytes {t ty e : TypeId} (hu : P.underlying t = some (.slice e)) (he : byteElem P e = true) {v : Value} {m : Nat} {xs : List Value} (hown : w.ownsRow 0 e 1 v m xs) {b : List (BitVec 8)} {A : Option Addr} {cc : Nat}
    (hsrc : 0 < b.length → ∃ ad, A = some ad ∧ ∀ (j : Nat) (x : BitVec 8), b[j]? = some x → w.cell? (ad.add j) = some (B8 x)) (hbd : m + b.length ≤ 140737488355328) :
    ∃ v' w', (Builtin.append_ #[t, t] ty #[v, .slice A b.length cc]).run P w = .ok v' w' ∧ w'.ownsRow 0 e 1 v' (m + b.length) (xs ++ b.map B8) ∧ w.grownBy w' v.ownBlock ∧ (v'.ownBlock = v.ownBlock ∨ v'.ownBlock = some w.heap.size) := by
  obtain ⟨i, z, hi, hz, hsz, hby⟩ := byteElem_is he
  cases A with
  | none =>
    have hb0 : b = [] := by
      rcases Nat.eq_zero_or_pos b.length with h0 | h0
      · exact List.eq_nil_of_length_eq_zero h0
      · obtain ⟨ad, e, _⟩ := hsrc h0; cases e
    subst hb0
    refine ⟨v, w, ?_, by simpa using hown, ⟨rfl, rfl, rfl, Nat.le_refl _, fun _ _ _ => rfl⟩, .inl rfl⟩
    have hnz : (P.underlying t matches some (.int _)) = false := by rw [hu]
    rcases hown.2 with ⟨rfl, rfl⟩ | ⟨g, cap, cur, rfl, _, _, hnc, _⟩
    · simp [Builtin.append_, run_underlying hu, sizeOf, typeInfo, hi, Builtin.lenOf, Builtin.firstCells]
    · simp [Builtin.append_, run_underlying hu, sizeOf, typeInfo, hi, Builtin.lenOf, Builtin.firstCells, hnc, storeCells]
  | some ad =>
    have hcells : ∀ (j : Nat) (u : Value), (b.map B8)[j]? = some u → w.cell? (ad.add j) = some u := by
      intro j u hj
      have hjl : j < b.length := by
        rcases Nat.lt_or_ge j b.length with h | h
        · exact h
        · rw [List.getElem?_eq_none (by simpa using h)] at hj; cases hj
      obtain ⟨ad', e, h1⟩ := hsrc (by omega)
      cases e
      rw [List.getElem?_map, List.getElem?_eq_getElem hjl] at hj
      simp only [Option.map_some, Option.some.injEq] at hj
      subst hj
      exact h1 j b[j] (List.getElem?_eq_getElem hjl)
    have h1 : ∀ u ∈ b.map B8, u.oneCell' = true := by
      intro u hu
      obtain ⟨x, _, rfl⟩ := List.mem_map.1 hu
      rfl
    obtain ⟨v', w', r1, r2, r3, _, r5⟩ := run_append_own_at (P := P) w 0 t ty e i (.int .u8 z) 1 1 hu hi hz hsz hby rfl (by omega) v m xs hown ad b.length cc (b.map B8) (by simp) hcells h1 (by simp only [maxLen]; omega) (by omega) (Nat.zero_le _)
    exact ⟨v', w', r1, r2, r3, r5⟩

theorem B8_map_set (b : List (BitVec 8)) (p : Nat) (x : BitVec 8) : (b.set p x).map B8 = (b.map B8).set p (B8 x) := by
  rw [List.map_set]

/-- An append: the region that grew (if any) is dead, the new one shows all. -/
theorem append_end (hh : HR B w0 E hp w) {o : Oper} {base : Nat} {e : TypeId} {v0 v' : Value} {w' : World} {b : List (BitVec 8)} {bd : Nat} {hp1 : List Reg} {wr : Bool}
    (hlen : hp1.length = hp.length) (hsub : ∀ (q : Nat) (R : Reg), hp1[q]? = some R → R = .dead ∨ hp[q]? = some R)
    (hD : ∀ g, v0.ownBlock = some g → (B g ∨ w0.heap.size ≤ g) ∧ g < w.heap.size ∧ ∀ (q : Nat) (R : Reg) (x : Ent), hp1[q]? = some R → R.live = true → E.reg[q]? = some x → x.blk ≠ some g)
    (hown : w'.ownsRow 0 e 1 v' b.length (b.map B8)) (hg : w.grownBy w' v0.ownBlock) (hor : v'.ownBlock = v0.ownBlock ∨ v'.ownBlock = some w.heap.size) (hbd : b.length ≤ bd)
    (hch : wr = false → ∀ wc, Chg base wc E w → Grow wc w' ∧ ∀ g, v0.ownBlock = some g → wc.heap.size ≤ g) (hrun : (execOp a.eval o).run P w = .ok (.value v') w') :
    Eff P B w0 E a w o base (.one (.dy hp.length)) (hp1 ++ [.dyn e b bd]) wr := by
  have hok : ∃ A L K, v' = .slice A L K := by
    rcases hown.2 with ⟨rfl, _⟩ | ⟨g, cap, cur, rfl, _⟩
    · exact ⟨_, _, _, rfl⟩
    · exact ⟨_, _, _, rfl⟩
  refine ⟨v', w', _, E.le_push (.sv v'), new_at hh _, hh.add hlen hsub v0.ownBlock hD hg (.sv v') ?_ (fun g hgb => ?_) (fun v hv => ?_) _ ⟨v', new_at hh _, hown, hbd⟩, fun hw wc hc => ?_, .inl hrun⟩
  · rcases hor with h1 | h1
    · exact .inr (.inl h1)
    · exact .inr (.inr h1)
  · exact (hown.lt g hgb).2
  · cases hv
    exact hok
  · obtain ⟨h1, h2⟩ := hch hw wc hc
    refine hc.push _ (fun g hgb => ?_) h1
    rcases hor with h3 | h3
    · exact h2 g (by rw [← h3]; exact hgb)
    · have h4 : v'.ownBlock = some g := hgb
      rw [h3] at h4
      cases h4
      exact hc.1.size

theorem elemR_is {e : TypeId} {s b : Nat} (hE : SlicesOk E) (h : elemR P e = some (s, b)) : ∃ i z, P.info? e = some i ∧ i.zero = some z ∧ i.size = s ∧ i.bytes = b ∧ z.cells.size = s ∧ 0 < s := by
  unfold elemR at h
  split at h
  · rename_i i zs hi hz
    split at h
    · rename_i h1 h2
      rw [forceN_eq, forceN_eq] at h
      cases h
      have h1' := Nat.eq_of_beq_eq_true h1
      have h2' : 0 < i.size := Nat.le_of_ble_eq_true h2
      unfold zeroV at hz
      rw [hi] at hz
      simp only at hz
      split at hz
      · cases hz
      · rename_i z hz1
        split at hz
        · cases hz
        · rename_i v hv
          obtain ⟨vs, h3, h4⟩ := V.cells_is hE (ofValue_is (E := E) hv) hz
          refine ⟨i, z, hi, hz1, rfl, rfl, ?_, h2'⟩
          rw [h3, List.size_toArray, ← h4.length, ← lenC_eq]
          exact h1'
    · cases h
  · cases h
/-- A region dies (or none), another one grows out of it. -/
theorem grow_end (hh : HR B w0 E hp w) {o : Oper} {base : Nat} {D : Option Nat} {v' : Value} {w' : World} {hp1 : List Reg} {wr : Bool} {R : Reg} {x : Ent} {val : V}
    (hlen : hp1.length = hp.length) (hsub : ∀ (q : Nat) (R : Reg), hp1[q]? = some R → R = .dead ∨ hp[q]? = some R)
    (hD : ∀ g, D = some g → (B g ∨ w0.heap.size ≤ g) ∧ g < w.heap.size ∧ ∀ (q : Nat) (R : Reg) (x : Ent), hp1[q]? = some R → R.live = true → E.reg[q]? = some x → x.blk ≠ some g)
    (hg : w.grownBy w' D) (hor : x.blk = none ∨ x.blk = D ∨ x.blk = some w.heap.size) (hlt : ∀ g, x.blk = some g → g < w'.heap.size) (hxok : ∀ v, x = .sv v → ∃ A L K, v = .slice A L K) (hR : RegIs ⟨E.reg ++ [x]⟩ w' hp.length R) (hval : val.is ⟨E.reg ++ [x]⟩ v')
    (hch : wr = false → ∀ wc, Chg base wc E w → Grow wc w' ∧ ∀ g, D = some g → wc.heap.size ≤ g) (hrun : (execOp a.eval o).run P w = .ok (.value v') w') : Eff P B w0 E a w o base val (hp1 ++ [R]) wr := by
  refine ⟨v', w', _, E.le_push x, hval, hh.add hlen hsub D hD hg x hor hlt hxok R hR, fun hw wc hc => ?_, .inl hrun⟩
  obtain ⟨h1, h2⟩ := hch hw wc hc
  refine hc.push _ (fun g hgb => ?_) h1
  rcases hor with h3 | h3 | h3
  · rw [h3] at hgb; cases hgb
  · exact h2 g (by rw [← h3]; exact hgb)
  · rw [h3] at hgb
    cases hgb
    exact hc.1.size
theorem set_dead_or {hp : List Reg} {r : Nat} (hlt : r < hp.length) (q : Nat) (R : Reg) (hq : (hp.set r .dead)[q]? = some R) : R = .dead ∨ (q ≠ r ∧ hp[q]? = some R) := by
  by_cases hq' : q = r
  · subst hq'
    rw [List.getElem?_set_self hlt] at hq
    exact .inl (Option.some.inj hq).symm
  · rw [List.getElem?_set_ne (Ne.symm hq')] at hq
    exact .inr ⟨hq', hq⟩
theorem dead_D (hh : HR B w0 E hp w) {r g : Nat} {R0 : Reg} {x0 : Ent} (hR : hp[r]? = some R0) (ho : R0.isOwn = true) (h1 : E.reg[r]? = some x0) (hg : x0.blk = some g) :
    (B g ∨ w0.heap.size ≤ g) ∧ g < w.heap.size ∧ ∀ (q : Nat) (R : Reg) (x : Ent), (hp.set r .dead)[q]? = some R → R.live = true → E.reg[q]? = some x → x.blk ≠ some g := by
  refine ⟨hh.mine r _ _ g hR ho h1 hg, hh.lt r _ g h1 hg, fun q R x hq hl hx hxg => ?_⟩
  rcases set_dead_or (List.getElem?_eq_some_iff.1 hR).1 q R hq with rfl | ⟨hne, hq'⟩
  · cases hl
  · exact hh.sep r q _ R _ x g hR ho hq' hl (Ne.symm hne) h1 hx hg hxg
theorem own_lt {w' : World} {e : TypeId} {s n : Nat} {v : Value} {xs : List Value} (h : w'.ownsRow 0 e s v n xs) : (∃ A L K, v = .slice A L K) ∧ ∀ g, v.ownBlock = some g → g < w'.heap.size := by
  refine ⟨?_, fun g hg => (h.lt g hg).2⟩
  rcases h.2 with ⟨rfl, _⟩ | ⟨g, cap, cur, rfl, _⟩
  · exact ⟨_, _, _, rfl⟩
  · exact ⟨_, _, _, rfl⟩
theorem appendR_is (hh : HR B w0 E hp w) {o : Oper} {base : Nat} {t ty e : TypeId} {d s : C} {ux us : Value} {v : V} {wr : Bool} (hu : P.underlying t = some (.slice e)) (h : appendR P hp base e d s = some (v, hp', wr)) (hd : d.is E ux) (hs : s.is E us)
    (hrun : ∀ r : Result Value, (Builtin.append_ #[t, t] ty #[ux, us]).run P w = r → (execOp a.eval o).run P w = r.andThen fun x w' => .ok (.value x) w') : Eff P B w0 E a w o base v hp' wr := by
  unfold appendR at h
  split at h
  · rename_i sz bz r' off len cap he
    obtain ⟨i, z, hi, hz, hsz, hby, hzs, hpos⟩ := elemR_is hh.ok he
    split at h
    · rename_i R' hR'
      rw [regAt_eq] at hR'
      split at h
      · rename_i l hl
        split at h
        · rename_i cvs hl'
          obtain ⟨g0, o0, h1, rfl⟩ := hs
          have hc := (hh.at_ r' R' hR').cells h1
          obtain ⟨rfl, hoff⟩ := dropN_eq _ _ _ hl
          obtain ⟨rfl, hlen⟩ := takeN_eq _ _ _ hl'
          obtain ⟨vs, h3, h4⟩ := row_vals (w := w) (E := E) g0 ((R'.cells.drop off).take (len * sz)) (o0 + off) fun j c hj => by
            have hjs : j < len * sz := by
              rcases Nat.lt_or_ge j (len * sz) with h | h
              · exact h
              · rw [List.getElem?_eq_none (by simp; omega)] at hj; cases hj
            rw [List.getElem?_take_of_lt hjs, List.getElem?_drop] at hj
            have := hc (off + j) c hj
            rwa [← Nat.add_assoc] at this
          have hvl : vs.length = len * sz := by
            have := h3.length
            rw [List.length_take] at this
            omega
          have hnews : ∀ j u, vs[j]? = some u → w.cell? ((⟨g0, o0 + off, none⟩ : Addr).add j) = some u := fun j u hj => by rw [add_off]; exact h4 j u hj
          have hone := all2_one hh.ok h3
          split at h
          · split at h
            · rename_i hb1 hb2
              have hb1' := Nat.le_of_ble_eq_true hb1
              have hb2' := Nat.le_of_ble_eq_true hb2
              rw [regPushK_eq, forceN_eq, regLen_eq] at h
              cases h
              cases hd
              obtain ⟨v', w', r1, r2, r3, _, r5⟩ := run_append_own_at (P := P) w 0 t ty e i z sz bz hu hi hz hsz hby hzs hpos (.slice none 0 0) 0 [] (World.ownsRow_nil w 0 e sz) ⟨g0, o0 + off, none⟩ len cap vs hvl hnews hone (by simp only [maxLen]; omega) (by simpa using hb1') (Nat.zero_le _)
              simp only [Nat.zero_add, List.nil_append] at r2
              obtain ⟨q1, q2⟩ := own_lt r2
              refine grow_end (D := none) (x := .sv v') hh rfl (fun q R hq => .inr hq) (fun g e => by cases e) r3 ?_ q2 (fun v hv => by cases hv; exact q1) ⟨v', vs, new_at hh _, r2, C.all_mono (E.le_push _) h3⟩ (new_at hh _) (fun _ wc hc => ⟨hc.1.trans r3, fun g e => by cases e⟩) ?_
              · rcases r5 with h5 | h5
                · exact .inl h5
                · exact .inr (.inr h5)
              · rw [hrun _ r1]; rfl
            · cases h
          · rename_i r
            split at h
            · rename_i e' sz' n cs hR
              rw [regAt_eq] at hR
              split at h
              · rename_i he1 he2 hb1 hb2
                split at h
                · rename_i hp1 hset
                  rw [forceN_eq, regPushK_eq, forceN_eq, regLen_eq, forceB_eq] at h
                  cases h
                  have e1 := Nat.eq_of_beq_eq_true he1
                  have e2 := Nat.eq_of_beq_eq_true he2
                  subst e1 e2
                  have hb1' := Nat.le_of_ble_eq_true hb1
                  have hb2' := Nat.le_of_ble_eq_true hb2
                  obtain ⟨rfl, hlt⟩ := regSet_eq _ _ _ _ hset
                  obtain ⟨v0, xs, k1, k2, k3⟩ := hh.at_ r _ hR
                  have hux : E.reg[r]? = some (.sv ux) := hd
                  rw [k1] at hux
                  cases hux
                  obtain ⟨v', w', r1, r2, r3, _, r5⟩ := run_append_own_at (P := P) w 0 t ty e i z sz bz hu hi hz hsz hby hzs hpos ux n xs k2 ⟨g0, o0 + off, none⟩ len cap vs hvl hnews hone (by simp only [maxLen]; omega) hb1' (Nat.zero_le _)
                  obtain ⟨q1, q2⟩ := own_lt r2
                  refine grow_end (D := ux.ownBlock) (x := .sv v') hh (by simp) (fun q R hq => (set_dead_or hlt q R hq).imp id (·.2)) (fun g hg => dead_D hh hR rfl k1 hg) r3 ?_ q2 (fun v hv => by cases hv; exact q1) ⟨v', xs ++ vs, new_at hh _, r2, (C.all_mono (E.le_push _) k3).append (C.all_mono (E.le_push _) h3)⟩ (new_at hh _)
                    (fun hw wc hc => ⟨hc.write (not_lt_base hw) k1 r3, fun g hg => hc.2 r _ g (not_lt_base hw) k1 hg⟩) ?_
                  · rcases r5 with h5 | h5
                    · exact .inr (.inl h5)
                    · exact .inr (.inr h5)
                  · rw [hrun _ r1]; rfl
                · cases h
              · cases h
            · cases h
          · cases h
        · cases h
      · cases h
    · cases h
  · cases h
theorem appendQ_is (hh : HR B w0 E hp w) {o : Oper} {base : Nat} {t ty : TypeId} {d s : C} {ux us : Value} {v : V} {wr ob : Bool} (h : appendQ P hp base t d s = some (v, hp', wr, ob)) (hob : ob = true) (hd : d.is E ux) (hs : s.is E us)
    (hrun : ∀ r : Result Value, (Builtin.append_ #[t, t] ty #[ux, us]).run P w = r → (execOp a.eval o).run P w = r.andThen fun x w' => .ok (.value x) w') : Eff P B w0 E a w o base v hp' wr := by
  unfold appendQ at h
  split at h
  · rename_i e r r' k hu
    split at h
    · rename_i sz bz e' m he hR hR'
      rw [regAt_eq] at hR hR'
      split at h
      · rename_i hp1 hee hset
        rw [regPushK_eq, forceN_eq, regLen_eq, forceB_eq] at h
        cases h
        rw [Bool.and_eq_true] at hob
        have hm := Nat.le_of_ble_eq_true hob.1
        have hb := Nat.le_of_ble_eq_true hob.2
        have e1 := Nat.eq_of_beq_eq_true hee
        subst e1
        obtain ⟨i, z, hi, hz, hsz, hby, hzs, hpos⟩ := elemR_is hh.ok he
        obtain ⟨rfl, hlt⟩ := regSet_eq _ _ _ _ hset
        obtain ⟨g, cur, h1, h2, h3⟩ := hh.at_ r _ hR
        obtain ⟨g', o', h4, rfl⟩ := hd
        rw [h1] at h4
        cases h4
        have hcur : cur = [] := by
          cases cur with
          | nil => rfl
          | cons x l => exact h2.elim
        subst hcur
        have hown : w.ownsRow 0 e sz (.slice (some ⟨g, 0 + 0, none⟩) 0 0) 0 [] := ⟨by simp, .inr ⟨g, 0, #[], rfl, Nat.zero_le _, h3, Nat.le_refl _, Nat.zero_le _, by simp, by simp⟩⟩
        obtain ⟨A, cc, rfl, ⟨hk, hkc, hcm⟩, hA⟩ := hs
        have hD := fun (g2 : Nat) (hg2 : some g = some g2) => dead_D hh hR rfl h1 (x0 := .at_ g 0) hg2
        -- what the machine does
        have run : ∃ v' w' xs, (Builtin.append_ #[t, t] ty #[.slice (some ⟨g, 0 + 0, none⟩) 0 0, .slice A k cc]).run P w = .ok v' w' ∧ w'.ownsRow 0 e sz v' k xs ∧ (∃ f : Nat → Int, ∀ j, j < k * sz → xs[j]? = some (.int .u8 (f j))) ∧ w.grownBy w' (some g) ∧ (v'.ownBlock = some g ∨ v'.ownBlock = some w.heap.size) := by
          rcases Nat.eq_zero_or_pos k with h0 | h0
          · subst h0
            refine ⟨.slice (some ⟨g, 0 + 0, none⟩) 0 0, w, [], ?_, hown, ⟨fun _ => 0, fun j hj => by omega⟩, ⟨rfl, rfl, rfl, Nat.le_refl _, fun _ _ _ => rfl⟩, .inl rfl⟩
            cases A <;> simp [Builtin.append_, run_underlying hu, sizeOf, typeInfo, hi, Builtin.lenOf, Builtin.firstCells, loadCells, loadCellsFrom, storeCells]
          · obtain ⟨g1, o1, k1, rfl⟩ := hA h0
            have hkm : 0 < k * sz := Nat.mul_pos h0 hpos
            rcases hh.at_ r' _ hR' with hz0 | ⟨g2, o2, f, k2, k3⟩
            · omega
            · rw [k1] at k2
              cases k2
              have hvl : ((List.range (k * sz)).map fun j => Value.int .u8 (f j)).length = k * sz := by simp
              obtain ⟨v', w', r1, r2, r3, _, r5⟩ := run_append_own_at (P := P) w 0 t ty e i z sz bz hu hi hz hsz hby hzs hpos _ 0 [] hown ⟨g1, o1, none⟩ k cc ((List.range (k * sz)).map fun j => Value.int .u8 (f j)) hvl (fun j u hj => by
                have hjl : j < k * sz := by
                  rcases Nat.lt_or_ge j (k * sz) with h | h
                  · exact h
                  · rw [List.getElem?_eq_none (by simpa using h)] at hj; cases hj
                rw [List.getElem?_map, List.getElem?_range hjl] at hj
                cases hj
                rw [add_off]
                exact k3 j (by omega)) (fun u hu => by
                obtain ⟨x, _, rfl⟩ := List.mem_map.1 hu
                rfl) (by omega) (by simpa using hb) (Nat.zero_le _)
              simp only [Nat.zero_add, List.nil_append] at r2
              exact ⟨v', w', _, r1, r2, ⟨f, fun j hj => by rw [List.getElem?_map, List.getElem?_range hj]; rfl⟩, r3, r5⟩
        obtain ⟨v', w', xs, r1, r2, ⟨f, hf⟩, r3, r5⟩ := run
        rcases r2.2 with ⟨rfl, _⟩ | ⟨g3, cap, cur, rfl, _, hc1, hc2, hc3, _⟩
        · rcases r5 with h | h <;> cases h
        · refine grow_end (D := some g) (x := .at_ g3 0) hh (by simp) (fun q R hq => (set_dead_or hlt q R hq).imp id (·.2)) hD r3 ?_ (fun g4 hg4 => (r2.lt g4 hg4).2) (fun v hv => by cases hv) ?_ ⟨_, cap, rfl, ⟨hk, hc2, hc3⟩, fun _ => ⟨g3, 0, new_at hh _, rfl⟩⟩
            (fun hw wc hc => ⟨hc.write (x := .at_ g 0) (not_lt_base hw) h1 r3, fun g2 hg2 => hc.2 r _ g2 (not_lt_base hw) h1 hg2⟩) (by rw [hrun _ r1]; rfl)
          · rcases r5 with h5 | h5
            · exact .inr (.inl h5)
            · exact .inr (.inr h5)
          · refine .inr ⟨g3, 0, f, new_at hh _, fun j hj => ?_⟩
            have := r2.cells (g := g3) rfl j _ (hf j hj)
            rw [add_off] at this
            exact this
      · cases h
    · cases h
  · cases h
theorem append_is (hh : HR B w0 E hp w) {o : Oper} {base : Nat} {t ty : TypeId} {d s : C} {ux us : Value} {v : V} {wr : Bool} (h : appendV P hp base t d s = some (v, hp', wr)) (hd : d.is E ux) (hs : s.is E us)
    (hrun : ∀ r : Result Value, (Builtin.append_ #[t, t] ty #[ux, us]).run P w = r → (execOp a.eval o).run P w = r.andThen fun x w' => .ok (.value x) w') : Eff P B w0 E a w o base v hp' wr := by
  unfold appendV at h
  split at h
  · rename_i e hu
    split at h
    · rename_i b2 bd2 he hsrc
      obtain ⟨hb2, A, cc, rfl, hcells⟩ := srcC_is hh.at_ hsrc hs
      split at h
      · split at h
        · cases h
        · rename_i hle
          rw [regPushK_eq, forceN_eq, regLen_eq] at h
          cases h
          cases hd
          have hle' := Nat.le_of_ble_eq_true hle
          obtain ⟨v', w', r1, r2, r3, r4⟩ := run_append_bytes (P := P) (w := w) (ty := ty) hu he (World.ownsRow_nil w 0 e 1) (b := b2) (cc := cc) hcells (by omega)
          simp only [Nat.zero_add, List.nil_append] at r2
          refine append_end hh rfl (fun q R hq => .inr hq) (fun g e => by cases e) r2 r3 r4 hb2 (fun _ wc hc => ⟨hc.1.trans r3, fun g e => by cases e⟩) ?_
          rw [hrun _ r1]
          rfl
      · rename_i r
        split at h
        · rename_i e' b bd hR
          rw [regAt_eq] at hR
          split at h
          · rename_i hee hle
            split at h
            · rename_i hp1 hset
              rw [regPushK_eq, forceN_eq, regLen_eq, forceB_eq] at h
              cases h
              have hee' : e = e' := Nat.eq_of_beq_eq_true hee
              subst hee'
              have hle' := Nat.le_of_ble_eq_true hle
              obtain ⟨rfl, hlt⟩ := regSet_eq _ _ _ _ hset
              obtain ⟨v0, h1, h2, h3⟩ := hh.at_ r _ hR
              have hux : E.reg[r]? = some (.sv ux) := hd
              rw [h1] at hux
              cases hux
              obtain ⟨v', w', r1, r2, r3, r4⟩ := run_append_bytes (P := P) (w := w) (ty := ty) hu he h2 (b := b2) (cc := cc) hcells (by omega)
              have r2' : w'.ownsRow 0 e 1 v' (b ++ b2).length ((b ++ b2).map B8) := by
                rw [List.length_append, List.map_append]
                exact r2
              refine append_end hh (by simp) (fun q R hq => ?_) (fun g hg => ⟨hh.mine r _ _ g hR rfl h1 hg, hh.lt r _ g h1 hg, fun q R x hq hl hx hxg => ?_⟩) r2' r3 r4 (by simp; omega) (fun hw wc hc => ⟨?_, fun g hg => hc.2 r _ g (not_lt_base hw) h1 hg⟩) ?_
              · by_cases hq' : q = r
                · subst hq'
                  rw [List.getElem?_set_self hlt] at hq
                  exact .inl (Option.some.inj hq).symm
                · rw [List.getElem?_set_ne (Ne.symm hq')] at hq
                  exact .inr hq
              · by_cases hq' : q = r
                · subst hq'
                  rw [List.getElem?_set_self hlt] at hq
                  cases hq
                  cases hl
                · rw [List.getElem?_set_ne (Ne.symm hq')] at hq
                  exact hh.sep r q _ R _ x g hR rfl hq hl (Ne.symm hq') h1 hx hg hxg
              · exact hc.write (not_lt_base hw) h1 r3
              · rw [hrun _ r1]
                rfl
            · cases h
          · cases h
        · cases h
      · rename_i r
        split at h
        · rename_i e' hR
          rw [regAt_eq] at hR
          split at h
          · rename_i hee
            split at h
            · rename_i hp1 hset hle
              rw [regPushK_eq, forceN_eq, regLen_eq, forceB_eq] at h
              cases h
              have hee' : e = e' := Nat.eq_of_beq_eq_true hee
              subst hee'
              have hle' := Nat.le_of_ble_eq_true hle
              obtain ⟨rfl, hlt⟩ := regSet_eq _ _ _ _ hset
              obtain ⟨g, cur, h1, h2, h3⟩ := hh.at_ r _ hR
              obtain ⟨g', o', h4, rfl⟩ := hd
              rw [h1] at h4
              cases h4
              have hcur : cur = [] := by
                cases cur with
                | nil => rfl
                | cons x l => exact h2.elim
              subst hcur
              have hown : w.ownsRow 0 e 1 (.slice (some ⟨g, 0 + 0, none⟩) 0 0) 0 [] := ⟨rfl, .inr ⟨g, 0, #[], rfl, Nat.zero_le _, h3, Nat.le_refl _, Nat.zero_le _, rfl, rfl⟩⟩
              obtain ⟨v', w', r1, r2, r3, r4⟩ := run_append_bytes (P := P) (w := w) (ty := ty) hu he hown (b := b2) (cc := cc) hcells (by omega)
              simp only [Nat.zero_add, List.nil_append] at r2
              refine append_end hh (v0 := .slice (some ⟨g, 0 + 0, none⟩) 0 0) (by simp) (fun q R hq => ?_) (fun g2 hg2 => ?_) r2 r3 r4 hb2 (fun hw wc hc => ⟨?_, fun g2 hg2 => hc.2 r _ g2 (not_lt_base hw) h1 hg2⟩) ?_
              · by_cases hq' : q = r
                · subst hq'
                  rw [List.getElem?_set_self hlt] at hq
                  exact .inl (Option.some.inj hq).symm
                · rw [List.getElem?_set_ne (Ne.symm hq')] at hq
                  exact .inr hq
              · refine ⟨hh.mine r _ _ g2 hR rfl h1 hg2, hh.lt r _ g2 h1 hg2, fun q R x hq hl hx hxg => ?_⟩
                by_cases hq' : q = r
                · subst hq'
                  rw [List.getElem?_set_self hlt] at hq
                  cases hq
                  cases hl
                · rw [List.getElem?_set_ne (Ne.symm hq')] at hq
                  exact hh.sep r q _ R _ x g2 hR rfl hq hl (Ne.symm hq') h1 hx hg2 hxg
              · exact hc.write (x := .at_ g 0) (not_lt_base hw) h1 r3
              · rw [hrun _ r1]
                rfl
            · cases h
          · cases h
        · cases h
      · cases h
    · exact appendR_is hh hu h hd hs hrun
    · cases h
  · cases h

theorem storeCells_run {g o : Nat} {t' : TypeId} {us cur : List Value} (hb : w.heap[g]? = some (.cells cur.toArray t' (0, 0))) (hfit : o + us.length ≤ cur.length) (h1 : ∀ u ∈ us, u.oneCell' = true) :
    (storeCells ⟨g, o, none⟩ us).run P w = .ok () (w.setRow g (cur.take o ++ us ++ cur.drop (o + us.length)).toArray) := by
  have := run_storeCells_at P g o t' us 0 cur.toArray w hb (by simp only [List.size_toArray]; omega) h1
  simpa using this

theorem storeVar_run {t t' : TypeId} {sz : Nat} (hs : szOf P t = some sz) {g o : Nat} {us cur : List Value} {u : Value} (hu : u.cells = us.toArray) (hsz : us.length = sz) (hb : w.heap[g]? = some (.cells cur.toArray t' (0, 0)))
    (hfit : o + us.length ≤ cur.length) (h1 : ∀ u ∈ us, u.oneCell' = true) : (storeVar t ⟨g, o, none⟩ u).run P w = .ok () (w.setRow g (cur.take o ++ us ++ cur.drop (o + us.length)).toArray) := by
  have hcells : u.cells.size = sz := by rw [hu]; simpa using hsz
  simp only [storeVar, Sem.run_bind, szOf_run hs, Result.andThen_ok, hcells, ne_eq, not_true, if_false]
  rw [hu]
  exact storeCells_run hb hfit h1

theorem put1 (cur : List Value) (j : Nat) (x : Value) (h : j < cur.length) : cur.take j ++ [x] ++ cur.drop (j + 1) = cur.set j x := by
  rw [List.set_eq_take_append_cons_drop, if_pos h]
  simp

def repV : Nat → List Value → List Value
  | 0, _ => []
  | n + 1, l => l ++ repV n l
theorem repV_length : ∀ (n : Nat) (l : List Value), (repV n l).length = n * l.length
  | 0, _ => by simp [repV]
  | n + 1, l => by simp [repV, repV_length n l, Nat.succ_mul]; omega
theorem repV_get (l : List Value) (h0 : 0 < l.length) : ∀ (n k : Nat), k < n * l.length → (repV n l)[k]? = l[k % l.length]?
  | 0, k, h => by omega
  | n + 1, k, h => by
    simp only [repV]
    rcases Nat.lt_or_ge k l.length with hk | hk
    · rw [List.getElem?_append_left hk, Nat.mod_eq_of_lt hk]
    · rw [List.getElem?_append_right hk, repV_get l h0 n (k - l.length) (by rw [Nat.succ_mul] at h; omega), Nat.mod_eq_sub_mod hk]

/-- **The operations that make or write memory.** -/
theorem effOp_is (ht : TR E tm n a) (hh : HR B w0 E hp w) {o : Oper} {base : Nat} {v : V} {wr : Bool} {ob : Option Bool} (h : effOp P tm hp base o.op = some (v, hp', wr, ob)) (hob : ∀ x, ob = some x → x = true) :
    Eff P B w0 E a w o base v hp' wr := by
  obtain ⟨dst, op, type, pos, after, guard⟩ := o
  change effOp P tm hp base op = some (v, hp', wr, ob) at h
  unfold effOp at h
  split at h
  · rename_i t
    split at h
    · rename_i cs hz
      rw [regPushK_eq, forceN_eq, regLen_eq] at h
      cases h
      obtain ⟨z, zv, z1, z2, z3⟩ := zeroV_is hh.ok hz
      refine eff_push hh t z3 ⟨w.heap.size, 0, new_at hh _, rfl⟩ ?_
      simp [execOp, Instr.alloc, z1, newVar, z2, run_newRow]
    · cases h
  · rename_i t x
    split at h
    · rename_i v1 hx
      split at h
      · rename_i cs hcs
        rw [regPushK_eq, forceN_eq, regLen_eq] at h
        cases h
        obtain ⟨vs, h1, h2⟩ := V.cells_is hh.ok (ev_is ht hx) hcs
        refine eff_push hh t h2 ⟨w.heap.size, 0, new_at hh _, rfl⟩ ?_
        simp [execOp, Instr.box, newVar, h1, run_newRow]
      · cases h
    · cases h
  · rename_i t x y
    split at h
    · rename_i r off v1 hx hy
      split at h
      · rename_i hp1 hst
        rw [forceB_eq] at h
        cases h
        unfold storeV at hst
        split at hst
        · cases hst
        · rename_i vs hvs
          split at hst
          · cases hst
          · rename_i sz hs
            split at hst
            · cases hst
            · rename_i hsz
              split at hst
              · rename_i t' cs hreg
                split at hst
                · rename_i cs' hput
                  rw [regAt_eq] at hreg
                  obtain ⟨rfl, hlt⟩ := regSet_eq _ _ _ _ hst
                  obtain ⟨rfl, hfit⟩ := putN_eq _ _ _ _ hput
                  obtain ⟨g, o, hg, hax⟩ := ev_is ht hx
                  obtain ⟨g', cur, hg', hcur, hb⟩ := hh.at_ r _ hreg
                  rw [hg] at hg'
                  cases hg'
                  obtain ⟨us, hus, hall⟩ := V.cells_is hh.ok (ev_is ht hy) hvs
                  have hl1 := hall.length
                  have hl2 := hcur.length
                  have hsz' : us.length = sz := by
                    rw [← hl1, ← lenC_eq]
                    exact Nat.eq_of_beq_eq_true hsz
                  refine eff_write hh hreg hg (hcur.put hall off) rfl (.inr ⟨rfl, ?_⟩)
                  simp only [execOp, hax, Instr.storeAt, Instr.sureAddr, Sem.run_bind, Sem.run_pure, Result.andThen_ok, Nat.zero_add]
                  rw [storeVar_run hs hus hsz' hb (by omega) (all2_one hh.ok hall)]
                  rfl
                · cases hst
              · cases hst
      · cases h
    · rename_i r j x8 hx hy
      split at h
      · rename_i t' cs hs hreg
        split at h
        · rename_i cs' hpoke
          split at h
          · rename_i hp1 hset
            rw [forceB_eq] at h
            cases h
            rw [regAt_eq] at hreg
            obtain ⟨rfl, hlt⟩ := regSet_eq _ _ _ _ hset
            obtain ⟨g, o, hg, hax⟩ := ev_is ht hx
            obtain ⟨g', cur, hg', hcur, hb⟩ := hh.at_ r _ hreg
            rw [hg] at hg'
            cases hg'
            have hy' : a.eval y = B8 x8 := ev_is ht hy
            have hj : j < cs.length := by
              have := Nat.le_of_ble_eq_true (hob _ rfl)
              rw [lenC_eq] at this
              omega
            have hl2 := hcur.length
            obtain ⟨_, hall⟩ := pokeC_is x8 j cs cs' 0 cur hpoke hcur
            have hz := zip_set (B8 x8) j cur 0 (Nat.zero_le _)
            rw [hl2, hz, Nat.sub_zero] at hall
            refine eff_write hh hreg hg hall rfl (.inr ⟨rfl, ?_⟩)
            simp only [execOp, hax, Instr.storeAt, Instr.sureAddr, Sem.run_bind, Sem.run_pure, Result.andThen_ok, Nat.zero_add]
            rw [storeVar_run hs (us := [B8 x8]) (by rw [hy']; rfl) rfl hb (by simp; omega) (fun u hu => by simp at hu; subst hu; rfl)]
            simp only [List.length_singleton]
            rw [put1 cur j _ (by omega)]
            rfl
          · cases h
        · cases h
      · cases h
    · rename_i r p x8 hx hy
      split at h
      · rename_i e b bd hs hreg
        split at h
        · rename_i hp1 hset
          rw [forceB_eq] at h
          cases h
          rw [regAt_eq] at hreg
          obtain ⟨rfl, hlt⟩ := regSet_eq _ _ _ _ hset
          obtain ⟨ad, L, K, h1, hax, h2⟩ := ev_is ht hx
          obtain ⟨v0, h3, h4, h5⟩ := hh.at_ r _ hreg
          rw [h1] at h3
          cases h3
          have hy' : a.eval y = B8 x8 := ev_is ht hy
          rcases h4.2 with ⟨e1, _⟩ | ⟨g, cap, cur, e1, _, hb, hcap, hmax, hcs, htake⟩
          · cases e1
          · cases e1
            have hcl : cur.toList.length = K := by simp [hcs]
            have hgr := grown_setRow w g (cur.toList.set p (B8 x8)).toArray
            have hown' : (w.setRow g (cur.toList.set p (B8 x8)).toArray).ownsRow 0 e 1 (.slice (some ⟨g, 0, none⟩) b.length K) (b.set p x8).length ((b.set p x8).map B8) := by
              refine ⟨by simp, .inr ⟨g, K, _, by rw [List.length_set], Nat.zero_le _, setRow_heap w g _ _ e _ hb, by rw [List.length_set]; exact hcap, hmax, by simp [hcs], ?_⟩⟩
              rw [B8_map_set, ← htake, List.length_set, List.take_set]
            refine ⟨undef, _, E, E.le_refl, rfl, hh.upd hreg rfl rfl h1 hgr ⟨_, h1, hown', by rw [List.length_set]; exact h5⟩, fun hw wc hc => ⟨hc.write (not_lt_base hw) h1 hgr, hc.2⟩, .inr ⟨rfl, ?_⟩⟩
            simp only [execOp, hax, Instr.storeAt, Instr.sureAddr, Sem.run_bind, Sem.run_pure, Result.andThen_ok, add_off, Nat.zero_add]
            have hb' : w.heap[g]? = some (.cells cur.toList.toArray e (0, 0)) := by rw [Array.toArray_toList]; exact hb
            rw [storeVar_run hs (us := [B8 x8]) (by rw [hy']; rfl) rfl hb' (by simp only [List.length_singleton]; omega) (fun u hu => by simp at hu; subst hu; rfl)]
            simp only [List.length_singleton]
            rw [put1 cur.toList p _ (by omega)]
            rfl
        · cases h
      · cases h
    · cases h
  · rename_i t len parts
    split at h
    · rename_i elem hu
      split at h
      · rename_i z hz hs
        split at h
        · rename_i cs hlen hcs
          rw [regPushK_eq, forceN_eq, regLen_eq] at h
          cases h
          obtain ⟨zv, zvs, z1, z2, z3⟩ := zeroV_is hh.ok hz
          have hlen' := Nat.le_of_ble_eq_true hlen
          match zvs, z3 with
          | [zu], z3 =>
            have hrep : All2 (C.is E) (List.replicate len z) (List.replicate len zu) := by
              clear hlen hlen' hcs
              induction len with
              | zero => trivial
              | succ k ih => exact ⟨z3.1, ih⟩
            obtain ⟨vs, h1, h2⟩ := fillC_is hh.ok ht _ parts.toList _ cs _ hcs hrep
            refine eff_push hh elem h2 ⟨w.heap.size, 0, new_at hh _, rfl⟩ ?_
            have e : (parts.map fun p => (p.1, a.eval p.2)).toList = (parts.toList.map fun p => (p.1, a.eval p.2)) := by simp
            have er : ((Array.range (len * 1)).map fun i => zv.cells[i % zv.cells.size]!) = (List.replicate len zu).toArray := by
              apply Array.ext'
              apply List.ext_getElem
              · simp
              · intro k hk1 hk2
                simp [z2, Nat.mod_one]
            have er' : ((Array.range (len * 1)).map fun i => (if len * 1 = 0 then #[] else zv.cells)[i % (if len * 1 = 0 then #[] else zv.cells).size]!) = (List.replicate len zu).toArray := by
              by_cases hl0 : len * 1 = 0
              · have : len = 0 := by omega
                subst this
                simp
              · rw [if_neg hl0]
                exact er
            simp only [execOp, Instr.buildSlice, Sem.run_bind, run_underlying hu, Result.andThen_ok, szOf_run hs]
            rw [if_neg (by omega)]
            by_cases hl0 : len * 1 = 0
            · simp only [if_pos hl0] at er' ⊢
              simp only [Sem.run_bind, Sem.run_pure, Result.andThen_ok, er', e, h1, run_newRow]
            · simp only [if_neg hl0] at er' ⊢
              simp only [Sem.run_bind, Sem.run_pure, Result.andThen_ok, z1, er', e, h1, run_newRow]
        · cases h
      · rename_i zs s hne hz hs
        split at h
        · rename_i cs hlen hs64 hzl hcs
          rw [regPushK_eq, forceN_eq, regLen_eq] at h
          cases h
          obtain ⟨zv, zvs, z1, z2, z3⟩ := zeroV_is hh.ok hz
          have hlen' := Nat.le_of_ble_eq_true hlen
          have hs' := Nat.le_of_ble_eq_true hs64
          have hzl' : zs.length = s := by rw [← lenC_eq]; exact Nat.eq_of_beq_eq_true hzl
          have hzv : zvs.length = s := by rw [← z3.length]; exact hzl'
          have hrep : ∀ k, All2 (C.is E) (reps k zs) (repV k zvs) := by
            intro k
            induction k with
            | zero => trivial
            | succ k ih => exact z3.append ih
          obtain ⟨vs, h1, h2⟩ := fillC_is hh.ok ht _ parts.toList _ cs _ hcs (hrep len)
          refine eff_push hh elem h2 ⟨w.heap.size, 0, new_at hh _, rfl⟩ ?_
          have e : (parts.map fun p => (p.1, a.eval p.2)).toList = (parts.toList.map fun p => (p.1, a.eval p.2)) := by simp
          have er' : ((Array.range (len * s)).map fun i => (if len * s = 0 then #[] else zv.cells)[i % (if len * s = 0 then #[] else zv.cells).size]!) = (repV len zvs).toArray := by
            by_cases hl0 : len * s = 0
            · have hnil : (repV len zvs) = [] := by
                apply List.eq_nil_of_length_eq_zero
                rw [repV_length, hzv, hl0]
              rw [hnil, hl0]
              simp
            · rw [if_neg hl0, z2]
              have hs0 : 0 < s := Nat.pos_of_ne_zero fun e0 => hl0 (by rw [e0, Nat.mul_zero])
              apply Array.ext'
              apply List.ext_getElem
              · simp [repV_length, hzv]
              · intro k hk1 hk2
                have hk : k < len * s := by simpa using hk1
                have := repV_get zvs (by rw [hzv]; exact hs0) len k (by rw [hzv]; exact hk)
                rw [List.getElem?_eq_getElem hk2] at this
                simp only [hzv] at this
                have hlt : k % s < zvs.length := by rw [hzv]; exact Nat.mod_lt _ hs0
                rw [List.getElem?_eq_getElem hlt] at this
                have h9 := Option.some.inj this
                simp only [Array.toList_map, Array.toList_range, List.getElem_map, List.getElem_range, List.size_toArray, hzv, h9]
                simp [List.getElem?_eq_getElem hlt]
          simp only [execOp, Instr.buildSlice, Sem.run_bind, run_underlying hu, Result.andThen_ok, szOf_run hs]
          have hsz : len * s ≤ 64 * 64 := Nat.mul_le_mul hlen' hs'
          rw [if_neg (by omega)]
          by_cases hl0 : len * s = 0
          · simp only [if_pos hl0] at er' ⊢
            simp only [Sem.run_bind, Sem.run_pure, Result.andThen_ok, er', e, h1, run_newRow]
          · simp only [if_neg hl0] at er' ⊢
            simp only [Sem.run_bind, Sem.run_pure, Result.andThen_ok, z1, er', e, h1, run_newRow]
        · cases h
      · cases h
    · cases h
  · rename_i t l c
    split at h
    · rename_i elem x y hu hl hc
      split at h
      rotate_left
      · cases h
      rename_i n m hx hy
      rw [forceN_eq] at h
      split at h
      · rename_i z hz hs hb hnm hle
        rw [regPushK_eq, forceN_eq, regLen_eq] at h
        cases h
        have hnm' := Nat.eq_of_beq_eq_true hnm
        subst hnm'
        have hle' := Nat.le_of_ble_eq_true hle
        unfold zeroV at hz
        split at hz
        · cases hz
        · rename_i i hi
          split at hz
          · cases hz
          · rename_i z0 hz0
            split at hz
            · cases hz
            · rename_i v0 hv0
              obtain ⟨zvs, z2, z3⟩ := V.cells_is hh.ok (ofValue_is (E := E) hv0) hz
              match zvs, z3 with
              | [zu], z3 =>
                have hsz : i.size = 1 := by
                  unfold szOf at hs
                  rw [hi] at hs
                  exact Option.some.inj hs
                have hby : i.bytes ≤ 64 := by
                  unfold slimB at hb
                  rw [hi] at hb
                  exact Nat.le_of_ble_eq_true hb
                have hrep : All2 (C.is E) (List.replicate n z) (List.replicate n zu) := by
                  have key : ∀ k, All2 (C.is E) (List.replicate k z) (List.replicate k zu) := by
                    intro k
                    induction k with
                    | zero => trivial
                    | succ k ih => exact ⟨z3.1, ih⟩
                  exact key n
                refine eff_push hh elem hrep ⟨w.heap.size, 0, new_at hh _, rfl⟩ ?_
                obtain ⟨el, _⟩ := numC_is hx (ev_is ht hl)
                obtain ⟨ec, _⟩ := numC_is hy (ev_is ht hc)
                have hbytes : (i.bytes : Int) * (n : Int) ≤ 281474976710656 := by
                  have h1 : i.bytes * n ≤ 64 * 64 := Nat.mul_le_mul hby hle'
                  have h2 : ((i.bytes * n : Nat) : Int) ≤ 281474976710656 := by omega
                  rwa [Int.natCast_mul] at h2
                have hr := run_make (P := P) w t elem i z0 hu hi hz0 .i64 .i64 (n : Int) (n : Int) (by omega) (Int.le_refl _) hbytes (by omega)
                have er : madeCells z0.cells ((n : Int).toNat * i.size) = (List.replicate n zu).toArray := by
                  unfold madeCells
                  rw [hsz]
                  apply Array.ext'
                  apply List.ext_getElem
                  · simp
                  · intro k hk1 hk2
                    simp [z2, Nat.mod_one]
                rw [er] at hr
                simp only [execOp, el, ec, Sem.run_bind, hr, Result.andThen_ok, Int.toNat_natCast]
                rfl
      · cases h
    · cases h
  · rename_i c
    obtain ⟨callee, args, argTypes⟩ := c
    split at h
    · rename_i d s dt st hcal hargs hty
      simp only at hcal hargs hty
      subst hcal
      have ea : args = #[d, s] := by apply Array.ext'; simpa using hargs
      have et : argTypes = #[dt, st] := by apply Array.ext'; simpa using hty
      subst ea et
      split at h
      · rename_i r off len cap r' off' len' cap' hd hs
        split at h
        · rename_i elem hu
          split at h
          · rename_i hsz
            split at h
            · rename_i t cs R hreg hreg'
              split at h
              · rename_i l hl
                split at h
                · rename_i vs hvs
                  split at h
                  · rename_i cs' hput
                    split at h
                    · rename_i hp1 v1 hset hit
                      rw [forceB_eq] at h
                      cases h
                      rw [regAt_eq] at hreg hreg'
                      obtain ⟨rfl, hlt⟩ := regSet_eq _ _ _ _ hset
                      obtain ⟨rfl, hfit⟩ := putN_eq _ _ _ _ hput
                      obtain ⟨rfl, hoff⟩ := dropN_eq _ _ _ hl
                      obtain ⟨rfl, hlen⟩ := takeN_eq _ _ _ hvs
                      obtain ⟨g, o, hg, had⟩ := ev_is ht hd
                      obtain ⟨g2, o2, hg2, has⟩ := ev_is ht hs
                      obtain ⟨g', cur, hg', hcur, hb⟩ := hh.at_ r _ hreg
                      rw [hg] at hg'
                      cases hg'
                      have hsrc := (hh.at_ r' R hreg').cells hg2
                      obtain ⟨us, hall, hcell⟩ := row_vals (w := w) (E := E) g2 ((R.cells.drop off').take (Nat.min len' len)) (o2 + off') fun j c hj => by
                        have hjs : j < Nat.min len' len := by
                          rcases Nat.lt_or_ge j (Nat.min len' len) with h | h
                          · exact h
                          · rw [List.getElem?_eq_none (by rw [List.length_take]; omega)] at hj; cases hj
                        rw [List.getElem?_take_of_lt hjs, List.getElem?_drop] at hj
                        have := hsrc (off' + j) c hj
                        rwa [← Nat.add_assoc] at this
                      have hl1 := hall.length
                      have hl2 := hcur.length
                      have hul : us.length = Nat.min len' len := by
                        rw [← hl1, List.length_take]; omega
                      refine eff_write hh hreg hg (hcur.put hall off) (itK_is hit).1 (.inl ?_)
                      have hrun := run_copy_row (P := P) w dt st type elem g off len cap ⟨g2, o2 + off', none⟩ len' cap' cur.toArray t us hu (szOf_map hsz) hb hul
                        (fun j v hv => by rw [add_off]; exact hcell j v hv) (by simp only [List.size_toArray]; omega) (all2_one hh.ok hall)
                      simp only [Nat.zero_add] at had
                      simp only [execOp, resolve, invoke, builtin, List.map_toArray, List.map_cons, List.map_nil, had, has, Sem.run_bind, Sem.run_pure, Result.andThen_ok, hrun, goInt, hul]
                    · cases h
                  · cases h
                · cases h
              · cases h
            · cases h
          · cases h
        · cases h
      · rename_i r len cap c hne hd hs
        split at h
        · rename_i elem hu
          split at h
          · rename_i t cs r2 i m b bd hsz hreg hv
            split at h
            · rename_i cs' hover
              split at h
              · rename_i hp1 hset hll
                rw [forceB_eq] at h
                cases h
                rw [regAt_eq] at hreg
                obtain ⟨rfl, hlt⟩ := regSet_eq _ _ _ _ hset
                obtain ⟨g, o, hg, had⟩ := ev_is ht hd
                obtain ⟨g', cur, hg', hcur, hb⟩ := hh.at_ r _ hreg
                rw [hg] at hg'
                cases hg'
                obtain ⟨⟨R, bd', hR, hbb⟩, h1, h2, A', cc, has, h3, h4, h5, _⟩ := viewC_is hh.at_ hv (ev_is ht hs)
                have hml : m ≤ len := Nat.le_of_ble_eq_true (hob _ rfl)
                have hcl : cs.length = len := by rw [← lenC_eq]; exact Nat.eq_of_beq_eq_true hll
                have hl2 := hcur.length
                obtain ⟨_, hall⟩ := overC_is b i m cs cs' 0 cur hover hcur
                have hnew : (((List.range' 0 cs.length).zip cur).map fun (p : Nat × Value) => if p.1 < m then B8 (b.getD (i + p.1) 0#8) else p.2) = cur.take 0 ++ ((b.drop i).take m).map B8 ++ cur.drop (0 + (((b.drop i).take m).map B8).length) := by
                  have hlm : (((b.drop i).take m).map B8).length = m := by simp; omega
                  rw [hlm]
                  apply List.ext_getElem
                  · simp; omega
                  · intro k hk1 hk2
                    simp only [List.getElem_map, List.getElem_zip, List.getElem_range', List.take_zero, List.nil_append, Nat.zero_add, Nat.one_mul]
                    by_cases hk : k < m
                    · rw [if_pos hk, List.getElem_append_left (by rw [hlm]; exact hk)]
                      simp only [List.getElem_map, List.getElem_take, List.getElem_drop]
                      have : i + k < b.length := by omega
                      simp [List.getD, this]
                    · rw [if_neg hk, List.getElem_append_right (by rw [hlm]; omega)]
                      simp only [hlm, List.getElem_drop]
                      congr 1
                      omega
                rw [hnew] at hall
                refine eff_write hh hreg hg hall ⟨rfl, by simp only [maxLen] at h4; omega⟩ (.inl ?_)
                have hlm : (((b.drop i).take m).map B8).length = m := by simp; omega
                have ho : ∀ u ∈ ((b.drop i).take m).map B8, u.oneCell' = true := by
                  intro u hu
                  obtain ⟨x, _, rfl⟩ := List.mem_map.1 hu
                  rfl
                simp only [Nat.zero_add] at had
                simp only [execOp, resolve, invoke, builtin, List.map_toArray, List.map_cons, List.map_nil, had, has, Sem.run_bind, Sem.run_pure, Result.andThen_ok]
                rcases Nat.eq_zero_or_pos m with hm0 | hm0
                · subst hm0
                  have hrow : w.setRow g (cur.take 0 ++ ((b.drop i).take 0).map B8 ++ cur.drop (0 + (((b.drop i).take 0).map B8).length)).toArray = w := by
                    simp only [List.take_zero, List.map_nil, List.nil_append, List.length_nil, Nat.add_zero, List.drop_zero]
                    exact setRow_self w g cur.toArray t (0, 0) hb
                  rw [hrow]
                  have hmin : Nat.min 0 len = 0 := Nat.zero_min _
                  cases A' with
                  | none => simp [Builtin.copy_, run_underlying hu, Builtin.lenOf, Builtin.firstCells, szOf_run hsz, hmin, storeCells, goInt]
                  | some ad => simp [Builtin.copy_, run_underlying hu, Builtin.lenOf, Builtin.firstCells, szOf_run hsz, hmin, storeCells, goInt, loadCells, loadCellsFrom]
                · obtain ⟨ad, K, h6, rfl⟩ := h5 hm0
                  obtain ⟨A2, K2, h8, _, _, _, h9⟩ := (hh.at_ _ R hR).bytes hbb
                  rw [h6] at h8
                  cases h8
                  have hrun := run_copy_row (P := P) w dt st type elem g 0 len cap (ad.add i) m cc cur.toArray t (((b.drop i).take m).map B8) hu (szOf_map hsz) hb (by rw [hlm]; exact (Nat.min_eq_left hml).symm)
                    (fun j u hj => by
                      have hjm : j < m := by
                        rcases Nat.lt_or_ge j m with h | h
                        · exact h
                        · rw [List.getElem?_eq_none (by omega)] at hj; cases hj
                      rw [List.getElem?_map, List.getElem?_take_of_lt hjm, List.getElem?_drop, List.getElem?_eq_getElem (by omega)] at hj
                      simp only [Option.map_some, Option.some.injEq] at hj
                      subst hj
                      obtain ⟨ad', e, h10⟩ := h9 (i + j) _ (List.getElem?_eq_getElem (by omega))
                      cases e
                      rw [add_add]
                      exact h10) (by simp only [List.size_toArray]; omega) ho
                  rw [hrun, hlm]
                  simp only [Result.andThen_ok, goInt]
              · cases h
            · cases h
          · cases h
        · cases h
      · cases h
    · rename_i d s t t' hcal hargs hty
      simp only at hcal hargs hty
      subst hcal
      have ea : args = #[d, s] := by apply Array.ext'; simpa using hargs
      have et : argTypes = #[t, t'] := by apply Array.ext'; simpa using hty
      subst ea et
      split at h
      · rename_i dc sc hd hs
        split at h
        · rename_i htt
          have htt' : t = t' := Nat.eq_of_beq_eq_true htt
          subst htt'
          split at h
          · rename_i v1 hp1 w1 hap
            cases h
            refine append_is (ty := type) hh hap (ev_is ht hd) (ev_is ht hs) fun r hr => ?_
            simp only [execOp, resolve, invoke, builtin, List.map_toArray, List.map_cons, List.map_nil, Sem.run_bind, Sem.run_pure, Result.andThen_ok]
            rw [hr]
          · split at h
            · rename_i v1 hp1 w1 b1 hap
              cases h
              refine appendQ_is (ty := type) hh hap (hob _ rfl) (ev_is ht hd) (ev_is ht hs) fun r hr => ?_
              simp only [execOp, resolve, invoke, builtin, List.map_toArray, List.map_cons, List.map_nil, Sem.run_bind, Sem.run_pure, Result.andThen_ok]
              rw [hr]
            · cases h
        · cases h
      · cases h
    · cases h
  · cases h
end eff
end Go.Proofs.Sx
