/- Loads, places, cuts and aggregates. -/
import Derived.Test.YtinbeihbhnjjnaaSxOps
namespace Go.Proofs.Sx
open Go
variable {P : Program} {E : Env} {tm : T} {n : Nat} {a : Act} {w : World} {hp : List Reg}

theorem unC_is {op : UnOp} {c : C} {v : V} {u1 : Value} (h : unC op c = some v) (hc : c.is E u1) : ∃ u, v.is E u ∧ ∀ w : World, (Op.unary op u1).run P w = .ok u w := by
  have wn : ∀ {k : IntKind} (hs : k.signed = false) (x : BitVec k.bits) (w : World), (Op.unary .xor (.int k x.toNat)).run P w = .ok (.int k (~~~x).toNat) w := by
    intro k hs x w
    simp only [Op.unary, hs, Bool.false_eq_true, if_false, Op.intBits, w_not hs]
    rfl
  unfold unC at h
  split at h
  · cases h; cases hc; exact ⟨_, rfl, fun w => wn (k := .u64) rfl _ w⟩
  · cases h; cases hc; exact ⟨_, rfl, fun w => wn (k := .u32) rfl _ w⟩
  · cases h; cases hc; exact ⟨_, rfl, fun w => wn (k := .u8) rfl _ w⟩
  · cases hc; exact ⟨_, blK_is h, fun w => rfl⟩
  · cases h; cases hc; exact ⟨_, rfl, fun w => rfl⟩
  · obtain ⟨hc, hn⟩ := hc
    subst hc
    split at h
    · cases h
      exact ⟨_, ⟨rfl, by omega⟩, fun w => rfl⟩
    · rename_i m
      cases h
      refine ⟨_, ⟨rfl, by omega⟩, fun w => ?_⟩
      simp only [Op.unary, Op.intArith]
      rw [show (0 : Int) - ((m + 1 : Nat) : Int) = Int.negSucc m by omega, wrap_i64_neg _ (by omega)]
      rfl
  · cases h

theorem convC_is {k : IntKind} {c : C} {v : V} {u1 : Value} (h : convC k c = some v) (hc : c.is E u1) :
    ∃ k' i j, u1 = .int k' i ∧ v.is E (.int k j) ∧ k.wrap i = j := by
  unfold convC at h
  have wd : ∀ {m : Nat} (k : IntKind) (_ : k.signed = false) (x : BitVec m), k.wrap (x.toNat : Int) = ((x.setWidth k.bits).toNat : Int) := by
    intro m k hs x
    rw [wrapNat hs, BitVec.toNat_setWidth]
  split at h
  · cases h; cases hc; exact ⟨_, _, _, rfl, rfl, w_back (k := .u8) rfl _⟩
  · cases h; cases hc; exact ⟨_, _, _, rfl, rfl, wd .u8 rfl _⟩
  · cases h; cases hc; exact ⟨_, _, _, rfl, rfl, wd .u8 rfl _⟩
  · cases h; cases hc; exact ⟨_, _, _, rfl, rfl, wd .u32 rfl _⟩
  · cases h; cases hc; exact ⟨_, _, _, rfl, rfl, w_back (k := .u32) rfl _⟩
  · cases h; cases hc; exact ⟨_, _, _, rfl, rfl, wd .u32 rfl _⟩
  · cases h; cases hc; exact ⟨_, _, _, rfl, rfl, wd .u64 rfl _⟩
  · cases h; cases hc; exact ⟨_, _, _, rfl, rfl, wd .u64 rfl _⟩
  · cases h; cases hc; exact ⟨_, _, _, rfl, rfl, w_back (k := .u64) rfl _⟩
  · cases hc; exact ⟨_, _, _, rfl, (itK_is h).1, wrap_i64 _ (itK_is (E := E) h).2⟩
  · obtain ⟨hc, hn⟩ := hc; cases h; exact ⟨_, _, _, hc, ⟨rfl, hn⟩, wrap_i64 _ hn⟩
  · obtain ⟨hc, hn⟩ := hc; cases h; refine ⟨_, _, _, hc, rfl, ?_⟩; rw [wrapNat (k := .u64) rfl, BitVec.toNat_ofNat]; rfl
  · obtain ⟨hc, hn⟩ := hc
    cases h
    refine ⟨_, _, _, hc, rfl, ?_⟩
    rename_i m
    rw [BitVec.toNat_ofNat, Nat.mod_eq_of_lt (by omega)]
    rw [wrapU rfl]
    have e1 : ((2 : Int) ^ IntKind.u64.bits) = 18446744073709551616 := by decide
    rw [e1, Int.negSucc_eq]
    omega
  · obtain ⟨hc, hn⟩ := hc; cases h; refine ⟨_, _, _, hc, rfl, ?_⟩; rw [wrapNat (k := .u32) rfl, BitVec.toNat_ofNat]; rfl
  · rename_i z
    cases h
    have hc' : u1 = .int .i64 z := hc
    refine ⟨_, _, _, hc', rfl, ?_⟩
    rw [wrapU rfl, BitVec.toNat_ofInt]
    have e1 : ((2 : Int) ^ IntKind.u64.bits) = 18446744073709551616 := by decide
    rw [e1]
    omega
  · cases h

theorem add_off (g o j : Nat) : (⟨g, o, none⟩ : Addr).add j = ⟨g, o + j, none⟩ := Addr.add_lit g o j

theorem aggB_run {t : TypeId} {b : Bool} (h : aggB P t = some b) (w : World) : (isAgg t).run P w = .ok b w := by
  unfold aggB at h
  unfold isAgg
  rw [Sem.run_bind]
  split at h
  · rename_i hu; cases h; rw [run_underlying hu]; rfl
  · rename_i hu; cases h; rw [run_underlying hu]; rfl
  · rename_i d h1 h2 hu
    cases h
    rw [run_underlying hu]
    cases d <;> first | rfl | exact (h1 _ rfl).elim | exact (h2 _ _ rfl).elim
  · cases h

theorem szOf_run {t : TypeId} {s : Nat} (h : szOf P t = some s) (w : World) : (sizeOf t).run P w = .ok s w := by
  unfold szOf at h
  split at h
  · rename_i i hi
    cases h
    simp [sizeOf, typeInfo, hi]
  · cases h

theorem szOf_map {t : TypeId} {s : Nat} (h : szOf P t = some s) : (P.info? t).map (·.size) = some s := by
  unfold szOf at h
  split at h
  · rename_i i hi
    cases h
    simp [hi]
  · cases h

/-- The values that lie in a row of cells. -/
theorem row_vals (g : Nat) : ∀ (l : List C) (p : Nat), (∀ (j : Nat) (c : C), l[j]? = some c → ∃ v, c.is E v ∧ w.cell? ⟨g, p + j, none⟩ = some v) →
    ∃ vs : List Value, All2 (C.is E) l vs ∧ ∀ (j : Nat) (v : Value), vs[j]? = some v → w.cell? ⟨g, p + j, none⟩ = some v
  | [], p, _ => ⟨[], trivial, fun j v h => by simp at h⟩
  | c :: l, p, h => by
    obtain ⟨v, h1, h2⟩ := h 0 c rfl
    obtain ⟨vs, h3, h4⟩ := row_vals g l (p + 1) fun j c' hj => by
      have := h (j + 1) c' (by simpa using hj)
      rwa [show p + (j + 1) = p + 1 + j by omega] at this
    refine ⟨v :: vs, ⟨h1, h3⟩, fun j u hj => ?_⟩
    cases j with
    | zero => simp only [List.getElem?_cons_zero, Option.some.injEq] at hj; subst hj; exact h2
    | succ j =>
      have := h4 j u (by simpa using hj)
      rwa [show p + (j + 1) = p + 1 + j by omega]

theorem loadV_is {t : TypeId} {r off : Nat} {v : V} (hat : ∀ (r : Nat) (R : Reg), hp[r]? = some R → RegIs E w r R) (h : loadV P hp t r off = some v) {u1 : Value} (hu : C.is E (.pt r off) u1) :
    ∃ ad u, u1 = .pointer (some ad) ∧ v.is E u ∧ ∀ w' : World, Grow w w' → (loadVar t ad).run P w' = .ok u w' := by
  obtain ⟨g, o, hg, rfl⟩ := hu
  unfold loadV at h
  split at h
  · cases h
  · rename_i R hR
    rw [regAt_eq] at hR
    have hc := (hat r R hR).cells hg
    split at h
    · rename_i hagg
      split at h
      · rename_i s hs
        split at h
        · rename_i l hl
          split at h
          · rename_i l' hl'
            cases h
            obtain ⟨rfl, hoff⟩ := dropN_eq _ _ _ hl
            obtain ⟨rfl, hlen⟩ := takeN_eq _ _ _ hl'
            obtain ⟨vs, h3, h4⟩ := row_vals (w := w) (E := E) g ((R.cells.drop off).take s) (o + off) fun j c hj => by
              have hjs : j < s := by
                rcases Nat.lt_or_ge j s with h | h
                · exact h
                · rw [List.getElem?_eq_none (by simp; omega)] at hj; cases hj
              rw [List.getElem?_take_of_lt hjs, List.getElem?_drop] at hj
              have := hc (off + j) c hj
              rwa [← Nat.add_assoc] at this
            have hlen' : vs.length = s := by
              rw [← h3.length, List.length_take]; omega
            refine ⟨_, .agg vs.toArray, rfl, ⟨vs, rfl, h3⟩, fun w' hw' => ?_⟩
            have hl : (loadCells ⟨g, o + off, none⟩ vs.length).run P w' = .ok vs.toArray w' :=
              run_loadCells_list (P := P) w' ⟨g, o + off, none⟩ vs (fun j v hv => by rw [add_off]; exact hw'.cell (h4 j v hv))
            rw [hlen'] at hl
            simp [loadVar, Sem.run_bind, aggB_run hagg, szOf_run hs, hl]
          · cases h
        · cases h
      · cases h
    · rename_i hagg
      split at h
      · rename_i c hcc
        cases h
        rw [atN_eq] at hcc
        obtain ⟨v, h1, h2⟩ := hc off c hcc
        refine ⟨_, v, rfl, h1, fun w' hw' => ?_⟩
        simp [loadVar, Sem.run_bind, aggB_run hagg, hw'.cell h2]
      · cases h
    · cases h

/-- a number, of whatever kind -/
def NumIs (ix : V) (u : Value) : Prop := ∀ i, ix = .one (.it i) → ∃ k, u = .int k (i : Int)

theorem asIx_is {v : V} {u : Value} (h : v.is E u) : NumIs (asIx v) u := by
  intro i hi
  unfold asIx at hi
  split at hi
  · rw [forceN_eq] at hi
    cases hi
    exact ⟨_, h⟩
  · rw [forceN_eq] at hi
    cases hi
    exact ⟨_, h⟩
  · subst hi
    exact ⟨_, h.1⟩

theorem boundAt_run (ht : TR E tm n a) {d m : Nat} {x : Option Operand} (h : boundAt tm d x = some m) :
    (x = none ∧ m = d) ∨ ∃ y k, x = some y ∧ a.eval y = .int k (m : Int) := by
  unfold boundAt at h
  split at h
  · cases h; exact .inl ⟨rfl, rfl⟩
  · rename_i y
    split at h
    · rename_i v hv
      split at h
      · rename_i q hq
        cases h
        obtain ⟨k, hk⟩ := asIx_is (ev_is ht hv) _ hq
        exact .inr ⟨y, k, rfl, hk⟩
      · cases h
    · cases h

theorem sliceBound_run {k : IntKind} {m y : Nat} (hm : m ≤ y) (code : BoundsCode) (w : World) : (Instr.sliceBound (.int k (m : Int)) y code).run P w = .ok m w := by
  have hc : 0 ≤ (m : Int) ∧ (m : Int) ≤ (y : Int) := ⟨by omega, by omega⟩
  simp [Instr.sliceBound, asIntOf, hc]

theorem bounds_run (ht : TR E tm n a) {len cap l h : Nat} {lo hi : Option Operand} (hb : bounds tm len cap lo hi = some (l, h)) (isSlice : Bool) (w : World) :
    (Instr.sliceBounds isSlice len cap (lo.map a.eval) (hi.map a.eval) none).run P w = .ok (l, h, cap) w ∧ l ≤ h ∧ h ≤ cap := by
  unfold bounds at hb
  split at hb
  · cases hb
  · rename_i h' hh
    split at hb
    · cases hb
    · rename_i hcap
      split at hb
      · cases hb
      · rename_i l' hl
        split at hb
        · rename_i hle
          rw [forceN_eq, forceN_eq] at hb
          cases hb
          have hcap' := Nat.le_of_ble_eq_true hcap
          have hle' := Nat.le_of_ble_eq_true hle
          refine ⟨?_, hle', hcap'⟩
          rcases boundAt_run ht hh with ⟨rfl, rfl⟩ | ⟨y, _, rfl, hy⟩ <;> rcases boundAt_run ht hl with ⟨rfl, rfl⟩ | ⟨z, _, rfl, hz⟩
          · simp [Instr.sliceBounds]
          · simp [Instr.sliceBounds, hz, sliceBound_run hle']
          · simp [Instr.sliceBounds, hy, sliceBound_run hcap']
          · simp [Instr.sliceBounds, hy, hz, sliceBound_run hcap', sliceBound_run hle']
        · cases hb

theorem slK_is {r off size l h cap g o : Nat} {v : V} (hk : slK r off size l h cap = some v) (hr : E.reg[r]? = some (.at_ g o)) :
    v.is E (.slice (some (if cap = l then ⟨g, o + off, none⟩ else (⟨g, o + off, none⟩ : Addr).add (l * size))) (h - l) (cap - l)) := by
  unfold slK at hk
  split at hk
  · rename_i hb
    cases hk
    rw [if_pos (Nat.eq_of_beq_eq_true hb)]
    exact ⟨g, o, hr, rfl⟩
  · rename_i hb
    rw [forceN_eq, forceN_eq, forceN_eq] at hk
    cases hk
    rw [if_neg (fun e => by rw [e, Nat.beq_refl] at hb; cases hb), add_off]
    exact ⟨g, o, hr, by rw [Nat.add_assoc]⟩

theorem extract_list (s : List UInt8) (l h : Nat) : (ByteArray.mk s.toArray).extract l h = ⟨((s.take h).drop l).toArray⟩ := by
  apply ByteArray.ext
  rw [ByteArray.data_extract]
  apply Array.ext'
  simp [List.drop_take]

theorem sliceV_is (ht : TR E tm n a) {t : TypeId} {x v : V} {lo hi : Option Operand} {u1 : Value} (h : sliceV P tm t x lo hi = some v) (hx : x.is E u1) :
    ∃ u, v.is E u ∧ ∀ w : World, (Instr.sliceAt t u1 (lo.map a.eval) (hi.map a.eval) none).run P w = .ok u w := by
  unfold sliceV at h
  split at h
  · rename_i len elem r off hu
    obtain ⟨g, o, hr, rfl⟩ := hx
    split at h
    · rename_i l hh s hb hs
      refine ⟨_, slK_is h hr, fun w => ?_⟩
      have hb' := (bounds_run (P := P) ht hb false w).1
      simp [Instr.sliceAt, run_underlying hu, Instr.sureAddr, hb', szOf_run hs]
    · cases h
  · rename_i elem r off len cap hu
    obtain ⟨g, o, hr, rfl⟩ := hx
    split at h
    · rename_i l hh s hb hs
      refine ⟨_, slK_is h hr, fun w => ?_⟩
      have hb' := (bounds_run (P := P) ht hb true w).1
      simp only [Instr.sliceAt, Sem.run_bind, run_underlying hu, Result.andThen_ok, Instr.slice, hb', szOf_run hs, Sem.run_pure]
      split <;> rfl
    · cases h
  · rename_i s hu
    cases hx
    split at h
    · rename_i l hh hb
      cases h
      refine ⟨_, rfl, fun w => ?_⟩
      have hb' := (bounds_run (P := P) ht hb false w).1
      have hsz : (ByteArray.mk s.toArray).size = s.length := by simp [ByteArray.size]
      simp only [Instr.sliceAt, Sem.run_bind, run_underlying hu, Result.andThen_ok, Instr.slice, hsz, hb', Sem.run_pure, Option.isSome_none, Bool.false_eq_true, if_false]
      rw [extract_list]
    · cases h
  · cases h

theorem idx_run {t : TypeId} {x ix v : V} {u1 u2 : Value} (h : indexAddrV P t x ix = some v) (hx : x.is E u1) (hi : NumIs ix u2) :
    ∃ u, v.is E u ∧ ∀ w : World, (Instr.indexAt t u1 u2).run P w = .ok u w := by
  unfold indexAddrV at h
  split at h
  · rename_i len elem r off i hu
    obtain ⟨g, o, hr, rfl⟩ := hx
    obtain ⟨k, rfl⟩ := hi _ rfl
    split at h
    · rename_i s hlt hs
      rw [ptK_is h]
      have hlt' : i < len := Nat.le_of_ble_eq_true hlt
      refine ⟨_, ⟨g, o, hr, rfl⟩, fun w => ?_⟩
      have hc : 0 ≤ (i : Int) ∧ (i : Int) < (len : Int) := ⟨by omega, by omega⟩
      simp only [Instr.indexAt, asIntOf, Sem.run_bind, Sem.run_pure, Result.andThen_ok, run_underlying hu, Instr.sureAddr, hc, and_self, if_true, szOf_run hs, Int.toNat_natCast, add_off, Nat.add_assoc]
    · cases h
  · rename_i elem r off len cap i hu
    obtain ⟨g, o, hr, rfl⟩ := hx
    obtain ⟨k, rfl⟩ := hi _ rfl
    split at h
    · rename_i s hlt hs
      rw [ptK_is h]
      have hlt' : i < len := Nat.le_of_ble_eq_true hlt
      refine ⟨_, ⟨g, o, hr, rfl⟩, fun w => ?_⟩
      have hc : 0 ≤ (i : Int) ∧ (i : Int) < (len : Int) := ⟨by omega, by omega⟩
      simp only [Instr.indexAt, asIntOf, Sem.run_bind, Sem.run_pure, Result.andThen_ok, run_underlying hu, hc, and_self, if_true, szOf_run hs, Int.toNat_natCast, add_off, Nat.add_assoc]
    · cases h
  · cases h

theorem atB_eq : ∀ (i : Nat) (s : List UInt8), atB i s = s[i]?
  | 0, [] => rfl
  | 0, _ :: _ => rfl
  | _ + 1, [] => rfl
  | n + 1, _ :: cs => by simpa [atB] using atB_eq n cs

theorem partV_is {t : TypeId} {cs : List C} {vs : List Value} {off : Nat} {v : V} (h : partV P t cs off = some v) (hc : All2 (C.is E) cs vs) :
    ∃ u, v.is E u ∧ ∀ w : World, (part t vs.toArray off).run P w = .ok u w := by
  unfold partV at h
  split at h
  · rename_i hagg
    split at h
    · rename_i s hs
      split at h
      · rename_i l hl
        split at h
        · rename_i l' hl'
          cases h
          obtain ⟨rfl, hoff⟩ := dropN_eq _ _ _ hl
          obtain ⟨rfl, hlen⟩ := takeN_eq _ _ _ hl'
          refine ⟨_, ⟨(vs.drop off).take s, rfl, (hc.drop off).take s⟩, fun w => ?_⟩
          simp [part, aggB_run hagg, szOf_run hs]
        · cases h
      · cases h
    · cases h
  · rename_i hagg
    split at h
    · rename_i c hcc
      cases h
      rw [atN_eq] at hcc
      obtain ⟨v, h1, h2⟩ := hc.get hcc
      refine ⟨v, h2, fun w => ?_⟩
      simp [part, aggB_run hagg, h1]
    · cases h
  · cases h

theorem indexV_is {t : TypeId} {x ix v : V} {u1 u2 : Value} (h : indexV P t x ix = some v) (hx : x.is E u1) (hi : NumIs ix u2) :
    ∃ u, v.is E u ∧ ∀ w : World, (Instr.index t u1 u2).run P w = .ok u w := by
  unfold indexV at h
  split at h
  · rename_i len elem cs i hu
    obtain ⟨vs, rfl, hvs⟩ := hx
    obtain ⟨k, rfl⟩ := hi _ rfl
    split at h
    · rename_i s hlt hs
      have hlt' : i < len := Nat.le_of_ble_eq_true hlt
      obtain ⟨u, h1, h2⟩ := partV_is h hvs
      refine ⟨u, h1, fun w => ?_⟩
      have hc : 0 ≤ (i : Int) ∧ (i : Int) < (len : Int) := ⟨by omega, by omega⟩
      simp only [Instr.index, asIntOf, Sem.run_bind, Sem.run_pure, Result.andThen_ok, run_underlying hu, hc, and_self, if_true, szOf_run hs, Int.toNat_natCast, h2]
    · cases h
  · rename_i s i hu
    cases hx
    obtain ⟨k, rfl⟩ := hi _ rfl
    split at h
    · rename_i b hb
      cases h
      rw [atB_eq] at hb
      refine ⟨.int .u8 (b.toBitVec.toNat : Int), rfl, fun w => ?_⟩
      have hlt : i < s.length := by
        rcases Nat.lt_or_ge i s.length with h | h
        · exact h
        · rw [List.getElem?_eq_none h] at hb; cases hb
      have hb' : s[i] = b := by rw [List.getElem?_eq_getElem hlt] at hb; exact Option.some.inj hb
      have hg : (ByteArray.mk s.toArray)[i]? = some b := by
        have hsz : i < (ByteArray.mk s.toArray).size := by simp [ByteArray.size, hlt]
        rw [getElem?_pos (ByteArray.mk s.toArray) i hsz]
        exact congrArg some hb'
      simp [Instr.index, asIntOf, run_underlying hu, hg]
    · cases h
  · cases h
end Go.Proofs.Sx
