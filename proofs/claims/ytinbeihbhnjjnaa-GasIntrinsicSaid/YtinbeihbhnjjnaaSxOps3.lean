/- Aggregates that are built; the operations that leave memory alone, all of them; those that make or write memory. -/
import Derived.Test.YtinbeihbhnjjnaaSxOps2
import Derived.Laws.Externs
namespace Go.Proofs.Sx
open Go
variable {P : Program} {E : Env} {tm : T} {n : Nat} {a : Act} {w : World} {hp : List Reg}

theorem fold_put (off : Nat) : ∀ (vs : List Value) (i : Nat) (arr : Array Value), off + i + vs.length ≤ arr.size →
    (vs.zipIdx i).foldl (fun (cs : Array Value) (p : Value × Nat) => cs.setIfInBounds (off + p.2) p.1) arr = (arr.toList.take (off + i) ++ vs ++ arr.toList.drop (off + i + vs.length)).toArray
  | [], i, arr, _ => by simp
  | v :: rest, i, arr, h => by
    simp only [List.length_cons] at h
    simp only [List.zipIdx_cons, List.foldl_cons]
    rw [fold_put off rest (i + 1) _ (by simp; omega)]
    have e := list_seg_step arr.toList (off + i) v rest (by simp; omega)
    simp only [Array.toList_setIfInBounds, List.length_cons, ← Nat.add_assoc] at e ⊢
    rw [e]

theorem fillC_is (hE : SlicesOk E) (ht : TR E tm n a) (place : Nat → Option (Nat × Nat)) : ∀ (parts : List (Nat × Operand)) (cells cs' : List C) (cvs : List Value), fillC place tm parts cells = some cs' → All2 (C.is E) cells cvs →
    ∃ cvs', Instr.fill place cvs.toArray (parts.map fun p => (p.1, a.eval p.2)) = some cvs'.toArray ∧ All2 (C.is E) cs' cvs'
  | [], cells, cs', cvs, h, hc => by cases h; exact ⟨cvs, rfl, hc⟩
  | (i, x) :: rest, cells, cs', cvs, h, hc => by
    simp only [fillC] at h
    split at h
    · cases h
    · rename_i v hv
      split at h
      · cases h
      · rename_i l hl
        split at h
        · cases h
        · rename_i off size hp
          split at h
          · cases h
          · rename_i hsz
            split at h
            · cases h
            · rename_i cells' hput
              obtain ⟨vs, hvs, hall⟩ := V.cells_is hE (ev_is ht hv) hl
              obtain ⟨rfl, hfit⟩ := putN_eq _ _ _ _ hput
              have hsz' : l.length = size := by rw [← lenC_eq]; exact Nat.eq_of_beq_eq_true hsz
              have hlv := hall.length
              have hlc := hc.length
              obtain ⟨cvs', h1, h2⟩ := fillC_is hE ht place rest _ cs' _ h (hc.put hall off)
              refine ⟨cvs', ?_, h2⟩
              simp only [List.map_cons, Instr.fill, hp, hvs]
              have e1 : ¬ (vs.toArray.size ≠ size ∨ off + vs.toArray.size > cvs.toArray.size) := by
                simp only [List.size_toArray]
                omega
              rw [if_neg (by simpa using e1)]
              have hf := fold_put off vs 0 cvs.toArray (by simp only [List.size_toArray]; omega)
              simp only [Nat.add_zero] at hf
              have hf' : vs.toArray.zipIdx.foldl (fun (cs : Array Value) (p : Value × Nat) => cs.setIfInBounds (off + p.2) p.1) cvs.toArray = (cvs.take off ++ vs ++ cvs.drop (off + vs.length)).toArray := by
                rw [← hf]
                simp
              rw [hf']
              exact h1

theorem zeroV_is (hE : SlicesOk E) {t : TypeId} {cs : List C} (h : zeroV P t = some cs) : ∃ z vs, (∀ w : World, (zeroValue t).run P w = .ok z w) ∧ z.cells = vs.toArray ∧ All2 (C.is E) cs vs := by
  unfold zeroV at h
  split at h
  · cases h
  · rename_i i hi
    split at h
    · cases h
    · rename_i z hz
      split at h
      · cases h
      · rename_i v hv
        obtain ⟨vs, h1, h2⟩ := V.cells_is hE (ofValue_is (E := E) hv) h
        exact ⟨z, vs, fun w => by simp [zeroValue, typeInfo, hi, hz], h1, h2⟩

theorem atP_eq : ∀ (i : Nat) (s : List (Nat × Nat)), atP i s = s[i]?
  | 0, [] => rfl
  | 0, _ :: _ => rfl
  | _ + 1, [] => rfl
  | n + 1, _ :: cs => by simpa [atP] using atP_eq n cs

theorem places_run : ∀ {fs : List Field} {pl : List (Nat × Nat)}, fieldPlaces P fs = some pl → ∀ w : World,
    (fs.mapM fun f => do pure (f.offset, ← sizeOf f.type) : Sem (List (Nat × Nat))).run P w = .ok pl w
  | [], pl, h, w => by cases h; rfl
  | f :: fs, pl, h, w => by
    simp only [fieldPlaces] at h
    split at h
    · cases h
    · rename_i s hs
      split at h
      · cases h
      · rename_i l hl
        cases h
        have ih := places_run hl w
        simp only [List.mapM_cons, Sem.run_bind, szOf_run hs, Result.andThen_ok, Sem.run_pure, ih]

theorem buildV_is (hE : SlicesOk E) (ht : TR E tm n a) {t : TypeId} {parts : List (Nat × Operand)} {v : V} (h : buildV P tm t parts = some v) :
    ∃ u, v.is E u ∧ ∀ w : World, (Instr.build t (parts.map fun p => (p.1, a.eval p.2)).toArray).run P w = .ok u w := by
  unfold buildV at h
  split at h
  · cases h
  · rename_i zero hz
    obtain ⟨z, zv, z1, z2, z3⟩ := zeroV_is hE hz
    split at h
    · rename_i fs hu
      split at h
      · cases h
      · rename_i pl hpl
        split at h
        · cases h
        · rename_i cs hcs
          cases h
          obtain ⟨vs, h1, h2⟩ := fillC_is hE ht _ parts zero cs zv hcs z3
          refine ⟨_, ⟨vs, rfl, h2⟩, fun w => ?_⟩
          have hm : (fs.mapM fun f => do pure (f.offset, ← sizeOf f.type) : Sem (Array (Nat × Nat))).run P w = .ok pl.toArray w := by
            rw [Array.mapM_eq_mapM_toList, Sem.run_map, places_run hpl]
            rfl
          have he : (fun i => atP i pl) = (pl.toArray[·]?) := by funext i; rw [atP_eq]; simp
          rw [he] at h1
          simp only [Instr.build, Sem.run_bind, z1, Result.andThen_ok, run_underlying hu, hm, z2, h1, Sem.run_pure]
    · rename_i len elem hu
      split at h
      · cases h
      · rename_i s hs
        split at h
        · cases h
        · rename_i cs hcs
          cases h
          obtain ⟨vs, h1, h2⟩ := fillC_is hE ht _ parts zero cs zv hcs z3
          refine ⟨_, ⟨vs, rfl, h2⟩, fun w => ?_⟩
          simp only [Instr.build, Sem.run_bind, z1, Result.andThen_ok, run_underlying hu, szOf_run hs, z2, h1, Sem.run_pure]
    · cases h

theorem fieldOff_run {s : TypeId} {f fo : Nat} {ft : TypeId} (h : fieldOff P s f = some (fo, ft)) : ∃ fs fd, P.underlying s = some (.struct fs) ∧ fs[f]? = some fd ∧ fd.offset = fo ∧ fd.type = ft := by
  unfold fieldOff at h
  split at h
  · rename_i fs hu
    split at h
    · rename_i fd hf
      cases h
      exact ⟨fs, fd, hu, hf, rfl, rfl⟩
    · cases h
  · cases h

theorem lenV_is {v : V} {m : Nat} {u1 : Value} (h : lenV v = some m) (hv : v.is E u1) : ∃ b c, u1 = .slice b m c := by
  unfold lenV at h
  split at h
  · cases h; obtain ⟨g, o, _, rfl⟩ := hv; exact ⟨_, _, rfl⟩
  · cases h; cases hv; exact ⟨_, _, rfl⟩
  · cases h

theorem atL_eq : ∀ (i : Nat) (s : List (Bool × List C)), atL i s = s[i]?
  | 0, [] => rfl
  | 0, _ :: _ => rfl
  | _ + 1, [] => rfl
  | n + 1, _ :: cs => by simpa [atL] using atL_eq n cs
theorem unpart_is {p : Bool × List C} {v : V} {u : Value} (h : unpart p = some v) (hp : Part.is E p u) : v.is E u := by
  unfold unpart at h
  split at h
  · cases h; exact hp
  · cases h; exact hp
  · cases h
theorem part_is {p : Bool × List C} {v : V} {u : Value} (h : V.part v = some p) (hp : v.is E u) : Part.is E p u := by
  unfold V.part at h
  split at h
  · cases h; exact hp
  · cases h; exact hp
  · cases h

theorem add64_find {fn : Func} (hn : fn.name = "math/bits.Add64") (ho : fn.origin = "") : Extern.find fn = some add64Entry := by
  unfold Extern.find
  rw [hn, ho]
  kernel_rfl
theorem add64_next {fn : Func} (hn : fn.name = "math/bits.Add64") (ho : fn.origin = "") : Extern.findNext fn = none := by
  unfold Extern.findNext
  rw [hn, ho]
  kernel_rfl
theorem call_go {o : Oper} {c : Call} {f : FuncId} (ho : o.op = .call c) (hc : c.callee = .value (.func f)) (w : World) : (execOp a.eval o).run P w = (callFunc f (c.args.map a.eval)).run P w := by
  simp only [execOp, ho, resolve, hc, Act.eval, Deferred.ofValue, Sem.run_bind, Sem.run_pure, Result.andThen_ok, invoke]
  simp
theorem add64_call {f : FuncId} (h : isAdd64 P f = true) (p q : BitVec 64) (w : World) :
    (callFunc f #[.int .u64 (p.toNat : Int), .int .u64 (q.toNat : Int), .int .u64 0]).run P w =
      .ok (.value (.tuple #[.int .u64 ((p + q).toNat : Int), .int .u64 ((BitVec.ofNat 64 ((p.toNat + q.toNat) / 18446744073709551616)).toNat : Int)])) w := by
  unfold isAdd64 at h
  split at h
  · rename_i fn hf
    split at h
    · rename_i hb
      split at h
      · rename_i hn
        have hn' : fn.name = "math/bits.Add64" := by simpa using hn
        have ho : fn.origin = "" := by simpa using h
        have hp := p.isLt
        have hq := q.isLt
        have hd : (p.toNat + q.toNat) / 18446744073709551616 < 18446744073709551616 := by omega
        rw [run_callFunc_extern hf (by rw [hn']; kernel_rfl) hb (add64_next hn' ho) (add64_find hn' ho), run_add64 _ _ _ (by omega) (by omega) (by omega) (by omega)]
        have e1 : ((p.toNat : Int) + q.toNat + 0) % 18446744073709551616 = ((p + q).toNat : Int) := by
          rw [BitVec.toNat_add]; omega
        have e2 : ((p.toNat : Int) + q.toNat + 0) / 18446744073709551616 = ((BitVec.ofNat 64 ((p.toNat + q.toNat) / 18446744073709551616)).toNat : Int) := by
          rw [BitVec.toNat_ofNat, Nat.mod_eq_of_lt hd]; omega
        rw [e1, e2]
        rfl
      · cases h
    · cases h
  · cases h

/-- **The operations that leave memory alone.** -/
theorem pureOp_is (hE : SlicesOk E) (ht : TR E tm n a) (hat : ∀ (r : Nat) (R : Reg), hp[r]? = some R → RegIs E w r R) {o : Oper} {v : V} (h : pureOp P tm hp o.op = some v) :
    ∃ u, v.is E u ∧ ∀ w' : World, Grow w w' → (execOp a.eval o).run P w' = .ok (.value u) w' := by
  obtain ⟨dst, op, type, pos, after, guard⟩ := o
  change pureOp P tm hp op = some v at h
  unfold pureOp at h
  split at h
  · rename_i x
    exact ⟨_, ev_is ht h, fun w' _ => rfl⟩
  · rename_i x
    exact ⟨_, ev_is ht h, fun w' _ => rfl⟩
  · rename_i c x y
    split at h
    · rename_i hc
      have hc' : a.eval c = .bool true := ev_is ht hc
      exact ⟨_, ev_is ht h, fun w' _ => by simp [execOp, hc', asBool]⟩
    · rename_i hc
      have hc' : a.eval c = .bool false := ev_is ht hc
      exact ⟨_, ev_is ht h, fun w' _ => by simp [execOp, hc', asBool]⟩
    · cases h
  · rename_i t x
    split at h
    · rename_i r off hx
      obtain ⟨ad, u, h1, h2, h3⟩ := loadV_is hat h (ev_is ht hx)
      exact ⟨u, h2, fun w' hw' => by simp [execOp, h1, Instr.loadAt, Instr.sureAddr, h3 w' hw']⟩
    · cases h
  · rename_i x
    split at h
    · rename_i r off hx
      cases h
      have hx' := ev_is ht hx
      obtain ⟨g, o, h1, h2⟩ := hx'
      exact ⟨_, ⟨g, o, h1, rfl⟩, fun w' _ => by simp [execOp, h2]⟩
    · cases h
  · rename_i op t x y yt
    split at h
    · rename_i c d hx hy
      obtain ⟨u, h1, h2⟩ := binC_is h (ev_is ht hx) (ev_is ht hy) t x y
      refine ⟨u, h1, fun w' _ => ?_⟩
      have := h2 w'
      simp only [execOp]
      rw [Sem.run_bind, this]
      rfl
    · cases h
  · rename_i op t x
    split at h
    · rename_i c hx
      obtain ⟨u, h1, h2⟩ := unC_is (P := P) h (ev_is ht hx)
      exact ⟨u, h1, fun w' _ => by simp [execOp, h2]⟩
    · cases h
  · rename_i src dst x
    split at h
    · rename_i c hx
      split at h
      · rename_i d k hs hd
        obtain ⟨k', i, j, h1, h2, h3⟩ := convC_is h (ev_is ht hx)
        refine ⟨_, h2, fun w' _ => ?_⟩
        simp only [execOp, h1, convert, Sem.run_bind, run_underlying hs, run_underlying hd, Result.andThen_ok, Conv.intToInt, h3, Sem.run_pure]
      · cases h
    · cases h
  · rename_i arr x
    split at h
    · rename_i r off len cap hx
      split at h
      · rename_i m e hu
        split at h
        · rename_i hle
          cases h
          have hle' := Nat.le_of_ble_eq_true hle
          obtain ⟨g, o, h1, h2⟩ := ev_is ht hx
          refine ⟨_, ⟨g, o, h1, rfl⟩, fun w' _ => ?_⟩
          simp only [execOp, h2, Instr.arrayAt, Sem.run_bind, run_underlying hu, Result.andThen_ok]
          rw [if_neg (by omega)]
          rfl
        · cases h
      · cases h
    · cases h
  · rename_i t x lo hi
    split at h
    · rename_i v1 hx
      obtain ⟨u, h1, h2⟩ := sliceV_is (P := P) ht h (ev_is ht hx)
      exact ⟨u, h1, fun w' _ => by simp only [execOp, Option.map_none]; rw [Sem.run_bind, h2]; rfl⟩
    · cases h
  · rename_i s x f
    split at h
    · rename_i r off hx
      split at h
      · rename_i fo ft hf
        split at h
        · rename_i sz hs
          rw [ptK_is h]
          obtain ⟨fs, fd, hu, hfd, rfl, rfl⟩ := fieldOff_run hf
          obtain ⟨g, o, h1, h2⟩ := ev_is ht hx
          refine ⟨_, ⟨g, o, h1, rfl⟩, fun w' _ => ?_⟩
          simp [execOp, h2, Instr.fieldAt, run_underlying hu, hfd, Instr.sureAddr, fieldPlace, szOf_run hs, add_off, Nat.add_assoc]
        · cases h
      · cases h
    · cases h
  · rename_i s x f
    split at h
    · rename_i cs hx
      split at h
      · rename_i fo ft hf
        obtain ⟨fs, fd, hu, hfd, rfl, rfl⟩ := fieldOff_run hf
        obtain ⟨vs, h1, h2⟩ := ev_is ht hx
        obtain ⟨u, h3, h4⟩ := partV_is h h2
        exact ⟨u, h3, fun w' _ => by simp [execOp, h1, Instr.field, run_underlying hu, hfd, asAgg, h4]⟩
      · cases h
    · cases h
  · rename_i t x ix
    split at h
    · rename_i v1 v2 hx hi
      obtain ⟨u, h1, h2⟩ := idx_run h (ev_is ht hx) (asIx_is (ev_is ht hi))
      exact ⟨u, h1, fun w' _ => by simp [execOp, h2]⟩
    · cases h
  · rename_i t x ix
    split at h
    · rename_i v1 v2 hx hi
      obtain ⟨u, h1, h2⟩ := indexV_is h (ev_is ht hx) (asIx_is (ev_is ht hi))
      exact ⟨u, h1, fun w' _ => by simp [execOp, h2]⟩
    · cases h
  · rename_i t parts
    obtain ⟨u, h1, h2⟩ := buildV_is hE ht h
    refine ⟨u, h1, fun w' _ => ?_⟩
    have e : (parts.map fun p => (p.1, a.eval p.2)) = (parts.toList.map fun p => (p.1, a.eval p.2)).toArray := by
      apply Array.ext'
      simp
    simp only [execOp]
    rw [e, Sem.run_bind, h2]
    rfl
  · rename_i x i
    split at h
    · rename_i l hx
      split at h
      · rename_i p hp
        rw [atL_eq] at hp
        obtain ⟨vs, e, hall⟩ := ev_is ht hx
        obtain ⟨u, h1, h2⟩ := hall.get hp
        refine ⟨u, unpart_is h h2, fun w' _ => ?_⟩
        simp [execOp, e, Instr.extract, h1]
      · cases h
    · cases h
  · rename_i c
    obtain ⟨callee, args, argTypes⟩ := c
    have wlt : ∀ p q : Nat, ((p : Int) < (q : Int)) = (Nat.blt p q = true) := by
      intro p q
      apply propext
      show _ ↔ Nat.ble (p + 1) q = true
      rw [Nat.ble_eq]; omega
    split at h
    · rename_i x t hcal hargs hty
      split at h
      · rename_i v1 hx
        split at h
        · rename_i m e hlen hu
          obtain ⟨b, cc, h1⟩ := lenV_is hlen (ev_is ht hx)
          simp only at hcal hargs hty
          subst hcal
          have ea : args = #[x] := by apply Array.ext'; simpa using hargs
          have et : argTypes = #[t] := by apply Array.ext'; simpa using hty
          subst ea et
          refine ⟨_, (itK_is h).1, fun w' _ => ?_⟩
          simp [execOp, resolve, invoke, builtin, h1, Builtin.len_, run_underlying hu, goInt]
        · cases h
      · cases h
    · rename_i x y hcal hargs
      split at h
      · rename_i p q hx hy
        cases h
        have e1 : a.eval x = .int .u64 (p.toNat : Int) := ev_is ht hx
        have e2 : a.eval y = .int .u64 (q.toNat : Int) := ev_is ht hy
        simp only at hcal hargs
        subst hcal
        have ea : args = #[x, y] := by apply Array.ext'; simpa using hargs
        subst ea
        refine ⟨_, rfl, fun w' _ => ?_⟩
        simp only [execOp, resolve, invoke, builtin, List.map_toArray, List.map_cons, List.map_nil, e1, e2, Builtin.max_, List.foldlM_cons, List.foldlM_nil, Builtin.max2, Sem.run_bind, Sem.run_pure, Result.andThen_ok, gt_iff_lt, wlt]
        cases Nat.blt p.toNat q.toNat <;> rfl
      · cases h
    · rename_i x y hcal hargs
      split at h
      · rename_i p q hx hy
        cases h
        have e1 : a.eval x = .int .u64 (p.toNat : Int) := ev_is ht hx
        have e2 : a.eval y = .int .u64 (q.toNat : Int) := ev_is ht hy
        simp only at hcal hargs
        subst hcal
        have ea : args = #[x, y] := by apply Array.ext'; simpa using hargs
        subst ea
        refine ⟨_, rfl, fun w' _ => ?_⟩
        simp only [execOp, resolve, invoke, builtin, List.map_toArray, List.map_cons, List.map_nil, e1, e2, Builtin.min_, List.foldlM_cons, List.foldlM_nil, Builtin.min2, Sem.run_bind, Sem.run_pure, Result.andThen_ok, gt_iff_lt, wlt]
        cases Nat.blt q.toNat p.toNat <;> rfl
      · cases h
    · rename_i f x y z hcal hargs
      split at h
      · rename_i hadd
        split at h
        · rename_i p q r hx hy hz
          split at h
          · rename_i h0
            cases h
            have e1 : a.eval x = .int .u64 (p.toNat : Int) := ev_is ht hx
            have e2 : a.eval y = .int .u64 (q.toNat : Int) := ev_is ht hy
            have e3 : a.eval z = .int .u64 (r.toNat : Int) := ev_is ht hz
            have e4 : r.toNat = 0 := Nat.eq_of_beq_eq_true h0
            rw [e4] at e3
            simp only at hcal hargs
            subst hcal
            have ea : args = #[x, y, z] := by apply Array.ext'; simpa using hargs
            subst ea
            refine ⟨_, ⟨[_, _], rfl, rfl, rfl, trivial⟩, fun w' _ => ?_⟩
            rw [call_go rfl rfl]
            show (callFunc f (#[x, y, z].map a.eval)).run P w' = _
            rw [show #[x, y, z].map a.eval = #[a.eval x, a.eval y, a.eval z] by simp, e1, e2, e3]
            exact add64_call hadd p q w'
          · cases h
        · cases h
      · cases h
    · cases h
  · cases h
end Go.Proofs.Sx
