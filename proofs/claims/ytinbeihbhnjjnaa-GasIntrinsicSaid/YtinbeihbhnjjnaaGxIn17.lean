/- The law on what a transaction takes: its function returns true. -/
import Derived.Test.YtinbeihbhnjjnaaGxIn16
namespace Go.Proofs.Sx
open Go
set_option linter.unusedVariables false
theorem eval_tmp {a : Act} {t : Nat} {u : Value} (h : a.tmps[t]? = some u) : a.eval (.tmp t) = u := by
  simp only [Act.eval]
  rw [Array.getD_eq_getD_getElem?, h]
  rfl
/-- A reckoned operation at the head of a row. -/
theorem list_step {M : Kn} (hM : Known Try.prog M) {ops : Array Oper} {rest : List Oper} {o : Oper} {l : List (Nat × V)} {hp hp' : List Reg} {v : V} {b : Nat} (hg : o.guard = none) (h : stepOp (sx Try.prog M 1000000) Try.prog M (slots l) hp b [] [] o.op = some (v, hp', false, [], []))
    {B : Nat → Prop} {w0 : World} {E : Env} {n : Nat} {a : Act} {w : World} {Q : Exit → Act → World → Prop} (hts : a.tmps.size = n) (hdf : a.defers = []) (hl : ∀ p ∈ l, SlotIs E a p.1 p.2) (hh : HR B w0 E hp w)
    (next : ∀ (E1 : Env) (u : Value) (w1 : World), E.le E1 → v.is E1 u → HR B w0 E1 hp' w1 → (∀ wc, Chg b wc E w → Chg b wc E1 w1) → wpList Try.prog ops Q rest (a.put o.dst u) w1) : wpList Try.prog ops Q (o :: rest) a w := by
  unfold wpList
  have hw : Region.wanted o (yielded ops a.tmps) = true := by unfold Region.wanted; rw [hg]
  rw [if_pos hw]
  exact .inl ((step_is (sx_sound fol hM _) hM h).2 AllT.nil B w0 E n a w _ Q (tr_of hdf hts hl) hh fun E1 u w1 hE hv hh1 hc => next E1 u w1 hE hv hh1 (hc rfl))
/-- A call, by its contract. -/
theorem op_call {o : Oper} {f : FuncId} {xs : List Operand} (ho : callB o = some (f, xs)) (hfn : fnB f = true) {a : Act} {w : World} {R : Ending → World → Prop} {K : Act → World → Prop} {Q : Exit → Act → World → Prop} (hc : Calls Try.prog f (xs.map a.eval).toArray w R)
    (next : ∀ e w', R e w' → ∃ u, e = .returned u ∧ K (a.put o.dst u) w') : o.wp Try.prog a w K Q := by
  unfold callB at ho
  split at ho
  · rename_i c hop
    split at ho
    · rename_i f' hcal
      cases ho
      unfold fnB at hfn
      split at hfn
      · rename_i fn hf
        rw [Bool.and_eq_true] at hfn
        unfold Oper.wp
        rw [call_run hop hcal hf (by simpa using hfn.1) (by simpa using hfn.2) w]
        refine Calls.mono hc fun e w1 hR => ?_
        obtain ⟨u, rfl, hK⟩ := next e w1 hR
        exact hK
      · cases hfn
    · cases ho
  · cases ho
section
variable {B : Nat → Prop} {w0 : World} {E : Env} {hp0 : List Reg} {J : World → Prop} {n : Nat} {baseL : List (Nat × V)} {K : Nat → World → Value → Prop} {d : Nat → Nat} {pre : Nat → Prop}
theorem opK_val {M : Kn} (hM : Known Try.prog M) {o : Oper} {l : List (Nat × V)} {v : V} {b : Nat} (hb : b = hp0.length) (h : stepOp (sx Try.prog M 1000000) Try.prog M (slots l) hp0 b [] [] o.op = some (v, hp0, false, [], [])) (hpl : v.plain = true)
    (hl : ∀ p ∈ l, p ∈ baseL ∨ ∃ i, pre i ∧ p.1 = d i ∧ ∀ w u, K i w u → p.2.is E u) : OpK B w0 E hp0 J n baseL pre K d (fun _ u => v.is E u) o := by
  intro a w Kn Q hh hj hts hdf hbs hvs next
  subst hb
  refine (step_is (sx_sound fol hM _) hM h).2 AllT.nil B w0 E n a w Kn Q (tr_of hdf hts fun p hp => ?_) hh fun E1 u w1 hE hu hh1 hc => next u w1 (hc rfl w (Chg.refl hh)).1 (V.plain_is hpl hu)
  rcases hl p hp with h1 | ⟨i, h1, h2, h3⟩
  · exact hbs p h1
  · obtain ⟨u, h4, h5⟩ := hvs i h1
    rw [h2]
    exact ⟨u, h4, h3 w u h5⟩
end
section
variable {f : Int} {x : Txx} {w0 : World} {u : Value}
theorem shape7_at : ∀ k j d, plainK k j d = true → (opK k j).guard = none ∧ (opK k j).dst = d := by
  intro k j d h
  unfold plainK at h
  split at h
  · rename_i e e' h1 h2
    exact ⟨h1, by rw [h2, Nat.eq_of_beq_eq_true h]⟩
  · rename_i h1 h2
    exact ⟨h1, h2⟩
  · cases h
/-- what comes out -/
def Done7 (w0 : World) (e : Ending) (w' : World) : Prop := e = .returned (.bool true) ∧ Grow w0 w'
theorem law7 (h : TxAt w0 u x) : Calls Try.prog 7 #[.int .i64 f, u] w0 (Done7 w0) := by
  obtain ⟨D, A, B, sD, sA, sB, hu⟩ := h.told
  have hk := kz_rng f
  have hrk : Rk (r7 f) := rk_is _ (by omega)
  have hf7 := fn7
  rw [Bool.and_eq_true] at hf7
  have hshape := shape7_is
  unfold shape7 at hshape
  simp only [Bool.and_eq_true] at hshape
  obtain ⟨⟨h39, h3p, h3d, h3e⟩, h4p, p20, p21, p22, p23⟩ := hshape
  have h39' : (opsK 3).size = 9 := Nat.eq_of_beq_eq_true h39
  have hfnb := fnb
  simp only [Bool.and_eq_true] at hfnb
  obtain ⟨b27, b28, b29⟩ := hfnb
  have edge3 : ∀ {i j : Nat}, (i, j) ∈ edges3 → edgeB (opsK 3) i j = true := fun {i j} h => List.all_eq_true.1 h3e (i, j) h
  have hc := hf7.1
  unfold hasCode at hc
  split at hc
  rotate_left
  · cases hc
  rename_i fn hf
  have e1 : fnOf Try.prog 7 = fn := by unfold fnOf; rw [hf]; rfl
  cases hbd : fn.body with
  | none => rw [hbd] at hc; cases hc
  | some c =>
    have e2 : codeOf Try.prog 7 = c := by unfold codeOf; rw [e1, hbd]; rfl
    refine calls_of_wp hf hbd ?_
    have hn : fn.ntmps = 43 := by rw [← e1]; exact Nat.eq_of_beq_eq_true hf7.2
    have hrow : rowOf Try.prog 7 = spine c := by unfold rowOf; rw [e2]
    refine wp_spine c _ _ _ ?_
    rw [← hrow, row7, hn]
    have hus : All2 (V.is ⟨[]⟩) [.one (.zi f), .ag (txX x D A B)] [.int .i64 f, u] := ⟨rfl, hu _, trivial⟩
    have htr := enter_tr (fn := fn) hus
    rw [hn] at htr
    have hA := sxc_sound fol known7 (f7A f x D A B) AllT.nil
    refine Does.go hA (B := fun _ => False) (w0 := w0) (wc := w0) (E := ⟨[]⟩) ⟨htr, HR.bare w0, fun _ => ⟨Grow.refl w0, fun r y g _ hy => by simp at hy⟩⟩ fun E1 a1 w1 _ hR1 => ?_
    -- the transaction is copied
    show (cod7 2).wp Try.prog _ a1 w1
    have g1 : Grow w0 w1 := hR1.hr.grew
    have t1 : TxAt w1 u x := h.grow g1
    have sz1 : a1.tmps.size = 43 := hR1.tr.size
    have df1 : a1.defers = [] := hR1.tr.defers
    have hT : TR E1 (slots [(3, .one (.pt 0 0)), (5, .one (.pt 1 0))]) 43 a1 := hR1.tr
    obtain ⟨gA3, gA5⟩ := getA
    have sl3 : SlotIs E1 a1 3 (.one (.pt 0 0)) := hT.at_ 3 (.one (.pt 0 0)) gA3
    have sl5 : SlotIs E1 a1 5 (.one (.pt 1 0)) := hT.at_ 5 (.one (.pt 1 0)) gA5
    rw [code2, ← Array.toArray_toList (xs := opsK 2)]
    refine wp_region_lit ?_
    rw [list2]
    obtain ⟨q20, r20⟩ := shape7_at 2 0 _ p20
    obtain ⟨q21, r21⟩ := shape7_at 2 1 _ p21
    obtain ⟨q22, r22⟩ := shape7_at 2 2 _ p22
    obtain ⟨q23, r23⟩ := shape7_at 2 3 _ p23
    refine list_step known_none q20 (s20 f x D A B) sz1 df1 (fun p hp => by rw [one_of hp]; exact sl3) hR1.hr fun E2 u2 w2 hE2 hu2 hh2 hc2 => ?_
    have eu2 : u2 = u := txX_one (hu ⟨[]⟩) hu2
    subst eu2
    have g2 : Grow w1 w2 := (hc2 w1 (Chg.refl hR1.hr)).1
    have t2 := t1.grow g2
    rw [r20]
    have sl13 : (a1.put (some 13) u2).tmps[13]? = some u2 := by simp [Act.put, sz1]
    obtain ⟨m, hm, hmn, hcall⟩ := twin_calls t2
    unfold wpList
    have hw : ∀ (o : Oper) (ops : Array Oper) (a : Act), o.guard = none → Region.wanted o (yielded ops a.tmps) = true := fun o ops a hg => by unfold Region.wanted; rw [hg]
    rw [if_pos (hw _ _ _ q21)]
    refine .inl (op_call call2 b27 (R := TxPost w2 (cutX x m)) (by
      have : [Operand.tmp 13].map (a1.put (some 13) u2).eval = [u2] := by simp only [List.map_cons, List.map_nil, eval_tmp sl13]
      rw [this]
      exact hcall) fun e w3 ⟨u', he, g3, t3⟩ => ⟨u', he, ?_⟩)
    obtain ⟨D1, A1, B1, _, _, _, hu'⟩ := t3.told
    rw [r21]
    have hh3 : HR (fun _ => False) w0 E2 (hpA f x D A B) w3 := hh2.grow g3
    generalize ha3 : (a1.put (some 13) u2).put (some 14) u' = a3
    have sz3 : a3.tmps.size = 43 := by rw [← ha3]; simp [Act.put, sz1]
    have df3 : a3.defers = [] := by rw [← ha3]; exact df1
    have sl5' : SlotIs E2 a3 5 (.one (.pt 1 0)) := by rw [← ha3]; exact ((sl5.mono hE2).put_ne (by decide)).put_ne (by decide)
    have sl14 : SlotIs E2 a3 14 (.ag (txX (cutX x m) D1 A1 B1)) := by rw [← ha3]; exact SlotIs.put_eq (by simp [Act.put, sz1]) (hu' E2)
    refine list_step known_none q22 (s22 f x D A B) sz3 df3 (fun p hp => by cases hp) hh3 fun E4 u4 w4 hE4 hu4 hh4 hc4 => ?_
    rw [r22]
    have sz4 : (a3.put (some 6) u4).tmps.size = 43 := by simp [Act.put, sz3]
    have sl6 : SlotIs E4 (a3.put (some 6) u4) 6 (.one (.pt 2 0)) := SlotIs.put_eq (by rw [sz3]; decide) hu4
    have sl14' : SlotIs E4 (a3.put (some 6) u4) 14 (.ag (txX (cutX x m) D1 A1 B1)) := (sl14.mono hE4).put_ne (by decide)
    have sl5'' : SlotIs E4 (a3.put (some 6) u4) 5 (.one (.pt 1 0)) := (sl5'.mono hE4).put_ne (by decide)
    refine list_step known_none q23 (s23 f x (cutX x m) D A B D1 A1 B1) sz4 df3 (fun p hp => by rcases two_of hp with rfl | rfl; exact sl6; exact sl14') hh4 fun E5 u5 w5 hE5 _ hh5 hc5 => ?_
    rw [r23]
    have g5 : Grow w3 w5 := (hc5 w3 (hc4 w3 (Chg.refl hh3))).1
    have t5 : TxAt w5 u' (cutX x m) := t3.grow g5
    show wpList Try.prog _ _ [] (a3.put (some 6) u4) w5
    unfold wpList
    generalize ha5 : a3.put (some 6) u4 = a5 at *
    have b5 : SlotIs E5 a5 5 (.one (.pt 1 0)) := sl5''.mono hE5
    have b6 : SlotIs E5 a5 6 (.one (.pt 2 0)) := sl6.mono hE5
    have df5 : a5.defers = [] := by rw [← ha5]; exact df3
    -- what is known of the copy
    have x1n : (cutX x m).n = m := rfl
    have xb : (cutX x m).b.length ≤ 800 := by show (x.b.take 800).length ≤ 800; rw [List.length_take]; omega
    have xK : ∀ j, j < (cutX x m).n → (cutX x m).K j ≤ 12 := fun j _ => (cut12_le _).1
    have hx1 : cutX (cutX x m) m = cutX x m := cutX_twice x m
    obtain ⟨_, _, _, v_eq, v_ge, _⟩ := v_nat (x := cutX x m) hrk (by rw [x1n]; exact hm) xb xK
    generalize cutX x m = x1 at *
    have rulesV : ∀ {E : Env} {v : Value}, (V.ag (rulesS (r7 f))).is E v → ∀ E' : Env, (V.ag (rulesS (r7 f))).is E' v := fun h E' => V.plain_is (by kernel_rfl) h
    have txOf : ∀ {E : Env} {v : Value}, (V.ag (txX x1 D1 A1 B1)).is E v → v = u' := fun h => txX_one (hu' ⟨[]⟩) h
    -- the program's sum, of a copy of the copy
    show (cod7 3).wp Try.prog _ a5 w5
    rw [code3]
    refine region_kinds (N := 9) (n := 43) (B := fun _ => False) (w0 := w0) (E := E5) (hp0 := hpB f x x1 D A B D1 A1 B1) (J := fun w => TxAt w u' x1) (baseL := [(5, .one (.pt 1 0)), (6, .one (.pt 2 0))])
      (K := fun j w v => match j with
        | 2 => TxAt w v x1
        | _ => (v3 f x1 D1 A1 B1 (v28 (r7 f) x1) j).is E5 v) (d := d3) (fun w w' hg hj => hj.grow hg) ?_ h39' ?_ (fun i hi => List.all_eq_true.1 h3d i (by simp; omega)) ?_ ?_ ?_ hh5 t5 sz4 df5 ?_ ?_
    · intro i w w' v hg hv
      match i, hv with
      | 0, hv => exact hv
      | 1, hv => exact hv
      | 2, hv => exact TxAt.grow hv hg
      | i + 3, hv => exact hv
    · intro j hj
      have hj' : j = 0 ∨ j = 1 ∨ j = 2 ∨ j = 3 ∨ j = 4 ∨ j = 5 ∨ j = 6 ∨ j = 7 ∨ j = 8 := by omega
      obtain ⟨q, r⟩ := shape7_at 3 j _ (List.all_eq_true.1 h3p j (by simp; omega))
      have hop : (opsK 3)[j]? = some (opK 3 j) := by
        unfold opK
        have h1 : j < (opsK 3).size := by rw [h39']; exact hj
        rw [Array.getElem?_eq_getElem h1]
        rfl
      refine ⟨_, hop, q, r, ?_⟩
      have S := fun (j : Nat) (h : j ∈ [0, 1, 4, 5, 6, 7, 8]) => mapAt (s3 f x x1 D A B D1 A1 B1 (v28 (r7 f) x1)) h
      have Pl := fun (j : Nat) (h : j ∈ [0, 1, 4, 5, 6, 7, 8]) => List.all_eq_true.1 (plain3 f x1 D1 A1 B1 (v28 (r7 f) x1)) j h
      clear q r hop hj
      rcases hj' with rfl | rfl | rfl | rfl | rfl | rfl | rfl | rfl | rfl
      · exact opK_val known_none rfl (S 0 (by decide)) (Pl 0 (by decide)) fun p hp => by rw [one_of hp]; exact .inl (by simp)
      · exact opK_val known_none rfl (S 1 (by decide)) (Pl 1 (by decide)) fun p hp => by rw [one_of hp]; exact .inl (by simp)
      · intro a w Kn Q hh hj hts hdf hbs hvs next
        obtain ⟨v, hv1, hv2⟩ := hvs 1 ⟨by decide, edge3 (by decide)⟩
        have ev : v = u' := txOf hv2
        subst ev
        obtain ⟨m', hm', hmn', hcall'⟩ := twin_calls hj
        have em : m' = m := by omega
        subst em
        refine op_call call3 b27 (R := TxPost w x1) (by
          have : [Operand.tmp 17].map a.eval = [v] := by
            show [a.eval (.tmp 17)] = [v]
            rw [eval_tmp (t := 17) hv1]
          rw [this, ← hx1]
          exact hcall') fun e w' ⟨u'', he, hg, ht⟩ => ⟨u'', he, next u'' w' hg ht⟩
      · intro a w Kn Q hh hj hts hdf hbs hvs next
        obtain ⟨vr, hr1, hr2⟩ := hvs 0 ⟨by decide, edge3 (by decide)⟩
        obtain ⟨v, hv1, hv2⟩ := hvs 2 ⟨by decide, edge3 (by decide)⟩
        have hcall' := (intr_calls hv2 (rulesV hr2) hrk (by rw [x1n]; exact hm) xb xK).1
        refine op_call call3' b28 (R := ValPost w (twoV (v28 (r7 f) x1))) (by
          have : [Operand.tmp 16, Operand.tmp 18].map a.eval = [vr, v] := by
            show [a.eval (.tmp 16), a.eval (.tmp 18)] = [vr, v]
            rw [eval_tmp (t := 16) hr1, eval_tmp (t := 18) hv1]
          rw [this]
          exact hcall') fun e w' ⟨u'', he, hg, ht⟩ => ⟨u'', he, next u'' w' hg (ht E5)⟩
      · exact opK_val known_none rfl (S 4 (by decide)) (Pl 4 (by decide)) fun p hp => by rw [one_of hp]; exact .inr ⟨3, ⟨by decide, edge3 (by decide)⟩, rfl, fun w v hv => hv⟩
      · exact opK_val known_none rfl (S 5 (by decide)) (Pl 5 (by decide)) fun p hp => by rw [one_of hp]; exact .inr ⟨4, ⟨by decide, edge3 (by decide)⟩, rfl, fun w v hv => hv⟩
      · exact opK_val known_none rfl (S 6 (by decide)) (Pl 6 (by decide)) fun p hp => by rw [one_of hp]; exact .inr ⟨4, ⟨by decide, edge3 (by decide)⟩, rfl, fun w v hv => hv⟩
      · exact opK_val known_none rfl (S 7 (by decide)) (Pl 7 (by decide)) fun p hp => by rw [one_of hp]; exact .inr ⟨5, ⟨by decide, edge3 (by decide)⟩, rfl, fun w v hv => hv⟩
      · exact opK_val known_none rfl (S 8 (by decide)) (Pl 8 (by decide)) fun p hp => by rw [one_of hp]; exact .inr ⟨6, ⟨by decide, edge3 (by decide)⟩, rfl, fun w v hv => hv⟩
    · intro i j hi hj h
      have : ∀ i j : Fin 9, d3 i = d3 j → i = j := by decide
      have := this ⟨i, hi⟩ ⟨j, hj⟩ h
      simpa using this
    · intro j hj
      have : ∀ j : Fin 9, d3 j < 43 := by decide
      exact this ⟨j, hj⟩
    · intro p hp j hj
      have : ∀ j : Fin 9, 5 ≠ d3 j ∧ 6 ≠ d3 j := by decide
      have := this ⟨j, hj⟩
      rcases two_of hp with rfl | rfl
      · exact this.1
      · exact this.2
    · intro p hp
      rcases two_of hp with rfl | rfl
      · exact b5
      · exact b6
    · intro a6 w6 hh6 t6 sz6 df6 bs6 vs6
      obtain ⟨n7, n71, n72⟩ := vs6 7 (by decide)
      obtain ⟨n8, n81, n82⟩ := vs6 8 (by decide)
      -- the reference's sum, of the copy
      show (cod7 4).wp Try.prog _ a6 w6
      rw [code4, ← Array.toArray_toList (xs := opsK 4)]
      refine wp_region_lit ?_
      refine list_kinds (N := 8) (n := 43) (B := fun _ => False) (w0 := w0) (E := E5) (hp0 := hpB f x x1 D A B D1 A1 B1) (J := fun w => TxAt w u' x1) (baseL := [(5, .one (.pt 1 0)), (6, .one (.pt 2 0)), (7, .one (.w64 (v28 (r7 f) x1))), (8, .one (.bl true))])
        (K := fun j w v => (v4 f x1 D1 A1 B1 (v29 (r7 f) x1) j).is E5 v) (d := d4) (fun w w' hg hj => hj.grow hg) (fun i w w' v _ hv => hv) ?_ ?_ ?_ (opsK 4).toList 0 ?_ ?_ a6 w6 hh6 t6 sz6 df6 ?_ (fun j hj => by omega) ?_
      · intro i j hi hj h
        have : ∀ i j : Fin 8, d4 i = d4 j → i = j := by decide
        have := this ⟨i, hi⟩ ⟨j, hj⟩ h
        simpa using this
      · intro j hj
        have : ∀ j : Fin 8, d4 j < 43 := by decide
        exact this ⟨j, hj⟩
      · intro p hp j hj
        have : ∀ j : Fin 8, 5 ≠ d4 j ∧ 6 ≠ d4 j ∧ 7 ≠ d4 j ∧ 8 ≠ d4 j := by decide
        have := this ⟨j, hj⟩
        simp only [List.mem_cons, List.mem_nil_iff, or_false] at hp
        rcases hp with rfl | rfl | rfl | rfl
        · exact this.1
        · exact this.2.1
        · exact this.2.2.1
        · exact this.2.2.2
      · rw [list4]; rfl
      · intro j o hjo
        rw [list4] at hjo
        rw [Nat.zero_add]
        have hj8 : j < 8 := by
          rcases Nat.lt_or_ge j 8 with h | h
          · exact h
          · rw [List.getElem?_eq_none (by simpa using h)] at hjo; cases hjo
        have hj' : j = 0 ∨ j = 1 ∨ j = 2 ∨ j = 3 ∨ j = 4 ∨ j = 5 ∨ j = 6 ∨ j = 7 := by omega
        have ho : o = opK 4 j := by
          rcases hj' with rfl | rfl | rfl | rfl | rfl | rfl | rfl | rfl <;> exact (Option.some.inj hjo).symm
        subst ho
        obtain ⟨q, r⟩ := shape7_at 4 j _ (List.all_eq_true.1 h4p j (by simp; omega))
        refine ⟨q, r, ?_⟩
        have S := fun (j : Nat) (h : j ∈ [0, 1, 3, 4, 5, 6, 7]) => mapAt (s4 f x x1 D A B D1 A1 B1 (v29 (r7 f) x1)) h
        have Pl := fun (j : Nat) (h : j ∈ [0, 1, 3, 4, 5, 6, 7]) => List.all_eq_true.1 (plain4 f x1 D1 A1 B1 (v29 (r7 f) x1)) j h
        clear q r hjo hj8
        rcases hj' with rfl | rfl | rfl | rfl | rfl | rfl | rfl | rfl
        · exact opK_val known_none rfl (S 0 (by decide)) (Pl 0 (by decide)) fun p hp => by rw [one_of hp]; exact .inl (by simp)
        · exact opK_val known_none rfl (S 1 (by decide)) (Pl 1 (by decide)) fun p hp => by rw [one_of hp]; exact .inl (by simp)
        · intro a w Kn Q hh hj hts hdf hbs hvs next
          obtain ⟨vr, hr1, hr2⟩ := hvs 0 (by show 0 < 2; decide)
          obtain ⟨v, hv1, hv2⟩ := hvs 1 (by show 1 < 2; decide)
          have ev : v = u' := txOf hv2
          subst ev
          have hcall' := (intr_calls hj (rulesV hr2) hrk (by rw [x1n]; exact hm) xb xK).2
          refine op_call call4 b29 (R := ValPost w (twoV (v29 (r7 f) x1))) (by
            have : [Operand.tmp 23, Operand.tmp 24].map a.eval = [vr, v] := by
              show [a.eval (.tmp 23), a.eval (.tmp 24)] = [vr, v]
              rw [eval_tmp (t := 23) hr1, eval_tmp (t := 24) hv1]
            rw [this]
            exact hcall') fun e w' ⟨u'', he, hg, ht⟩ => ⟨u'', he, next u'' w' hg (ht E5)⟩
        · exact opK_val known_none rfl (S 3 (by decide)) (Pl 3 (by decide)) fun p hp => by rw [one_of hp]; exact .inr ⟨2, by show 2 < 3; decide, rfl, fun w v hv => hv⟩
        · exact opK_val known_none rfl (S 4 (by decide)) (Pl 4 (by decide)) fun p hp => by rw [one_of hp]; exact .inr ⟨3, by show 3 < 4; decide, rfl, fun w v hv => hv⟩
        · exact opK_val known_none rfl (S 5 (by decide)) (Pl 5 (by decide)) fun p hp => by rw [one_of hp]; exact .inr ⟨3, by show 3 < 5; decide, rfl, fun w v hv => hv⟩
        · exact opK_val known_none rfl (S 6 (by decide)) (Pl 6 (by decide)) fun p hp => by rw [one_of hp]; exact .inr ⟨4, by show 4 < 6; decide, rfl, fun w v hv => hv⟩
        · exact opK_val known_none rfl (S 7 (by decide)) (Pl 7 (by decide)) fun p hp => by rw [one_of hp]; exact .inr ⟨5, by show 5 < 7; decide, rfl, fun w v hv => hv⟩
      · intro p hp
        simp only [List.mem_cons, List.mem_nil_iff, or_false] at hp
        rcases hp with rfl | rfl | rfl | rfl
        · exact bs6 _ (by simp)
        · exact bs6 _ (by simp)
        · exact ⟨n7, n71, n72⟩
        · exact ⟨n8, n81, n82⟩
      · intro a7 w7 hh7 _ sz7 df7 bs7 vs7
        obtain ⟨n9, n91, n92⟩ := vs7 6 (by decide)
        obtain ⟨n10, n101, n102⟩ := vs7 7 (by decide)
        obtain ⟨s3, d5, hb5, hres⟩ := retV'_is known7 (f7E (v28 (r7 f) x1) (v29 (r7 f) x1) (hpB f x x1 D A B D1 A1 B1)) (AllT.cons (bleT v_ge) (AllT.cons rfl (AllT.cons (by rw [v_eq]; exact Nat.beq_refl _) AllT.nil)))
        have htr7 : TR E5 (slots (l5 (v28 (r7 f) x1) (v29 (r7 f) x1))) 43 a7 := tr_of df7 sz7 fun p hp => by
          simp only [l5, List.mem_cons, List.mem_nil_iff, or_false] at hp
          rcases hp with rfl | rfl | rfl | rfl
          · exact bs7 _ (by simp)
          · exact bs7 _ (by simp)
          · exact ⟨n9, n91, n92⟩
          · exact ⟨n10, n101, n102⟩
        refine d5 (fun _ => False) w0 w0 E5 a7 w7 _ ⟨htr7, hh7, fun h => by cases h⟩ fun E8 a8 w8 _ hR8 => ?_
        obtain ⟨res, hr1, hr2⟩ := resV_is hR8.tr hR8.hr hres
        have hr1' : res = .bool true := hr1
        subst hr1'
        rw [e1] at hr2
        exact ⟨hR8.tr.defers, .bool true, hr2, rfl, hR8.hr.grew⟩
end
end Go.Proofs.Sx
