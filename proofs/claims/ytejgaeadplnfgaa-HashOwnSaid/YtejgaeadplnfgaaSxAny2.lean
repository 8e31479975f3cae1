/- A region of eight operations that leave memory alone, two new blocks and two stores, in any order. -/
import Derived.Test.YtejgaeadplnfgaaSxAny
namespace Go.Proofs.Sx
open Go

def SlotIs (E : Env) (a : Act) (s : Nat) (x : V) : Prop := ∃ u, a.tmps[s]? = some u ∧ x.is E u
theorem SlotIs.mono {E E' : Env} {a : Act} {s : Nat} {x : V} (h : SlotIs E a s x) (he : E.le E') : SlotIs E' a s x :=
  let ⟨u, h1, h2⟩ := h; ⟨u, h1, V.is_mono he h2⟩
theorem SlotIs.put_ne {E : Env} {a : Act} {s d : Nat} {x : V} {v : Value} (h : SlotIs E a s x) (hne : s ≠ d) : SlotIs E (a.put (some d) v) s x :=
  let ⟨u, h1, h2⟩ := h; ⟨u, by rw [← h1]; simp [Act.put, Array.getElem?_setIfInBounds_ne (Ne.symm hne)], h2⟩
theorem SlotIs.put_eq {E : Env} {a : Act} {d : Nat} {x : V} {v : Value} (hd : d < a.tmps.size) (hx : x.is E v) : SlotIs E (a.put (some d) v) d x :=
  ⟨v, by simp [Act.put, hd], hx⟩
theorem tr_of {E : Env} {a : Act} {n : Nat} {l : List (Nat × V)} (hd : a.defers = []) (hn : a.tmps.size = n) (h : ∀ p ∈ l, SlotIs E a p.1 p.2) : TR E (slots l) n a :=
  ⟨hd, hn, fun i x hx => h (i, x) (slots_get l i x hx)⟩

section
variable {P : Program} {M : Kn} {ih : Rec} {B : Nat → Prop} {w0 wr : World} {E : Env} {n : Nat} {hp0 : List Reg} {baseL : List (Nat × V)} {val : Nat → V} {t : TypeId} {zc : List C} {zv : List Value}

/-- A new block's slot. -/
def Al (wr : World) (t : TypeId) (zv : List Value) (a : Act) (w : World) (s g : Nat) : Prop :=
  a.tmps[s]? = some (.pointer (some ⟨g, 0, none⟩)) ∧ wr.heap.size ≤ g ∧ g < w.heap.size ∧ w.heap[g]? = some (.cells zv.toArray t (0, 0))

theorem Al.grow {a : Act} {w w' : World} {s g : Nat} (h : Al wr t zv a w s g) (hg : Grow w w') : Al wr t zv a w' s g :=
  ⟨h.1, h.2.1, Nat.lt_of_lt_of_le h.2.2.1 hg.size, by rw [hg.block g h.2.2.1 (by simp)]; exact h.2.2.2⟩
theorem Al.put {a : Act} {w : World} {s g d : Nat} {v : Value} (h : Al wr t zv a w s g) (hne : s ≠ d) : Al wr t zv (a.put (some d) v) w s g :=
  ⟨by rw [← h.1]; simp [Act.put, Array.getElem?_setIfInBounds_ne (Ne.symm hne)], h.2⟩

/-- What holds while the stores have not come up. -/
def PhA (B : Nat → Prop) (w0 wr : World) (E : Env) (n : Nat) (hp0 : List Reg) (baseL : List (Nat × V)) (val : Nat → V) (t : TypeId) (zv : List Value) (listed : Array Bool) (a : Act) (w : World) : Prop :=
  ∃ (E' : Env) (g8 g9 : Nat), E.le E' ∧ a.defers = [] ∧ a.tmps.size = n ∧ HR B w0 E' hp0 w ∧ Grow wr w ∧ (∀ p ∈ baseL, SlotIs E' a p.1 p.2) ∧
    (∀ j, j < 8 → listed.getD j true = true → SlotIs E' a (45 + j) (val j)) ∧ (listed.getD 8 true = true → Al wr t zv a w 10 g8) ∧ (listed.getD 9 true = true → Al wr t zv a w 11 g9) ∧
    (listed.getD 8 true = true → listed.getD 9 true = true → g8 ≠ g9)

theorem getD_set_eq {l : Array Bool} {i j : Nat} (h : (l.setIfInBounds i true).getD j true = true) : j = i ∨ l.getD j true = true := by
  by_cases hji : j = i
  · exact .inl hji
  · right
    rwa [getD_set_ne true (fun e => hji e.symm)] at h

/-- An operation that leaves memory alone. -/
theorem phA_quiet (hs : Sound P ih) (hM : Known P M) {listed : Array Bool} {a : Act} {w : World} {Q : Exit → Act → World → Prop} {o : Oper} {j base : Nat} (hj : j < 8) (hn : 53 ≤ n) (hdst : o.dst = some (45 + j)) (hb : ∀ p ∈ baseL, p.1 < 45 ∧ p.1 ≠ 10 ∧ p.1 ≠ 11)
    {l : List (Nat × V)} (hl : ∀ p ∈ l, p ∈ baseL ∨ ∃ d, d < 8 ∧ listed.getD d true = true ∧ p = (45 + d, val d)) (hbase : base = hp0.length)
    (hst : stepOp ih P M (slots l) hp0 base [] [] o.op = some (val j, hp0, false, [], [])) (h : PhA B w0 wr E n hp0 baseL val t zv listed a w) :
    o.wp P a w (fun a' w' => PhA B w0 wr E n hp0 baseL val t zv (listed.setIfInBounds j true) a' w') Q := by
  obtain ⟨E1, g8, g9, hE, hd, hsz, hh, hg, hbs, hvs, h8, h9, hne⟩ := h
  have htr : TR E1 (slots l) n a := tr_of hd hsz fun p hp => by
    rcases hl p hp with h1 | ⟨d, h1, h2, rfl⟩
    · exact hbs p h1
    · exact hvs d h1 h2
  refine (step_is hs hM hst).2 AllT.nil B w0 E1 n a w _ Q htr hh fun E2 u w1 hE2 hu hh2 hc => ?_
  subst hbase
  have hgr : Grow w w1 := (hc rfl w (Chg.refl hh)).1
  rw [hdst]
  have sz : 45 + j < a.tmps.size := by omega
  refine ⟨E2, g8, g9, Env.le_trans hE hE2, hd, by simp [Act.put, hsz], hh2, hg.trans hgr, fun p hp => ?_, fun k hk hlk => ?_, fun hk => ?_, fun hk => ?_, fun k8 k9 => ?_⟩
  · have := hb p hp
    exact ((hbs p hp).mono hE2).put_ne (by omega)
  · by_cases hkj : k = j
    · subst hkj
      exact SlotIs.put_eq sz hu
    · rcases getD_set_eq hlk with h1 | h1
      · exact absurd h1 hkj
      · exact ((hvs k hk h1).mono hE2).put_ne (by omega)
  · rcases getD_set_eq hk with h1 | h1
    · omega
    · exact ((h8 h1).grow hgr).put (by omega)
  · rcases getD_set_eq hk with h1 | h1
    · omega
    · exact ((h9 h1).grow hgr).put (by omega)
  · rcases getD_set_eq k8 with h1 | h1
    · omega
    · rcases getD_set_eq k9 with h2 | h2
      · omega
      · exact hne h1 h2

theorem alloc_run (hz : zeroV P t = some zc) (hpl : plains zc = true) : ∃ zv : List Value, (∀ E : Env, All2 (C.is E) zc zv) ∧ ∀ (a : Act) (w : World) (o : Oper), o.op = .alloc t → (execOp a.eval o).run P w = .ok (.value (.pointer (some ⟨w.heap.size, 0, none⟩))) (w.alloc (.cells zv.toArray t)) := by
  obtain ⟨z, zv, z1, z2, z3⟩ := zeroV_is (E := ⟨[]⟩) (fun r v h => by simp at h) hz
  refine ⟨zv, fun E => plains_is hpl z3, fun a w o ho => ?_⟩
  simp [execOp, ho, Instr.alloc, z1, newVar, z2, run_newRow]

/-- A new block. -/
theorem phA_alloc {listed : Array Bool} {a : Act} {w : World} {Q : Exit → Act → World → Prop} {o : Oper} {j s : Nat} (hj : (j = 8 ∧ s = 10) ∨ (j = 9 ∧ s = 11)) (hn : 53 ≤ n) (hdst : o.dst = some s) (hb : ∀ p ∈ baseL, p.1 < 45 ∧ p.1 ≠ 10 ∧ p.1 ≠ 11)
    (hun : listed.getD j true = false) (hrun : ∀ (a : Act) (w : World), (execOp a.eval o).run P w = .ok (.value (.pointer (some ⟨w.heap.size, 0, none⟩))) (w.alloc (.cells zv.toArray t)))
    (h : PhA B w0 wr E n hp0 baseL val t zv listed a w) : o.wp P a w (fun a' w' => PhA B w0 wr E n hp0 baseL val t zv (listed.setIfInBounds j true) a' w') Q := by
  obtain ⟨E1, g8, g9, hE, hd, hsz, hh, hg, hbs, hvs, h8, h9, hne⟩ := h
  have hgr : Grow w (w.alloc (.cells zv.toArray t)) := World.grownBy_alloc w _ none
  unfold Oper.wp
  rw [hrun a w]
  show PhA B w0 wr E n hp0 baseL val t zv (listed.setIfInBounds j true) (a.put o.dst _) _
  rw [hdst]
  have hnew : ∀ g, g = w.heap.size → s < a.tmps.size → Al wr t zv (a.put (some s) (.pointer (some ⟨w.heap.size, 0, none⟩))) (w.alloc (.cells zv.toArray t)) s g := by
    intro g e hs
    subst e
    exact ⟨by simp [Act.put, hs], hg.size, by simp, heap_alloc_new w _⟩
  rcases hj with ⟨rfl, rfl⟩ | ⟨rfl, rfl⟩
  · refine ⟨E1, w.heap.size, g9, hE, hd, by simp [Act.put, hsz], hh.grow hgr, hg.trans hgr, fun p hp => (hbs p hp).put_ne (hb p hp).2.1, fun k hk hlk => ?_, fun _ => hnew _ rfl (by omega), fun hk => ?_, fun _ k9 => ?_⟩
    · rcases getD_set_eq hlk with h1 | h1
      · omega
      · exact (hvs k hk h1).put_ne (by omega)
    · rcases getD_set_eq hk with h1 | h1
      · omega
      · exact ((h9 h1).grow hgr).put (by omega)
    · rcases getD_set_eq k9 with h1 | h1
      · omega
      · have := (h9 h1).2.2.1
        omega
  · refine ⟨E1, g8, w.heap.size, hE, hd, by simp [Act.put, hsz], hh.grow hgr, hg.trans hgr, fun p hp => (hbs p hp).put_ne (hb p hp).2.2, fun k hk hlk => ?_, fun hk => ?_, fun _ => hnew _ rfl (by omega), fun k8 _ => ?_⟩
    · rcases getD_set_eq hlk with h1 | h1
      · omega
      · exact (hvs k hk h1).put_ne (by omega)
    · rcases getD_set_eq hk with h1 | h1
      · omega
      · exact ((h8 h1).grow hgr).put (by omega)
    · rcases getD_set_eq k8 with h1 | h1
      · omega
      · have := (h8 h1).2.2.1
        omega

/-- Everything but the stores has come up: the two blocks are regions. -/
theorem phA_full {listed : Array Bool} {a : Act} {w : World} (hlist : ∀ j, j < 10 → listed.getD j true = true) (hz : ∀ E : Env, All2 (C.is E) zc zv) (hE0 : HR B w0 E hp0 wr) (h : PhA B w0 wr E n hp0 baseL val t zv listed a w)
    {l : List (Nat × V)} (hl : ∀ p ∈ l, p ∈ baseL ∨ (∃ d, d < 8 ∧ p = (45 + d, val d)) ∨ p = (10, .one (.pt hp0.length 0)) ∨ p = (11, .one (.pt (hp0.length + 1) 0))) {base : Nat} :
    ∃ E2, E.le E2 ∧ ∀ wc ob ds, Rel B w0 wc E2 ⟨slots l, hp0 ++ [.own t zc] ++ [.own t zc], true, n, base, ob, ds⟩ a w := by
  obtain ⟨E1, g8, g9, hE, hd, hsz, hh, hg, hbs, hvs, h8, h9, hne⟩ := h
  obtain ⟨a1, a2, a3, a4⟩ := h8 (hlist 8 (by omega))
  obtain ⟨b1, b2, b3, b4⟩ := h9 (hlist 9 (by omega))
  have hne' := hne (hlist 8 (by omega)) (hlist 9 (by omega))
  have self : ∀ D, w.grownBy w D := fun D => ⟨rfl, rfl, rfl, Nat.le_refl _, fun _ _ _ => rfl⟩
  have lenE : E1.reg.length = hp0.length := hh.len.symm
  have old : ∀ (q : Nat) (x : Ent) (g : Nat), q < hp0.length → E1.reg[q]? = some x → x.blk = some g → g < wr.heap.size := by
    intro q x g hq hx hg
    have h1 : q < E.reg.length := by rw [← hE0.len]; exact hq
    have h2 := hE q _ (List.getElem?_eq_getElem h1)
    rw [hx] at h2
    cases h2
    exact hE0.lt q _ g (List.getElem?_eq_getElem h1) hg
  have inq : ∀ {l : List Reg} {q : Nat} {R : Reg}, l[q]? = some R → q < l.length := fun h => (List.getElem?_eq_some_iff.1 h).1
  have H1 : HR B w0 ⟨E1.reg ++ [.at_ g8 0]⟩ (hp0 ++ [.own t zc]) w := by
    refine hh.add rfl (fun q R hq => .inr hq) (some g8) (fun g e => ?_) (self _) (.at_ g8 0) (.inr (.inl rfl)) (fun g e => ?_) (fun v e => by cases e) _ ⟨g8, zv, ?_, hz _, a4⟩
    · cases e
      refine ⟨.inr (Nat.le_trans hE0.size a2), a3, fun q R x hq _ hx hxg => ?_⟩
      have := old q x g8 (inq hq) hx hxg
      omega
    · cases e
      exact a3
    · show (E1.reg ++ [Ent.at_ g8 0])[hp0.length]? = _
      rw [← lenE]
      simp
  have H2 : HR B w0 ⟨(E1.reg ++ [.at_ g8 0]) ++ [.at_ g9 0]⟩ (hp0 ++ [.own t zc] ++ [.own t zc]) w := by
    refine H1.add rfl (fun q R hq => .inr hq) (some g9) (fun g e => ?_) (self _) (.at_ g9 0) (.inr (.inl rfl)) (fun g e => ?_) (fun v e => by cases e) _ ⟨g9, zv, ?_, hz _, b4⟩
    · cases e
      refine ⟨.inr (Nat.le_trans hE0.size b2), b3, fun q R x hq _ hx hxg => ?_⟩
      rcases last_or hx with ⟨_, rfl⟩ | ⟨hq2, hx⟩
      · cases hxg
        exact hne' rfl
      · have := old q x g9 (by omega) hx hxg
        omega
    · cases e
      exact b3
    · show ((E1.reg ++ [Ent.at_ g8 0]) ++ [Ent.at_ g9 0])[(hp0 ++ [Reg.own t zc]).length]? = _
      have : (hp0 ++ [Reg.own t zc]).length = (E1.reg ++ [Ent.at_ g8 0]).length := by simp [lenE]
      rw [this]
      simp
  have le1 : E1.le ⟨(E1.reg ++ [.at_ g8 0]) ++ [.at_ g9 0]⟩ := Env.le_trans (Env.le_push E1 (.at_ g8 0)) (Env.le_push ⟨E1.reg ++ [.at_ g8 0]⟩ (.at_ g9 0))
  refine ⟨_, Env.le_trans hE le1, fun wc ob ds => ⟨tr_of hd hsz fun p hp => ?_, H2, fun h => by cases h⟩⟩
  rcases hl p hp with h1 | ⟨d, h1, rfl⟩ | rfl | rfl
  · exact (hbs p h1).mono le1
  · exact (hvs d h1 (hlist d (by omega))).mono le1
  · refine ⟨_, a1, g8, 0, ?_, rfl⟩
    show ((E1.reg ++ [Ent.at_ g8 0]) ++ [Ent.at_ g9 0])[hp0.length]? = _
    rw [← lenE]
    simp
  · refine ⟨_, b1, g9, 0, ?_, rfl⟩
    show ((E1.reg ++ [Ent.at_ g8 0]) ++ [Ent.at_ g9 0])[hp0.length + 1]? = _
    rw [← lenE]
    simp
end
end Go.Proofs.Sx
