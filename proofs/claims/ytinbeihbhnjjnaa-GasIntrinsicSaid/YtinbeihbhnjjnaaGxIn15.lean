/- Transactions whose slices are told themselves; regions of operations that only make memory. -/
import Derived.Test.YtinbeihbhnjjnaaGxIn14
namespace Go.Proofs.Sx
open Go
set_option linter.unusedVariables false
theorem all2_split {R : C → Value → Prop} : ∀ {l l' : List C} {vs : List Value}, All2 R (l ++ l') vs → ∃ v1 v2, vs = v1 ++ v2 ∧ All2 R l v1 ∧ All2 R l' v2
  | [], l', vs, h => ⟨[], vs, rfl, trivial, h⟩
  | c :: l, l', v :: vs, h => by
    obtain ⟨v1, v2, rfl, h1, h2⟩ := all2_split (l := l) h.2
    exact ⟨v :: v1, v2, rfl, ⟨h.1, h1⟩, h2⟩
theorem all2_app {R : C → Value → Prop} : ∀ {l l' : List C} {v1 v2 : List Value}, All2 R l v1 → All2 R l' v2 → All2 R (l ++ l') (v1 ++ v2)
  | [], _, [], _, _, h => h
  | _ :: l, _, _ :: v1, _, h, h' => ⟨h.1, all2_app (l := l) h.2 h'⟩
theorem plain_b8 (f : Nat → BitVec 8) {E E' : Env} : ∀ (n i : Nat) {vs : List Value}, All2 (C.is E) (b8 f i n) vs → All2 (C.is E') (b8 f i n) vs
  | 0, _, [], h => trivial
  | n + 1, i, v :: vs, h => ⟨h.1, plain_b8 f n (i + 1) h.2⟩
theorem plain_ws (f : Nat → W) {E E' : Env} : ∀ (n i : Nat) {vs : List Value}, All2 (C.is E) (wsC f i n) vs → All2 (C.is E') (wsC f i n) vs
  | 0, _, [], h => trivial
  | n + 1, i, v :: vs, h => ⟨h.1, plain_ws f n (i + 1) h.2⟩
/-- A transaction's cells: its three slices, and the rest. -/
theorem tx_parts {E : Env} {x : Txx} {d a b : C} {vs : List Value} (h : All2 (C.is E) (txC x d a b) vs) : ∃ D A B : Value, d.is E D ∧ a.is E A ∧ b.is E B ∧ ∀ (E' : Env) (d' a' b' : C), d'.is E' D → a'.is E' A → b'.is E' B → All2 (C.is E') (txC x d' a' b') vs := by
  unfold txC at h
  match vs, h with
  | v0 :: vs, ⟨h0, h⟩ =>
    obtain ⟨v1, vs, rfl, h1, h⟩ := all2_split h
    match vs, h with
    | v2 :: vs, ⟨h2, h⟩ =>
      obtain ⟨v3, vs, rfl, h3, h⟩ := all2_split h
      obtain ⟨v4, vs, rfl, h4, h⟩ := all2_split h
      match vs, h with
      | D :: A :: vs, ⟨hD, hA, h⟩ =>
        obtain ⟨v5, vs, rfl, h5, h⟩ := all2_split h
        match vs, h with
        | B :: v6 :: vs, ⟨hB, h6, h⟩ =>
          refine ⟨D, A, B, hD, hA, hB, fun E' d' a' b' hd ha hb => ?_⟩
          unfold txC
          exact ⟨h0, all2_app (plain_ws _ _ _ h1) ⟨h2, all2_app (plain_b8 _ _ _ h3) (all2_app (plain_ws _ _ _ h4) ⟨hd, ha, all2_app (plain_ws _ _ _ h5) ⟨hb, h6, plain_ws _ _ _ h⟩⟩)⟩⟩
def txX (x : Txx) (D A B : Value) : List C := txC x (.ex D) (.ex A) (.ex B)
/-- Cells of words and told slices stand for one value alone. -/
theorem ws_one {f : Nat → W} {E E' : Env} : ∀ (n i : Nat) {vs us : List Value}, All2 (C.is E) (wsC f i n) vs → All2 (C.is E') (wsC f i n) us → us = vs
  | 0, _, [], [], _, _ => rfl
  | n + 1, i, v :: vs, u :: us, h, h' => by
    have e1 : v = .int .u64 ((f i).toNat : Int) := h.1
    have e2 : u = .int .u64 ((f i).toNat : Int) := h'.1
    rw [e1, e2, ws_one n (i + 1) h.2 h'.2]
theorem b8_one {f : Nat → BitVec 8} {E E' : Env} : ∀ (n i : Nat) {vs us : List Value}, All2 (C.is E) (b8 f i n) vs → All2 (C.is E') (b8 f i n) us → us = vs
  | 0, _, [], [], _, _ => rfl
  | n + 1, i, v :: vs, u :: us, h, h' => by
    have e1 : v = .int .u8 ((f i).toNat : Int) := h.1
    have e2 : u = .int .u8 ((f i).toNat : Int) := h'.1
    rw [e1, e2, b8_one n (i + 1) h.2 h'.2]
theorem txX_one {x : Txx} {D A B : Value} {E E' : Env} {u v : Value} (h : (V.ag (txX x D A B)).is E v) (h' : (V.ag (txX x D A B)).is E' u) : u = v := by
  obtain ⟨vs, rfl, h⟩ := h
  obtain ⟨us, rfl, h'⟩ := h'
  unfold txX txC at h h'
  match vs, us, h, h' with
  | v0 :: vs, u0 :: us, ⟨h0, h⟩, ⟨k0, h'⟩ =>
    obtain ⟨v1, vs, rfl, h1, h⟩ := all2_split h
    obtain ⟨u1, us, rfl, k1, h'⟩ := all2_split h'
    match vs, us, h, h' with
    | v2 :: vs, u2 :: us, ⟨h2, h⟩, ⟨k2, h'⟩ =>
      obtain ⟨v3, vs, rfl, h3, h⟩ := all2_split h
      obtain ⟨u3, us, rfl, k3, h'⟩ := all2_split h'
      obtain ⟨v4, vs, rfl, h4, h⟩ := all2_split h
      obtain ⟨u4, us, rfl, k4, h'⟩ := all2_split h'
      match vs, us, h, h' with
      | D1 :: A1 :: vs, D2 :: A2 :: us, ⟨hD, hA, h⟩, ⟨kD, kA, h'⟩ =>
        obtain ⟨v5, vs, rfl, h5, h⟩ := all2_split h
        obtain ⟨u5, us, rfl, k5, h'⟩ := all2_split h'
        match vs, us, h, h' with
        | B1 :: v6 :: vs, B2 :: u6 :: us, ⟨hB, h6, h⟩, ⟨kB, k6, h'⟩ =>
          have e0 : u0 = v0 := by rw [show u0 = _ from k0, show v0 = _ from h0]
          have e2 : u2 = v2 := by rw [show u2 = _ from k2, show v2 = _ from h2]
          have e6 : u6 = v6 := by rw [show u6 = _ from k6, show v6 = _ from h6]
          rw [e0, e2, e6, ws_one _ _ h1 k1, b8_one _ _ h3 k3, ws_one _ _ h4 k4, hD.1.trans kD.1.symm, hA.1.trans kA.1.symm, hB.1.trans kB.1.symm, ws_one _ _ h5 k5, ws_one _ _ h h']
/-- A transaction, its slices told. -/
theorem TxAt.told {w : World} {u : Value} {x : Txx} (h : TxAt w u x) : ∃ D A B : Value, (∃ a l k, D = .slice a l k) ∧ (∃ a l k, A = .slice a l k) ∧ (∃ a l k, B = .slice a l k) ∧ ∀ E : Env, (V.ag (txX x D A B)).is E u := by
  obtain ⟨bd, m, E, _, _, _, hh, vs, rfl, hvs⟩ := h
  obtain ⟨D, A, B, hD, hA, hB, hall⟩ := tx_parts hvs
  have sD : ∃ a l k, D = .slice a l k := hh.ok 0 D hD
  have sA : ∃ a l k, A = .slice a l k := by obtain ⟨q, c, e, _⟩ := hA; exact ⟨_, _, _, e⟩
  have sB : ∃ a l k, B = .slice a l k := by obtain ⟨q, c, e, _⟩ := hB; exact ⟨_, _, _, e⟩
  exact ⟨D, A, B, sD, sA, sB, fun E' => ⟨vs, rfl, hall E' (.ex D) (.ex A) (.ex B) ⟨rfl, sD⟩ ⟨rfl, sA⟩ ⟨rfl, sB⟩⟩⟩
theorem hpIn_own {bd m : Nat} {x : Txx} {r : Nat} {R : Reg} (h : (hpIn bd m x)[r]? = some R) : R.isOwn = false := by
  match r, h with
  | 0, h => cases h; rfl
  | 1, h =>
    cases h
    cases Nat.beq m 0 <;> rfl
  | 2, h => cases h; rfl
  | t + 3, h =>
    have h' : (keyR x m 0 12)[t]? = some R := h
    rw [keyR_get] at h'
    by_cases ht : t < 12
    · rw [if_pos ht] at h'
      cases h'
      cases Nat.blt (0 + t) m <;> rfl
    · rw [if_neg ht] at h'; cases h'
theorem TxAt.grow {w w' : World} {u : Value} {x : Txx} (h : TxAt w u x) (hg : Grow w w') : TxAt w' u x := by
  obtain ⟨bd, m, E, h1, h2, h3, hh, hu⟩ := h
  refine ⟨bd, m, E, h1, h2, h3, HR.look0 hh.len (fun r R hR => (hh.at_ r R hR).keep E.le_refl fun y g hy hgb => hg.block g (hh.lt r y g hy hgb) (by simp)) (fun r R hR => hpIn_own hR) (fun r y g hy hgb => Nat.lt_of_lt_of_le (hh.lt r y g hy hgb) hg.size) hh.ok, hu⟩
/-- Cut twice, cut once. -/
theorem cut12_twice (k : Nat) : cut12 (cut12 k) = cut12 k := by
  have h := (cut12_le k).1
  generalize cut12 k = q at *
  unfold cut12
  have : Nat.blt 12 q = false := by
    cases h2 : Nat.blt 12 q with
    | false => rfl
    | true => have := Nat.le_of_ble_eq_true h2; omega
  rw [this]
  rfl
theorem cutX_twice (x : Txx) (m : Nat) : cutX (cutX x m) m = cutX x m := by
  unfold cutX kCut
  simp only [cut12_twice, List.take_take, Nat.min_self]
theorem Does.go {P : Program} {l l' : List Code} {s s1 : St} (h : DoesL P l s .normal s1) {B : Nat → Prop} {w0 wc : World} {E : Env} {a : Act} {w : World} {Q : Exit → Act → World → Prop} (hR : Rel B w0 wc E s a w)
    (hn : ∀ (E' : Env) (a' : Act) (w' : World), E.le E' → Rel B w0 wc E' s1 a' w' → wpL P l' Q a' w') : wpL P (l ++ l') Q a w := by
  have key : ∀ (l : List Code) (a : Act) (w : World), wpL P l (Exit.then (wpL P l' Q) Q) a w → wpL P (l ++ l') Q a w := by
    intro l
    induction l with
    | nil => intro a w h; exact h
    | cons c cs ih =>
      intro a w h
      refine Code.wp_mono (fun e a w h => ?_) h
      cases e with
      | normal => exact ih a w h
      | _ => exact h
  exact key l a w (h B w0 wc E a w _ hR fun E1 a1 w1 hE hR1 => hn E1 a1 w1 hE hR1)
/-! regions whose operations only make memory -/
/-- what an operation does, from what it waits for -/
def OpK (B : Nat → Prop) (w0 : World) (E : Env) (hp0 : List Reg) (J : World → Prop) (n : Nat) (baseL : List (Nat × V)) (pre : Nat → Prop) (K : Nat → World → Value → Prop) (d : Nat → Nat) (k : World → Value → Prop) (o : Oper) : Prop :=
  ∀ (a : Act) (w : World) (Kn : Act → World → Prop) (Q : Exit → Act → World → Prop), HR B w0 E hp0 w → J w → a.tmps.size = n → a.defers = [] → (∀ p ∈ baseL, SlotIs E a p.1 p.2) → (∀ i, pre i → ∃ u, a.tmps[d i]? = some u ∧ K i w u) →
    (∀ u w', Grow w w' → k w' u → Kn (a.put o.dst u) w') → o.wp Try.prog a w Kn Q
section
variable {B : Nat → Prop} {w0 : World} {E : Env} {hp0 : List Reg} {J : World → Prop} {n N : Nat} {baseL : List (Nat × V)} {K : Nat → World → Value → Prop} {d : Nat → Nat} {ops : Array Oper} {Q : Exit → Act → World → Prop} {a : Act} {w : World}
theorem region_kinds {id : Nat} (hJ : ∀ w w', Grow w w' → J w → J w') (hK : ∀ i w w' u, Grow w w' → K i w u → K i w' u) (hsz : ops.size = N)
    (hop : ∀ j, j < N → ∃ o, ops[j]? = some o ∧ o.guard = none ∧ o.dst = some (d j) ∧ OpK B w0 E hp0 J n baseL (fun i => i < N ∧ edgeB ops j i = true) K d (K j) o)
    (hdown : ∀ i, i < N → downB ops i = true) (hd : ∀ i j, i < N → j < N → d i = d j → i = j) (hdn : ∀ j, j < N → d j < n) (hb : ∀ p ∈ baseL, ∀ j, j < N → p.1 ≠ d j)
    (hh : HR B w0 E hp0 w) (hj : J w) (hts : a.tmps.size = n) (hdf : a.defers = []) (hbs : ∀ p ∈ baseL, SlotIs E a p.1 p.2)
    (hQ : ∀ (a' : Act) (w' : World), HR B w0 E hp0 w' → J w' → a'.tmps.size = n → a'.defers = [] → (∀ p ∈ baseL, SlotIs E a' p.1 p.2) → (∀ j, j < N → ∃ u, a'.tmps[d j]? = some u ∧ K j w' u) → Q .normal a' w') : (Code.region id ops true).wp Try.prog Q a w := by
  refine wp_region_any fol ?_
  refine wpAny_inv (md := .any) (fun listed a' w' => listed.size = N ∧ J w' ∧ a'.defers = [] ∧ a'.tmps.size = n ∧ (∀ p ∈ baseL, SlotIs E a' p.1 p.2) ∧ (∀ j, j < N → listed.getD j true = true → ∃ u, a'.tmps[d j]? = some u ∧ K j w' u) ∧ HR B w0 E hp0 w') ?_ ?_ ops.size _ a _ ?_ ?_
  · rintro listed a1 w1 i ⟨hls, hj1, hdf1, hts1, hbs1, hvs, hh1⟩ hi
    obtain ⟨_, oi, hoi, _⟩ := mem_ready.1 hi
    have hiN : i < N := by rw [← hsz]; exact (Array.getElem?_eq_some_iff.1 hoi).1
    obtain ⟨o, ho, hgd, hdst, hst⟩ := hop i hiN
    refine wp_op_of ho hgd (hst a1 w1 _ Q hh1 hj1 hts1 hdf1 hbs1 (fun k hk => hvs k hk.1 (edge_is hi hk.2)) fun u w2 hg2 hu => ?_)
    rw [hdst]
    refine ⟨by simpa using hls, hJ _ _ hg2 hj1, hdf1, by simp [Act.put, hts1], fun p hp => (hbs1 p hp).put_ne (hb p hp i hiN), fun j hj hlj => ?_, hh1.grow hg2⟩
    by_cases hji : j = i
    · subst hji
      exact ⟨u, by simp [Act.put, hts1, hdn _ hiN], hu⟩
    · rcases getD_set_eq hlj with h | h
      · exact absurd h hji
      · obtain ⟨u2, h1, h2⟩ := hvs j hj h
        exact ⟨u2, by rw [← h1]; simp [Act.put, Array.getElem?_setIfInBounds_ne (fun e => hji (hd j i hj hiN e.symm))], hK _ _ _ _ hg2 h2⟩
  · rintro listed a1 w1 ⟨hls, hj1, hdf1, hts1, hbs1, hvs, hh1⟩ hr
    have all : ∀ j, j < N → listed.getD j true = true := by
      intro j hj
      cases hc : listed.getD j true with
      | true => rfl
      | false => exact absurd hr (ready_some hdown hls j hj hc)
    exact hQ a1 w1 hh1 hj1 hts1 hdf1 hbs1 fun j hj => hvs j hj (all j hj)
  · refine Nat.le_trans (openN_le _) ?_
    simp
  · have fresh : ∀ j, j < N → (Array.replicate ops.size false).getD j true = false := fun j hj => by simp [Array.getD, hsz, hj]
    refine ⟨by simp [hsz], hJ _ _ (Grow.drawn w) hj, hdf, hts, hbs, fun j hj h => ?_, hh.grow (Grow.drawn w)⟩
    rw [fresh j hj] at h; cases h
/-- the same, one operation after another -/
theorem list_kinds (hJ : ∀ w w', Grow w w' → J w → J w') (hK : ∀ i w w' u, Grow w w' → K i w u → K i w' u) (hd : ∀ i j, i < N → j < N → d i = d j → i = j) (hdn : ∀ j, j < N → d j < n) (hb : ∀ p ∈ baseL, ∀ j, j < N → p.1 ≠ d j) :
    ∀ (l : List Oper) (s : Nat), s + l.length = N → (∀ j o, l[j]? = some o → o.guard = none ∧ o.dst = some (d (s + j)) ∧ OpK B w0 E hp0 J n baseL (fun i => i < s + j) K d (K (s + j)) o) →
    ∀ (a : Act) (w : World), HR B w0 E hp0 w → J w → a.tmps.size = n → a.defers = [] → (∀ p ∈ baseL, SlotIs E a p.1 p.2) → (∀ j, j < s → ∃ u, a.tmps[d j]? = some u ∧ K j w u) →
    (∀ (a' : Act) (w' : World), HR B w0 E hp0 w' → J w' → a'.tmps.size = n → a'.defers = [] → (∀ p ∈ baseL, SlotIs E a' p.1 p.2) → (∀ j, j < N → ∃ u, a'.tmps[d j]? = some u ∧ K j w' u) → Q .normal a' w') → wpList Try.prog ops Q l a w
  | [], s, hs, _, a, w, hh, hj, hts, hdf, hbs, hvs, hQ => hQ a w hh hj hts hdf hbs fun j hj' => hvs j (by simp at hs; omega)
  | o :: rest, s, hs, hop, a, w, hh, hj, hts, hdf, hbs, hvs, hQ => by
    obtain ⟨hg, hdst, hst⟩ := hop 0 o rfl
    rw [Nat.add_zero] at hdst hst
    have hs' : s < N := by simp at hs; omega
    unfold wpList
    have hw : Region.wanted o (yielded ops a.tmps) = true := by unfold Region.wanted; rw [hg]
    rw [if_pos hw]
    refine .inl (hst a w _ Q hh hj hts hdf hbs (fun i hi => hvs i hi) fun u w2 hg2 hu => ?_)
    rw [hdst]
    refine list_kinds hJ hK hd hdn hb rest (s + 1) (by simp at hs; omega) (fun j o' hj' => ?_) _ w2 (hh.grow hg2) (hJ _ _ hg2 hj) (by simp [Act.put, hts]) hdf (fun p hp => (hbs p hp).put_ne (hb p hp s hs')) (fun j hj' => ?_) hQ
    · have := hop (j + 1) o' hj'
      rw [show s + (j + 1) = s + 1 + j by omega] at this
      exact this
    · by_cases hji : j = s
      · subst hji
        exact ⟨u, by simp [Act.put, hts, hdn _ hs'], hu⟩
      · obtain ⟨u2, h1, h2⟩ := hvs j (by omega)
        exact ⟨u2, by rw [← h1]; simp [Act.put, Array.getElem?_setIfInBounds_ne (fun e => hji (hd j s (by omega) hs' e.symm))], hK _ _ _ _ hg2 h2⟩
end
end Go.Proofs.Sx
