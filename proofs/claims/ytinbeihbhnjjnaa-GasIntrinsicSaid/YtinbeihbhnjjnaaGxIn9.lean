/- Twin: what it hands back, wherever the transaction lies. -/
import Derived.Test.YtinbeihbhnjjnaaGxIn8
namespace Go.Proofs.Sx
open Go
set_option linter.unusedVariables false
/-- u is the transaction x, in the world w. -/
def TxAt (w : World) (u : Value) (x : Txx) : Prop := ∃ (bd m : Nat) (E : Env), m ≤ 12 ∧ (m = x.n ∨ (m = 12 ∧ 12 < x.n)) ∧ ((bd = 800 ∧ x.b.length ≤ 800) ∨ (bd = 9223372036854775807 ∧ 800 < x.b.length)) ∧ HR (fun _ => False) w E (hpIn bd m x) w ∧ (V.ag (txIn x)).is E u
def cutX (x : Txx) (m : Nat) : Txx := { x with b := x.b.take 800, n := m, K := kCut x, kb := cut12 x.kb }
theorem HR.look0 {w : World} {E : Env} {hp : List Reg} (hlen : hp.length = E.reg.length) (hat : ∀ (r : Nat) (R : Reg), hp[r]? = some R → RegIs E w r R) (hno : ∀ (r : Nat) (R : Reg), hp[r]? = some R → R.isOwn = false)
    (hlt : ∀ (r : Nat) (x : Ent) (g : Nat), E.reg[r]? = some x → x.blk = some g → g < w.heap.size) (hok : SlicesOk E) : HR (fun _ => False) w E hp w :=
  ⟨hlen, hat, fun r r' R R' x x' g h1 h2 => (by rw [hno r R h1] at h2; cases h2), fun r R x g h1 h2 => (by rw [hno r R h1] at h2; cases h2), hlt, hok, rfl, rfl, rfl, Nat.le_refl _, fun _ _ _ => rfl⟩
/-- Cells said in other letters. -/
def Conv (E E' : Env) (cs cs' : List C) : Prop := All2 (fun c c' => ∀ v : Value, c.is E v → c'.is E' v) cs cs'
theorem Conv.is {E E' : Env} : ∀ {cs cs' : List C} {vs : List Value}, Conv E E' cs cs' → All2 (C.is E) cs vs → All2 (C.is E') cs' vs
  | [], [], [], _, _ => trivial
  | _ :: _, _ :: _, _ :: _, h, h' => ⟨h.1 _ h'.1, Conv.is h.2 h'.2⟩
  | [], _ :: _, _, h, _ => h.elim
  | _ :: _, [], _, h, _ => h.elim
theorem Conv.app {E E' : Env} : ∀ {cs cs' ds ds' : List C}, Conv E E' cs cs' → Conv E E' ds ds' → Conv E E' (cs ++ ds) (cs' ++ ds')
  | [], [], _, _, _, h' => h'
  | _ :: _, _ :: _, _, _, h, h' => ⟨h.1, Conv.app h.2 h'⟩
  | [], _ :: _, _, _, h, _ => h.elim
  | _ :: _, [], _, _, h, _ => h.elim
theorem conv_b8 {E E' : Env} (f : Nat → BitVec 8) : ∀ (n i : Nat), Conv E E' (b8 f i n) (b8 f i n)
  | 0, _ => trivial
  | n + 1, i => ⟨fun _ h => h, conv_b8 f n (i + 1)⟩
theorem conv_ws {E E' : Env} (f : Nat → W) : ∀ (n i : Nat), Conv E E' (wsC f i n) (wsC f i n)
  | 0, _ => trivial
  | n + 1, i => ⟨fun _ h => h, conv_ws f n (i + 1)⟩
theorem conv_tx {E E' : Env} {x x' : Txx} {d a b d' a' b' : C} (h1 : x'.kind = x.kind) (h2 : x'.w = x.w) (h3 : x'.make = x.make) (h4 : x'.to = x.to) (h5 : x'.odd = x.odd) (hd : ∀ v, d.is E v → d'.is E' v) (ha : ∀ v, a.is E v → a'.is E' v) (hb : ∀ v, b.is E v → b'.is E' v) :
    Conv E E' (txC x d a b) (txC x' d' a' b') := by
  unfold txC
  rw [h1, h2, h3, h4, h5]
  exact ⟨fun _ h => h, (conv_ws _ _ _).app ⟨fun _ h => h, (conv_b8 _ _ _).app ((conv_ws _ _ _).app ⟨hd, ha, (conv_ws _ _ _).app ⟨hb, fun _ h => h, conv_ws _ _ _⟩⟩)⟩⟩
theorem conv_acc {E E' : Env} {x x' : Txx} {K : Nat → Nat} {r0 s r0' s' : Nat} (hA : x'.A = x.A) : ∀ (n j : Nat), (∀ t, j ≤ t → t < j + n → ∀ v, (C.qv (r0 + s * t) (K t)).is E v → (C.qv (r0' + s' * t) (K t)).is E' v) → Conv E E' (accC x K r0 s j n) (accC x' K r0' s' j n)
  | 0, _, _ => trivial
  | n + 1, j, h => by
    unfold accC
    rw [hA]
    exact (conv_b8 _ _ _).app ⟨h j (Nat.le_refl _) (by omega), conv_acc hA n (j + 1) fun t h1 h2 => h t (by omega) (by omega)⟩
theorem keyR_get (x : Txx) (m : Nat) : ∀ (n j t : Nat), (keyR x m j n)[t]? = if t < n then some (bif Nat.blt (j + t) m then .rw (x.K (j + t) * 32) else .dead) else none
  | 0, j, t => by simp [keyR]
  | n + 1, j, 0 => by simp [keyR]
  | n + 1, j, t + 1 => by
    show (keyR x m (j + 1) n)[t]? = _
    rw [keyR_get x m n (j + 1) t, show j + 1 + t = j + (t + 1) by omega]
    by_cases h : t < n
    · rw [if_pos h, if_pos (by omega)]
    · rw [if_neg h, if_neg (by omega)]
theorem itR_len (x : Txx) (i : Nat) : ∀ (n j : Nat), (itR x i j n).length = 3 * n
  | 0, _ => rfl
  | n + 1, j => by
    show (itR x i (j + 1) n).length + 3 = _
    rw [itR_len x i n (j + 1)]
    omega
theorem itR_get (x : Txx) (i : Nat) : ∀ (n j t : Nat), t < n → (itR x i j n)[3 * t]? = some (.rw (kCut x (j + t) * 32)) ∧ (itR x i j n)[3 * t + 2]? = some (bif Nat.beq (j + t + 1) i then .dyc 82 21 i (accC x (kCut x) 19 3 0 i) else .dead)
  | 0, _, t, h => by omega
  | n + 1, j, 0, _ => ⟨rfl, rfl⟩
  | n + 1, j, t + 1, h => by
    obtain ⟨h1, h2⟩ := itR_get x i n (j + 1) t (by omega)
    rw [show j + 1 + t = j + (t + 1) by omega] at h1 h2
    exact ⟨h1, h2⟩
section
variable {bd m : Nat} {x : Txx} {b' : By}
theorem hpF_tail (t : Nat) : (hpF bd m x b')[15 + t]? = (Reg.own 51 (txOut m x) :: .own 51 (txOut m x) :: .dead :: .dyn 5 b' 800 :: (itR x m 0 m ++ [.rw (cut12 x.kb * 32)]))[t]? := by
  unfold hpF
  have e : (hpIn bd m x).length = 15 := by rw [← regLen_eq]; exact hpIn_len
  rw [List.getElem?_append_right (by omega), e]
  congr 1
  omega
theorem hpF_box : (hpF bd m x b')[15]? = some (.own 51 (txOut m x)) := hpF_tail 0
theorem hpF_dyn : (hpF bd m x b')[18]? = some (.dyn 5 b' 800) := hpF_tail 3
theorem hpF_its (t : Nat) (h : t < 3 * m) : (hpF bd m x b')[19 + t]? = (itR x m 0 m)[t]? := by
  have h1 := hpF_tail (bd := bd) (m := m) (x := x) (b' := b') (t + 4)
  rw [show 15 + (t + 4) = 19 + t by omega] at h1
  rw [h1]
  show (itR x m 0 m ++ [Reg.rw (cut12 x.kb * 32)])[t]? = _
  rw [List.getElem?_append_left (by rw [itR_len]; exact h)]
theorem hpF_key {j : Nat} (h : j < m) : (hpF bd m x b')[19 + 3 * j]? = some (.rw (kCut x j * 32)) := by
  rw [hpF_its _ (by omega)]
  have := (itR_get x m m 0 j h).1
  rw [Nat.zero_add] at this
  exact this
theorem hpF_row {k : Nat} (h : m = k + 1) : (hpF bd m x b')[21 + 3 * k]? = some (.dyc 82 21 m (accC x (kCut x) 19 3 0 m)) := by
  rw [show 21 + 3 * k = 19 + (3 * k + 2) by omega, hpF_its _ (by omega)]
  have := (itR_get x m m 0 k (by omega)).2
  rw [Nat.zero_add, show Nat.beq (k + 1) m = true by rw [h]; exact Nat.beq_refl _] at this
  exact this
theorem hpF_blob : (hpF bd m x b')[19 + 3 * m]? = some (.rw (cut12 x.kb * 32)) := by
  have h1 := hpF_tail (bd := bd) (m := m) (x := x) (b' := b') (3 * m + 4)
  rw [show 15 + (3 * m + 4) = 19 + 3 * m by omega] at h1
  rw [h1]
  show (itR x m 0 m ++ [Reg.rw (cut12 x.kb * 32)])[3 * m]? = _
  rw [List.getElem?_append_right (by rw [itR_len]; omega), itR_len]
  simp
end
def nilE : Ent := .sv (.slice none 0 0)
/-- places looked up, one after another -/
theorem pick_get (f : Nat → Ent) : ∀ (n j t : Nat), ((List.range' j n).map f)[t]? = if t < n then some (f (j + t)) else none
  | 0, j, t => by simp
  | n + 1, j, 0 => by simp [List.range'_succ]
  | n + 1, j, t + 1 => by
    rw [List.range'_succ, List.map_cons, List.getElem?_cons_succ, pick_get f n (j + 1) t, show j + 1 + t = j + (t + 1) by omega]
    by_cases h : t < n
    · rw [if_pos h, if_pos (by omega)]
    · rw [if_neg h, if_neg (by omega)]
theorem twin_out {bd m : Nat} {x : Txx} {E1 : Env} {w w1 : World} {u1 : Value} (hm : m ≤ 12) (hh : HR (fun _ => False) w E1 (hpF bd m x (x.b.take 800)) w1) (hu : (V.ag (txOut m x)).is E1 u1) : TxAt w1 u1 (cutX x m) := by
  obtain ⟨vs, rfl, hvs⟩ := hu
  have hlen : (hpF bd m x (x.b.take 800)).length = E1.reg.length := hh.len
  have ent : ∀ {r : Nat} {R : Reg}, (hpF bd m x (x.b.take 800))[r]? = some R → ∃ y, E1.reg[r]? = some y := fun {r R} h => ⟨_, List.getElem?_eq_getElem (by rw [← hlen]; exact (List.getElem?_eq_some_iff.1 h).1)⟩
  obtain ⟨eD, hD⟩ := ent hpF_dyn
  obtain ⟨eB, hB⟩ := ent hpF_blob
  obtain ⟨gx, vx, hX, _, _⟩ := hh.at_ 15 _ hpF_box
  -- the row of accesses
  have row : ∃ eA : Ent, (∀ g, eA.blk = some g → g < w1.heap.size) ∧ (∀ v, eA = .sv v → ∃ A L K, v = .slice A L K) ∧ (0 < m → ∃ g o, eA = .at_ g o ∧ ∃ xs, All2 (C.is E1) (accC x (kCut x) 19 3 0 m) xs ∧ ∀ (j : Nat) (v : Value), xs[j]? = some v → w1.cell? ⟨g, o + j, none⟩ = some v) ∧ ∀ v, (lC m).is E1 v → ∃ A c, v = .slice A m c ∧ (m < 9223372036854775808 ∧ m ≤ c ∧ c ≤ maxLen) ∧ (0 < m → ∃ g o, eA = .at_ g o ∧ A = some ⟨g, o, none⟩) := by
    cases m with
    | zero =>
      refine ⟨nilE, (fun g hg => by cases hg), (fun v hv => by cases hv; exact ⟨_, _, _, rfl⟩), (fun h => by omega), fun v hv => ?_⟩
      have hv' : v = .slice none 0 0 := hv
      exact ⟨none, 0, hv', ⟨by omega, Nat.le_refl _, Nat.zero_le _⟩, fun h => by omega⟩
    | succ k =>
      obtain ⟨v, xs, h1, h2, h3⟩ := hh.at_ _ _ (hpF_row rfl)
      rcases h2.2 with ⟨_, h4⟩ | ⟨g, cap, cur, rfl, _, _, h5, h6, _⟩
      · omega
      · obtain ⟨q1, q2⟩ := own_lt h2
        refine ⟨.at_ g 0, (fun g' hg => by cases hg; exact q2 _ rfl), (fun v hv => by cases hv), fun _ => ⟨g, 0, rfl, xs, h3, fun j u hj => ?_⟩, fun v hv => ?_⟩
        · have := h2.cells (g := g) rfl j u hj
          rw [add_off] at this
          exact this
        · have hv' : E1.reg[21 + 3 * k]? = some (.sv v) := hv
          rw [h1] at hv'
          cases hv'
          exact ⟨_, cap, rfl, ⟨by simp only [maxLen] at h6; omega, h5, h6⟩, fun _ => ⟨g, 0, rfl, rfl⟩⟩
  obtain ⟨eA, hAlt, hAok, hAcell, hAv⟩ := row
  -- the places
  have pk : ∀ j, j < m → E1.reg[19 + 3 * j]? = some ((E1.reg[19 + 3 * j]?).getD nilE) := fun j hj => by
    obtain ⟨y, hy⟩ := ent (hpF_key (x := x) (b' := x.b.take 800) (bd := bd) hj)
    rw [hy]
    rfl
  generalize hf : (fun j => if j < m then (E1.reg[19 + 3 * j]?).getD nilE else nilE) = f
  have fj : ∀ j, j < m → E1.reg[19 + 3 * j]? = some (f j) := fun j hj => by rw [pk j hj, ← hf]; simp only [if_pos hj]
  have fn : ∀ j, ¬ j < m → f j = nilE := fun j hj => by rw [← hf]; simp only [if_neg hj]
  have hreg : ∀ t, (eD :: eA :: eB :: (List.range' 0 12).map f)[t + 3]? = if t < 12 then some (f t) else none := fun t => by
    show ((List.range' 0 12).map f)[t]? = _
    rw [pick_get, Nat.zero_add]
  have hregs : ∀ (r : Nat) (y : Ent), (eD :: eA :: eB :: (List.range' 0 12).map f)[r]? = some y → (r = 0 ∧ y = eD) ∨ (r = 1 ∧ y = eA) ∨ (r = 2 ∧ y = eB) ∨ ∃ t, r = t + 3 ∧ t < 12 ∧ y = f t := by
    intro r y hy
    match r, hy with
    | 0, hy => cases hy; exact .inl ⟨rfl, rfl⟩
    | 1, hy => cases hy; exact .inr (.inl ⟨rfl, rfl⟩)
    | 2, hy => cases hy; exact .inr (.inr (.inl ⟨rfl, rfl⟩))
    | t + 3, hy =>
      rw [hreg] at hy
      by_cases ht : t < 12
      · rw [if_pos ht] at hy
        cases hy
        exact .inr (.inr (.inr ⟨t, rfl, ht, rfl⟩))
      · rw [if_neg ht] at hy; cases hy
  have qv : ∀ t, t < m → ∀ v, (C.qv (19 + 3 * t) (kCut x t)).is E1 v → (C.qv (3 + 1 * t) (kCut x t)).is ⟨eD :: eA :: eB :: (List.range' 0 12).map f⟩ v := by
    intro t ht v hv
    obtain ⟨A, c, h1, h2, h3⟩ := hv
    refine ⟨A, c, h1, h2, fun h0 => ?_⟩
    obtain ⟨g, o, h4, h5⟩ := h3 h0
    rw [fj t ht] at h4
    refine ⟨g, o, ?_, h5⟩
    rw [show 3 + 1 * t = t + 3 by omega, hreg, if_pos (by omega)]
    exact h4
  refine ⟨800, m, ⟨eD :: eA :: eB :: (List.range' 0 12).map f⟩, hm, .inl rfl, .inl ⟨rfl, by show (x.b.take 800).length ≤ 800; rw [List.length_take]; omega⟩, HR.look0 ?_ (fun r R hr => ?_) (fun r R hr => ?_) (fun r y g hy hg => ?_) (fun r v hv => ?_), vs, rfl, ?_⟩
  · rw [← regLen_eq, hpIn_len]
    simp
  · match r, hr with
    | 0, hr =>
      cases hr
      obtain ⟨A, K, h1, h2, h3, h4, h5⟩ := (hh.at_ 18 _ hpF_dyn).bytes rfl
      rw [hD] at h1
      exact ⟨A, K, h1, h2, h3, h4, h5⟩
    | 1, hr =>
      have hr' : R = bif Nat.beq m 0 then .dead else .win (accC (cutX x m) (cutX x m).K 3 1 0 m) := (Option.some.inj hr).symm
      subst hr'
      cases hb0 : Nat.beq m 0 with
      | true => trivial
      | false =>
        have hpos : 0 < m := by
          rcases Nat.eq_zero_or_pos m with h0 | h0
          · rw [h0] at hb0; cases hb0
          · exact h0
        obtain ⟨ga, oa, rfl, xs, hxs, hcell⟩ := hAcell hpos
        have hc := Conv.is (conv_acc (x := x) (x' := cutX x m) (K := kCut x) (r0 := 19) (s := 3) (r0' := 3) (s' := 1) rfl m 0 fun t _ ht => qv t (by omega)) hxs
        refine ⟨ga, oa, rfl, fun j c hj => ?_⟩
        obtain ⟨v, h1, h2⟩ := hc.get (n := j) (a := c) hj
        exact ⟨v, h2, hcell j v h1⟩
    | 2, hr =>
      cases hr
      rcases hh.at_ _ _ hpF_blob with h0 | ⟨g, o, f1, h1, h2⟩
      · exact .inl h0
      · rw [hB] at h1
        exact .inr ⟨g, o, f1, h1, h2⟩
    | t + 3, hr =>
      have hr' : (keyR (cutX x m) m 0 12)[t]? = some R := hr
      rw [keyR_get] at hr'
      by_cases ht : t < 12
      · rw [if_pos ht, Nat.zero_add] at hr'
        cases hr'
        by_cases hm' : t < m
        · rw [show Nat.blt t m = true from Nat.ble_eq_true_of_le hm']
          rcases hh.at_ _ _ (hpF_key (x := x) (b' := x.b.take 800) (bd := bd) hm') with h0 | ⟨g, o, f1, h1, h2⟩
          · exact .inl h0
          · rw [fj t hm'] at h1
            refine .inr ⟨g, o, f1, ?_, h2⟩
            show (eD :: eA :: eB :: (List.range' 0 12).map f)[t + 3]? = _
            rw [hreg, if_pos ht]
            exact h1
        · have : Nat.blt t m = false := by
            cases h : Nat.blt t m with
            | false => rfl
            | true => exact absurd (Nat.le_of_ble_eq_true h) hm'
          rw [this]
          trivial
      · rw [if_neg ht] at hr'; cases hr'
  · match r, hr with
    | 0, hr => cases hr; rfl
    | 1, hr =>
      cases hr
      cases Nat.beq m 0 <;> rfl
    | 2, hr => cases hr; rfl
    | t + 3, hr =>
      have hr' : (keyR (cutX x m) m 0 12)[t]? = some R := hr
      rw [keyR_get] at hr'
      by_cases ht : t < 12
      · rw [if_pos ht, Nat.zero_add] at hr'
        cases hr'
        cases Nat.blt t m <;> rfl
      · rw [if_neg ht] at hr'; cases hr'
  · rcases hregs r y hy with ⟨_, rfl⟩ | ⟨_, rfl⟩ | ⟨_, rfl⟩ | ⟨t, _, _, rfl⟩
    · exact hh.lt _ _ g hD hg
    · exact hAlt g hg
    · exact hh.lt _ _ g hB hg
    · by_cases ht : t < m
      · exact hh.lt _ _ g (fj t ht) hg
      · rw [fn t ht] at hg; cases hg
  · rcases hregs r _ hv with ⟨_, h⟩ | ⟨_, h⟩ | ⟨_, h⟩ | ⟨t, _, _, h⟩
    · exact hh.ok _ v (by rw [hD, h])
    · exact hAok v h.symm
    · exact hh.ok _ v (by rw [hB, h])
    · by_cases ht : t < m
      · exact hh.ok _ v (by rw [fj t ht, h])
      · rw [fn t ht] at h
        cases h
        exact ⟨_, _, _, rfl⟩
  · refine Conv.is (conv_tx rfl rfl rfl rfl rfl (fun v hv => ?_) (fun v hv => ?_) (fun v hv => ?_)) hvs
    · have hv' : E1.reg[18]? = some (.sv v) := hv
      rw [hD] at hv'
      exact hv'
    · obtain ⟨A, c, h1, h2, h3⟩ := hAv v hv
      refine ⟨A, c, h1, h2, fun h0 => ?_⟩
      obtain ⟨g, o, h4, h5⟩ := h3 h0
      exact ⟨g, o, by rw [← h4]; rfl, h5⟩
    · obtain ⟨A, c, h1, h2, h3⟩ := hv
      refine ⟨A, c, h1, h2, fun h0 => ?_⟩
      obtain ⟨g, o, h4, h5⟩ := h3 h0
      rw [hB] at h4
      exact ⟨g, o, h4, h5⟩
/-- What Twin does. -/
def TxPost (w : World) (x : Txx) (e : Ending) (w' : World) : Prop := ∃ u', e = .returned u' ∧ Grow w w' ∧ TxAt w' u' x
theorem twin_calls {w : World} {u : Value} {x : Txx} (h : TxAt w u x) : ∃ m, m ≤ 12 ∧ (m = x.n ∨ (m = 12 ∧ 12 < x.n)) ∧ Calls Try.prog 27 #[u] w (TxPost w (cutX x m)) := by
  obtain ⟨bd, m, E, hm, hn, hbd, hh, hu⟩ := h
  refine ⟨m, hm, hn, ?_⟩
  have hm13 : m ∈ List.range' 0 13 := by simp; omega
  have fin : ∀ {chg : Bool}, Runs Try.prog 27 [.ag (txIn x)] (hpIn bd m x) (.ag (txOut m x)) (hpF bd m x (x.b.take 800)) chg → Calls Try.prog 27 #[u] w (TxPost w (cutX x m)) := by
    intro chg hr
    refine Calls.mono (hr (fun _ => False) w E [u] w ⟨hu, trivial⟩ hh) fun e w1 ⟨E1, u1, _, he, hu1, hh1, _⟩ => ⟨u1, he, hh1.grew, twin_out (w := w) hm hh1 hu1⟩
  rcases hbd with ⟨rfl, hb⟩ | ⟨rfl, hb⟩
  · have e : (x.b.drop 0).take x.b.length = x.b.take 800 := by rw [List.drop_zero, List.take_length, List.take_of_length_le hb]
    obtain ⟨chg, hr⟩ := twin_of hm hn (mapAt (pA_all x) hm13) (AllT.cons (by
      have : Nat.blt 800 x.b.length = false := by
        cases h : Nat.blt 800 x.b.length with
        | false => rfl
        | true => have := Nat.le_of_ble_eq_true h; omega
      rw [this]; rfl) AllT.nil)
    rw [e] at hr
    exact fin hr
  · have e : (x.b.drop 0).take 800 = x.b.take 800 := by rw [List.drop_zero]
    obtain ⟨chg, hr⟩ := twin_of hm hn (mapAt (pA_cut 9223372036854775807 x) hm13) (AllT.cons (bleT (by omega)) (AllT.cons (Nat.ble_eq_true_of_le hb) AllT.nil))
    rw [e] at hr
    exact fin hr
end Go.Proofs.Sx
