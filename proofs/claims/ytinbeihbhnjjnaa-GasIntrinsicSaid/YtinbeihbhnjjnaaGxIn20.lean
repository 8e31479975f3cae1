/- The law on what a transaction takes: its argument is a transaction. -/
import Derived.Test.YtinbeihbhnjjnaaGxIn19
namespace Go.Proofs.Sx
open Go Go.RowKit Go.ChangeShapes
set_option linter.unusedVariables false
section
variable {H : Type} {enc : TypeId × Value → H} {W : World}
set_option maxRecDepth 100000 in
theorem tx_open {base : Nat} {v : Value} {d : DataW H} {p : List MemPlace} (hval : Value.okWide Try.prog W .any base 51 v) (h : DataW.Trod enc Try.prog W 0 (fun _ => true) true 51 v d p) : ∃ x : Txx, TxAt W v x := by
  obtain ⟨g, rfl, hg⟩ := agg_open a51 t51 n51 rfl hval
  obtain ⟨fuel, h⟩ := h
  have hcs : (Value.agg ((List.range 53).map g).toArray).cells.toList = (List.range 53).map g := by simp [Value.cells]
  rw [hcs] at h
  obtain ⟨xs, n1, _, _, _, hx, hall⟩ := DataW.trod_struct u51' h
  have hfd := fd51
  simp only [Bool.and_eq_true] at hfd
  obtain ⟨fd, ed, od, td⟩ := fieldIs_is hfd.1
  obtain ⟨fa, ea, oa, ta⟩ := fieldIs_is hfd.2.1
  obtain ⟨fb, eb, ob, tb⟩ := fieldIs_is hfd.2.2
  have ld : 9 < xs.length := by rw [hx]; exact (Array.getElem?_eq_some_iff.1 ed).1
  have la : 10 < xs.length := by rw [hx]; exact (Array.getElem?_eq_some_iff.1 ea).1
  have lb : 12 < xs.length := by rw [hx]; exact (Array.getElem?_eq_some_iff.1 eb).1
  have hd := hall 9 fd ed
  have ha := hall 10 fa ea
  have hb := hall 12 fb eb
  rw [od, td, c47', List.getElem?_eq_getElem ld] at hd
  rw [oa, ta, c48', List.getElem?_eq_getElem la] at ha
  rw [ob, tb, c49', List.getElem?_eq_getElem lb] at hb
  have s37 : (((List.range 53).map g).drop 37).take 1 = [g 37] := rfl
  have s38 : (((List.range 53).map g).drop 38).take 1 = [g 38] := rfl
  have s43 : (((List.range 53).map g).drop 43).take 1 = [g 43] := rfl
  rw [s37] at hd
  rw [s38] at ha
  rw [s43] at hb
  obtain ⟨b, DA, DK, eD, hbK, hKm, hbc, hDlt⟩ := data_open (hg 37 (by decide)) hd
  obtain ⟨n, eA, A, K, ek, hA, hAlt, hAok, hrows⟩ := acc_open ha
  obtain ⟨kb, eB, hB, hBr, hBlt, hBok⟩ := keys_open hb
  -- the places
  obtain ⟨m, hm, hmn⟩ : ∃ m, m ≤ 12 ∧ (m = n ∨ (m = 12 ∧ 12 < n)) := by
    rcases Nat.lt_or_ge 12 n with h | h
    · exact ⟨12, Nat.le_refl _, .inr ⟨rfl, h⟩⟩
    · exact ⟨n, h, .inl rfl⟩
  generalize hf : (fun j => if j < m then ek j else nilE) = f
  have fj : ∀ j, j < m → f j = ek j := fun j hj => by rw [← hf]; simp only [if_pos hj]
  have fn : ∀ j, ¬ j < m → f j = nilE := fun j hj => by rw [← hf]; simp only [if_neg hj]
  have hkey : ∀ j, j < m → ∃ s, KeyAt W s (K j) (ek j) := fun j hj => by
    obtain ⟨_, _, _, _, s, _, hk⟩ := hrows j (by omega)
    exact ⟨s, hk⟩
  let x : Txx := { kind := valZ (g 0), w := fun k => valW (g (posW k)), make := valB (g 12), to := fun k => valB8 (g (13 + k)), odd := valB (g 44), b := b, n := n, A := A, K := K, kb := kb }
  have hreg : ∀ t, (Ent.sv (g 37) :: eA :: eB :: (List.range' 0 12).map f)[t + 3]? = if t < 12 then some (f t) else none := fun t => by
    show ((List.range' 0 12).map f)[t]? = _
    rw [pick_get, Nat.zero_add]
  have hregs : ∀ (r : Nat) (y : Ent), (Ent.sv (g 37) :: eA :: eB :: (List.range' 0 12).map f)[r]? = some y → (r = 0 ∧ y = .sv (g 37)) ∨ (r = 1 ∧ y = eA) ∨ (r = 2 ∧ y = eB) ∨ ∃ t, r = t + 3 ∧ t < 12 ∧ y = f t := by
    intro r y hy
    match r, hy with
    | 0, hy => cases hy; exact .inl ⟨rfl, rfl⟩
    | 1, hy => cases hy; exact .inr (.inl ⟨rfl, rfl⟩)
    | 2, hy => cases hy; exact .inr (.inr (.inl ⟨rfl, rfl⟩))
    | t + 3, hy =>
      rw [hreg] at hy
      by_cases ht : t < 12
      · rw [if_pos ht] at hy
        cases hy
        exact .inr (.inr (.inr ⟨t, rfl, ht, rfl⟩))
      · rw [if_neg ht] at hy; cases hy
  obtain ⟨bd, hbd⟩ : ∃ bd, (bd = 800 ∧ b.length ≤ 800) ∨ (bd = 9223372036854775807 ∧ 800 < b.length) := by
    rcases Nat.lt_or_ge 800 b.length with h | h
    · exact ⟨_, .inr ⟨rfl, h⟩⟩
    · exact ⟨_, .inl ⟨rfl, h⟩⟩
  have hbbd : b.length ≤ bd := by
    rcases hbd with ⟨rfl, h⟩ | ⟨rfl, h⟩
    · exact h
    · simp only [maxLen] at hKm; omega
  refine ⟨x, bd, m, ⟨.sv (g 37) :: eA :: eB :: (List.range' 0 12).map f⟩, hm, hmn, hbd, HR.look0 ?_ (fun r R hr => ?_) (fun r R hr => hpIn_own hr) (fun r y q hy hq => ?_) (fun r u hu => ?_), _, rfl, ?_⟩
  · rw [← regLen_eq, hpIn_len]
    simp
  · match r, hr with
    | 0, hr =>
      cases hr
      exact ⟨DA, DK, by rw [← eD]; rfl, hbbd, hbK, hKm, hbc⟩
    | 1, hr =>
      have hr' : R = bif Nat.beq m 0 then .dead else .win (accC x x.K 3 1 0 m) := (Option.some.inj hr).symm
      subst hr'
      cases hb0 : Nat.beq m 0 with
      | true => trivial
      | false =>
        have hpos : 0 < m := by
          rcases Nat.eq_zero_or_pos m with h0 | h0
          · rw [h0] at hb0; cases hb0
          · exact h0
        obtain ⟨ga, oa', rfl, _⟩ := hrows 0 (by omega)
        refine ⟨ga, oa', rfl, fun q c hq => win_acc (x := x) m 0 oa' (fun t ht => ?_) q c hq⟩
        obtain ⟨g2, o2, e2, hrow⟩ := hrows t (by omega)
        cases e2
        refine ⟨ek t, by rw [Nat.zero_add]; exact hrow, fun _ => ?_⟩
        rw [show 3 + 1 * (0 + t) = t + 3 by omega]
        show (Ent.sv (g 37) :: Ent.at_ ga oa' :: eB :: (List.range' 0 12).map f)[t + 3]? = _
        rw [hreg, if_pos (by omega), fj t ht]
    | 2, hr =>
      cases hr
      rcases hBr with h0 | ⟨g2, o2, f2, rfl, h2⟩
      · exact .inl h0
      · exact .inr ⟨g2, o2, f2, rfl, h2⟩
    | t + 3, hr =>
      have hr' : (keyR x m 0 12)[t]? = some R := hr
      rw [keyR_get] at hr'
      by_cases ht : t < 12
      · rw [if_pos ht, Nat.zero_add] at hr'
        cases hr'
        by_cases hm' : t < m
        · rw [show Nat.blt t m = true from Nat.ble_eq_true_of_le hm']
          obtain ⟨s, _, hk2, _⟩ := hkey t hm'
          rcases hk2 with h0 | ⟨g2, o2, f2, h1, h2⟩
          · exact .inl h0
          · refine .inr ⟨g2, o2, f2, ?_, h2⟩
            show (Ent.sv (g 37) :: eA :: eB :: (List.range' 0 12).map f)[t + 3]? = _
            rw [hreg, if_pos ht, fj t hm', h1]
        · have : Nat.blt t m = false := by
            cases h : Nat.blt t m with
            | false => rfl
            | true => exact absurd (Nat.le_of_ble_eq_true h) hm'
          rw [this]
          trivial
      · rw [if_neg ht] at hr'; cases hr'
  · rcases hregs r y hy with ⟨_, rfl⟩ | ⟨_, rfl⟩ | ⟨_, rfl⟩ | ⟨t, _, _, rfl⟩
    · exact hDlt q hq
    · exact hAlt q hq
    · exact hBlt q hq
    · by_cases ht : t < m
      · rw [fj t ht] at hq
        obtain ⟨s, _, _, h3, _⟩ := hkey t ht
        exact h3 q hq
      · rw [fn t ht] at hq; cases hq
  · rcases hregs r _ hu with ⟨_, h⟩ | ⟨_, h⟩ | ⟨_, h⟩ | ⟨t, _, _, h⟩
    · cases h
      exact ⟨_, _, _, eD⟩
    · exact hAok u h.symm
    · exact hBok u h.symm
    · by_cases ht : t < m
      · rw [fj t ht] at h
        obtain ⟨s, _, _, _, h4⟩ := hkey t ht
        exact h4 u h.symm
      · rw [fn t ht] at h
        cases h
        exact ⟨_, _, _, rfl⟩
  · rw [split51]
    have w22 : ∀ i, i < 53 → ts51.getD i 0 = 22 → ∀ E : Env, (C.w64 (valW (g i))).is E (g i) := fun i hi ht E => cell22 (by rw [← ht]; exact hg i hi)
    have w5 : ∀ i, i < 53 → ts51.getD i 0 = 5 → ∀ E : Env, (C.w8 (valB8 (g i))).is E (g i) := fun i hi ht E => cell5 (by rw [← ht]; exact hg i hi)
    refine ⟨cell3 (hg 0 (by decide)), all2_app (ws_seg 11 0 1 fun k hk => ?_) ⟨cell4b (hg 12 (by decide)), all2_app (b8_seg 20 0 13 fun k hk => ?_) (all2_app (ws_seg 4 11 33 fun k hk => ?_) ⟨rfl, ?_, all2_app (ws_seg 4 15 39 fun k hk => ?_) ⟨?_, cell4b (hg 44 (by decide)), ws_seg 8 19 45 fun k hk => ?_⟩⟩)⟩⟩
    · have e : posW (0 + k) = 1 + k := by unfold posW; rw [if_pos (by omega)]; omega
      show (C.w64 (valW (g (posW (0 + k))))).is _ _
      rw [e]
      refine w22 _ (by omega) ?_ _
      have : ∀ k : Fin 11, ts51.getD (1 + k.1) 0 = 22 := by decide
      exact this ⟨k, hk⟩
    · show (C.w8 (valB8 (g (13 + (0 + k))))).is _ _
      rw [Nat.zero_add]
      refine w5 _ (by omega) ?_ _
      have : ∀ k : Fin 20, ts51.getD (13 + k.1) 0 = 5 := by decide
      exact this ⟨k, hk⟩
    · have e : posW (11 + k) = 33 + k := by unfold posW; rw [if_neg (by omega), if_pos (by omega)]; omega
      show (C.w64 (valW (g (posW (11 + k))))).is _ _
      rw [e]
      refine w22 _ (by omega) ?_ _
      have : ∀ k : Fin 4, ts51.getD (33 + k.1) 0 = 22 := by decide
      exact this ⟨k, hk⟩
    · obtain ⟨Ao, c, h1, h2, h3⟩ := hA
      exact ⟨Ao, c, h1, h2, fun h0 => by
        obtain ⟨g2, o2, h4, h5⟩ := h3 h0
        exact ⟨g2, o2, by rw [← h4]; rfl, h5⟩⟩
    · have e : posW (15 + k) = 39 + k := by unfold posW; rw [if_neg (by omega), if_neg (by omega), if_pos (by omega)]; omega
      show (C.w64 (valW (g (posW (15 + k))))).is _ _
      rw [e]
      refine w22 _ (by omega) ?_ _
      have : ∀ k : Fin 4, ts51.getD (39 + k.1) 0 = 22 := by decide
      exact this ⟨k, hk⟩
    · obtain ⟨Ao, c, h1, h2, h3⟩ := hB
      exact ⟨Ao, c, h1, h2, fun h0 => by
        obtain ⟨g2, o2, h4, h5⟩ := h3 h0
        exact ⟨g2, o2, by rw [← h4]; rfl, h5⟩⟩
    · have e : posW (19 + k) = 45 + k := by unfold posW; rw [if_neg (by omega), if_neg (by omega), if_neg (by omega)]; omega
      show (C.w64 (valW (g (posW (19 + k))))).is _ _
      rw [e]
      refine w22 _ (by omega) ?_ _
      have : ∀ k : Fin 8, ts51.getD (45 + k.1) 0 = 22 := by decide
      exact this ⟨k, hk⟩
end
end Go.Proofs.Sx
