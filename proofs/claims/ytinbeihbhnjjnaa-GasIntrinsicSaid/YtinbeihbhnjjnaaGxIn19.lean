/- The law on what a transaction takes: its argument, whole. -/
import Derived.Test.YtinbeihbhnjjnaaGxIn18
namespace Go.Proofs.Sx
open Go Go.RowKit Go.ChangeShapes
set_option linter.unusedVariables false
section
variable {H : Type} {enc : TypeId × Value → H} {W : World}
theorem lt_of_shape {w : World} {g : Nat} {x : TypeId × Nat} (h : w.shape? g = some x) : g < w.heap.size := by
  unfold World.shape? at h
  split at h
  · rename_i c e f hq
    exact (Array.getElem?_eq_some_iff.1 hq).1
  · cases h
set_option maxRecDepth 100000 in
theorem data_open {base fuel : Nat} {s : Value} {y : DataW H × List MemPlace} (hc : Cell.okWide Try.prog W .any base 47 s) (h : Tr enc W fuel 47 [s] y) :
    ∃ (b : By) (A : Option Addr) (K : Nat), s = .slice A b.length K ∧ b.length ≤ K ∧ K ≤ maxLen ∧ (∀ (j : Nat) (x : BitVec 8), b[j]? = some x → ∃ ad, A = some ad ∧ W.cell? (ad.add j) = some (B8 x)) ∧ ∀ g, s.ownBlock = some g → g < W.heap.size := by
  rcases open_ints u47' u5' c5' h with ⟨h0, _⟩ | ⟨a, len, cap, zs, hcs, _, hl, hm, hz, _, hcell, hwf⟩
  · simp only [List.cons.injEq, and_true] at h0
    subst h0
    exact ⟨[], none, 0, rfl, Nat.le_refl _, Nat.zero_le _, (fun j x hj => by simp at hj), fun g hg => by cases hg⟩
  · simp only [List.cons.injEq, and_true] at hcs
    subst hcs
    simp only [if_true] at hz
    unfold Cell.okWide at hc
    rw [u47'] at hc
    unfold Cell.ok at hc
    rw [u47'] at hc
    obtain ⟨_, _, _, _, row, cells, hsh, _⟩ := hc
    have hlen : ((zs.take len).map (BitVec.ofInt 8)).length = len := by rw [List.length_map, List.length_take]; omega
    refine ⟨(zs.take len).map (BitVec.ofInt 8), some a, cap, by rw [hlen], by rw [hlen]; exact hl, hm, fun j x hj => ⟨a, rfl, ?_⟩, fun g hg => by cases hg; exact lt_of_shape hsh⟩
    have hj' : j < len := by
      rcases Nat.lt_or_ge j len with h | h
      · exact h
      · rw [List.getElem?_eq_none (by rw [hlen]; exact h)] at hj; cases hj
    have hjz : j < zs.length := by omega
    rw [List.getElem?_map, List.getElem?_take_of_lt hj', List.getElem?_eq_getElem hjz, Option.map_some] at hj
    cases hj
    have hw := hwf zs[j] (List.getElem_mem hjz)
    rw [hcell j hjz, List.getD_eq_getElem?_getD, List.getElem?_eq_getElem hjz]
    simp [Lit.wf, IntKind.min, IntKind.max, IntKind.signed, IntKind.bits] at hw
    show some (Value.int .u8 zs[j]) = _
    rw [b8_of (by omega) (by omega)]
/-- a row of accesses -/
def AccAt (W : World) (s : Value) (n : Nat) (e : Ent) (A : Nat → Nat → BitVec 8) (K : Nat → Nat) (ek : Nat → Ent) : Prop :=
  (∃ Ao c, s = .slice Ao n c ∧ (n < 9223372036854775808 ∧ n ≤ c ∧ c ≤ maxLen) ∧ (0 < n → ∃ g o, e = .at_ g o ∧ Ao = some ⟨g, o, none⟩)) ∧ (∀ g, e.blk = some g → g < W.heap.size) ∧ (∀ v, e = .sv v → ∃ A L K, v = .slice A L K) ∧
  ∀ i, i < n → ∃ g o, e = .at_ g o ∧ RowAt W g (o + i * 21) (A i) (K i) (ek i)
structure One where
  A : Nat → BitVec 8
  k : Nat
  e : Ent
theorem acc_open {fuel : Nat} {s : Value} {y : DataW H × List MemPlace} (h : Tr enc W fuel 48 [s] y) : ∃ (n : Nat) (e : Ent) (A : Nat → Nat → BitVec 8) (K : Nat → Nat) (ek : Nat → Ent), AccAt W s n e A K ek := by
  have none_ : ∀ (Ao : Option Addr) (c : Nat), c ≤ maxLen → ∃ (n : Nat) (e : Ent) (A : Nat → Nat → BitVec 8) (K : Nat → Nat) (ek : Nat → Ent), AccAt W (.slice Ao 0 c) n e A K ek := fun Ao c hc =>
    ⟨0, nilE, fun _ _ => 0#8, fun _ => 0, fun _ => nilE, ⟨Ao, c, rfl, ⟨by decide, Nat.zero_le _, hc⟩, fun h => absurd h (by decide)⟩, (fun g hg => by cases hg), (fun v hv => by cases hv; exact ⟨_, _, _, rfl⟩), fun i hi => by omega⟩
  rcases Go.Deep.open_slice u48' h with ⟨h0, _⟩ | ⟨a, len, cap, m, q, D, Pl, hcs, _, hl, hmx, hm, _, hall⟩
  · simp only [List.cons.injEq, and_true] at h0
    subst h0
    exact none_ none 0 (Nat.zero_le _)
  · simp only [List.cons.injEq, and_true] at hcs
    subst hcs
    simp only [if_true] at hm
    rcases Nat.eq_zero_or_pos len with h0 | h0
    · subst h0
      exact none_ _ cap hmx
    · have first : ∃ v, W.cell? a = some v := by
        obtain ⟨cs', hr, hd⟩ := hall 0 (by omega)
        rw [c82'] at hr
        obtain ⟨_, hlen, hcell⟩ := World.cells?_some hr
        have := hcell 0 (by decide)
        rw [Nat.zero_mul, add_zero', add_zero', List.getElem?_eq_getElem (by omega)] at this
        exact ⟨_, this⟩
      obtain ⟨v0, hv0⟩ := first
      have hsp := spot_none hv0
      obtain ⟨g, o, sp⟩ := a
      simp only at hsp
      subst hsp
      have each : ∀ i, i < len → ∃ t : One, RowAt W g (o + i * 21) t.A t.k t.e := by
        intro i hi
        obtain ⟨cs', hr, hd⟩ := hall i (by omega)
        rw [c82'] at hr
        obtain ⟨_, hlen, hcell⟩ := World.cells?_some hr
        obtain ⟨A, k, e, hrow⟩ := row_open (g := g) (o := o + i * 21) hd (fun t ht => by
          have := hcell t ht
          rw [add_off, add_off] at this
          exact this)
        exact ⟨⟨A, k, e⟩, hrow⟩
      haveI : Inhabited One := ⟨⟨fun _ => 0#8, 0, nilE⟩⟩
      obtain ⟨F, hF⟩ := Go.Deep.choose_lt each
      exact ⟨len, .at_ g o, fun i => (F i).A, fun i => (F i).k, fun i => (F i).e, ⟨_, cap, rfl, ⟨by simp only [maxLen] at hmx; omega, hl, hmx⟩, fun _ => ⟨g, o, rfl, rfl⟩⟩, (fun g' hg => by cases hg; exact World.block_lt_of_cell? W _ hv0), (fun v hv => by cases hv), fun i hi => ⟨g, o, rfl, hF i hi⟩⟩
end
theorem b8_get (f : Nat → BitVec 8) : ∀ (n i q : Nat) (c : C), (b8 f i n)[q]? = some c → q < n ∧ c = .w8 (f (i + q))
  | 0, i, q, c, h => by simp [b8] at h
  | n + 1, i, 0, c, h => by cases h; exact ⟨by omega, rfl⟩
  | n + 1, i, q + 1, c, h => by
    obtain ⟨h1, h2⟩ := b8_get f n (i + 1) q c h
    exact ⟨by omega, by rw [h2, show i + 1 + q = i + (q + 1) by omega]⟩
theorem b8_len (f : Nat → BitVec 8) : ∀ n i, (b8 f i n).length = n
  | 0, _ => rfl
  | n + 1, i => by show (b8 f (i + 1) n).length + 1 = n + 1; rw [b8_len f n (i + 1)]
theorem win_acc {W : World} {E : Env} {x : Txx} {g : Nat} : ∀ (n j o : Nat), (∀ t, t < n → ∃ e, RowAt W g (o + t * 21) (x.A (j + t)) (x.K (j + t)) e ∧ (0 < x.K (j + t) → E.reg[3 + 1 * (j + t)]? = some e)) →
    ∀ (q : Nat) (c : C), (accC x x.K 3 1 j n)[q]? = some c → ∃ v, c.is E v ∧ W.cell? ⟨g, o + q, none⟩ = some v
  | 0, j, o, _, q, c, h => by simp [accC] at h
  | n + 1, j, o, hrow, q, c, h => by
    unfold accC at h
    obtain ⟨e, ⟨hA, s, hs, hk⟩, he⟩ := hrow 0 (by omega)
    rw [Nat.zero_mul, Nat.add_zero] at hA hs
    rw [Nat.add_zero] at hA hk he
    rcases Nat.lt_or_ge q 20 with hq | hq
    · rw [List.getElem?_append_left (by rw [b8_len]; exact hq)] at h
      obtain ⟨_, rfl⟩ := b8_get _ _ _ _ _ h
      rw [Nat.zero_add]
      exact ⟨_, rfl, hA q hq⟩
    · rw [List.getElem?_append_right (by rw [b8_len]; exact hq), b8_len] at h
      rcases Nat.eq_zero_or_pos (q - 20) with h0 | h0
      · rw [h0] at h
        cases h
        obtain ⟨⟨Ao, cc, rfl, h1, h2⟩, _⟩ := hk
        refine ⟨_, ⟨Ao, cc, rfl, h1, fun hp => ?_⟩, by rw [show q = 20 by omega]; exact hs⟩
        obtain ⟨g', o', h3, h4⟩ := h2 hp
        exact ⟨g', o', by rw [he hp, h3], h4⟩
      · obtain ⟨r, hr⟩ : ∃ r, q = 21 + r := ⟨q - 21, by omega⟩
        subst hr
        rw [show 21 + r - 20 = r + 1 by omega, List.getElem?_cons_succ] at h
        have := win_acc n (j + 1) (o + 21) (fun t ht => by
          obtain ⟨e', h1, h2⟩ := hrow (t + 1) (by omega)
          rw [show o + (t + 1) * 21 = o + 21 + t * 21 by omega, show j + (t + 1) = j + 1 + t by omega] at h1
          rw [show j + (t + 1) = j + 1 + t by omega] at h2
          exact ⟨e', h1, h2⟩) r c h
        rw [show o + (21 + r) = o + 21 + r by omega]
        exact this
/-! words and bytes of the value itself -/
def valB8 (v : Value) : BitVec 8 := match v with
  | .int _ n => BitVec.ofInt 8 n
  | _ => 0#8
set_option maxRecDepth 100000 in
theorem cell5 {w : World} {r : Reach} {base : Nat} {v : Value} {E : Env} (h : Cell.okWide Try.prog w r base 5 v) : (C.w8 (valB8 v)).is E v := by
  unfold Cell.okWide at h
  rw [u5'] at h
  unfold Cell.ok at h
  rw [u5'] at h
  cases v with
  | int k n =>
    obtain ⟨rfl, h2⟩ := h
    show Value.int .u8 n = .int .u8 _
    have h3 : 0 ≤ n ∧ n ≤ 255 := h2
    simp only [valB8, BitVec.toNat_ofInt]
    congr 1
    omega
  | _ => exact h.elim
set_option maxRecDepth 100000 in
theorem cell4b {w : World} {r : Reach} {base : Nat} {v : Value} {E : Env} (h : Cell.okWide Try.prog w r base 4 v) : (C.sb (valB v)).is E v := cell4 (E := E) h
theorem ws_seg {E : Env} {f : Nat → W} {g : Nat → Value} : ∀ (n i s : Nat), (∀ k, k < n → (C.w64 (f (i + k))).is E (g (s + k))) → All2 (C.is E) (wsC f i n) ((List.range' s n).map g)
  | 0, _, _, _ => trivial
  | n + 1, i, s, h => ⟨h 0 (by omega), ws_seg n (i + 1) (s + 1) fun k hk => by
    have := h (k + 1) (by omega)
    rwa [show i + (k + 1) = i + 1 + k by omega, show s + (k + 1) = s + 1 + k by omega] at this⟩
theorem b8_seg {E : Env} {f : Nat → BitVec 8} {g : Nat → Value} : ∀ (n i s : Nat), (∀ k, k < n → (C.w8 (f (i + k))).is E (g (s + k))) → All2 (C.is E) (b8 f i n) ((List.range' s n).map g)
  | 0, _, _, _ => trivial
  | n + 1, i, s, h => ⟨h 0 (by omega), b8_seg n (i + 1) (s + 1) fun k hk => by
    have := h (k + 1) (by omega)
    rwa [show i + (k + 1) = i + 1 + k by omega, show s + (k + 1) = s + 1 + k by omega] at this⟩
theorem a51 : aggT Try.prog 51 = true := by kernel_rfl
def ts51 : List TypeId := 3 :: (List.replicate 11 22 ++ (4 :: (List.replicate 20 5 ++ (List.replicate 4 22 ++ (47 :: 48 :: (List.replicate 4 22 ++ (49 :: 4 :: List.replicate 8 22)))))))
theorem t51 : Try.prog.cellTypes Try.prog.depth 51 = some ts51 := by kernel_rfl
theorem n51 : Try.prog.cellsOf 51 = 53 := by kernel_rfl
def posW (k : Nat) : Nat := if k < 11 then 1 + k else if k < 15 then 22 + k else if k < 19 then 24 + k else 26 + k
theorem split51 (g : Nat → Value) : (List.range 53).map g = g 0 :: ((List.range' 1 11).map g ++ (g 12 :: ((List.range' 13 20).map g ++ ((List.range' 33 4).map g ++ (g 37 :: g 38 :: ((List.range' 39 4).map g ++ (g 43 :: g 44 :: (List.range' 45 8).map g))))))) := rfl
end Go.Proofs.Sx
