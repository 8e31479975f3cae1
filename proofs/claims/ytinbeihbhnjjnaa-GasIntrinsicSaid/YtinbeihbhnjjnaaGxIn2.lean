/- Rows of hashes, copied, as a table; drawn regions whose last operation writes over what was read. -/
import Derived.Test.YtinbeihbhnjjnaaGxIn1
namespace Go.Proofs.Sx
open Go
set_option linter.unusedVariables false
abbrev Tab := List V → List Reg → Option (V × List Reg × Bool × Option Bool)
def Tells (f : FuncId) (m : Tab) : Prop := ∀ vs hp v hp' chg ob, m vs hp = some (v, hp', chg, ob) → (∀ x, ob = some x → x = true) → Runs Try.prog f vs hp v hp' chg
/-- One region more, of memory that no region shows. -/
theorem HR.addR {B : Nat → Prop} {w0 w : World} {E : Env} {hp : List Reg} (h : HR B w0 E hp w) (x : Ent) (hf : ∀ g, x.blk = some g → (B g ∨ w0.heap.size ≤ g) ∧ g < w.heap.size ∧ ∀ (r : Nat) (y : Ent), E.reg[r]? = some y → y.blk ≠ some g)
    (hxok : ∀ v, x = .sv v → ∃ A L K, v = .slice A L K) (R : Reg) (hR : RegIs ⟨E.reg ++ [x]⟩ w hp.length R) : HR B w0 ⟨E.reg ++ [x]⟩ (hp ++ [R]) w := by
  have he := E.le_push x
  have old : ∀ (r : Nat) (y : Ent), (E.reg ++ [x])[r]? = some y → (r = hp.length ∧ y = x) ∨ (r < hp.length ∧ E.reg[r]? = some y) := by
    intro r y hy
    have := last_or hy
    rwa [← h.len] at this
  have oldR : ∀ (r : Nat) (y : Reg), (hp ++ [R])[r]? = some y → (r = hp.length ∧ y = R) ∨ (r < hp.length ∧ hp[r]? = some y) := fun r y hy => last_or hy
  refine ⟨by simp [h.len], fun r Q hQ => ?_, fun r r' Q Q' y y' g hQ ho hQ' hl hne hy hy' hyg => ?_, fun r Q y g hQ ho hy hyg => ?_, fun r y g hy hyg => ?_, fun r v hv => ?_, h.os, h.tape, h.output, h.size, h.keep⟩
  · rcases oldR r Q hQ with ⟨rfl, rfl⟩ | ⟨hr, hQ⟩
    · exact hR
    · exact (h.at_ r Q hQ).keep he fun _ _ _ _ => rfl
  · rcases old r y hy with ⟨h1, h2⟩ | ⟨h1, hy0⟩
    · rcases old r' y' hy' with ⟨h3, h4⟩ | ⟨h3, hy0'⟩
      · omega
      · subst h2
        intro e
        exact (hf g hyg).2.2 r' y' hy0' e
    · rcases old r' y' hy' with ⟨h3, h4⟩ | ⟨h3, hy0'⟩
      · subst h4
        intro e
        exact (hf g e).2.2 r y hy0 hyg
      · rcases oldR r Q hQ with ⟨h5, _⟩ | ⟨_, hQ0⟩
        · omega
        · rcases oldR r' Q' hQ' with ⟨h5, _⟩ | ⟨_, hQ0'⟩
          · omega
          · exact h.sep r r' Q Q' y y' g hQ0 ho hQ0' hl hne hy0 hy0' hyg
  · rcases old r y hy with ⟨h1, h2⟩ | ⟨h1, hy0⟩
    · subst h2
      exact (hf g hyg).1
    · rcases oldR r Q hQ with ⟨h5, _⟩ | ⟨_, hQ0⟩
      · omega
      · exact h.mine r Q y g hQ0 ho hy0 hyg
  · rcases old r y hy with ⟨h1, h2⟩ | ⟨h1, hy0⟩
    · subst h2
      exact (hf g hyg).2.1
    · exact h.lt r y g hy0 hyg
  · rcases old r _ hv with ⟨h1, h2⟩ | ⟨h1, hy0⟩
    · exact hxok v h2.symm
    · exact h.ok r v hy0
noncomputable def keysM : Tab := fun vs hp =>
  match vs with
  | [.one (.qv r k)] => match regAt r hp with
    | some (.rw m) => regPushK hp (.rw (cut12 k * 32)) fun hp' => forceN (regLen hp) fun q => some (.one (.qv q (cut12 k)), hp', false, some (Nat.ble (k * 32) m))
    | _ => none
  | _ => none
theorem cut12_le (k : Nat) : cut12 k ≤ 12 ∧ cut12 k ≤ k := by
  unfold cut12
  cases h : Nat.blt 12 k with
  | true =>
    have : 12 < k := Nat.le_of_ble_eq_true h
    simp only [cond_true]
    omega
  | false =>
    have : ¬ 12 < k := fun h2 => by
      have h3 : Nat.blt 12 k = true := Nat.ble_eq_true_of_le h2
      rw [h] at h3
      cases h3
    simp only [cond_false]
    omega
theorem bleT {a b : Nat} (h : a ≤ b) : Nat.ble a b = true := Nat.ble_eq_true_of_le h
theorem runs53 (k m : Nat) (hkm : k * 32 ≤ m) (hk : k < 9223372036854775808) : Runs Try.prog 53 [.one (.qv 0 k)] [.rw m] (.one (.qv 2 (cut12 k))) [.rw m, .dead, .rw (cut12 k * 32)] false := by
  have hc := cut12_le k
  unfold cut12 at hc ⊢
  cases h : Nat.blt 12 k with
  | true =>
    have h12 : 12 < k := Nat.le_of_ble_eq_true h
    exact outH_is known_none (f53a k m) (AllT.cons (by rw [bleT (by omega : 12 * 32 ≤ m)]; rfl) (AllT.cons (bleT (by omega)) (AllT.cons h AllT.nil)))
  | false =>
    rw [h] at hc
    simp only [cond_false] at hc
    exact outH_is known_none (f53b k m) (AllT.cons (by rw [bleT hkm, bleT (by omega : k * 32 ≤ 140737488355328)]; rfl) (AllT.cons (by rw [h]; rfl) AllT.nil))
theorem kkeys : Tells 53 keysM := by
  intro vs hp v hp' chg ob h hob
  unfold keysM at h
  split at h
  · rename_i r k
    split at h
    · rename_i m hr
      rw [regPushK_eq, forceN_eq, regLen_eq] at h
      cases h
      rw [regAt_eq] at hr
      have hkm := Nat.le_of_ble_eq_true (hob _ rfl)
      intro B w0 E us w hus hh
      match us, hus with
      | [u], ⟨hu, _⟩ =>
        obtain ⟨A, c, rfl, ⟨hk, hkc, hcm⟩, hA⟩ := hu
        have hlt : r < E.reg.length := by rw [← hh.len]; exact (List.getElem?_eq_some_iff.1 hr).1
        have hx : E.reg[r]? = some E.reg[r] := List.getElem?_eq_getElem hlt
        generalize E.reg[r] = x at hx
        have hloc : HR (fun _ => False) w ⟨[x]⟩ [.rw m] w := by
          refine ⟨rfl, fun q R hq => ?_, fun q q' R R' y y' b hq ho => ?_, fun q R y b hq ho => ?_, fun q y b hy hb => ?_, fun q v hv => ?_, rfl, rfl, rfl, Nat.le_refl _, fun _ _ _ => rfl⟩
          · match q, hq with
            | 0, hq =>
              cases hq
              rcases hh.at_ r _ hr with h0 | ⟨g, o, f, h1, h2⟩
              · exact .inl h0
              · rw [hx] at h1
                cases h1
                exact .inr ⟨g, o, f, rfl, h2⟩
            | q + 1, hq => simp at hq
          · match q, hq with
            | 0, hq => cases hq; cases ho
            | q + 1, hq => simp at hq
          · match q, hq with
            | 0, hq => cases hq; cases ho
            | q + 1, hq => simp at hq
          · match q, hy with
            | 0, hy => cases hy; exact hh.lt r x b hx hb
            | q + 1, hy => simp at hy
          · match q, hv with
            | 0, hv => cases hv; exact hh.ok r v hx
            | q + 1, hv => simp at hv
        refine Calls.mono (runs53 k m hkm hk (fun _ => False) w ⟨[x]⟩ [.slice A k c] w ⟨⟨A, c, rfl, ⟨hk, hkc, hcm⟩, fun h0 => ?_⟩, trivial⟩ hloc) fun e w1 ⟨E1, u1, hE1, he, hu1, hh1, hch⟩ => ?_
        · obtain ⟨g, o, h1, h2⟩ := hA h0
          rw [hx] at h1
          cases h1
          exact ⟨g, o, rfl, h2⟩
        · obtain ⟨hg, hfr⟩ := hch rfl
          have hlen : 2 < E1.reg.length := by rw [← hh1.len]; show 2 < 3; omega
          have hy : E1.reg[2]? = some E1.reg[2] := List.getElem?_eq_getElem hlen
          generalize E1.reg[2] = y at hy
          have fresh : ∀ g, y.blk = some g → w.heap.size ≤ g := fun g hg => hfr 2 y g (by show 1 ≤ 2; omega) hy hg
          have hlast : (E.reg ++ [y])[hp.length]? = some y := by rw [hh.len]; simp
          obtain ⟨A', c', rfl, h3, h4⟩ := hu1
          refine ⟨⟨E.reg ++ [y]⟩, _, E.le_push y, he, ⟨A', c', rfl, h3, fun h0 => ?_⟩, (hh.grow hg).addR y (fun g hgb => ⟨.inr (Nat.le_trans hh.size (fresh g hgb)), hh1.lt 2 y g hy hgb, fun q z hz hzb => ?_⟩) (fun v hv => hh1.ok 2 v (by rw [hy, hv])) _ ?_, fun _ => ⟨hg, fun q z g hq hz hzb => ?_⟩⟩
          · obtain ⟨g, o, h5, h6⟩ := h4 h0
            rw [hy] at h5
            cases h5
            exact ⟨g, o, hlast, h6⟩
          · have h5 := hh.lt q z g hz hzb
            have h6 := fresh g hgb
            omega
          · rcases hh1.at_ 2 _ rfl with h0 | ⟨g, o, f, h1, h2⟩
            · exact .inl h0
            · rw [hy] at h1
              cases h1
              exact .inr ⟨g, o, f, hlast, h2⟩
          · rcases last_or hz with ⟨_, rfl⟩ | ⟨h5, _⟩
            · exact fresh g hzb
            · rw [hh.len] at hq; omega
    · cases h
  · cases h
/-! drawn regions -/
section
variable {P : Program} {M : Kn} {ih : Rec}
/-- As `region_chain`; the operation z waits for all others, and may write over a slot that was read. -/
theorem region_chainL (hm : P.follows .mixedOrders = true) (hs : Sound P ih) (hM : Known P M) {ops : Array Oper} {id n base N m z : Nat} {g lo : Nat → Nat} {hps : Nat → List Reg} {baseL lf : List (Nat × V)} {l : Nat → List (Nat × V)} {val : Nat → V} {d : Nat → Option Nat} {chg : Bool} {ob ds : List Bool}
    (hsz : ops.size = N) (hgN : ∀ k, k < m → g k < N) (hg1 : ∀ k k', k < m → k' < m → g k = g k' → k = k')
    (hop : ∀ j, j < N → ∃ o, ops[j]? = some o ∧ o.guard = none ∧ o.dst = d j ∧
      ((∃ k, k < m ∧ j = g k ∧ (k = 0 ∨ edgeB ops (g k) (g (k - 1)) = true) ∧ Steps ih P M (l j) (hps k) (hps (k + 1)) (val j) o.op) ∨
       ((∀ k, k < m → j ≠ g k) ∧ (lo j = 0 ∨ (lo j - 1 < m ∧ edgeB ops j (g (lo j - 1)) = true)) ∧ ∀ i, lo j ≤ i → i ≤ m → Steps ih P M (l j) (hps i) (hps i) (val j) o.op)))
    (hl : ∀ j, j < N → ∀ p ∈ l j, p ∈ baseL ∨ ∃ i e, i < N ∧ edgeB ops j i = true ∧ d i = some e ∧ p = (e, val i))
    (hdown : ∀ i, i < N → downB ops i = true) (hd : ∀ i j e, i < N → j < N → d i = some e → d j = some e → i = j) (hdn : ∀ j e, j < N → d j = some e → e < n)
    (hzN : z < N) (hz : ∀ i, i < N → i ≠ z → edgeB ops z i = true) (hb : ∀ p ∈ baseL, ∀ j, j < N → j ≠ z → d j ≠ some p.1) (hbl : ∀ p ∈ baseL, (slots baseL).get p.1 = some p.2)
    (hlf : ∀ p ∈ lf, (p ∈ baseL ∧ d z ≠ some p.1) ∨ ∃ i e, i < N ∧ d i = some e ∧ p = (e, val i)) :
    Does P (.region id ops true) ⟨slots baseL, hps 0, chg, n, base, ob, ds⟩ .normal ⟨slots lf, hps m, true, n, base, [], []⟩ := by
  intro B w0 wc E a w Q hR hQ
  refine wp_region_any hm ?_
  have hE0 : HR B w0 E (hps 0) { w with drawn := w.drawn + 1 } := hR.hr.grow (Grow.drawn w)
  refine wpAny_inv (md := .any) (fun listed a' w' => listed.size = N ∧ (listed.getD z true = true → ∀ j, j < N → listed.getD j true = true) ∧ ∃ E' i, E.le E' ∧ i ≤ m ∧ (∀ k, k < m → (listed.getD (g k) true = true ↔ k < i)) ∧ a'.defers = [] ∧ a'.tmps.size = n ∧ (∀ p ∈ baseL, (listed.getD z true = false ∨ d z ≠ some p.1) → SlotIs E' a' p.1 p.2) ∧
    (∀ j e, j < N → listed.getD j true = true → d j = some e → SlotIs E' a' e (val j)) ∧ HR B w0 E' (hps i) w') ?_ ?_ ops.size _ a _ ?_ ?_
  · rintro listed a1 w1 i ⟨hls, hzl, E1, c, hE1, hcm, hch, hdf, hts, hbs, hvs, hh⟩ hi
    have hun := (mem_ready.1 hi).1
    obtain ⟨_, oi, hoi, _⟩ := mem_ready.1 hi
    have hiN : i < N := by rw [← hsz]; exact (Array.getElem?_eq_some_iff.1 hoi).1
    have hzun : listed.getD z true = false := by
      cases hq : listed.getD z true with
      | false => rfl
      | true =>
        have := hzl hq i hiN
        rw [hun] at this
        cases this
    obtain ⟨o, ho, hgd, hdst, hst⟩ := hop i hiN
    have htr : TR E1 (slots (l i)) n a1 := tr_of hdf hts fun p hp => by
      rcases hl i hiN p hp with h1 | ⟨k, e, h1, h2, h3, rfl⟩
      · exact hbs p h1 (.inl hzun)
      · exact hvs k e h1 (edge_is hi h2) h3
    have self : (listed.setIfInBounds i true).getD i true = true := by simp [Array.getD, hls, hiN]
    have zall : (listed.setIfInBounds i true).getD z true = true → ∀ j, j < N → (listed.setIfInBounds i true).getD j true = true := by
      intro hq j hj
      by_cases hji : j = i
      · subst hji; exact self
      rw [getD_set_ne true (fun e => hji e.symm)]
      by_cases hiz : i = z
      · subst hiz
        exact edge_is hi (hz j hj hji)
      · rw [getD_set_ne true hiz] at hq
        rw [hzun] at hq
        cases hq
    have go : ∀ (c' : Nat), c' ≤ m → (∀ k, k < m → ((listed.setIfInBounds i true).getD (g k) true = true ↔ k < c')) → Steps ih P M (l i) (hps c) (hps c') (val i) o.op →
        wpOp P ops Q i (fun a' w' => (listed.setIfInBounds i true).size = N ∧ ((listed.setIfInBounds i true).getD z true = true → ∀ j, j < N → (listed.setIfInBounds i true).getD j true = true) ∧ ∃ E' i1, E.le E' ∧ i1 ≤ m ∧ (∀ k, k < m → ((listed.setIfInBounds i true).getD (g k) true = true ↔ k < i1)) ∧ a'.defers = [] ∧ a'.tmps.size = n ∧
          (∀ p ∈ baseL, ((listed.setIfInBounds i true).getD z true = false ∨ d z ≠ some p.1) → SlotIs E' a' p.1 p.2) ∧ (∀ j e, j < N → (listed.setIfInBounds i true).getD j true = true → d j = some e → SlotIs E' a' e (val j)) ∧ HR B w0 E' (hps i1) w') a1 w1 := by
      rintro c' hc' hch' ⟨b, q, ds1, ob1, ds2, hob, hst⟩
      refine wp_op_of ho hgd ((step_is hs hM hst).2 hob B w0 E1 n a1 w1 _ Q htr hh fun E2 u w2 hE2 hu hh2 _ => ?_)
      refine ⟨by simpa using hls, zall, E2, c', Env.le_trans hE1 hE2, hc', hch', ?_, ?_, fun p hp hpz => ?_, fun j e hj hlj hdj => ?_, hh2⟩
      · cases o.dst <;> exact hdf
      · cases o.dst <;> simp [Act.put, hts]
      · rw [hdst]
        cases hdi : d i with
        | none => exact (hbs p hp (.inl hzun)).mono hE2
        | some e =>
          refine ((hbs p hp (.inl hzun)).mono hE2).put_ne fun h => ?_
          by_cases hiz : i = z
          · subst hiz
            rcases hpz with h1 | h1
            · rw [self] at h1; cases h1
            · exact h1 (by rw [hdi, h])
          · exact hb p hp i hiN hiz (by rw [hdi, h])
      · rw [hdst]
        by_cases hji : j = i
        · subst hji
          rw [hdj]
          exact SlotIs.put_eq (by rw [hts]; exact hdn _ _ hiN hdj) hu
        · rcases getD_set_eq hlj with h | h
          · exact absurd h hji
          · cases hdi : d i with
            | none => exact (hvs j e hj h hdj).mono hE2
            | some e' => exact ((hvs j e hj h hdj).mono hE2).put_ne fun h9 => hji (hd j i e hj hiN hdj (by rw [hdi, h9]))
    rcases hst with ⟨k, hk, rfl, hedge, hst⟩ | ⟨hno, hlo, hst⟩
    · have hkc : k = c := by
        have h1 : ¬ k < c := fun h => by
          have := (hch k hk).2 h
          rw [hun] at this
          cases this
        rcases hedge with rfl | h
        · omega
        · have h2 := (hch (k - 1) (by omega)).1 (edge_is hi h)
          omega
      subst hkc
      refine go (k + 1) hk (fun k' hk' => ?_) hst
      by_cases hkk : k' = k
      · subst hkk
        exact ⟨fun _ => by omega, fun _ => self⟩
      · have hne : g k ≠ g k' := fun e => hkk (hg1 k' k hk' hk e.symm)
        rw [getD_set_ne true hne, hch k' hk']
        omega
    · have hlc : lo i ≤ c := by
        rcases hlo with h | ⟨h1, h⟩
        · omega
        · have h2 := (hch (lo i - 1) h1).1 (edge_is hi h)
          omega
      refine go c hcm (fun k' hk' => ?_) (hst c hlc hcm)
      rw [getD_set_ne true (hno k' hk'), hch k' hk']
  · rintro listed a1 w1 ⟨hls, _, E1, c, hE1, hcm, hch, hdf, hts, hbs, hvs, hh⟩ hr
    have all : ∀ j, j < N → listed.getD j true = true := by
      intro j hj
      cases hc : listed.getD j true with
      | true => rfl
      | false => exact absurd hr (ready_some hdown hls j hj hc)
    have hc : c = m := by
      rcases Nat.lt_or_ge c m with h | h
      · have := (hch c h).1 (all _ (hgN c h))
        omega
      · omega
    subst hc
    refine hQ E1 a1 w1 hE1 ⟨tr_of hdf hts fun p hp => ?_, hh, fun h => by cases h⟩
    rcases hlf p hp with ⟨h, h2⟩ | ⟨i, e, h1, h2, rfl⟩
    · exact hbs p h (.inr h2)
    · exact hvs i e h1 (all i h1) h2
  · refine Nat.le_trans (openN_le _) ?_
    simp
  · have fresh : ∀ j, j < N → (Array.replicate ops.size false).getD j true = false := fun j hj => by simp [Array.getD, hsz, hj]
    refine ⟨by simp [hsz], fun h => ?_, E, 0, E.le_refl, Nat.zero_le _, fun k hk => ?_, hR.tr.defers, hR.tr.size, fun p hp _ => hR.tr.at_ _ _ (hbl p hp), fun j e hj h => ?_, hE0⟩
    · rw [fresh z hzN] at h; cases h
    · rw [fresh (g k) (hgN k hk)]
      exact ⟨fun h => (by cases h), fun h => (by omega)⟩
    · rw [fresh j hj] at h; cases h
end
end Go.Proofs.Sx
