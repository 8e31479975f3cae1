/- A region in any order, of which a row of operations, each behind the one ahead, makes or writes memory. -/
import Derived.Test.YtinbeihbhnjjnaaSxGrow
namespace Go.Proofs.Sx
open Go
section
variable {P : Program} {M : Kn} {ih : Rec}

theorem region_chain (hm : P.follows .mixedOrders = true) (hs : Sound P ih) (hM : Known P M) {ops : Array Oper} {id n base N m : Nat} {g lo : Nat → Nat} {hps : Nat → List Reg} {baseL lf : List (Nat × V)} {l : Nat → List (Nat × V)} {val : Nat → V} {d : Nat → Option Nat} {chg : Bool} {ob ds : List Bool}
    (hsz : ops.size = N) (hgN : ∀ k, k < m → g k < N) (hg1 : ∀ k k', k < m → k' < m → g k = g k' → k = k')
    (hop : ∀ j, j < N → ∃ o, ops[j]? = some o ∧ o.guard = none ∧ o.dst = d j ∧
      ((∃ k, k < m ∧ j = g k ∧ (k = 0 ∨ edgeB ops (g k) (g (k - 1)) = true) ∧ Steps ih P M (l j) (hps k) (hps (k + 1)) (val j) o.op) ∨
       ((∀ k, k < m → j ≠ g k) ∧ (lo j = 0 ∨ (lo j - 1 < m ∧ edgeB ops j (g (lo j - 1)) = true)) ∧ ∀ i, lo j ≤ i → i ≤ m → Steps ih P M (l j) (hps i) (hps i) (val j) o.op)))
    (hl : ∀ j, j < N → ∀ p ∈ l j, p ∈ baseL ∨ ∃ i e, i < N ∧ edgeB ops j i = true ∧ d i = some e ∧ p = (e, val i))
    (hdown : ∀ i, i < N → downB ops i = true) (hd : ∀ i j e, i < N → j < N → d i = some e → d j = some e → i = j) (hdn : ∀ j e, j < N → d j = some e → e < n)
    (hb : ∀ p ∈ baseL, ∀ j, j < N → d j ≠ some p.1) (hbl : ∀ p ∈ baseL, (slots baseL).get p.1 = some p.2)
    (hlf : ∀ p ∈ lf, p ∈ baseL ∨ ∃ i e, i < N ∧ d i = some e ∧ p = (e, val i)) :
    Does P (.region id ops true) ⟨slots baseL, hps 0, chg, n, base, ob, ds⟩ .normal ⟨slots lf, hps m, true, n, base, [], []⟩ := by
  intro B w0 wc E a w Q hR hQ
  refine wp_region_any hm ?_
  have hE0 : HR B w0 E (hps 0) { w with drawn := w.drawn + 1 } := hR.hr.grow (Grow.drawn w)
  refine wpAny_inv (md := .any) (fun listed a' w' => listed.size = N ∧ ∃ E' i, E.le E' ∧ i ≤ m ∧ (∀ k, k < m → (listed.getD (g k) true = true ↔ k < i)) ∧ a'.defers = [] ∧ a'.tmps.size = n ∧ (∀ p ∈ baseL, SlotIs E' a' p.1 p.2) ∧
    (∀ j e, j < N → listed.getD j true = true → d j = some e → SlotIs E' a' e (val j)) ∧ HR B w0 E' (hps i) w') ?_ ?_ ops.size _ a _ ?_ ?_
  · rintro listed a1 w1 i ⟨hls, E1, c, hE1, hcm, hch, hdf, hts, hbs, hvs, hh⟩ hi
    have hun := (mem_ready.1 hi).1
    obtain ⟨_, oi, hoi, _⟩ := mem_ready.1 hi
    have hiN : i < N := by rw [← hsz]; exact (Array.getElem?_eq_some_iff.1 hoi).1
    obtain ⟨o, ho, hgd, hdst, hst⟩ := hop i hiN
    have htr : TR E1 (slots (l i)) n a1 := tr_of hdf hts fun p hp => by
      rcases hl i hiN p hp with h1 | ⟨k, e, h1, h2, h3, rfl⟩
      · exact hbs p h1
      · exact hvs k e h1 (edge_is hi h2) h3
    have self : (listed.setIfInBounds i true).getD i true = true := by simp [Array.getD, hls, hiN]
    have go : ∀ (c' : Nat), c' ≤ m → (∀ k, k < m → ((listed.setIfInBounds i true).getD (g k) true = true ↔ k < c')) → Steps ih P M (l i) (hps c) (hps c') (val i) o.op →
        wpOp P ops Q i (fun a' w' => (listed.setIfInBounds i true).size = N ∧ ∃ E' i1, E.le E' ∧ i1 ≤ m ∧ (∀ k, k < m → ((listed.setIfInBounds i true).getD (g k) true = true ↔ k < i1)) ∧ a'.defers = [] ∧ a'.tmps.size = n ∧ (∀ p ∈ baseL, SlotIs E' a' p.1 p.2) ∧
          (∀ j e, j < N → (listed.setIfInBounds i true).getD j true = true → d j = some e → SlotIs E' a' e (val j)) ∧ HR B w0 E' (hps i1) w') a1 w1 := by
      rintro c' hc' hch' ⟨b, q, ds1, ob1, ds2, hob, hst⟩
      refine wp_op_of ho hgd ((step_is hs hM hst).2 hob B w0 E1 n a1 w1 _ Q htr hh fun E2 u w2 hE2 hu hh2 _ => ?_)
      refine ⟨by simpa using hls, E2, c', Env.le_trans hE1 hE2, hc', hch', ?_, ?_, fun p hp => ?_, fun j e hj hlj hdj => ?_, hh2⟩
      · cases o.dst <;> exact hdf
      · cases o.dst <;> simp [Act.put, hts]
      · rw [hdst]
        cases hdi : d i with
        | none => exact (hbs p hp).mono hE2
        | some e => exact ((hbs p hp).mono hE2).put_ne fun h => hb p hp i hiN (by rw [hdi, h])
      · rw [hdst]
        by_cases hji : j = i
        · subst hji
          rw [hdj]
          exact SlotIs.put_eq (by rw [hts]; exact hdn _ _ hiN hdj) hu
        · rcases getD_set_eq hlj with h | h
          · exact absurd h hji
          · cases hdi : d i with
            | none => exact (hvs j e hj h hdj).mono hE2
            | some e' => exact ((hvs j e hj h hdj).mono hE2).put_ne fun h9 => hji (hd j i e hj hiN hdj (by rw [hdi, h9]))
    rcases hst with ⟨k, hk, rfl, hedge, hst⟩ | ⟨hno, hlo, hst⟩
    · have hkc : k = c := by
        have h1 : ¬ k < c := fun h => by
          have := (hch k hk).2 h
          rw [hun] at this
          cases this
        rcases hedge with rfl | h
        · omega
        · have h2 := (hch (k - 1) (by omega)).1 (edge_is hi h)
          omega
      subst hkc
      refine go (k + 1) hk (fun k' hk' => ?_) hst
      by_cases hkk : k' = k
      · subst hkk
        exact ⟨fun _ => by omega, fun _ => self⟩
      · have hne : g k ≠ g k' := fun e => hkk (hg1 k' k hk' hk e.symm)
        rw [getD_set_ne true hne, hch k' hk']
        omega
    · have hlc : lo i ≤ c := by
        rcases hlo with h | ⟨h1, h⟩
        · omega
        · have h2 := (hch (lo i - 1) h1).1 (edge_is hi h)
          omega
      refine go c hcm (fun k' hk' => ?_) (hst c hlc hcm)
      rw [getD_set_ne true (hno k' hk'), hch k' hk']
  · rintro listed a1 w1 ⟨hls, E1, c, hE1, hcm, hch, hdf, hts, hbs, hvs, hh⟩ hr
    have all : ∀ j, j < N → listed.getD j true = true := by
      intro j hj
      cases hc : listed.getD j true with
      | true => rfl
      | false => exact absurd hr (ready_some hdown hls j hj hc)
    have hc : c = m := by
      rcases Nat.lt_or_ge c m with h | h
      · have := (hch c h).1 (all _ (hgN c h))
        omega
      · omega
    subst hc
    refine hQ E1 a1 w1 hE1 ⟨tr_of hdf hts fun p hp => ?_, hh, fun h => by cases h⟩
    rcases hlf p hp with h | ⟨i, e, h1, h2, rfl⟩
    · exact hbs p h
    · exact hvs i e h1 (all i h1) h2
  · refine Nat.le_trans (openN_le _) ?_
    simp
  · have fresh : ∀ j, j < N → (Array.replicate ops.size false).getD j true = false := fun j hj => by simp [Array.getD, hsz, hj]
    refine ⟨by simp [hsz], E, 0, E.le_refl, Nat.zero_le _, fun k hk => ?_, hR.tr.defers, hR.tr.size, fun p hp => hR.tr.at_ _ _ (hbl p hp), fun j e hj h => ?_, hE0⟩
    · rw [fresh (g k) (hgN k hk)]
      exact ⟨fun h => (by cases h), fun h => (by omega)⟩
    · rw [fresh j hj] at h; cases h
end
end Go.Proofs.Sx
