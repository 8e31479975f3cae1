/- A region in any order, of which one operation makes memory. -/
import Derived.Test.YtinbeihbhnjjnaaSxAny
namespace Go.Proofs.Sx
open Go

def SlotIs (E : Env) (a : Act) (s : Nat) (x : V) : Prop := ∃ u, a.tmps[s]? = some u ∧ x.is E u
theorem SlotIs.mono {E E' : Env} {a : Act} {s : Nat} {x : V} (h : SlotIs E a s x) (he : E.le E') : SlotIs E' a s x :=
  let ⟨u, h1, h2⟩ := h; ⟨u, h1, V.is_mono he h2⟩
theorem SlotIs.put_ne {E : Env} {a : Act} {s d : Nat} {x : V} {v : Value} (h : SlotIs E a s x) (hne : s ≠ d) : SlotIs E (a.put (some d) v) s x :=
  let ⟨u, h1, h2⟩ := h; ⟨u, by rw [← h1]; simp [Act.put, Array.getElem?_setIfInBounds_ne (Ne.symm hne)], h2⟩
theorem SlotIs.put_eq {E : Env} {a : Act} {d : Nat} {x : V} {v : Value} (hd : d < a.tmps.size) (hx : x.is E v) : SlotIs E (a.put (some d) v) d x :=
  ⟨v, by simp [Act.put, hd], hx⟩
theorem tr_of {E : Env} {a : Act} {n : Nat} {l : List (Nat × V)} (hd : a.defers = []) (hn : a.tmps.size = n) (h : ∀ p ∈ l, SlotIs E a p.1 p.2) : TR E (slots l) n a :=
  ⟨hd, hn, fun i x hx => h (i, x) (slots_get l i x hx)⟩

theorem getD_set_eq {l : Array Bool} {i j : Nat} (h : (l.setIfInBounds i true).getD j true = true) : j = i ∨ l.getD j true = true := by
  by_cases hji : j = i
  · exact .inl hji
  · right
    rwa [getD_set_ne true (fun e => hji e.symm)] at h

def edgeB (ops : Array Oper) (i d : Nat) : Bool :=
  match ops[i]? with
  | some o => o.after.toList.any fun e => Region.binds .any e && Nat.beq e.on d
  | none => false

theorem edge_is {ops : Array Oper} {listed : Array Bool} {i d : Nat} (hi : i ∈ Region.ready .any ops listed) (he : edgeB ops i d = true) : listed.getD d true = true := by
  obtain ⟨_, o, ho, hall⟩ := mem_ready.1 hi
  unfold edgeB at he
  rw [ho] at he
  simp only [List.any_eq_true, Bool.and_eq_true] at he
  obtain ⟨e, h1, h2, h3⟩ := he
  have h4 := hall e (by simpa using h1) h2
  rw [Nat.eq_of_beq_eq_true h3] at h4
  rcases Nat.lt_or_ge d listed.size with h | h
  · simp [Array.getD, h] at h4 ⊢
    exact h4
  · simp [Array.getD, Nat.not_lt.2 h] at h4

theorem wp_op_of {P : Program} {ops : Array Oper} {Q : Exit → Act → World → Prop} {i : Nat} {o : Oper} {K : Act → World → Prop} {a : Act} {w : World} (ho : ops[i]? = some o) (hg : o.guard = none) (h : o.wp P a w K Q) : wpOp P ops Q i K a w := by
  unfold wpOp
  simp only [ho]
  have : Region.wanted o (yielded ops a.tmps) = true := by unfold Region.wanted; rw [hg]
  rw [if_pos this]
  exact .inl h

/-- Whatever an operation waits for stands ahead of it. -/
def downB (ops : Array Oper) (i : Nat) : Bool :=
  match ops[i]? with
  | some o => o.after.toList.all fun e => !(Region.binds .any e) || Nat.blt e.on i
  | none => false

theorem ready_some {ops : Array Oper} {listed : Array Bool} {N : Nat} (hd : ∀ i, i < N → downB ops i = true) (hls : listed.size = N) : ∀ (k : Nat), k < N → listed.getD k true = false → Region.ready .any ops listed ≠ [] := by
  intro k
  induction k using Nat.strongRecOn with
  | _ k ih =>
    intro hk hun hr
    have h0 := hd k hk
    unfold downB at h0
    split at h0
    · rename_i o ho
      have hin : k ∈ Region.ready .any ops listed := by
        refine mem_ready.2 ⟨hun, o, ho, fun e he hb => ?_⟩
        have h1 := List.all_eq_true.1 h0 e (by simpa using he)
        rw [hb] at h1
        have h2 : e.on < k := by simpa using h1
        cases hc : listed.getD e.on false with
        | true => rfl
        | false =>
          refine absurd hr (ih e.on h2 (by omega) ?_)
          have h3 : e.on < listed.size := by omega
          simp [Array.getD, h3] at hc ⊢
          exact hc
      rw [hr] at hin
      cases hin
    · cases h0

theorem openN_le : ∀ l : List Bool, openN l ≤ l.length
  | [] => Nat.le_refl _
  | true :: l => Nat.le_succ_of_le (openN_le l)
  | false :: l => Nat.succ_le_succ (openN_le l)

/-- What an operation is reckoned to do. -/
def Steps (ih : Rec) (P : Program) (M : Kn) (l : List (Nat × V)) (hp hp' : List Reg) (v : V) (o : Op) : Prop :=
  ∃ (b : Nat) (c : Bool) (ds ob1 ds1 : List Bool), AllT ob1 ∧ stepOp ih P M (slots l) hp b [] ds o = some (v, hp', c, ob1, ds1)

section
variable {P : Program} {M : Kn} {ih : Rec}

theorem region_grow (hm : P.follows .mixedOrders = true) (hs : Sound P ih) (hM : Known P M) {ops : Array Oper} {id n base N g : Nat} {hp0 hp1 : List Reg} {baseL lf : List (Nat × V)} {l : Nat → List (Nat × V)} {val : Nat → V} {d : Nat → Nat} {chg : Bool} {ob ds : List Bool}
    (hsz : ops.size = N) (hgN : g < N)
    (hop : ∀ j, j < N → ∃ o, ops[j]? = some o ∧ o.guard = none ∧ o.dst = some (d j) ∧ (if j = g then Steps ih P M (l j) hp0 hp1 (val j) o.op else Steps ih P M (l j) hp0 hp0 (val j) o.op ∧ Steps ih P M (l j) hp1 hp1 (val j) o.op ∨ edgeB ops j g = true ∧ Steps ih P M (l j) hp1 hp1 (val j) o.op))
    (hl : ∀ j, j < N → ∀ p ∈ l j, p ∈ baseL ∨ ∃ i, i < N ∧ edgeB ops j i = true ∧ p = (d i, val i))
    (hdown : ∀ i, i < N → downB ops i = true) (hd : ∀ i j, i < N → j < N → d i = d j → i = j) (hdn : ∀ j, j < N → d j < n)
    (hb : ∀ p ∈ baseL, ∀ j, j < N → p.1 ≠ d j) (hbl : ∀ p ∈ baseL, (slots baseL).get p.1 = some p.2)
    (hlf : ∀ p ∈ lf, p ∈ baseL ∨ ∃ i, i < N ∧ p = (d i, val i)) :
    Does P (.region id ops true) ⟨slots baseL, hp0, chg, n, base, ob, ds⟩ .normal ⟨slots lf, hp1, true, n, base, [], []⟩ := by
  intro B w0 wc E a w Q hR hQ
  refine wp_region_any hm ?_
  have hE0 : HR B w0 E hp0 { w with drawn := w.drawn + 1 } := hR.hr.grow (Grow.drawn w)
  refine wpAny_inv (md := .any) (fun listed a' w' => listed.size = N ∧ ∃ E', E.le E' ∧ a'.defers = [] ∧ a'.tmps.size = n ∧ (∀ p ∈ baseL, SlotIs E' a' p.1 p.2) ∧ (∀ j, j < N → listed.getD j true = true → SlotIs E' a' (d j) (val j)) ∧
    HR B w0 E' (if listed.getD g true = true then hp1 else hp0) w') ?_ ?_ ops.size _ a _ ?_ ?_
  · rintro listed a1 w1 i ⟨hls, E1, hE1, hdf, hts, hbs, hvs, hh⟩ hi
    have hun := (mem_ready.1 hi).1
    obtain ⟨_, oi, hoi, _⟩ := mem_ready.1 hi
    have hiN : i < N := by rw [← hsz]; exact (Array.getElem?_eq_some_iff.1 hoi).1
    obtain ⟨o, ho, hgd, hdst, hst⟩ := hop i hiN
    have htr : TR E1 (slots (l i)) n a1 := tr_of hdf hts fun p hp => by
      rcases hl i hiN p hp with h1 | ⟨k, h1, h2, rfl⟩
      · exact hbs p h1
      · exact hvs k h1 (edge_is hi h2)
    have fin : ∀ (E2 : Env) (u : Value) (w2 : World), E1.le E2 → (val i).is E2 u → HR B w0 E2 (if (listed.setIfInBounds i true).getD g true = true then hp1 else hp0) w2 →
        ((listed.setIfInBounds i true).size = N ∧ ∃ E', E.le E' ∧ (a1.put o.dst u).defers = [] ∧ (a1.put o.dst u).tmps.size = n ∧ (∀ p ∈ baseL, SlotIs E' (a1.put o.dst u) p.1 p.2) ∧ (∀ j, j < N → (listed.setIfInBounds i true).getD j true = true → SlotIs E' (a1.put o.dst u) (d j) (val j)) ∧
          HR B w0 E' (if (listed.setIfInBounds i true).getD g true = true then hp1 else hp0) w2) := by
      intro E2 u w2 hE2 hu hh2
      rw [hdst]
      refine ⟨by simpa using hls, E2, Env.le_trans hE1 hE2, hdf, by simp [Act.put, hts], fun p hp => ((hbs p hp).mono hE2).put_ne (hb p hp i hiN), fun j hj hlj => ?_, hh2⟩
      by_cases hji : j = i
      · subst hji
        exact SlotIs.put_eq (by rw [hts]; exact hdn _ hiN) hu
      · rcases getD_set_eq hlj with h | h
        · exact absurd h hji
        · exact ((hvs j hj h).mono hE2).put_ne fun e => hji (hd j i hj hiN e)
    have go : ∀ (hp hp' : List Reg), Steps ih P M (l i) hp hp' (val i) o.op → HR B w0 E1 hp w1 → hp' = (if (listed.setIfInBounds i true).getD g true = true then hp1 else hp0) →
        wpOp P ops Q i (fun a' w' => (listed.setIfInBounds i true).size = N ∧ ∃ E', E.le E' ∧ a'.defers = [] ∧ a'.tmps.size = n ∧ (∀ p ∈ baseL, SlotIs E' a' p.1 p.2) ∧ (∀ j, j < N → (listed.setIfInBounds i true).getD j true = true → SlotIs E' a' (d j) (val j)) ∧
          HR B w0 E' (if (listed.setIfInBounds i true).getD g true = true then hp1 else hp0) w') a1 w1 := by
      rintro hp hp' ⟨b, c, ds1, ob1, ds2, hob, hst⟩ hh1 rfl
      exact wp_op_of ho hgd ((step_is hs hM hst).2 hob B w0 E1 n a1 w1 _ Q htr hh1 fun E2 u w2 hE2 hu hh2 _ => fin E2 u w2 hE2 hu hh2)
    by_cases hig : i = g
    · subst hig
      rw [if_pos rfl] at hst
      rw [hun] at hh
      refine go hp0 hp1 hst hh ?_
      have : (listed.setIfInBounds i true).getD i true = true := by simp [Array.getD, hls, hiN]
      rw [if_pos this]
    · rw [if_neg hig] at hst
      have hsame : (listed.setIfInBounds i true).getD g true = listed.getD g true := getD_set_ne true hig
      by_cases hlg : listed.getD g true = true
      · rw [if_pos hlg] at hh
        rcases hst with h | h
        · exact go hp1 hp1 h.2 hh (by rw [hsame, if_pos hlg])
        · exact go hp1 hp1 h.2 hh (by rw [hsame, if_pos hlg])
      · rw [if_neg hlg] at hh
        rcases hst with h | h
        · exact go hp0 hp0 h.1 hh (by rw [hsame, if_neg hlg])
        · exact absurd (edge_is hi h.1) hlg
  · rintro listed a1 w1 ⟨hls, E1, hE1, hdf, hts, hbs, hvs, hh⟩ hr
    have all : ∀ j, j < N → listed.getD j true = true := by
      intro j hj
      cases hc : listed.getD j true with
      | true => rfl
      | false => exact absurd hr (ready_some hdown hls j hj hc)
    rw [all g hgN, if_pos rfl] at hh
    refine hQ E1 a1 w1 hE1 ⟨tr_of hdf hts fun p hp => ?_, hh, fun h => by cases h⟩
    rcases hlf p hp with h | ⟨i, h1, rfl⟩
    · exact hbs p h
    · exact hvs i h1 (all i h1)
  · refine Nat.le_trans (openN_le _) ?_
    simp
  · have fresh : ∀ j, j < N → (Array.replicate ops.size false).getD j true = false := fun j hj => by simp [Array.getD, hsz, hj]
    refine ⟨by simp [hsz], E, E.le_refl, hR.tr.defers, hR.tr.size, fun p hp => hR.tr.at_ _ _ (hbl p hp), fun j hj h => ?_, ?_⟩
    · rw [fresh j hj] at h; cases h
    · rw [fresh g hgN]
      exact hE0
end
end Go.Proofs.Sx
