/- Pieces of code in letters, one behind the other: rows, loops, what is forgotten; and what a function then does. -/
import Derived.Test.YtinbeihbhnjjnaaSxSound
namespace Go.Proofs.Sx
open Go

/-- What a piece of code does, in letters. -/
def Does (P : Program) (c : Code) (s : St) (e : Ex) (s' : St) : Prop :=
  ∀ (B : Nat → Prop) (w0 wc : World) (E : Env) (a : Act) (w : World) (Q : Exit → Act → World → Prop), Rel B w0 wc E s a w →
    (∀ (E' : Env) (a' : Act) (w' : World), E.le E' → Rel B w0 wc E' s' a' w' → Q e.to a' w') → c.wp P Q a w

/-- What stands in a row of code, one behind the other. -/
def spine : Code → List Code
  | .seq a b => spine a ++ spine b
  | c => [c]

def wpL (P : Program) : List Code → (Exit → Act → World → Prop) → Act → World → Prop
  | [], Q, a, w => Q .normal a w
  | c :: cs, Q, a, w => c.wp P (Exit.then (wpL P cs Q) Q) a w

theorem then_mono {N N' : Act → World → Prop} {Q Q' : Exit → Act → World → Prop} (hn : ∀ a w, N a w → N' a w) (hq : ∀ e a w, Q e a w → Q' e a w) : ∀ e a w, Exit.then N Q e a w → Exit.then N' Q' e a w
  | .normal, a, w, h => hn a w h
  | .exit _, a, w, h => hq _ a w h
  | .goto _, a, w, h => hq _ a w h
  | .ret, a, w, h => hq _ a w h
  | .panic _, a, w, h => hq _ a w h
  | .outgrown, a, w, h => hq _ a w h

theorem wpL_append {P : Program} {Q : Exit → Act → World → Prop} : ∀ (l l' : List Code) (a : Act) (w : World), wpL P (l ++ l') Q a w → wpL P l (Exit.then (wpL P l' Q) Q) a w
  | [], _, _, _, h => h
  | c :: cs, l', a, w, h => by
    refine Code.wp_mono (fun e a w h => ?_) h
    cases e with
    | normal => exact wpL_append cs l' a w h
    | _ => exact h

theorem wpL_mono {P : Program} {Q Q' : Exit → Act → World → Prop} (hq : ∀ e a w, Q e a w → Q' e a w) : ∀ (l : List Code) (a : Act) (w : World), wpL P l Q a w → wpL P l Q' a w
  | [], a, w, h => hq _ a w h
  | _ :: cs, _, _, h => Code.wp_mono (then_mono (wpL_mono hq cs) hq) h

theorem wp_spine {P : Program} : ∀ (c : Code) (Q : Exit → Act → World → Prop) (a : Act) (w : World), wpL P (spine c) Q a w → c.wp P Q a w := by
  have one : ∀ (c : Code), spine c = [c] → ∀ (Q : Exit → Act → World → Prop) (a : Act) (w : World), wpL P (spine c) Q a w → c.wp P Q a w := by
    intro c hc Q a w h
    rw [hc] at h
    refine Code.wp_mono (fun e _ _ h => ?_) h
    cases e <;> exact h
  intro c
  induction c with
  | seq x y ihx ihy =>
    intro Q a w h
    refine wp_seq (ihx _ _ _ (wpL_mono (then_mono (fun a w => ihy Q a w) fun _ _ _ h => h) _ _ _ (wpL_append (spine x) (spine y) a w h)))
  | _ => exact one _ rfl

/-- What a row of code does, in letters. -/
def DoesL (P : Program) (l : List Code) (s : St) (e : Ex) (s' : St) : Prop :=
  ∀ (B : Nat → Prop) (w0 wc : World) (E : Env) (a : Act) (w : World) (Q : Exit → Act → World → Prop), Rel B w0 wc E s a w →
    (∀ (E' : Env) (a' : Act) (w' : World), E.le E' → Rel B w0 wc E' s' a' w' → Q e.to a' w') → wpL P l Q a w

theorem Does.ofL {P : Program} {c : Code} {s s' : St} {e : Ex} (h : DoesL P (spine c) s e s') : Does P c s e s' :=
  fun B w0 wc E a w Q hR hQ => wp_spine c Q a w (h B w0 wc E a w Q hR hQ)

theorem DoesL.nil {P : Program} (s : St) : DoesL P [] s .normal s := fun _ _ _ E a w _ hR hQ => hQ E a w E.le_refl hR

theorem DoesL.cons {P : Program} {c : Code} {l : List Code} {s s1 s' : St} {e : Ex} (h : Does P c s .normal s1) (h' : DoesL P l s1 e s') : DoesL P (c :: l) s e s' :=
  fun B w0 wc E a w Q hR hQ => h B w0 wc E a w _ hR fun E1 a1 w1 hE hR1 => h' B w0 wc E1 a1 w1 Q hR1 fun E2 a2 w2 hE2 hR2 => hQ E2 a2 w2 (Env.le_trans hE hE2) hR2

theorem DoesL.stop {P : Program} {c : Code} {l : List Code} {s s' : St} {e : Ex} (h : Does P c s e s') (he : e ≠ .normal) : DoesL P (c :: l) s e s' :=
  fun B w0 wc E a w Q hR hQ => h B w0 wc E a w _ hR fun E1 a1 w1 hE hR1 => by
    have := hQ E1 a1 w1 hE hR1
    cases e with
    | normal => exact absurd rfl he
    | exit i => exact this
    | ret => exact this

theorem DoesL.append {P : Program} {s s' : St} {e : Ex} : ∀ {l l' : List Code} {s1 : St}, DoesL P l s .normal s1 → DoesL P l' s1 e s' → DoesL P (l ++ l') s e s' := by
  intro l l' s1 h h' B w0 wc E a w Q hR hQ
  have key : ∀ (l : List Code) (a : Act) (w : World), wpL P l (Exit.then (wpL P l' Q) Q) a w → wpL P (l ++ l') Q a w := by
    intro l
    induction l with
    | nil => intro a w h; exact h
    | cons c cs ih =>
      intro a w h
      refine Code.wp_mono (fun e a w h => ?_) h
      cases e with
      | normal => exact ih a w h
      | _ => exact h
  exact key l a w (h B w0 wc E a w _ hR fun E1 a1 w1 hE hR1 => h' B w0 wc E1 a1 w1 Q hR1 fun E2 a2 w2 hE2 hR2 => hQ E2 a2 w2 (Env.le_trans hE hE2) hR2)

/-- A row of code, reckoned. -/
noncomputable def sxs (P : Program) (M : Kn) (fuel : Nat) : List Code → St → Option (Ex × St)
  | [], st => some (.normal, st)
  | c :: cs, st => match sx P M fuel c st with
    | some (.normal, st') => sxs P M fuel cs st'
    | r => r

theorem sxs_sound {P : Program} {M : Kn} (hm : P.follows .mixedOrders = true) (hM : Known P M) {n : Nat} : ∀ {l : List Code} {s s' : St} {e : Ex}, sxs P M n l s = some (e, s') → Good s s' ∧ (AllT s'.ob → DoesL P l s e s')
  | [], s, s', e, h => by cases h; exact ⟨Good.refl _, fun _ => DoesL.nil s⟩
  | c :: l, s, s', e, h => by
    simp only [sxs] at h
    split at h
    · rename_i s1 hx
      obtain ⟨g1, d1⟩ := sx_sound hm hM n c s .normal s1 hx
      obtain ⟨g2, d2⟩ := sxs_sound hm hM h
      exact ⟨g1.trans g2, fun hob => DoesL.cons (d1 (g2.ob hob)) (d2 hob)⟩
    · rename_i hne
      obtain ⟨g1, d1⟩ := sx_sound hm hM n c s e s' h
      refine ⟨g1, fun hob => DoesL.stop (d1 hob) fun he => ?_⟩
      subst he
      exact hne s' h

/-! forgetting -/
def C.below (k : Nat) : C → Bool
  | .pt r _ => Nat.blt r k
  | .pi r _ => Nat.blt r k
  | .sl r _ _ _ => Nat.blt r k
  | .dy r => Nat.blt r k
  | .vw r _ _ => Nat.blt r k
  | .vl r _ _ => Nat.blt r k
  | .pd r _ => Nat.blt r k
  | .qv r _ => Nat.blt r k
  | .qp r _ => Nat.blt r k
  | _ => true

def belows (k : Nat) : List C → Bool
  | [] => true
  | c :: cs => match C.below k c with
    | true => belows k cs
    | false => false

def partsBelow (k : Nat) : List (Bool × List C) → Bool
  | [] => true
  | (_, cs) :: l => match belows k cs with
    | true => partsBelow k l
    | false => false
def V.below (k : Nat) : V → Bool
  | .one c => c.below k
  | .ag cs => belows k cs
  | .tp l => partsBelow k l
  | _ => true

def Reg.below (k : Nat) : Reg → Bool
  | .own _ cs => belows k cs
  | .win cs => belows k cs
  | .dyc _ _ _ cs => belows k cs
  | _ => true

/-- A figure turned into a letter. -/
def V.letter (q : Bool) (v : V) : V :=
  match q, v with
  | true, .one (.it n) => .one (.sy n)
  | _, v => v

noncomputable def slots : List (Nat × V) → T
  | [] => T.full 8
  | (i, v) :: l => (slots l).setK i v id

noncomputable def pickK {R : Type} (tm : T) (k : Nat) (stop : R) : List (Nat × Bool) → (List (Nat × V) → R) → R
  | [], f => f []
  | (i, q) :: l, f => match tm.get i with
    | none => stop
    | some v => match V.below k v with
      | true => pickK tm k stop l fun l' => f ((i, V.letter q v) :: l')
      | false => stop

def takeR (k : Nat) : Nat → List Reg → Option (List Reg)
  | 0, _ => some []
  | n + 1, r :: rs => match Reg.below k r with
    | true => match takeR k n rs with
      | some l => some (r :: l)
      | none => none
    | false => none
  | _ + 1, [] => none

/-- Only these slots, and the first k regions. -/
noncomputable def cutSt (keep : List (Nat × Bool)) (k : Nat) (st : St) : Option St :=
  match st with
  | ⟨tm, hp, chg, n, base, ob, ds⟩ => match takeR k k hp with
    | none => none
    | some hp' => pickK tm k none keep fun l => some ⟨slots l, hp', chg, n, base, ob, ds⟩

theorem C.below_is {E : Env} {k : Nat} {c : C} {v : Value} (hb : c.below k = true) (h : c.is E v) : c.is ⟨E.reg.take k⟩ v := by
  have lt : ∀ (r : Nat) (x : Ent), Nat.blt r k = true → E.reg[r]? = some x → (E.reg.take k)[r]? = some x := by
    intro r x hr hx
    have hr' : r < k := Nat.le_of_ble_eq_true hr
    rw [List.getElem?_take, if_pos hr']
    exact hx
  cases c with
  | pt r off => obtain ⟨g, o, h1, h2⟩ := h; exact ⟨g, o, lt _ _ hb h1, h2⟩
  | pi r off => obtain ⟨g, o, h1, h2⟩ := h; exact ⟨g, o, lt _ _ hb h1, h2⟩
  | sl r off len cap => obtain ⟨g, o, h1, h2⟩ := h; exact ⟨g, o, lt _ _ hb h1, h2⟩
  | dy r => exact lt _ _ hb h
  | vw r i n => obtain ⟨A, L, K, A', c, h1, h2⟩ := h; exact ⟨A, L, K, A', c, lt _ _ hb h1, h2⟩
  | vl r i n => obtain ⟨A, L, K, A', c, h1, h2⟩ := h; exact ⟨A, L, K, A', c, lt _ _ hb h1, h2⟩
  | pd r p => obtain ⟨ad, L, K, h1, h2⟩ := h; exact ⟨ad, L, K, lt _ _ hb h1, h2⟩
  | qv r n => obtain ⟨A, c, h1, h2, h3⟩ := h; exact ⟨A, c, h1, h2, fun hn => let ⟨g, o, h4, h5⟩ := h3 hn; ⟨g, o, lt _ _ hb h4, h5⟩⟩
  | qp r j => obtain ⟨g, o, h1, h2⟩ := h; exact ⟨g, o, lt _ _ hb h1, h2⟩
  | _ => exact h

theorem belows_is {E : Env} {k : Nat} : ∀ {cs : List C} {vs : List Value}, belows k cs = true → All2 (C.is E) cs vs → All2 (C.is ⟨E.reg.take k⟩) cs vs
  | [], [], _, _ => trivial
  | c :: cs, v :: vs, hb, h => by
    simp only [belows] at hb
    split at hb
    · rename_i hc
      exact ⟨C.below_is hc h.1, belows_is hb h.2⟩
    · cases hb

theorem part_below {E : Env} {k : Nat} {cs : List C} (hb : belows k cs = true) : ∀ {q : Bool} {v : Value}, Part.is E (q, cs) v → Part.is ⟨E.reg.take k⟩ (q, cs) v
  | true, v, h => by obtain ⟨vs, h1, h2⟩ := h; exact ⟨vs, h1, belows_is hb h2⟩
  | false, v, h => by
    match cs, hb, h with
    | [c], hb, h =>
      simp only [belows] at hb
      split at hb
      · rename_i hc
        exact C.below_is hc h
      · cases hb
theorem parts_below {E : Env} {k : Nat} : ∀ {l : List (Bool × List C)} {vs : List Value}, partsBelow k l = true → All2 (Part.is E) l vs → All2 (Part.is ⟨E.reg.take k⟩) l vs
  | [], [], _, _ => trivial
  | (q, cs) :: l, v :: vs, hb, h => by
    simp only [partsBelow] at hb
    split at hb
    · rename_i hc
      exact ⟨part_below hc h.1, parts_below hb h.2⟩
    · cases hb

theorem V.below_is {E : Env} {k : Nat} {x : V} {v : Value} (hb : x.below k = true) (h : x.is E v) : x.is ⟨E.reg.take k⟩ v := by
  cases x with
  | one c => exact C.below_is hb h
  | ag cs => obtain ⟨vs, h1, h2⟩ := h; exact ⟨vs, h1, belows_is hb h2⟩
  | un => exact h
  | raw u => exact h
  | tp l => obtain ⟨vs, h1, h2⟩ := h; exact ⟨vs, h1, parts_below hb h2⟩

theorem V.letter_is {E : Env} {q : Bool} {x : V} {v : Value} (h : x.is E v) : (V.letter q x).is E v := by
  unfold V.letter
  split
  · exact h
  · exact h

theorem slots_set (i : Nat) (v : V) (l : List (Nat × V)) : slots ((i, v) :: l) = (slots l).set i v := rfl

theorem slots_get : ∀ (l : List (Nat × V)) (i : Nat) (x : V), (slots l).get i = some x → (i, x) ∈ l
  | [], i, x, h => by simp only [slots] at h; rw [T.get_full] at h; cases h
  | (j, v) :: l, i, x, h => by
    rw [slots_set] at h
    rcases T.get_set (slots l) j v i x h with ⟨rfl, rfl⟩ | ⟨_, h⟩
    · exact List.mem_cons_self ..
    · exact List.mem_cons_of_mem _ (slots_get l i x h)

theorem pickK_or {R : Type} {tm : T} {k : Nat} {stop x : R} : ∀ {keep : List (Nat × Bool)} {f : List (Nat × V) → R}, pickK tm k stop keep f = x → x = stop ∨ ∃ l, f l = x ∧ ∀ i v, (i, v) ∈ l → ∃ v' q, tm.get i = some v' ∧ v'.below k = true ∧ v = V.letter q v'
  | [], f, h => .inr ⟨[], h, fun i v hi => by cases hi⟩
  | (j, q) :: keep, f, h => by
    simp only [pickK] at h
    split at h
    · exact .inl h.symm
    · rename_i v hv
      split at h
      · rename_i hb
        rcases pickK_or h with h | ⟨l, h, hl⟩
        · exact .inl h
        · refine .inr ⟨_, h, fun i x hi => ?_⟩
          rcases List.mem_cons.1 hi with e | hi
          · cases e
            exact ⟨v, q, hv, hb, rfl⟩
          · exact hl i x hi
      · exact .inl h.symm

theorem takeR_is {k : Nat} : ∀ {n : Nat} {hp hp' : List Reg}, takeR k n hp = some hp' → hp' = hp.take n ∧ n ≤ hp.length ∧ ∀ R ∈ hp', R.below k = true
  | 0, hp, hp', h => by simp only [takeR, Option.some.injEq] at h; subst h; exact ⟨by simp, Nat.zero_le _, fun R hR => by cases hR⟩
  | n + 1, [], hp', h => by cases h
  | n + 1, r :: rs, hp', h => by
    simp only [takeR] at h
    split at h
    · rename_i hb
      split at h
      · rename_i l hl
        cases h
        obtain ⟨h1, h2, h3⟩ := takeR_is hl
        refine ⟨by simp [h1], by simpa using h2, fun R hR => ?_⟩
        rcases List.mem_cons.1 hR with rfl | hR
        · exact hb
        · exact h3 R hR
      · cases h
    · cases h

theorem Env.take_le (E : Env) (k : Nat) : Env.le ⟨E.reg.take k⟩ E := by
  intro r x hx
  have hx' : (E.reg.take k)[r]? = some x := hx
  rw [List.getElem?_take] at hx'
  split at hx'
  · exact hx'
  · cases hx'

theorem RegIs.below {E : Env} {w : World} {r k : Nat} {R : Reg} (hr : r < k) (hb : R.below k = true) (h : RegIs E w r R) : RegIs ⟨E.reg.take k⟩ w r R := by
  have lt : ∀ (x : Ent), E.reg[r]? = some x → (E.reg.take k)[r]? = some x := by
    intro x hx
    rw [List.getElem?_take, if_pos hr]
    exact hx
  cases R with
  | own t cs => obtain ⟨g, vs, h1, h2, h3⟩ := h; exact ⟨g, vs, lt _ h1, belows_is hb h2, h3⟩
  | win cs =>
    obtain ⟨g, o, h1, h2⟩ := h
    refine ⟨g, o, lt _ h1, fun j c hj => ?_⟩
    obtain ⟨v, h3, h4⟩ := h2 j c hj
    refine ⟨v, C.below_is ?_ h3, h4⟩
    have all : ∀ (cs : List C), belows k cs = true → ∀ (j : Nat) (c : C), cs[j]? = some c → c.below k = true := by
      intro cs
      induction cs with
      | nil => intro _ j c h; simp at h
      | cons x xs ih =>
        intro hb j c hj
        simp only [belows] at hb
        split at hb
        · rename_i hx
          cases j with
          | zero => simp only [List.getElem?_cons_zero, Option.some.injEq] at hj; subst hj; exact hx
          | succ j => exact ih hb j c (by simpa using hj)
        · cases hb
    exact all cs hb j c hj
  | dyn t b bd => obtain ⟨v, h1, h2, h3⟩ := h; exact ⟨v, lt _ h1, h2, h3⟩
  | rd b bd => obtain ⟨A, K, h1, h2⟩ := h; exact ⟨A, K, lt _ h1, h2⟩
  | qs f n =>
    rcases h with h0 | ⟨g, o, h1, h2⟩
    · exact .inl h0
    · exact .inr ⟨g, o, lt _ h1, h2⟩
  | nt l => obtain ⟨v, h1, h2⟩ := h; exact ⟨v, lt _ h1, h2⟩
  | rw n =>
    rcases h with h0 | ⟨g, o, f, h1, h2⟩
    · exact .inl h0
    · exact .inr ⟨g, o, f, lt _ h1, h2⟩
  | dyc t s n cs => obtain ⟨v, xs, h1, h2, h3⟩ := h; exact ⟨v, xs, lt _ h1, h2, belows_is hb h3⟩
  | dead => trivial

theorem HR.cut {B : Nat → Prop} {w0 w : World} {E : Env} {hp hp' : List Reg} {k : Nat} (h : HR B w0 E hp w) (hk : takeR k k hp = some hp') : HR B w0 ⟨E.reg.take k⟩ hp' w := by
  obtain ⟨rfl, hlen, hb⟩ := takeR_is hk
  have old : ∀ (r : Nat) (R : Reg), (hp.take k)[r]? = some R → r < k ∧ hp[r]? = some R := by
    intro r R hR
    rw [List.getElem?_take] at hR
    split at hR
    · rename_i hr; exact ⟨hr, hR⟩
    · cases hR
  have oldE := Env.take_le E k
  refine ⟨by simp [h.len], fun r R hR => ?_, fun r r' R R' x x' g h1 h2 h3 h4 h5 h6 h7 h8 => ?_, fun r R x g h1 h2 h3 h4 => ?_, fun r x g h1 h2 => h.lt r x g (oldE r x h1) h2, fun r v hv => h.ok r v (oldE r _ hv), h.os, h.tape, h.output, h.size, h.keep⟩
  · obtain ⟨hr, hR'⟩ := old r R hR
    exact (h.at_ r R hR').below hr (hb R (List.mem_of_getElem? hR))
  · exact h.sep r r' R R' x x' g (old _ _ h1).2 h2 (old _ _ h3).2 h4 h5 (oldE _ _ h6) (oldE _ _ h7) h8
  · exact h.mine r R x g (old _ _ h1).2 h2 (oldE _ _ h3) h4

theorem cutSt_is {keep : List (Nat × Bool)} {k : Nat} {s s' : St} (h : cutSt keep k s = some s') : s'.ob = s.ob ∧ s'.base = s.base ∧
    ∀ (B : Nat → Prop) (w0 wc : World) (E : Env) (a : Act) (w : World), Rel B w0 wc E s a w → Rel B w0 wc ⟨E.reg.take k⟩ s' a w := by
  obtain ⟨tm, hp, chg, n, base, ob, ds⟩ := s
  unfold cutSt at h
  simp only at h
  split at h
  · cases h
  · rename_i hp' hk
    rcases pickK_or h with h | ⟨l, h, hl⟩
    · cases h
    · cases h
      refine ⟨rfl, rfl, fun B w0 wc E a w hR => ⟨⟨hR.tr.defers, hR.tr.size, fun i x hx => ?_⟩, hR.hr.cut hk, fun hc => ?_⟩⟩
      · obtain ⟨v', q, h1, h2, h3⟩ := hl i x (slots_get l i x hx)
        obtain ⟨u, h4, h5⟩ := hR.tr.at_ i v' h1
        refine ⟨u, h4, ?_⟩
        rw [h3]
        exact V.letter_is (V.below_is h2 h5)
      · have := hR.ch hc
        exact ⟨this.1, fun r x g hr hx hg => this.2 r x g hr (Env.take_le E k r x hx) hg⟩

theorem DoesL.cut {P : Program} {l : List Code} {s s1 s2 : St} {e : Ex} {keep : List (Nat × Bool)} {k : Nat} (h : DoesL P l s e s1) (hc : cutSt keep k s1 = some s2) (hk : s.hp.length ≤ k) : DoesL P l s e s2 := by
  intro B w0 wc E a w Q hR hQ
  refine h B w0 wc E a w Q hR fun E1 a1 w1 hE hR1 => hQ ⟨E1.reg.take k⟩ a1 w1 (fun r x hx => ?_) ((cutSt_is hc).2.2 B w0 wc E1 a1 w1 hR1)
  show (E1.reg.take k)[r]? = some x
  have hr : r < E.reg.length := by
    rcases Nat.lt_or_ge r E.reg.length with h | h
    · exact h
    · rw [List.getElem?_eq_none h] at hx; cases hx
  rw [List.getElem?_take, if_pos (by have := hR.hr.len; omega)]
  exact hE r x hx

/-- A row of code, reckoned, and what is forgotten then. -/
noncomputable def sxc (P : Program) (M : Kn) (fuel : Nat) (l : List Code) (keep : List (Nat × Bool)) (k : Nat) (s : St) : Option (Ex × St) :=
  match Nat.ble (regLen s.hp) k with
  | false => none
  | true => match sxs P M fuel l s with
    | some (e, s') => match cutSt keep k s' with
      | some s2 => some (e, s2)
      | none => none
    | none => none

theorem sxc_sound {P : Program} {M : Kn} (hm : P.follows .mixedOrders = true) (hM : Known P M) {n : Nat} {l : List Code} {keep : List (Nat × Bool)} {k : Nat} {s s' : St} {e : Ex} (h : sxc P M n l keep k s = some (e, s')) (hob : AllT s'.ob) : DoesL P l s e s' := by
  unfold sxc at h
  split at h
  · cases h
  · rename_i hk
    split at h
    · rename_i e1 s1 hx
      split at h
      · rename_i s2 hc
        cases h
        obtain ⟨h1, h2, _⟩ := cutSt_is hc
        refine ((sxs_sound hm hM hx).2 (by rw [← h1]; exact hob)).cut hc ?_
        have := Nat.le_of_ble_eq_true hk
        rwa [regLen_eq] at this
      · cases h
    · cases h

/-- What is owed and what is to be decided are no part of what stands. -/
theorem DoesL.free {P : Program} {l : List Code} {e : Ex} {tm tm' : T} {hp hp' : List Reg} {c c' : Bool} {n n' b b' : Nat} {ob ob1 ob' ob1' ds ds1 ds' ds1' : List Bool} (h : DoesL P l ⟨tm, hp, c, n, b, ob, ds⟩ e ⟨tm', hp', c', n', b', ob', ds'⟩) :
    DoesL P l ⟨tm, hp, c, n, b, ob1, ds1⟩ e ⟨tm', hp', c', n', b', ob1', ds1'⟩ :=
  fun B w0 wc E a w Q hR hQ => h B w0 wc E a w Q ⟨hR.tr, hR.hr, hR.ch⟩ fun E' a' w' hE hR' => hQ E' a' w' hE ⟨hR'.tr, hR'.hr, hR'.ch⟩

/-- A state without what is owed. -/
def St.bare (s : St) : St := ⟨s.tm, s.hp, s.chg, s.n, s.base, [], []⟩
theorem DoesL.bare {P : Program} {l : List Code} {e : Ex} {s s' : St} (h : DoesL P l s e s') : DoesL P l s.bare e s'.bare := DoesL.free h
theorem Does.toL {P : Program} {c : Code} {s s' : St} {e : Ex} (h : Does P c s e s') : DoesL P [c] s e s' := by
  intro B w0 wc E a w Q hR hQ
  refine h B w0 wc E a w _ hR fun E1 a1 w1 hE hR1 => ?_
  have := hQ E1 a1 w1 hE hR1
  cases e <;> exact this

/-- A loop, so many times, and out. -/
theorem Does.loop {P : Program} {id : Nat} {b : Code} {s : Nat → St} {s' : St} (n : Nat) (h : ∀ k, k < n → Does P b (s k) .normal (s (k + 1))) (hx : Does P b (s n) (.exit id) s') : Does P (.block id (.loop b)) (s 0) .normal s' := by
  intro B w0 wc E a w Q hR hQ
  refine wp_block (wp_loop_rounds (n + 1) ?_)
  have key : ∀ (m k : Nat), m + k = n → ∀ (E1 : Env) (a : Act) (w : World), E.le E1 → Rel B w0 wc E1 (s k) a w → Code.rounds P b (Exit.inBlock id Q) (m + 1) a w := by
    intro m
    induction m with
    | zero =>
      intro k hk E1 a w hE hR
      rw [rounds_succ]
      have : k = n := by omega
      subst this
      refine hx B w0 wc E1 a w _ hR fun E2 a2 w2 hE2 hR2 => ?_
      simp only [Ex.to, Exit.then, Exit.inBlock, if_true]
      exact hQ E2 a2 w2 (Env.le_trans hE hE2) hR2
    | succ m ih =>
      intro k hk E1 a w hE hR
      rw [rounds_succ]
      refine h k (by omega) B w0 wc E1 a w _ hR fun E2 a2 w2 hE2 hR2 => ?_
      exact ih (k + 1) (by omega) E2 a2 w2 (Env.le_trans hE hE2) hR2
  exact key n 0 (by omega) E a w E.le_refl hR

/-! functions -/
/-- What a call does. -/
def Runs (P : Program) (f : FuncId) (vs : List V) (hp : List Reg) (v : V) (hp' : List Reg) (chg : Bool) : Prop :=
  ∀ (B : Nat → Prop) (w0 : World) (E : Env) (us : List Value) (w : World), All2 (V.is E) vs us → HR B w0 E hp w → Calls P f us.toArray w (After B w0 E hp w v hp' chg)

def fnOf (P : Program) (f : FuncId) : Func := (P.funcs[f]?).getD default
def codeOf (P : Program) (f : FuncId) : Code := ((fnOf P f).body).getD .skip
def rowOf (P : Program) (f : FuncId) : List Code := spine (codeOf P f)
def hasCode (P : Program) (f : FuncId) : Bool :=
  match P.funcs[f]? with
  | some fn => fn.body.isSome
  | none => false

theorem runs_of {P : Program} {f : FuncId} (hc : hasCode P f = true) {vs : List V} {hp : List Reg} {e : Ex} {s' : St} {v : V} {n : Nat} {ob ds : List Bool} (he : e = .normal ∨ e = .ret)
    (hn : n = lenV' vs + ((fnOf P f).ntmps - lenV' vs))
    (h : DoesL P (rowOf P f) ⟨tmOf vs 0 (T.full 8), hp, false, n, regLen hp, ob, ds⟩ e s') (hv : resV P (fnOf P f).results.toList s'.tm s'.hp = some v) (hb : s'.base = regLen hp) : Runs P f vs hp v s'.hp s'.chg := by
  unfold hasCode at hc
  split at hc
  · rename_i fn hf
    have e1 : fnOf P f = fn := by unfold fnOf; rw [hf]; rfl
    cases hbd : fn.body with
    | none => rw [hbd] at hc; cases hc
    | some c =>
      have e2 : codeOf P f = c := by unfold codeOf; rw [e1, hbd]; rfl
      intro B w0 E us w hvs hh
      refine calls_of_wp hf hbd ?_
      have hd : Does P c _ e s' := Does.ofL (c := c) (by rw [← e2]; exact h)
      rw [e1] at hv hn
      subst hn
      refine hd B w0 w E _ w _ ⟨enter_tr hvs, hh, fun _ => by rw [regLen_eq]; exact Chg.refl hh⟩ fun E' a' w' hE hR => ?_
      obtain ⟨u, h1, h2⟩ := resV_is hR.tr hR.hr hv
      have hch : s'.chg = false → Chg hp.length w E' w' := by
        have := hR.ch
        rw [hb, regLen_eq] at this
        exact this
      have hpost : bodyPost P fn (After B w0 E hp w v s'.hp s'.chg) .ret a' w' := ⟨hR.tr.defers, u, h2, E', u, hE, rfl, h1, hR.hr, hch⟩
      rcases he with rfl | rfl
      · exact hpost
      · exact hpost
  · cases hc

/-- A function, reckoned whole. -/
theorem runs_of_call {P : Program} {M : Kn} (hm : P.follows .mixedOrders = true) (hM : Known P M) {n : Nat} {hp hp' : List Reg} {f : FuncId} {vs : List V} {v : V} {chg : Bool} {ds ob' ds' : List Bool}
    (h : callF (sx P M n) P M hp [] ds f vs = some (v, hp', chg, ob', ds')) (hob : AllT ob') : Runs P f vs hp v hp' chg :=
  fun B w0 E us w hv hh => (callF_is (sx_sound hm hM n) hM h).2.2 hob E B w0 w us hv hh

/-! tables -/
theorem known_none {P : Program} : Known P (fun _ _ _ => none) := fun f vs hp v hp' chg ob h => by cases h

/-- One function more in a table. -/
noncomputable def addK (M : Kn) (f : FuncId) (m : List V → List Reg → Option (V × List Reg × Bool × Option Bool)) : Kn :=
  fun g vs hp => match Nat.beq g f with
    | true => m vs hp
    | false => M g vs hp

theorem known_add {P : Program} {M : Kn} (hM : Known P M) {f : FuncId} {m : List V → List Reg → Option (V × List Reg × Bool × Option Bool)}
    (hm : ∀ vs hp v hp' chg ob, m vs hp = some (v, hp', chg, ob) → (∀ x, ob = some x → x = true) → Runs P f vs hp v hp' chg) : Known P (addK M f m) := by
  intro g vs hp v hp' chg ob h hob
  unfold addK at h
  split at h
  · rename_i he
    have := Nat.eq_of_beq_eq_true he
    subst this
    exact hm vs hp v hp' chg ob h hob
  · exact hM g vs hp v hp' chg ob h hob

/-- Values that memory has no part in. -/
def C.plain : C → Bool
  | .bl _ => true
  | .w8 _ => true
  | .w32 _ => true
  | .w64 _ => true
  | .it _ => true
  | .ng _ => true
  | .nl => true
  | .st _ => true
  | .sy _ => true
  | .sb _ => true
  | .zi _ => true
  | .ex _ => true
  | _ => false
def plains : List C → Bool
  | [] => true
  | c :: cs => match C.plain c with
    | true => plains cs
    | false => false
def plainP : List (Bool × List C) → Bool
  | [] => true
  | (_, cs) :: l => match plains cs with
    | true => plainP l
    | false => false
def V.plain : V → Bool
  | .one c => c.plain
  | .ag cs => plains cs
  | .un => true
  | .raw _ => true
  | .tp l => plainP l

theorem C.plain_is {E E' : Env} {c : C} {v : Value} (hp : c.plain = true) (h : c.is E v) : c.is E' v := by
  cases c <;> first | exact h | cases hp
theorem plains_is {E E' : Env} : ∀ {cs : List C} {vs : List Value}, plains cs = true → All2 (C.is E) cs vs → All2 (C.is E') cs vs
  | [], [], _, _ => trivial
  | c :: cs, v :: vs, hb, h => by
    simp only [plains] at hb
    split at hb
    · rename_i hc
      exact ⟨C.plain_is hc h.1, plains_is hb h.2⟩
    · cases hb
theorem plainP1_is {E E' : Env} {cs : List C} (hb : plains cs = true) : ∀ {q : Bool} {v : Value}, Part.is E (q, cs) v → Part.is E' (q, cs) v
  | true, v, h => by obtain ⟨vs, h1, h2⟩ := h; exact ⟨vs, h1, plains_is hb h2⟩
  | false, v, h => by
    match cs, hb, h with
    | [c], hb, h =>
      simp only [plains] at hb
      split at hb
      · rename_i hc
        exact C.plain_is hc h
      · cases hb
theorem plainP_is {E E' : Env} : ∀ {l : List (Bool × List C)} {vs : List Value}, plainP l = true → All2 (Part.is E) l vs → All2 (Part.is E') l vs
  | [], [], _, _ => trivial
  | (q, cs) :: l, v :: vs, hb, h => by
    simp only [plainP] at hb
    split at hb
    · rename_i hc
      exact ⟨plainP1_is hc h.1, plainP_is hb h.2⟩
    · cases hb
theorem V.plain_is {E E' : Env} {x : V} {v : Value} (hb : x.plain = true) (h : x.is E v) : x.is E' v := by
  cases x with
  | one c => exact C.plain_is hb h
  | ag cs => obtain ⟨vs, h1, h2⟩ := h; exact ⟨vs, h1, plains_is hb h2⟩
  | un => exact h
  | raw u => exact h
  | tp l => obtain ⟨vs, h1, h2⟩ := h; exact ⟨vs, h1, plainP_is hb h2⟩
def plainV : List V → Bool
  | [] => true
  | v :: vs => match V.plain v with
    | true => plainV vs
    | false => false
theorem plainV_is {E E' : Env} : ∀ {cs : List V} {vs : List Value}, plainV cs = true → All2 (V.is E) cs vs → All2 (V.is E') cs vs
  | [], [], _, _ => trivial
  | c :: cs, v :: vs, hb, h => by
    simp only [plainV] at hb
    split at hb
    · rename_i hc
      exact ⟨V.plain_is hc h.1, plainV_is hb h.2⟩
    · cases hb

/-- Nothing is there. -/
theorem HR.bare (w : World) : HR (fun _ => False) w ⟨[]⟩ [] w :=
  ⟨rfl, fun r R h => by simp at h, fun r r' R R' x x' g h => by simp at h, fun r R x g h => by simp at h, fun r x g h => by simp at h, fun r v h => by simp at h, rfl, rfl, rfl, Nat.le_refl _, fun _ _ _ => rfl⟩

theorem HR.grew {E : Env} {hp : List Reg} {w w' : World} (h : HR (fun _ => False) w E hp w') : Grow w w' :=
  ⟨h.os, h.tape, h.output, h.size, fun i hi _ => h.keep i hi id⟩

/-- A call that is handed values alone, and hands back one. -/
theorem Runs.plain {P : Program} {f : FuncId} {vs : List V} {v : V} {hp1 : List Reg} {chg : Bool} (h : Runs P f vs [] v hp1 chg) (hv : plainV vs = true) (hr : v.plain = true) (hp : List Reg) : Runs P f vs hp v hp false := by
  intro B w0 E us w hvs hh
  refine Calls.mono (h (fun _ => False) w ⟨[]⟩ us w (plainV_is hv hvs) (HR.bare w)) fun e w1 ⟨E1, u, _, he, hu, hh1, _⟩ => ?_
  have hg := hh1.grew
  refine ⟨E, u, E.le_refl, he, V.plain_is hr hu, hh.grow hg, fun _ => ⟨hg, fun r x g hr hx _ => ?_⟩⟩
  rw [hh.len] at hr
  rw [List.getElem?_eq_none hr] at hx
  cases hx

/-- What lies behind words in a block: here, and where it was reckoned. -/
inductive Tail2 : List C → List C → Prop
  | none : Tail2 [] []
  | nl : Tail2 [.nl] [.nl]
  | dy (r : Nat) : Tail2 [.dy 1] [.dy r]

/-- A call that is handed a block of its own, and values. -/
theorem Runs.block {P : Program} {f : FuncId} {vs : List V} {v : V} {ws ws' tl tl2 : List C} {t : TypeId} {more : List Reg} {chg : Bool} {off : Nat} (h : Runs P f (.one (.pt 0 off) :: vs) [.own t (ws ++ tl), .dead] v (.own t (ws' ++ tl) :: .dead :: more) chg) (ht : Tail2 tl tl2)
    (hv : plainV vs = true) (hr : v.plain = true) (hw : plains ws = true) (hw' : plains ws' = true) {hp : List Reg} {r : Nat} (hat : hp[r]? = some (.own t (ws ++ tl2))) :
    Runs P f (.one (.pt r off) :: vs) hp v (hp.set r (.own t (ws' ++ tl2))) true := by
  intro B w0 E us w hvs hh
  cases us with
  | nil => exact hvs.elim
  | cons u0 us =>
    obtain ⟨⟨g0, o0, hg0, rfl⟩, hvs⟩ := hvs
    obtain ⟨g, cs, hg, hcs, hheap⟩ := hh.at_ r _ hat
    rw [hg] at hg0
    injection hg0 with e0
    injection e0 with e1 e2
    subst e1
    subst e2
    -- the cells' two parts
    have split2 : ∀ {E : Env} {a b : List C} {cs : List Value}, All2 (C.is E) (a ++ b) cs → ∃ c1 c2, cs = c1 ++ c2 ∧ All2 (C.is E) a c1 ∧ All2 (C.is E) b c2 := by
      intro E a
      induction a with
      | nil => intro b cs h; exact ⟨[], cs, rfl, trivial, h⟩
      | cons x xs ih =>
        intro b cs h
        cases cs with
        | nil => exact h.elim
        | cons y ys =>
          obtain ⟨c1, c2, rfl, h1, h2⟩ := ih h.2
          exact ⟨y :: c1, c2, rfl, ⟨h.1, h1⟩, h2⟩
    obtain ⟨c1, c2, rfl, hc1, hc2⟩ := split2 hcs
    -- what stands behind, and the slice that it is, if it is one
    have tail : ∃ u : Value, (∃ A L K, u = .slice A L K) ∧ (∀ b, u.ownBlock = some b → b < w.heap.size) ∧ (∀ E1 : Env, E1.reg[1]? = some (.sv u) → ∀ c, All2 (C.is E1) tl c ↔ All2 (C.is E) tl2 c) := by
      cases ht with
      | none =>
        refine ⟨.slice none 0 0, ⟨_, _, _, rfl⟩, fun b h => (by cases h), fun E1 _ c => ?_⟩
        cases c <;> exact Iff.rfl
      | nl =>
        refine ⟨.slice none 0 0, ⟨_, _, _, rfl⟩, fun b h => (by cases h), fun E1 _ c => ?_⟩
        cases c with
        | nil => exact Iff.rfl
        | cons x xs => cases xs <;> exact Iff.rfl
      | dy q =>
        cases c2 with
        | nil => exact hc2.elim
        | cons u c2 =>
          have hu : E.reg[q]? = some (.sv u) := hc2.1
          refine ⟨u, hh.ok q u hu, fun b hb => hh.lt q _ b hu hb, fun E1 h1 c => ?_⟩
          cases c with
          | nil => exact Iff.rfl
          | cons x xs =>
            have e1 : (C.dy 1).is E1 x ↔ (C.dy q).is E x := by
              show E1.reg[1]? = some (.sv x) ↔ E.reg[q]? = some (.sv x)
              rw [h1, hu]
            constructor
            · intro hh; exact ⟨e1.1 hh.1, by cases xs <;> exact hh.2⟩
            · intro hh; exact ⟨e1.2 hh.1, by cases xs <;> exact hh.2⟩
    obtain ⟨u, hu1, hu2, hu3⟩ := tail
    have glue : ∀ {E : Env} {a b : List C} {c1 c2 : List Value}, All2 (C.is E) a c1 → All2 (C.is E) b c2 → All2 (C.is E) (a ++ b) (c1 ++ c2) := fun h h' => h.append h'
    have hloc : HR (fun b => b = g) w ⟨[.at_ g 0, .sv u]⟩ [.own t (ws ++ tl), .dead] w := by
      have hglt : g < w.heap.size := hh.lt r _ g hg rfl
      refine ⟨rfl, fun q R hR => ?_, fun q q' R R' x x' b h1 h2 h3 h4 h5 h6 h7 h8 => ?_, fun q R x b h1 h2 h3 h4 => ?_, fun q x b h1 h2 => ?_, fun q v hv => ?_, rfl, rfl, rfl, Nat.le_refl _, fun _ _ _ => rfl⟩
      · match q, hR with
        | 0, hR => cases hR; exact ⟨g, c1 ++ c2, rfl, glue (plains_is hw hc1) ((hu3 ⟨[.at_ g 0, .sv u]⟩ rfl c2).2 hc2), hheap⟩
        | 1, hR => cases hR; trivial
      · match q, q', h1, h3 with
        | 0, 0, _, _ => exact absurd rfl h5
        | 0, 1, _, h3 => cases h3; cases h4
        | 1, _, h1, _ => cases h1; cases h2
      · match q, h1 with
        | 0, h1 => cases h3; cases h4; exact .inl rfl
        | 1, h1 => cases h1; cases h2
      · match q, h1 with
        | 0, h1 => cases h1; cases h2; exact hglt
        | 1, h1 => cases h1; exact hu2 b h2
      · match q, hv with
        | 0, hv => cases hv
        | 1, hv => cases hv; exact hu1
    refine Calls.mono (h (fun b => b = g) w ⟨[.at_ g 0, .sv u]⟩ _ w ⟨⟨g, 0, rfl, rfl⟩, plainV_is hv hvs⟩ hloc) fun e w1 ⟨E1, x, hE1, he, hx, hh1, _⟩ => ?_
    obtain ⟨g1, cs1, hg1, hcs1, hheap1⟩ := hh1.at_ 0 _ rfl
    have h0 := hE1 0 _ rfl
    rw [h0] at hg1
    cases hg1
    obtain ⟨d1, d2, rfl, hd1, hd2⟩ := split2 hcs1
    have hgrow : w.grownBy w1 (some g) := ⟨hh1.os, hh1.tape, hh1.output, hh1.size, fun i hi hn => hh1.keep i hi fun e => hn (by rw [e])⟩
    refine ⟨E, x, E.le_refl, he, V.plain_is hr hx, hh.upd hat rfl rfl hg hgrow ⟨g, d1 ++ d2, hg, glue (plains_is hw' hd1) ((hu3 E1 (hE1 1 _ rfl) d2).1 hd2), hheap1⟩, fun h => by cases h⟩
end Go.Proofs.Sx
