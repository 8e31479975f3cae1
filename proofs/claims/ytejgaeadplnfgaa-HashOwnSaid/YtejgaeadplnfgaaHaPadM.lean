/- Regions that are no longer asked for are forgotten, and the others numbered anew, but for the first ones. -/
import Derived.Test.YtejgaeadplnfgaaSxFun
import Derived.Test.YtejgaeadplnfgaaHaWake2
namespace Go.Proofs.Sx
open Go
set_option linter.unusedVariables false
def Env.leK (k : Nat) (E E' : Env) : Prop := ∀ (r : Nat) (x : Ent), r < k → E.reg[r]? = some x → E'.reg[r]? = some x
theorem Env.leK_refl (k : Nat) (E : Env) : E.leK k E := fun _ _ _ h => h
theorem Env.leK_trans {k : Nat} {E E' E'' : Env} (h : E.leK k E') (h' : E'.leK k E'') : E.leK k E'' := fun r x hr hx => h' r x hr (h r x hr hx)
theorem Env.le.toK {k : Nat} {E E' : Env} (h : E.le E') : E.leK k E' := fun r x _ hx => h r x hx

/-- What a row of code does, where the first k regions alone stay as they are numbered. -/
def DoesK (P : Program) (k : Nat) (l : List Code) (s : St) (e : Ex) (s' : St) : Prop :=
  ∀ (B : Nat → Prop) (w0 wc : World) (E : Env) (a : Act) (w : World) (Q : Exit → Act → World → Prop), Rel B w0 wc E s a w →
    (∀ (E' : Env) (a' : Act) (w' : World), E.leK k E' → Rel B w0 wc E' s' a' w' → Q e.to a' w') → wpL P l Q a w
theorem DoesL.toK {P : Program} {k : Nat} {l : List Code} {s s' : St} {e : Ex} (h : DoesL P l s e s') : DoesK P k l s e s' :=
  fun B w0 wc E a w Q hR hQ => h B w0 wc E a w Q hR fun E' a' w' hE hR' => hQ E' a' w' hE.toK hR'
theorem DoesK.append {P : Program} {k : Nat} {s s' : St} {e : Ex} : ∀ {l l' : List Code} {s1 : St}, DoesK P k l s .normal s1 → DoesK P k l' s1 e s' → DoesK P k (l ++ l') s e s' := by
  intro l l' s1 h h' B w0 wc E a w Q hR hQ
  have key : ∀ (l : List Code) (a : Act) (w : World), wpL P l (Exit.then (wpL P l' Q) Q) a w → wpL P (l ++ l') Q a w := by
    intro l
    induction l with
    | nil => intro a w h; exact h
    | cons c cs ih =>
      intro a w h
      refine Code.wp_mono (fun e a w h => ?_) h
      cases e with
      | normal => exact ih a w h
      | _ => exact h
  exact key l a w (h B w0 wc E a w _ hR fun E1 a1 w1 hE hR1 => h' B w0 wc E1 a1 w1 Q hR1 fun E2 a2 w2 hE2 hR2 => hQ E2 a2 w2 (Env.leK_trans hE hE2) hR2)
theorem DoesK.free {P : Program} {k : Nat} {l : List Code} {e : Ex} {tm tm' : T} {hp hp' : List Reg} {c c' : Bool} {n n' b b' : Nat} {ob ob1 ob' ob1' ds ds1 ds' ds1' : List Bool} (h : DoesK P k l ⟨tm, hp, c, n, b, ob, ds⟩ e ⟨tm', hp', c', n', b', ob', ds'⟩) :
    DoesK P k l ⟨tm, hp, c, n, b, ob1, ds1⟩ e ⟨tm', hp', c', n', b', ob1', ds1'⟩ :=
  fun B w0 wc E a w Q hR hQ => h B w0 wc E a w Q ⟨hR.tr, hR.hr, hR.ch⟩ fun E' a' w' hE hR' => hQ E' a' w' hE ⟨hR'.tr, hR'.hr, hR'.ch⟩
theorem DoesK.bare {P : Program} {k : Nat} {l : List Code} {e : Ex} {s s' : St} (h : DoesK P k l s e s') : DoesK P k l s.bare e s'.bare := DoesK.free h
/-- A loop, so many times, and out. -/
theorem DoesK.loop {P : Program} {k id : Nat} {b : Code} {s : Nat → St} {s' : St} (n : Nat) (h : ∀ i, i < n → DoesK P k [b] (s i) .normal (s (i + 1))) (hx : DoesK P k [b] (s n) (.exit id) s') : DoesK P k [.block id (.loop b)] (s 0) .normal s' := by
  intro B w0 wc E a w Q hR hQ
  refine wp_block (wp_loop_rounds (n + 1) ?_)
  have one : ∀ {Q : Exit → Act → World → Prop} {a : Act} {w : World}, wpL P [b] Q a w → b.wp P Q a w := fun h => Code.wp_mono (fun e a w h => by cases e <;> exact h) h
  have key : ∀ (m i : Nat), m + i = n → ∀ (E1 : Env) (a : Act) (w : World), E.leK k E1 → Rel B w0 wc E1 (s i) a w → Code.rounds P b (Exit.inBlock id (Exit.then (wpL P [] Q) Q)) (m + 1) a w := by
    intro m
    induction m with
    | zero =>
      intro i hi E1 a w hE hR
      rw [rounds_succ]
      have : i = n := by omega
      subst this
      refine one (hx B w0 wc E1 a w _ hR fun E2 a2 w2 hE2 hR2 => ?_)
      simp only [Ex.to, Exit.then, Exit.inBlock, if_true]
      exact hQ E2 a2 w2 (Env.leK_trans hE hE2) hR2
    | succ m ih =>
      intro i hi E1 a w hE hR
      rw [rounds_succ]
      refine one (h i (by omega) B w0 wc E1 a w _ hR fun E2 a2 w2 hE2 hR2 => ?_)
      exact ih (i + 1) (by omega) E2 a2 w2 (Env.leK_trans hE hE2) hR2
  exact key n 0 (by omega) E a w (Env.leK_refl k E) hR
theorem DoesK.three {P : Program} {l : List Code} {b : Code} {k j id N : Nat} {s0 s2 s3 : St} {s : Nat → St} {e : Ex} (hk : j < lenL l) (hb : nthC l j = .block id (.loop b)) (h1 : DoesK P k (takeC j l) s0 .normal (s 0))
    (h2 : ∀ i, i < N → DoesK P k [b] (s i) .normal (s (i + 1))) (h3 : DoesK P k [b] (s N) (.exit id) s2) (h4 : DoesK P k (dropC (j + 1) l) s2 e s3) : DoesK P k l s0 e s3 := by
  have hl := parts3 j l hk
  rw [← hl]
  refine h1.append (DoesK.append (l := [nthC l j]) ?_ h4)
  rw [hb]
  exact DoesK.loop N h2 h3
theorem runsK_of {P : Program} {f : FuncId} (hc : hasCode P f = true) {vs : List V} {hp : List Reg} {e : Ex} {s' : St} {v : V} {n : Nat} {ob ds : List Bool} (he : e = .normal ∨ e = .ret)
    (hn : n = lenV' vs + ((fnOf P f).ntmps - lenV' vs))
    (h : DoesK P hp.length (rowOf P f) ⟨tmOf vs 0 (T.full 8), hp, false, n, regLen hp, ob, ds⟩ e s') (hv : resV P (fnOf P f).results.toList s'.tm s'.hp = some v) : Runs P f vs hp v s'.hp true := by
  unfold hasCode at hc
  split at hc
  · rename_i fn hf
    have e1 : fnOf P f = fn := by unfold fnOf; rw [hf]; rfl
    cases hbd : fn.body with
    | none => rw [hbd] at hc; cases hc
    | some c =>
      have e2 : codeOf P f = c := by unfold codeOf; rw [e1, hbd]; rfl
      intro B w0 E us w hvs hh
      refine calls_of_wp hf hbd ?_
      rw [e1] at hv hn
      subst hn
      have e3 : rowOf P f = spine c := by unfold rowOf; rw [e2]
      rw [e3] at h
      refine wp_spine c _ _ _ (h B w0 w E _ w _ ⟨enter_tr hvs, hh, fun _ => by rw [regLen_eq]; exact Chg.refl hh⟩ fun E' a' w' hE hR => ?_)
      obtain ⟨u, h1, h2⟩ := resV_is hR.tr hR.hr hv
      have hle : E.le E' := fun r x hx => hE r x (by
        rcases Nat.lt_or_ge r E.reg.length with h | h
        · rw [hh.len]; exact h
        · rw [List.getElem?_eq_none h] at hx; cases hx) hx
      have hpost : bodyPost P fn (After B w0 E hp w v s'.hp true) .ret a' w' := ⟨hR.tr.defers, u, h2, E', u, hle, rfl, h1, hR.hr, fun h => by cases h⟩
      rcases he with rfl | rfl
      · exact hpost
      · exact hpost
  · cases hc

/-! numbering anew -/
def posN (r : Nat) : Nat → List Nat → Option Nat
  | _, [] => none
  | j, x :: l => match Nat.beq x r with
    | true => some j
    | false => posN r (j + 1) l
def renC (ix : List Nat) : C → Option C
  | .pt r o => match posN r 0 ix with
    | some j => some (.pt j o)
    | none => none
  | .sl r o n c => match posN r 0 ix with
    | some j => some (.sl j o n c)
    | none => none
  | .dy r => match posN r 0 ix with
    | some j => some (.dy j)
    | none => none
  | .vw r i n => match posN r 0 ix with
    | some j => some (.vw j i n)
    | none => none
  | .vl r i n => match posN r 0 ix with
    | some j => some (.vl j i n)
    | none => none
  | .pi _ _ => none
  | .pd _ _ => none
  | c => some c
def renCs (ix : List Nat) : List C → Option (List C)
  | [] => some []
  | c :: cs => match renC ix c with
    | some d => match renCs ix cs with
      | some ds => some (d :: ds)
      | none => none
    | none => none
def renV (ix : List Nat) : V → Option V
  | .one c => match renC ix c with
    | some d => some (.one d)
    | none => none
  | .ag cs => match renCs ix cs with
    | some d => some (.ag d)
    | none => none
  | v => some v
def renR (ix : List Nat) : Reg → Option Reg
  | .own t cs => match renCs ix cs with
    | some d => some (.own t d)
    | none => none
  | .win cs => match renCs ix cs with
    | some d => some (.win d)
    | none => none
  | .at1 i c => match renC ix c with
    | some d => some (.at1 i d)
    | none => none
  | .dc t cs => match renCs ix cs with
    | some d => some (.dc t d)
    | none => none
  | R => some R
def pickR (ix : List Nat) (hp : List Reg) : List Nat → Option (List Reg)
  | [] => some []
  | r :: l => match regAt r hp with
    | some R => match renR ix R with
      | some R' => match pickR ix hp l with
        | some hp' => some (R' :: hp')
        | none => none
      | none => none
    | none => none
noncomputable def pickS {R : Type} (ix : List Nat) (tm : T) (stop : R) : List (Nat × Bool) → (List (Nat × V) → R) → R
  | [], f => f []
  | (i, q) :: l, f => match tm.get i with
    | none => stop
    | some v => match renV ix v with
      | some v' => pickS ix tm stop l fun l' => f ((i, V.letter q v') :: l')
      | none => stop
def nodupB : List Nat → Bool
  | [] => true
  | x :: l => match posN x 0 l with
    | none => nodupB l
    | some _ => false
def headIs : Nat → Nat → List Nat → Bool
  | 0, _, _ => true
  | k + 1, j, x :: l => match Nat.beq x j with
    | true => headIs k (j + 1) l
    | false => false
  | _ + 1, _, [] => false
/-- Only these slots, and these regions, numbered anew; the first k stay. -/
noncomputable def packSt (k : Nat) (ix : List Nat) (keep : List (Nat × Bool)) (st : St) : Option St :=
  match st with
  | ⟨tm, hp, _, n, base, ob, ds⟩ => match nodupB ix, headIs k 0 ix with
    | true, true => match pickR ix hp ix with
      | none => none
      | some hp' => pickS ix tm none keep fun l => some ⟨slots l, hp', true, n, base, ob, ds⟩
    | _, _ => none

theorem posN_is {r : Nat} : ∀ {j i : Nat} {l : List Nat}, posN r j l = some i → j ≤ i ∧ l[i - j]? = some r
  | j, i, [], h => by cases h
  | j, i, x :: l, h => by
    simp only [posN] at h
    split at h
    · rename_i hb
      cases h
      exact ⟨Nat.le_refl _, by simp [Nat.eq_of_beq_eq_true hb]⟩
    · obtain ⟨h1, h2⟩ := posN_is h
      refine ⟨by omega, ?_⟩
      rw [show i - j = (i - (j + 1)) + 1 by omega]
      simpa using h2
theorem posN_none {r : Nat} : ∀ {j : Nat} {l : List Nat}, posN r j l = none → r ∉ l
  | j, [], _ => by simp
  | j, x :: l, h => by
    simp only [posN] at h
    split at h
    · cases h
    · rename_i hb
      have h1 := posN_none h
      have h2 : x ≠ r := fun e => by rw [e, Nat.beq_refl] at hb; cases hb
      simp only [List.mem_cons, not_or]
      exact ⟨fun e => h2 e.symm, h1⟩
theorem nodupB_is : ∀ {l : List Nat}, nodupB l = true → l.Nodup
  | [], _ => List.nodup_nil
  | x :: l, h => by
    simp only [nodupB] at h
    split at h
    · rename_i hp
      exact List.nodup_cons.2 ⟨posN_none hp, nodupB_is h⟩
    · cases h
theorem headIs_is : ∀ {k j : Nat} {l : List Nat}, headIs k j l = true → ∀ i, i < k → l[i]? = some (j + i)
  | 0, _, _, _, i, hi => by omega
  | k + 1, j, [], h, _, _ => by cases h
  | k + 1, j, x :: l, h, i, hi => by
    simp only [headIs] at h
    split at h
    · rename_i hb
      cases i with
      | zero => simp [Nat.eq_of_beq_eq_true hb]
      | succ i =>
        have := headIs_is h i (by omega)
        simpa [Nat.add_assoc, Nat.add_comm 1 i] using this
    · cases h

theorem renCs_get {ix : List Nat} : ∀ {cs ds : List C} {i : Nat} {d : C}, renCs ix cs = some ds → ds[i]? = some d → ∃ c, cs[i]? = some c ∧ renC ix c = some d
  | [], ds, i, d, h, hd => by cases h; simp at hd
  | c :: cs, ds, i, d, h, hd => by
    simp only [renCs] at h
    split at h
    · rename_i x hx
      split at h
      · rename_i l hl
        cases h
        cases i with
        | zero => simp at hd; subst hd; exact ⟨c, rfl, hx⟩
        | succ i =>
          obtain ⟨c0, h1, h2⟩ := renCs_get hl (i := i) (d := d) (by simpa using hd)
          exact ⟨c0, by simpa using h1, h2⟩
      · cases h
    · cases h
instance : Inhabited Ent := ⟨.at_ 0 0⟩
/-- The regions' places, numbered anew. -/
def packE (ix : List Nat) (E : Env) : Env := ⟨ix.map fun r => (E.reg[r]?).getD default⟩
section
variable {ix : List Nat} {E : Env} (hin : ∀ r ∈ ix, r < E.reg.length)
include hin
theorem packE_at {j r : Nat} (h : ix[j]? = some r) : (packE ix E).reg[j]? = E.reg[r]? := by
  have hr := hin r (List.mem_of_getElem? h)
  show (ix.map _)[j]? = _
  rw [List.getElem?_map, h, Option.map_some, List.getElem?_eq_getElem hr]
  rfl
theorem renC_is {c d : C} {v : Value} (h : renC ix c = some d) (hc : c.is E v) : d.is (packE ix E) v := by
  have at_ : ∀ {r j : Nat}, posN r 0 ix = some j → (packE ix E).reg[j]? = E.reg[r]? := fun h => by
    have := (posN_is h).2
    rw [Nat.sub_zero] at this
    exact packE_at hin this
  cases c with
  | pt r o =>
    simp only [renC] at h
    split at h
    · rename_i j hj; cases h; obtain ⟨g, o', h1, h2⟩ := hc; exact ⟨g, o', by rw [at_ hj]; exact h1, h2⟩
    · cases h
  | sl r o n c =>
    simp only [renC] at h
    split at h
    · rename_i j hj; cases h; obtain ⟨g, o', h1, h2⟩ := hc; exact ⟨g, o', by rw [at_ hj]; exact h1, h2⟩
    · cases h
  | dy r =>
    simp only [renC] at h
    split at h
    · rename_i j hj; cases h; show (packE ix E).reg[j]? = _; rw [at_ hj]; exact hc
    · cases h
  | vw r i n =>
    simp only [renC] at h
    split at h
    · rename_i j hj; cases h; obtain ⟨A, L, K, A', c, h1, h2⟩ := hc; exact ⟨A, L, K, A', c, by rw [at_ hj]; exact h1, h2⟩
    · cases h
  | vl r i n =>
    simp only [renC] at h
    split at h
    · rename_i j hj; cases h; obtain ⟨A, L, K, A', c, h1, h2⟩ := hc; exact ⟨A, L, K, A', c, by rw [at_ hj]; exact h1, h2⟩
    · cases h
  | pi r j => cases h
  | pd r p => cases h
  | _ => cases h; exact hc
theorem renCs_is : ∀ {cs ds : List C} {vs : List Value}, renCs ix cs = some ds → All2 (C.is E) cs vs → All2 (C.is (packE ix E)) ds vs
  | [], _, [], h, _ => by cases h; trivial
  | c :: cs, ds, v :: vs, h, hc => by
    simp only [renCs] at h
    split at h
    · rename_i d hd
      split at h
      · rename_i l hl
        cases h
        exact ⟨renC_is hin hd hc.1, renCs_is hl hc.2⟩
      · cases h
    · cases h
theorem renV_is {x y : V} {v : Value} (h : renV ix x = some y) (hx : x.is E v) : y.is (packE ix E) v := by
  cases x with
  | one c =>
    simp only [renV] at h
    split at h
    · rename_i d hd; cases h; exact renC_is hin hd hx
    · cases h
  | ag cs =>
    simp only [renV] at h
    split at h
    · rename_i d hd; cases h; obtain ⟨vs, h1, h2⟩ := hx; exact ⟨vs, h1, renCs_is hin hd h2⟩
    · cases h
  | un => cases h; exact hx
  | raw u => cases h; exact hx
theorem renR_is {w : World} {j r : Nat} (hj : ix[j]? = some r) {R R' : Reg} (h : renR ix R = some R') (hR : RegIs E w r R) : RegIs (packE ix E) w j R' ∧ R'.isOwn = R.isOwn ∧ R'.live = R.live := by
  have at_ := packE_at hin hj
  cases R with
  | own t cs =>
    simp only [renR] at h
    split at h
    · rename_i d hd; cases h
      obtain ⟨g, vs, h1, h2, h3⟩ := hR
      exact ⟨⟨g, vs, by rw [at_]; exact h1, renCs_is hin hd h2, h3⟩, rfl, rfl⟩
    · cases h
  | win cs =>
    simp only [renR] at h
    split at h
    · rename_i d hd; cases h
      obtain ⟨g, o, h1, h2⟩ := hR
      refine ⟨⟨g, o, by rw [at_]; exact h1, fun i c hi => ?_⟩, rfl, rfl⟩
      obtain ⟨c0, h3, h4⟩ := renCs_get hd hi
      obtain ⟨v, h5, h6⟩ := h2 i c0 h3
      exact ⟨v, renC_is hin h4 h5, h6⟩
    · cases h
  | dyn t b bd => cases h; obtain ⟨v, h1, h2⟩ := hR; exact ⟨⟨v, by rw [at_]; exact h1, h2⟩, rfl, rfl⟩
  | rd b bd => cases h; obtain ⟨A, K, h1, h2⟩ := hR; exact ⟨⟨A, K, by rw [at_]; exact h1, h2⟩, rfl, rfl⟩
  | dead => cases h; exact ⟨trivial, rfl, rfl⟩
  | at1 i c =>
    simp only [renR] at h
    split at h
    · rename_i d hd; cases h
      obtain ⟨ad, L, K, v, h1, h2, h3⟩ := hR
      exact ⟨⟨ad, L, K, v, by rw [at_]; exact h1, renC_is hin hd h2, h3⟩, rfl, rfl⟩
    · cases h
  | dc t cs =>
    simp only [renR] at h
    split at h
    · rename_i d hd; cases h
      obtain ⟨v, vs, h1, h2, h3⟩ := hR
      refine ⟨⟨v, vs, by rw [at_]; exact h1, renCs_is hin hd h2, ?_⟩, rfl, rfl⟩
      have e1 := (renCs_is hin hd h2).length
      have e2 := h2.length
      rw [e1, ← e2]
      exact h3
    · cases h
end
theorem pickR_is {ix : List Nat} {hp : List Reg} : ∀ {l : List Nat} {hp' : List Reg}, pickR ix hp l = some hp' → hp'.length = l.length ∧ ∀ (j : Nat) (R' : Reg), hp'[j]? = some R' → ∃ (r : Nat) (R : Reg), l[j]? = some r ∧ hp[r]? = some R ∧ renR ix R = some R'
  | [], hp', h => by cases h; exact ⟨rfl, fun j R' h => by simp at h⟩
  | r :: l, hp', h => by
    simp only [pickR] at h
    split at h
    · rename_i R hR
      split at h
      · rename_i R' hR'
        split at h
        · rename_i l' hl
          cases h
          obtain ⟨h1, h2⟩ := pickR_is hl
          rw [regAt_eq] at hR
          refine ⟨by simp [h1], fun j Q hQ => ?_⟩
          cases j with
          | zero => simp at hQ; subst hQ; exact ⟨r, R, rfl, hR, hR'⟩
          | succ j =>
            obtain ⟨r', R1, h3, h4, h5⟩ := h2 j Q (by simpa using hQ)
            exact ⟨r', R1, by simpa using h3, h4, h5⟩
        · cases h
      · cases h
    · cases h
theorem pickR_in {ix : List Nat} {hp : List Reg} : ∀ {l : List Nat} {hp' : List Reg}, pickR ix hp l = some hp' → ∀ r ∈ l, r < hp.length
  | [], _, _, r, hr => by cases hr
  | x :: l, hp', h, r, hr => by
    simp only [pickR] at h
    split at h
    · rename_i R hR
      split at h
      · split at h
        · rename_i l' hl
          rcases List.mem_cons.1 hr with rfl | hr
          · rw [regAt_eq] at hR
            exact (List.getElem?_eq_some_iff.1 hR).1
          · exact pickR_in hl r hr
        · cases h
      · cases h
    · cases h
theorem pickS_or {R : Type} {ix : List Nat} {tm : T} {stop x : R} : ∀ {keep : List (Nat × Bool)} {f : List (Nat × V) → R}, pickS ix tm stop keep f = x → x = stop ∨ ∃ l, f l = x ∧ ∀ i v, (i, v) ∈ l → ∃ v0 v' q, tm.get i = some v0 ∧ renV ix v0 = some v' ∧ v = V.letter q v'
  | [], f, h => .inr ⟨[], h, fun i v hi => by cases hi⟩
  | (j, q) :: keep, f, h => by
    simp only [pickS] at h
    split at h
    · exact .inl h.symm
    · rename_i v hv
      split at h
      · rename_i v' hv'
        rcases pickS_or h with h | ⟨l, h, hl⟩
        · exact .inl h
        · refine .inr ⟨_, h, fun i x hi => ?_⟩
          rcases List.mem_cons.1 hi with e | hi
          · cases e
            exact ⟨v, v', q, hv, hv', rfl⟩
          · exact hl i x hi
      · exact .inl h.symm
theorem packSt_is {k : Nat} {ix : List Nat} {keep : List (Nat × Bool)} {s s' : St} (h : packSt k ix keep s = some s') : s'.ob = s.ob ∧
    ∀ (B : Nat → Prop) (w0 wc : World) (E : Env) (a : Act) (w : World), Rel B w0 wc E s a w → E.leK k (packE ix E) ∧ Rel B w0 wc (packE ix E) s' a w := by
  obtain ⟨tm, hp, chg, n, base, ob, ds⟩ := s
  unfold packSt at h
  simp only at h
  split at h
  · rename_i hnd hhd
    split at h
    · cases h
    · rename_i hp' hpk
      rcases pickS_or h with h | ⟨l, h, hl⟩
      · cases h
      · cases h
        refine ⟨rfl, fun B w0 wc E a w hR => ?_⟩
        obtain ⟨hlen, hat⟩ := pickR_is hpk
        have hin : ∀ r ∈ ix, r < E.reg.length := fun r hr => by rw [← hR.hr.len]; exact pickR_in hpk r hr
        have hnd' := nodupB_is hnd
        have back : ∀ {j : Nat} {R' : Reg}, hp'[j]? = some R' → ∃ r R, ix[j]? = some r ∧ hp[r]? = some R ∧ renR ix R = some R' := fun {j R'} h => hat j R' h
        have own : ∀ {j r : Nat} {R R' : Reg}, ix[j]? = some r → hp[r]? = some R → renR ix R = some R' → R'.isOwn = R.isOwn ∧ R'.live = R.live := fun {j r R R'} h1 h2 h3 => (renR_is hin h1 h3 (hR.hr.at_ r R h2)).2
        refine ⟨fun r x hr hx => ?_, ⟨⟨hR.tr.defers, hR.tr.size, fun i x hx => ?_⟩, ⟨?_, fun j R' hj => ?_, fun j j' R1 R1' y y' g h1 h2 h3 h4 h5 h6 h7 h8 => ?_, fun j R1 y g h1 h2 h3 h4 => ?_, fun j y g h1 h2 => ?_, fun j v hv => ?_, hR.hr.os, hR.hr.tape, hR.hr.output, hR.hr.size, hR.hr.keep⟩, fun h => by cases h⟩⟩
        · have := headIs_is hhd r hr
          rw [Nat.zero_add] at this
          rw [packE_at hin this]
          exact hx
        · obtain ⟨v0, v', q, e1, e2, e3⟩ := hl i x (slots_get l i x hx)
          obtain ⟨u, h4, h5⟩ := hR.tr.at_ i v0 e1
          refine ⟨u, h4, ?_⟩
          rw [e3]
          exact V.letter_is (renV_is hin e2 h5)
        · rw [hlen]
          show _ = (ix.map _).length
          rw [List.length_map]
        · obtain ⟨r, R, e1, e2, e3⟩ := back hj
          exact (renR_is hin e1 e3 (hR.hr.at_ r R e2)).1
        · obtain ⟨r, R, e1, e2, e3⟩ := back h1
          obtain ⟨r', R', e1', e2', e3'⟩ := back h3
          have hne : r ≠ r' := by
            intro e
            subst e
            have hj : j < ix.length := (List.getElem?_eq_some_iff.1 e1).1
            have hj' : j' < ix.length := (List.getElem?_eq_some_iff.1 e1').1
            have q1 := (List.getElem?_eq_some_iff.1 e1).2
            have q2 := (List.getElem?_eq_some_iff.1 e1').2
            exact h5 ((List.getElem_inj hnd').1 (q1.trans q2.symm))
          rw [packE_at hin e1] at h6
          rw [packE_at hin e1'] at h7
          exact hR.hr.sep r r' R R' y y' g e2 (by rw [← (own e1 e2 e3).1]; exact h2) e2' (by rw [← (own e1' e2' e3').2]; exact h4) hne h6 h7 h8
        · obtain ⟨r, R, e1, e2, e3⟩ := back h1
          rw [packE_at hin e1] at h3
          exact hR.hr.mine r R y g e2 (by rw [← (own e1 e2 e3).1]; exact h2) h3 h4
        · have hj : j < ix.length := by
            rcases Nat.lt_or_ge j ix.length with h | h
            · exact h
            · have : (packE ix E).reg[j]? = none := List.getElem?_eq_none (by show (ix.map _).length ≤ j; simpa using h)
              rw [this] at h1; cases h1
          rw [packE_at hin (List.getElem?_eq_getElem hj)] at h1
          exact hR.hr.lt _ y g h1 h2
        · have hj : j < ix.length := by
            rcases Nat.lt_or_ge j ix.length with h | h
            · exact h
            · have : (packE ix E).reg[j]? = none := List.getElem?_eq_none (by show (ix.map _).length ≤ j; simpa using h)
              rw [this] at hv; cases hv
          rw [packE_at hin (List.getElem?_eq_getElem hj)] at hv
          exact hR.hr.ok _ v hv
  · cases h
theorem DoesK.pack {P : Program} {k : Nat} {l : List Code} {s s1 s2 : St} {e : Ex} {ix : List Nat} {keep : List (Nat × Bool)} (h : DoesK P k l s e s1) (hp : packSt k ix keep s1 = some s2) : DoesK P k l s e s2 :=
  fun B w0 wc E a w Q hR hQ => h B w0 wc E a w Q hR fun E1 a1 w1 hE hR1 =>
    let ⟨h1, h2⟩ := (packSt_is hp).2 B w0 wc E1 a1 w1 hR1
    hQ _ a1 w1 (Env.leK_trans hE h1) h2
/-- A bound may be put anew. -/
theorem DoesK.rebd {P : Program} {k : Nat} {l : List Code} {s : St} {e : Ex} {tm : T} {hp : List Reg} {c : Bool} {n b r bd bd' : Nat} {ob ds : List Bool} {t : TypeId} {x : List (BitVec 8)} (h : DoesK P k l s e ⟨tm, hp, c, n, b, ob, ds⟩) (hr : hp[r]? = some (.dyn t x bd)) (hx : x.length ≤ bd') :
    DoesK P k l s e ⟨tm, hp.set r (.dyn t x bd'), c, n, b, ob, ds⟩ :=
  fun B w0 wc E a w Q hR hQ => h B w0 wc E a w Q hR fun E1 a1 w1 hE hR1 => by
    obtain ⟨v, h1, h2, h3⟩ := hR1.hr.at_ r _ hr
    exact hQ E1 a1 w1 hE ⟨hR1.tr, hR1.hr.upd hr rfl rfl h1 ⟨rfl, rfl, rfl, Nat.le_refl _, fun _ _ _ => rfl⟩ ⟨v, h1, h2, hx⟩, hR1.ch⟩
end Go.Proofs.Sx
/- Functions that are handed bytes to read: wherever the bytes lie. -/
namespace Go.Proofs.Sx
open Go

/-- One region that is read, alone. -/
theorem HR.alone {w : World} {u : Value} {b : List (BitVec 8)} {bd : Nat} (h : RegIs ⟨[.sv u]⟩ w 0 (.rd b bd)) (hlt : ∀ g, u.ownBlock = some g → g < w.heap.size) : HR (fun _ => False) w ⟨[.sv u]⟩ [.rd b bd] w := by
  have one : ∀ {r : Nat} {y : Ent}, ([.sv u] : List Ent)[r]? = some y → r = 0 ∧ y = .sv u := by
    intro r y h
    cases r with
    | zero => simp at h; exact ⟨rfl, h.symm⟩
    | succ r => simp at h
  refine ⟨rfl, fun r R hR => ?_, fun r r' R R' y y' g hR ho => ?_, fun r R y g hR ho => ?_, fun r y g hy hg => ?_, fun r v hv => ?_, rfl, rfl, rfl, Nat.le_refl _, fun _ _ _ => rfl⟩
  · cases r with
    | zero => simp at hR; subst hR; exact h
    | succ r => simp at hR
  · cases r with
    | zero => simp at hR; subst hR; cases ho
    | succ r => simp at hR
  · cases r with
    | zero => simp at hR; subst hR; cases ho
    | succ r => simp at hR
  · obtain ⟨_, rfl⟩ := one hy
    exact hlt g hg
  · obtain ⟨_, e⟩ := one hv
    cases e
    obtain ⟨A, K, h1, _⟩ := h
    simp at h1
    exact ⟨_, _, _, h1⟩

section
variable {P : Program} {f : FuncId} {vs : List V} {v : V} {b : List (BitVec 8)} {bd bd' : Nat} {hp1 : List Reg} {chg : Bool}
theorem read_env {B : Nat → Prop} {w0 w : World} {E : Env} {hp : List Reg} {r : Nat} {R : Reg} {u : Value} (hh : HR B w0 E hp w) (hat : hp[r]? = some R) (hb : R.bytes = some (b, bd')) (hle : b.length ≤ bd) (hu : E.reg[r]? = some (.sv u)) :
    HR (fun _ => False) w ⟨[.sv u]⟩ [.rd b bd] w := by
  obtain ⟨A, K, h1, h2, h3, h4, h5⟩ := (hh.at_ r R hat).bytes hb
  rw [hu] at h1
  cases h1
  exact HR.alone ⟨A, K, rfl, hle, h3, h4, h5⟩ fun g hg => hh.lt r _ g hu hg
/-- .. and hand back a value. -/
theorem Runs.read (h : Runs P f (.one (.dy 0) :: vs) [.rd b bd] v hp1 chg) (hv : plainV vs = true) (hr : v.plain = true) {hp : List Reg} {r : Nat} {R : Reg} (hat : hp[r]? = some R) (hb : R.bytes = some (b, bd')) (hle : b.length ≤ bd) :
    Runs P f (.one (.dy r) :: vs) hp v hp false := by
  intro B w0 E us w hvs hh
  cases us with
  | nil => exact hvs.elim
  | cons u us =>
    obtain ⟨hu, hvs⟩ := hvs
    refine Calls.mono (h (fun _ => False) w ⟨[.sv u]⟩ _ w ⟨rfl, plainV_is hv hvs⟩ (read_env hh hat hb hle hu)) fun e w1 ⟨E1, x, _, he, hx, hh1, _⟩ => ?_
    have hg := hh1.grew
    refine ⟨E, x, E.le_refl, he, V.plain_is hr hx, hh.grow hg, fun _ => ⟨hg, fun q y g hq hy _ => ?_⟩⟩
    rw [hh.len] at hq
    rw [List.getElem?_eq_none hq] at hy
    cases hy
/-- .. and hand back bytes of their own. -/
theorem Runs.readDyn {t : TypeId} {x : List (BitVec 8)} {bd2 : Nat} (h : Runs P f (.one (.dy 0) :: vs) [.rd b bd] (.one (.dy 1)) [.rd b bd, .dyn t x bd2] chg) (hv : plainV vs = true) {hp : List Reg} {r : Nat} {R : Reg} (hat : hp[r]? = some R) (hb : R.bytes = some (b, bd')) (hle : b.length ≤ bd) :
    Runs P f (.one (.dy r) :: vs) hp (.one (.dy hp.length)) (hp ++ [.dyn t x bd2]) true := by
  intro B w0 E us w hvs hh
  cases us with
  | nil => exact hvs.elim
  | cons u us =>
    obtain ⟨hu, hvs⟩ := hvs
    refine Calls.mono (h (fun _ => False) w ⟨[.sv u]⟩ _ w ⟨rfl, plainV_is hv hvs⟩ (read_env hh hat hb hle hu)) fun e w1 ⟨E1, y, _, he, hy, hh1, _⟩ => ?_
    have hg := hh1.grew
    have hy' : E1.reg[1]? = some (.sv y) := hy
    obtain ⟨y', e1, e2, e3⟩ := hh1.at_ 1 _ rfl
    rw [hy'] at e1
    cases e1
    have fresh : ∀ g, y.ownBlock = some g → w.heap.size ≤ g ∧ g < w1.heap.size := fun g hgy =>
      ⟨(hh1.mine 1 _ _ g rfl rfl hy' hgy).elim (fun h => h.elim) id, hh1.lt 1 _ g hy' hgy⟩
    have self : ∀ D, w1.grownBy w1 D := fun D => ⟨rfl, rfl, rfl, Nat.le_refl _, fun _ _ _ => rfl⟩
    have h2 := (hh.grow hg).add (hp1 := hp) rfl (fun q R hq => .inr hq) y.ownBlock (fun g hgy => ⟨.inr (Nat.le_trans hh.size (fresh g hgy).1), (fresh g hgy).2, fun q Q z hq hl hz hzb => by
      have := hh.lt q z g hz hzb
      have := (fresh g hgy).1
      omega⟩) (self _) (.sv y) (.inr (.inl rfl)) (fun g hgy => (fresh g hgy).2) (fun v hv => by cases hv; exact hh1.ok 1 _ hy') (.dyn t x bd2) ⟨y, by
        show (E.reg ++ [_])[hp.length]? = _
        rw [hh.len]
        simp, e2, e3⟩
    refine ⟨⟨E.reg ++ [.sv y]⟩, y, E.le_push _, he, ?_, h2, fun h => by cases h⟩
    show (E.reg ++ [Ent.sv y])[hp.length]? = some (.sv y)
    rw [hh.len]
    simp
end

/-- A row of code, reckoned, and packed. -/
noncomputable def sxp (M : Kn) (l : List Code) (k : Nat) (ix : List Nat) (keep : List (Nat × Bool)) (s : St) : Option (Ex × St × List Bool) :=
  match sxs Try.prog M 1000000 l s with
  | some (e, s1) => match packSt k ix keep s1 with
    | some ⟨tm, hp, _, m, b, ob, _⟩ => some (e, ⟨tm, hp, true, m, b, [], []⟩, ob)
    | none => none
  | none => none
theorem sxp_is {M : Kn} (hM : Known Try.prog M) {l : List Code} {k : Nat} {ix : List Nat} {keep : List (Nat × Bool)} {s s' : St} {e : Ex} {ob : List Bool} (h : sxp M l k ix keep s = some (e, s', ob)) (hob : AllT ob) : DoesK Try.prog k l s.bare e s' := by
  unfold sxp at h
  split at h
  · rename_i e1 s1 hx
    split at h
    · rename_i tm hp c m b ob1 ds hc
      cases h
      obtain ⟨h1, _⟩ := packSt_is hc
      have hs := (sxs_sound fol hM hx).2 (by rw [← h1]; exact hob)
      have h2 := (hs.toK (k := k)).pack hc
      exact fun B w0 wc E a w Q hR hQ => h2.bare B w0 wc E a w Q hR fun E' a' w' hE hR' => hQ E' a' w' hE ⟨hR'.tr, hR'.hr, fun h => by cases h⟩
    · cases h
  · cases h
end Go.Proofs.Sx
/- The padding of a message, by the program and by the reference: the same bytes. -/
namespace Go.Proofs.Sx
open Go
abbrev By := List (BitVec 8)
/-- the bytes, 128 behind them -/
def pad0 (b : By) : By := (b.drop 0).take b.length ++ [128#8]
def padZ (b : By) (j : Nat) : By := pad0 b ++ List.replicate j 0#8
def nBits (b : By) : W := BitVec.ofNat 64 b.length * 8#64
def lenAt (b : By) (low : Bool) (i : Nat) : BitVec 8 := BitVec.setWidth 8 (nBits b >>> (bif low then 8 * i else 8 * (7 - i)))
def lens (b : By) (low : Bool) : Nat → By
  | 0 => []
  | i + 1 => lens b low i ++ [lenAt b low i]
/-- how many zeros -/
def zerosN (b : By) : Nat := (120 - (b.length + 1) % 64) % 64
def padL (b : By) (low : Bool) : By := padZ b (zerosN b) ++ lens b low 8
theorem pad0_len (b : By) : (pad0 b).length = b.length + 1 := by simp [pad0]
theorem padZ_len (b : By) (j : Nat) : (padZ b j).length = b.length + 1 + j := by simp [padZ, pad0_len]
theorem lens_len (b : By) (low : Bool) : ∀ i, (lens b low i).length = i
  | 0 => rfl
  | i + 1 => by simp [lens, lens_len b low i]
theorem zerosN_lt (b : By) : zerosN b < 64 := Nat.mod_lt _ (by decide)
theorem zerosN_mod (b : By) : (b.length + 1 + zerosN b) % 64 = 56 := by unfold zerosN; omega
theorem zerosN_not (b : By) {j : Nat} (h : j < zerosN b) : (b.length + 1 + j) % 64 ≠ 56 := by unfold zerosN at h; omega

section
variable (b x : By) (low : Bool) (i : Nat)
/-- the states of the two functions: o is the slot of the bytes made -/
noncomputable def pIn (nt : Nat) : St := ⟨tmOf [.one (.dy 0), .one (.bl low)] 0 (T.full 8), [.rd b 3000], false, nt, 1, [], []⟩
noncomputable def pS1 (nt : Nat) (bd : Nat) (ds : List Bool) : St := ⟨slots [(0, .one (.dy 0)), (1, .one (.bl low)), (5, .one (.dy 1))], [.rd b 3000, .dyn 5 x bd], true, nt, 1, [], ds⟩
def pk1 : List (Nat × Bool) := [(0, false), (1, false), (5, false)]
def ne56 : Bool := !(Nat.beq (x.length % 64) 56)
theorem p35a : sxp M0 (takeC 2 (rowOf Try.prog 35)) 1 [0, 3] pk1 (pIn b low 46) = some (.normal, pS1 b (pad0 b) low 46 3001 [], []) := by kernel_rfl
theorem p35r : sxp M0 [inLoop (nthC (rowOf Try.prog 35) 2)] 1 [0, 3] pk1 (pS1 b x low 46 3100 [true]) = some (.normal, pS1 b (x ++ [0#8]) low 46 3101 [], [ne56 x, true]) := by kernel_rfl
theorem p35x : sxp M0 [inLoop (nthC (rowOf Try.prog 35) 2)] 1 [0, 1] pk1 (pS1 b x low 46 3100 [false]) = some (.exit 0, pS1 b x low 46 3100 [], [!(ne56 x), true]) := by kernel_rfl
/-- behind the zeros -/
noncomputable def pS2 (nt s6 s7 bd : Nat) (v : C) : St := ⟨slots [(1, .one (.bl low)), (5, .one (.dy 1)), (6, .one (.w64 (nBits b))), (s7, .one v)], [.rd b 3000, .dyn 5 x bd], true, nt, 1, [], []⟩
def pk2 (s7 : Nat) : List (Nat × Bool) := [(1, false), (5, false), (6, false), (s7, false)]
theorem p35b : sxp M0 (takeC 2 (dropC 3 (rowOf Try.prog 35))) 1 [0, 1] (pk2 23) (pS1 b x low 46 3100 []) = some (.normal, pS2 b x low 46 6 23 3100 (.it 0), []) := by kernel_rfl
theorem p35l : (List.range' 0 8).map (fun i => sxp M0 [inLoop (nthC (rowOf Try.prog 35) 5)] 1 [0, 3] (pk2 23) (pS2 b x true 46 6 23 3200 (.it i))) = (List.range' 0 8).map (fun i => some (.normal, pS2 b (x ++ [lenAt b true i]) true 46 6 23 3201 (.it (i + 1)), [])) := by kernel_rfl
theorem p35h : (List.range' 0 8).map (fun i => sxp M0 [inLoop (nthC (rowOf Try.prog 35) 5)] 1 [0, 3] (pk2 23) (pS2 b x false 46 6 23 3200 (.it i))) = (List.range' 0 8).map (fun i => some (.normal, pS2 b (x ++ [lenAt b false i]) false 46 6 23 3201 (.it (i + 1)), [])) := by kernel_rfl
def exN : Option (Ex × St × List Bool) → Nat
  | some (.exit i, _, _) => i
  | _ => 1000
theorem p35y : sxp M0 [inLoop (nthC (rowOf Try.prog 35) 5)] 1 [0, 1] (pk2 23) (pS2 b x low 46 6 23 3200 (.it 8)) = some (.exit (exN (sxp M0 [inLoop (nthC (rowOf Try.prog 35) 5)] 1 [0, 1] (pk2 23) (pS2 b x low 46 6 23 3200 (.it 8)))), pS2 b x low 46 6 23 3200 (.it 8), []) := by kernel_rfl
noncomputable def pS3 (nt : Nat) : St := ⟨slots [(4, .one (.dy 1))], [.rd b 3000, .dyn 5 x 3200], true, nt, 1, [], []⟩
theorem p35z : sxp M0 (dropC 6 (rowOf Try.prog 35)) 1 [0, 1] [(4, false)] (pS2 b x low 46 6 23 3200 (.it 8)) = some (.ret, pS3 b x 46, []) := by kernel_rfl
/-! the reference -/
theorem p39a : sxp M0 (takeC 2 (rowOf Try.prog 39)) 1 [0, 4] pk1 (pIn b low 42) = some (.normal, pS1 b (pad0 b) low 42 3001 [], []) := by kernel_rfl
theorem p39r : sxp M0 [inLoop (nthC (rowOf Try.prog 39) 2)] 1 [0, 3] pk1 (pS1 b x low 42 3100 [true]) = some (.normal, pS1 b (x ++ [0#8]) low 42 3101 [], [ne56 x, true]) := by kernel_rfl
theorem p39x : sxp M0 [inLoop (nthC (rowOf Try.prog 39) 2)] 1 [0, 1] pk1 (pS1 b x low 42 3100 [false]) = some (.exit 0, pS1 b x low 42 3100 [], [!(ne56 x), true]) := by kernel_rfl
theorem p39b : sxp M0 (takeC 2 (dropC 3 (rowOf Try.prog 39))) 1 [0, 1] (pk2 7) (pS1 b x low 42 3100 []) = some (.normal, pS2 b x low 42 6 7 3100 (.it 0), []) := by kernel_rfl
theorem p39l : (List.range' 0 8).map (fun i => sxp M0 [inLoop (nthC (rowOf Try.prog 39) 5)] 1 [0, 3] (pk2 7) (pS2 b x true 42 6 7 3200 (.it i))) = (List.range' 0 8).map (fun i => some (.normal, pS2 b (x ++ [lenAt b true i]) true 42 6 7 3201 (.it (i + 1)), [])) := by kernel_rfl
theorem p39h : (List.range' 0 8).map (fun i => sxp M0 [inLoop (nthC (rowOf Try.prog 39) 5)] 1 [0, 3] (pk2 7) (pS2 b x false 42 6 7 3200 (.it i))) = (List.range' 0 8).map (fun i => some (.normal, pS2 b (x ++ [lenAt b false i]) false 42 6 7 3201 (.it (i + 1)), [])) := by kernel_rfl
theorem p39y : sxp M0 [inLoop (nthC (rowOf Try.prog 39) 5)] 1 [0, 1] (pk2 7) (pS2 b x low 42 6 7 3200 (.it 8)) = some (.exit (exN (sxp M0 [inLoop (nthC (rowOf Try.prog 39) 5)] 1 [0, 1] (pk2 7) (pS2 b x low 42 6 7 3200 (.it 8)))), pS2 b x low 42 6 7 3200 (.it 8), []) := by kernel_rfl
theorem p39z : sxp M0 (dropC 6 (rowOf Try.prog 39)) 1 [0, 1] [(4, false)] (pS2 b x low 42 6 7 3200 (.it 8)) = some (.ret, pS3 b x 42, []) := by kernel_rfl
end
end Go.Proofs.Sx
/- The padding of a message: the program's and the reference's functions hand it back. -/
namespace Go.Proofs.Sx
open Go
theorem padZ_succ (b : By) (i : Nat) : padZ b i ++ [0#8] = padZ b (i + 1) := by
  unfold padZ
  rw [List.replicate_succ', List.append_assoc]
section
variable {f nt s7 : Nat} {id5 : By → Bool → Nat} (b : By) (low : Bool) (hb : b.length ≤ 3000)
    (hc : hasCode Try.prog f = true) (ht : Nat.beq (fnOf Try.prog f).ntmps nt = true) (hl : Nat.blt 2 (lenL (rowOf Try.prog f)) = true) (hl5 : Nat.blt 2 (lenL (dropC 3 (rowOf Try.prog f))) = true)
    (at2 : nthC (rowOf Try.prog f) 2 = .block 0 (.loop (inLoop (nthC (rowOf Try.prog f) 2)))) (at5 : nthC (dropC 3 (rowOf Try.prog f)) 2 = .block (id5 b low) (.loop (inLoop (nthC (rowOf Try.prog f) 5))))
    (d6 : dropC 3 (dropC 3 (rowOf Try.prog f)) = dropC 6 (rowOf Try.prog f)) (hn : 2 ≤ nt) {ixa ixr : List Nat}
    (ha : sxp M0 (takeC 2 (rowOf Try.prog f)) 1 ixa pk1 (pIn b low nt) = some (.normal, pS1 b (pad0 b) low nt 3001 [], []))
    (hr : ∀ x, sxp M0 [inLoop (nthC (rowOf Try.prog f) 2)] 1 [0, 3] pk1 (pS1 b x low nt 3100 [true]) = some (.normal, pS1 b (x ++ [0#8]) low nt 3101 [], [ne56 x, true]))
    (hx : ∀ x, sxp M0 [inLoop (nthC (rowOf Try.prog f) 2)] 1 [0, 1] pk1 (pS1 b x low nt 3100 [false]) = some (.exit 0, pS1 b x low nt 3100 [], [!(ne56 x), true]))
    (h2 : ∀ x, sxp M0 (takeC 2 (dropC 3 (rowOf Try.prog f))) 1 [0, 1] (pk2 s7) (pS1 b x low nt 3100 []) = some (.normal, pS2 b x low nt 6 s7 3100 (.it 0), []))
    (hy : ∀ x, ∀ i, i < 8 → sxp M0 [inLoop (nthC (rowOf Try.prog f) 5)] 1 [0, 3] (pk2 s7) (pS2 b x low nt 6 s7 3200 (.it i)) = some (.normal, pS2 b (x ++ [lenAt b low i]) low nt 6 s7 3201 (.it (i + 1)), []))
    (he : ∀ x, sxp M0 [inLoop (nthC (rowOf Try.prog f) 5)] 1 [0, 1] (pk2 s7) (pS2 b x low nt 6 s7 3200 (.it 8)) = some (.exit (id5 b low), pS2 b x low nt 6 s7 3200 (.it 8), []))
    (hz : ∀ x, sxp M0 (dropC 6 (rowOf Try.prog f)) 1 [0, 1] [(4, false)] (pS2 b x low nt 6 s7 3200 (.it 8)) = some (.ret, pS3 b x nt, []))
    (hv : resV Try.prog (fnOf Try.prog f).results.toList (slots [(4, .one (.dy 1))]) [.rd b 3000, .dyn 5 (padL b low) 3200] = some (.one (.dy 1)))
include hb hc ht hl hl5 at2 at5 d6 hn ha hr hx h2 hy he hz hv
theorem pad_runs : Runs Try.prog f [.one (.dy 0), .one (.bl low)] [.rd b 3000] (.one (.dy 1)) [.rd b 3000, .dyn 5 (padL b low) 3200] true := by
  have hzn := zerosN_lt b
  have re1 : ∀ {l : List Code} {s : St} {e : Ex} {y : By} {bd : Nat}, y.length ≤ 3100 → DoesK Try.prog 1 l s e (pS1 b y low nt bd []) → DoesK Try.prog 1 l s e (pS1 b y low nt 3100 []) :=
    fun hy h => DoesK.rebd (r := 1) h rfl hy
  have re2 : ∀ {l : List Code} {s : St} {e : Ex} {y : By} {bd : Nat} {v : C}, y.length ≤ 3200 → DoesK Try.prog 1 l s e (pS2 b y low nt 6 s7 bd v) → DoesK Try.prog 1 l s e (pS2 b y low nt 6 s7 3200 v) :=
    fun hy h => DoesK.rebd (r := 1) h rfl hy
  have A : DoesK Try.prog 1 (takeC 2 (rowOf Try.prog f)) (pIn b low nt) .normal (pS1 b (padZ b 0) low nt 3100 []) := by
    have := sxp_is known_none ha AllT.nil
    have e0 : padZ b 0 = pad0 b := by simp [padZ]
    rw [e0]
    exact re1 (by rw [pad0_len]; omega) this
  have L1 : ∀ i, i < zerosN b → DoesK Try.prog 1 [inLoop (nthC (rowOf Try.prog f) 2)] (pS1 b (padZ b i) low nt 3100 []) .normal (pS1 b (padZ b (i + 1)) low nt 3100 []) := by
    intro i hi
    have hne : ne56 (padZ b i) = true := by
      unfold ne56
      rw [padZ_len]
      have := zerosN_not b hi
      cases hq : Nat.beq ((b.length + 1 + i) % 64) 56 with
      | false => rfl
      | true => exact absurd (Nat.eq_of_beq_eq_true hq) this
    have h := sxp_is known_none (hr (padZ b i)) (AllT.cons hne (AllT.cons rfl AllT.nil))
    rw [← padZ_succ]
    exact re1 (by rw [List.length_append, padZ_len, List.length_singleton]; omega) h
  have X1 : DoesK Try.prog 1 [inLoop (nthC (rowOf Try.prog f) 2)] (pS1 b (padZ b (zerosN b)) low nt 3100 []) (.exit 0) (pS1 b (padZ b (zerosN b)) low nt 3100 []) := by
    refine sxp_is known_none (hx (padZ b (zerosN b))) (AllT.cons ?_ (AllT.cons rfl AllT.nil))
    unfold ne56
    rw [padZ_len, zerosN_mod]
    rfl
  have Bm : DoesK Try.prog 1 (takeC 2 (dropC 3 (rowOf Try.prog f))) (pS1 b (padZ b (zerosN b)) low nt 3100 []) .normal (pS2 b (padZ b (zerosN b) ++ lens b low 0) low nt 6 s7 3200 (.it 0)) := by
    have h := sxp_is known_none (h2 (padZ b (zerosN b))) AllT.nil
    have e0 : padZ b (zerosN b) ++ lens b low 0 = padZ b (zerosN b) := by simp [lens]
    rw [e0]
    exact re2 (by rw [padZ_len]; omega) h
  have L2 : ∀ i, i < 8 → DoesK Try.prog 1 [inLoop (nthC (rowOf Try.prog f) 5)] (pS2 b (padZ b (zerosN b) ++ lens b low i) low nt 6 s7 3200 (.it i)) .normal (pS2 b (padZ b (zerosN b) ++ lens b low (i + 1)) low nt 6 s7 3200 (.it (i + 1))) := by
    intro i hi
    have h := sxp_is known_none (hy (padZ b (zerosN b) ++ lens b low i) i hi) AllT.nil
    have e : padZ b (zerosN b) ++ lens b low (i + 1) = padZ b (zerosN b) ++ lens b low i ++ [lenAt b low i] := by simp [lens]
    rw [e]
    exact re2 (by simp only [List.length_append, padZ_len, lens_len, List.length_singleton]; omega) h
  have X2 := sxp_is known_none (he (padZ b (zerosN b) ++ lens b low 8)) AllT.nil
  have Z := sxp_is known_none (hz (padZ b (zerosN b) ++ lens b low 8)) AllT.nil
  have tail : DoesK Try.prog 1 (dropC 3 (rowOf Try.prog f)) (pS1 b (padZ b (zerosN b)) low nt 3100 []) .ret (pS3 b (padL b low) nt) :=
    DoesK.three (N := 8) (s := fun i => pS2 b (padZ b (zerosN b) ++ lens b low i) low nt 6 s7 3200 (.it i)) (Nat.le_of_ble_eq_true hl5) at5 Bm L2 X2 (by rw [d6]; exact Z)
  have all : DoesK Try.prog 1 (rowOf Try.prog f) (pIn b low nt) .ret (pS3 b (padL b low) nt) :=
    DoesK.three (N := zerosN b) (s := fun i => pS1 b (padZ b i) low nt 3100 []) (Nat.le_of_ble_eq_true hl) at2 A L1 X1 tail
  exact runsK_of (hp := [.rd b 3000]) hc (.inr rfl) (n := nt) (by rw [Nat.eq_of_beq_eq_true ht]; simp only [lenV']; omega) all hv
end
theorem code35 : hasCode Try.prog 35 = true := by kernel_rfl
theorem tmps35 : Nat.beq (fnOf Try.prog 35).ntmps 46 = true := by kernel_rfl
theorem len35 : Nat.blt 2 (lenL (rowOf Try.prog 35)) = true := by kernel_rfl
theorem len35' : Nat.blt 2 (lenL (dropC 3 (rowOf Try.prog 35))) = true := by kernel_rfl
theorem at35 : nthC (rowOf Try.prog 35) 2 = .block 0 (.loop (inLoop (nthC (rowOf Try.prog 35) 2))) := by kernel_rfl
def blkN : Code → Nat
  | .block id _ => id
  | _ => 0
theorem at35' : nthC (dropC 3 (rowOf Try.prog 35)) 2 = .block (blkN (nthC (rowOf Try.prog 35) 5)) (.loop (inLoop (nthC (rowOf Try.prog 35) 5))) := by kernel_rfl
theorem d35 : dropC 3 (dropC 3 (rowOf Try.prog 35)) = dropC 6 (rowOf Try.prog 35) := by kernel_rfl
theorem e35 (b x : By) (low : Bool) : sxp M0 [inLoop (nthC (rowOf Try.prog 35) 5)] 1 [0, 1] (pk2 23) (pS2 b x low 46 6 23 3200 (.it 8)) = some (.exit (blkN (nthC (rowOf Try.prog 35) 5)), pS2 b x low 46 6 23 3200 (.it 8), []) := by kernel_rfl
theorem v35 (b x : By) : resV Try.prog (fnOf Try.prog 35).results.toList (slots [(4, .one (.dy 1))]) [.rd b 3000, .dyn 5 x 3200] = some (.one (.dy 1)) := by kernel_rfl
theorem y35 (b x : By) (low : Bool) (i : Nat) (hi : i < 8) : sxp M0 [inLoop (nthC (rowOf Try.prog 35) 5)] 1 [0, 3] (pk2 23) (pS2 b x low 46 6 23 3200 (.it i)) = some (.normal, pS2 b (x ++ [lenAt b low i]) low 46 6 23 3201 (.it (i + 1)), []) := by
  cases low with
  | true => exact map_at (p35l b x) (a := i) (by simp; omega)
  | false => exact map_at (p35h b x) (a := i) (by simp; omega)
theorem runs35 (b : By) (low : Bool) (hb : b.length ≤ 3000) : Runs Try.prog 35 [.one (.dy 0), .one (.bl low)] [.rd b 3000] (.one (.dy 1)) [.rd b 3000, .dyn 5 (padL b low) 3200] true :=
  pad_runs (s7 := 23) (id5 := fun _ _ => blkN (nthC (rowOf Try.prog 35) 5)) b low hb code35 tmps35 len35 len35' at35 at35' d35 (by decide) (p35a b low) (fun x => p35r b x low) (fun x => p35x b x low) (fun x => p35b b x low) (fun x i hi => y35 b x low i hi) (fun x => e35 b x low) (fun x => p35z b x low) (v35 b _)
theorem code39 : hasCode Try.prog 39 = true := by kernel_rfl
theorem tmps39 : Nat.beq (fnOf Try.prog 39).ntmps 42 = true := by kernel_rfl
theorem len39 : Nat.blt 2 (lenL (rowOf Try.prog 39)) = true := by kernel_rfl
theorem len39' : Nat.blt 2 (lenL (dropC 3 (rowOf Try.prog 39))) = true := by kernel_rfl
theorem at39 : nthC (rowOf Try.prog 39) 2 = .block 0 (.loop (inLoop (nthC (rowOf Try.prog 39) 2))) := by kernel_rfl
theorem at39' : nthC (dropC 3 (rowOf Try.prog 39)) 2 = .block (blkN (nthC (rowOf Try.prog 39) 5)) (.loop (inLoop (nthC (rowOf Try.prog 39) 5))) := by kernel_rfl
theorem d39 : dropC 3 (dropC 3 (rowOf Try.prog 39)) = dropC 6 (rowOf Try.prog 39) := by kernel_rfl
theorem e39 (b x : By) (low : Bool) : sxp M0 [inLoop (nthC (rowOf Try.prog 39) 5)] 1 [0, 1] (pk2 7) (pS2 b x low 42 6 7 3200 (.it 8)) = some (.exit (blkN (nthC (rowOf Try.prog 39) 5)), pS2 b x low 42 6 7 3200 (.it 8), []) := by kernel_rfl
theorem v39 (b x : By) : resV Try.prog (fnOf Try.prog 39).results.toList (slots [(4, .one (.dy 1))]) [.rd b 3000, .dyn 5 x 3200] = some (.one (.dy 1)) := by kernel_rfl
theorem y39 (b x : By) (low : Bool) (i : Nat) (hi : i < 8) : sxp M0 [inLoop (nthC (rowOf Try.prog 39) 5)] 1 [0, 3] (pk2 7) (pS2 b x low 42 6 7 3200 (.it i)) = some (.normal, pS2 b (x ++ [lenAt b low i]) low 42 6 7 3201 (.it (i + 1)), []) := by
  cases low with
  | true => exact map_at (p39l b x) (a := i) (by simp; omega)
  | false => exact map_at (p39h b x) (a := i) (by simp; omega)
theorem runs39 (b : By) (low : Bool) (hb : b.length ≤ 3000) : Runs Try.prog 39 [.one (.dy 0), .one (.bl low)] [.rd b 3000] (.one (.dy 1)) [.rd b 3000, .dyn 5 (padL b low) 3200] true :=
  pad_runs (s7 := 7) (id5 := fun _ _ => blkN (nthC (rowOf Try.prog 39) 5)) b low hb code39 tmps39 len39 len39' at39 at39' d39 (by decide) (p39a b low) (fun x => p39r b x low) (fun x => p39x b x low) (fun x => p39b b x low) (fun x i hi => y39 b x low i hi) (fun x => e39 b x low) (fun x => p39z b x low) (v39 b _)
/-- both, wherever the bytes lie -/
noncomputable def padM (vs : List V) (hp : List Reg) : Option (V × List Reg × Bool × Option Bool) :=
  match vs with
  | [.one (.dy r), .one (.bl low)] => match regAt r hp with
    | some R => match R.bytes with
      | some (b, _) => regPushK hp (.dyn 5 (padL b low) 3200) fun hp' => forceN (regLen hp) fun r' => some (.one (.dy r'), hp', true, some (Nat.ble b.length 3000))
      | none => none
    | none => none
  | _ => none
theorem kpad {f : FuncId} (hf : ∀ (b : By) (low : Bool), b.length ≤ 3000 → Runs Try.prog f [.one (.dy 0), .one (.bl low)] [.rd b 3000] (.one (.dy 1)) [.rd b 3000, .dyn 5 (padL b low) 3200] true) :
    ∀ vs hp v hp' chg ob, padM vs hp = some (v, hp', chg, ob) → (∀ x, ob = some x → x = true) → Runs Try.prog f vs hp v hp' chg := by
  intro vs hp v hp' chg ob h hob
  unfold padM at h
  split at h
  · split at h
    · rename_i R hR
      split at h
      · rename_i b bd hb
        rw [regPushK_eq, forceN_eq, regLen_eq] at h
        cases h
        rw [regAt_eq] at hR
        have hle := Nat.le_of_ble_eq_true (hob _ rfl)
        exact Runs.readDyn (hf b _ hle) rfl hR hb hle
      · cases h
    · cases h
  · cases h
end Go.Proofs.Sx
