/- Calls that reach some regions alone: what they do there they do wherever these lie. -/
import Derived.Test.YtejgaeadplnfgaaHaPadM
namespace Go.Proofs.Sx
open Go
set_option linter.unusedVariables false
/-! numbers turned -/
def mapC (ρ : Nat → Nat) : C → C
  | .pt r o => .pt (ρ r) o
  | .pi r j => .pi (ρ r) j
  | .sl r o n c => .sl (ρ r) o n c
  | .dy r => .dy (ρ r)
  | .vw r i n => .vw (ρ r) i n
  | .vl r i n => .vl (ρ r) i n
  | .pd r p => .pd (ρ r) p
  | c => c
def mapCs (ρ : Nat → Nat) : List C → List C
  | [] => []
  | c :: cs => mapC ρ c :: mapCs ρ cs
def mapV (ρ : Nat → Nat) : V → V
  | .one c => .one (mapC ρ c)
  | .ag cs => .ag (mapCs ρ cs)
  | v => v
def mapR (ρ : Nat → Nat) : Reg → Reg
  | .own t cs => .own t (mapCs ρ cs)
  | .win cs => .win (mapCs ρ cs)
  | .at1 i c => .at1 i (mapC ρ c)
  | .dc t cs => .dc t (mapCs ρ cs)
  | R => R
def mapRs (ρ : Nat → Nat) : List Reg → List Reg
  | [] => []
  | R :: l => mapR ρ R :: mapRs ρ l
theorem mapRs_eq (ρ : Nat → Nat) : ∀ l : List Reg, mapRs ρ l = l.map (mapR ρ)
  | [] => rfl
  | _ :: l => by simp [mapRs, mapRs_eq ρ l]
section
variable {E E' : Env} {ρ : Nat → Nat} (hρ : ∀ (r : Nat) (x : Ent), E.reg[r]? = some x → E'.reg[ρ r]? = some x)
include hρ
theorem mapC_is {c : C} {v : Value} (h : c.is E v) : (mapC ρ c).is E' v := by
  cases c with
  | pt r o => obtain ⟨g, o', h1, h2⟩ := h; exact ⟨g, o', hρ _ _ h1, h2⟩
  | pi r j => obtain ⟨g, o', h1, h2⟩ := h; exact ⟨g, o', hρ _ _ h1, h2⟩
  | sl r o n c => obtain ⟨g, o', h1, h2⟩ := h; exact ⟨g, o', hρ _ _ h1, h2⟩
  | dy r => exact hρ _ _ h
  | vw r i n => obtain ⟨A, L, K, A', c, h1, h2⟩ := h; exact ⟨A, L, K, A', c, hρ _ _ h1, h2⟩
  | vl r i n => obtain ⟨A, L, K, A', c, h1, h2⟩ := h; exact ⟨A, L, K, A', c, hρ _ _ h1, h2⟩
  | pd r p => obtain ⟨ad, L, K, h1, h2⟩ := h; exact ⟨ad, L, K, hρ _ _ h1, h2⟩
  | _ => exact h
theorem mapCs_is : ∀ {cs : List C} {vs : List Value}, All2 (C.is E) cs vs → All2 (C.is E') (mapCs ρ cs) vs
  | [], [], _ => trivial
  | _ :: _, _ :: _, h => ⟨mapC_is hρ h.1, mapCs_is h.2⟩
theorem mapV_is {x : V} {v : Value} (h : x.is E v) : (mapV ρ x).is E' v := by
  cases x with
  | one c => exact mapC_is hρ h
  | ag cs => obtain ⟨vs, h1, h2⟩ := h; exact ⟨vs, h1, mapCs_is hρ h2⟩
  | un => exact h
  | raw u => exact h
omit hρ in
theorem mapCs_get (ρ : Nat → Nat) : ∀ {cs : List C} {j : Nat} {c : C}, (mapCs ρ cs)[j]? = some c → ∃ d, cs[j]? = some d ∧ c = mapC ρ d
  | [], j, c, h => by simp [mapCs] at h
  | x :: cs, 0, c, h => by simp [mapCs] at h; exact ⟨x, rfl, h.symm⟩
  | x :: cs, j + 1, c, h => by
    obtain ⟨d, h1, h2⟩ := mapCs_get ρ (cs := cs) (j := j) (c := c) (by simpa [mapCs] using h)
    exact ⟨d, by simpa using h1, h2⟩
theorem mapR_is {w : World} {r : Nat} {R : Reg} (h : RegIs E w r R) : RegIs E' w (ρ r) (mapR ρ R) := by
  cases R with
  | own t cs => obtain ⟨g, vs, h1, h2, h3⟩ := h; exact ⟨g, vs, hρ _ _ h1, mapCs_is hρ h2, h3⟩
  | win cs =>
    obtain ⟨g, o, h1, h2⟩ := h
    refine ⟨g, o, hρ _ _ h1, fun j c hj => ?_⟩
    obtain ⟨d, h3, rfl⟩ := mapCs_get ρ hj
    obtain ⟨v, h4, h5⟩ := h2 j d h3
    exact ⟨v, mapC_is hρ h4, h5⟩
  | dyn t b bd => obtain ⟨v, h1, h2⟩ := h; exact ⟨v, hρ _ _ h1, h2⟩
  | rd b bd => obtain ⟨A, K, h1, h2⟩ := h; exact ⟨A, K, hρ _ _ h1, h2⟩
  | dead => trivial
  | at1 i c => obtain ⟨ad, L, K, v, h1, h2, h3⟩ := h; exact ⟨ad, L, K, v, hρ _ _ h1, mapC_is hρ h2, h3⟩
  | dc t cs =>
    obtain ⟨v, vs, h1, h2, h3⟩ := h
    refine ⟨v, vs, hρ _ _ h1, mapCs_is hρ h2, ?_⟩
    have e1 := (mapCs_is hρ h2).length
    have e2 := h2.length
    rw [e1, ← e2]
    exact h3
end
theorem mapR_own (ρ : Nat → Nat) (R : Reg) : (mapR ρ R).isOwn = R.isOwn := by cases R <;> rfl
theorem mapR_live (ρ : Nat → Nat) (R : Reg) : (mapR ρ R).live = R.live := by cases R <;> rfl
theorem own_live {R : Reg} (h : R.isOwn = true) : R.live = true := by cases R <;> first | rfl | cases h

/-! what is handed over -/
/-- How a region is handed over: 0 as it is; 1 to be read, by a bound; 2 its cells to be read; 4 as it is, by another bound; else not at all. -/
noncomputable def subR (ix : List Nat) (m bd' : Nat) (R : Reg) : Option (Reg × Bool) :=
  match m with
  | 0 => match renR ix R with
    | some R' => some (R', true)
    | none => none
  | 1 => match R.bytes with
    | some (b, _) => some (.rd b bd', Nat.ble b.length bd')
    | none => none
  | 2 => match R with
    | .own _ cs => match renCs ix cs with
      | some ds => some (.win ds, true)
      | none => none
    | _ => none
  | 4 => match R with
    | .dyn t b _ => some (.dyn t b bd', Nat.ble b.length bd')
    | _ => none
  | 5 => match R.bytes with
    | some (b, bd) => some (.rd b bd, true)
    | none => none
  | _ => some (.dead, true)
theorem subR_is {ix : List Nat} {E : Env} (hin : ∀ r ∈ ix, r < E.reg.length) {w : World} {j r m bd' : Nat} (hj : ix[j]? = some r) {R R' : Reg} {o : Bool} (h : subR ix m bd' R = some (R', o)) (ho : o = true) (hR : RegIs E w r R) :
    RegIs (packE ix E) w j R' ∧ (R'.isOwn = true → R.isOwn = true) ∧ (R'.live = true → R.live = true) := by
  have at_ := packE_at hin hj
  unfold subR at h
  split at h
  · split at h
    · rename_i R1 h1
      cases h
      obtain ⟨a, b, c⟩ := renR_is hin hj h1 hR
      exact ⟨a, fun h => by rw [← b]; exact h, fun h => by rw [← c]; exact h⟩
    · cases h
  · split at h
    · rename_i b bd hb
      cases h
      obtain ⟨A, K, h1, h2, h3⟩ := hR.bytes hb
      refine ⟨⟨A, K, by rw [at_]; exact h1, Nat.le_of_ble_eq_true ho, h3⟩, (fun h => by cases h), fun _ => ?_⟩
      cases R <;> first | rfl | cases hb
    · cases h
  · split at h
    · rename_i t cs
      split at h
      · rename_i ds hd
        cases h
        obtain ⟨g, vs, h1, h2, h3⟩ := hR
        refine ⟨⟨g, 0, by rw [at_]; exact h1, fun i c hi => ?_⟩, (fun h => by cases h), fun _ => rfl⟩
        obtain ⟨v, hv, hc⟩ := (renCs_is hin hd h2).get (n := i) (a := c) hi
        exact ⟨v, hc, by rw [Nat.zero_add, cell_of_row w g i _ t _ h3]; simpa using hv⟩
      · cases h
    · cases h
  · split at h
    · cases h
      obtain ⟨v, h1, h2, h3⟩ := hR
      exact ⟨⟨v, by rw [at_]; exact h1, h2, Nat.le_of_ble_eq_true ho⟩, fun _ => rfl, fun _ => rfl⟩
    · cases h
  · split at h
    · rename_i b bd hb
      cases h
      obtain ⟨A, K, h1, h2, h3⟩ := hR.bytes hb
      refine ⟨⟨A, K, by rw [at_]; exact h1, h2, h3⟩, (fun h => by cases h), fun _ => ?_⟩
      cases R <;> first | rfl | cases hb
    · cases h
  · cases h
    exact ⟨trivial, (fun h => by cases h), fun h => by cases h⟩
noncomputable def subs (ix : List Nat) (hp : List Reg) : List (Nat × Nat × Nat) → Option (List Reg × Bool)
  | [] => some ([], true)
  | (r, m, bd') :: l => match regAt r hp with
    | some R => match subR ix m bd' R with
      | some (R', o) => match subs ix hp l with
        | some (L, o') => some (R' :: L, o && o')
        | none => none
      | none => none
    | none => none
def fsts : List (Nat × Nat × Nat) → List Nat
  | [] => []
  | (r, _) :: l => r :: fsts l
theorem fsts_eq : ∀ l : List (Nat × Nat × Nat), fsts l = l.map (·.1)
  | [] => rfl
  | (r, _) :: l => by simp [fsts, fsts_eq l]
theorem subs_is {ix : List Nat} {hp : List Reg} : ∀ {l : List (Nat × Nat × Nat)} {L : List Reg} {o : Bool}, subs ix hp l = some (L, o) → o = true →
    L.length = l.length ∧ ∀ (j : Nat) (R' : Reg), L[j]? = some R' → ∃ r m bd' R, (fsts l)[j]? = some r ∧ hp[r]? = some R ∧ subR ix m bd' R = some (R', true)
  | [], L, o, h, _ => by cases h; exact ⟨rfl, fun j R' h => by simp at h⟩
  | (r, m, bd') :: l, L, o, h, ho => by
    simp only [subs] at h
    split at h
    · rename_i R hR
      split at h
      · rename_i R1 o1 h1
        split at h
        · rename_i L1 o2 h2
          cases h
          rw [Bool.and_eq_true] at ho
          obtain ⟨rfl, ho2⟩ := ho
          obtain ⟨h3, h4⟩ := subs_is h2 ho2
          refine ⟨by simp [h3], fun j R' hj => ?_⟩
          cases j with
          | zero =>
            simp at hj
            subst hj
            rw [regAt_eq] at hR
            exact ⟨r, m, bd', R, rfl, hR, h1⟩
          | succ j =>
            obtain ⟨r', m', bd1, R2, h5, h6, h7⟩ := h4 j R' (by simpa using hj)
            exact ⟨r', m', bd1, R2, by simpa [fsts] using h5, h6, h7⟩
        · cases h
      · cases h
    · cases h
theorem subs_in {ix : List Nat} {hp : List Reg} : ∀ {l : List (Nat × Nat × Nat)} {L : List Reg} {o : Bool}, subs ix hp l = some (L, o) → ∀ r ∈ fsts l, r < hp.length
  | [], _, _, _, r, hr => by cases hr
  | (x, m, bd') :: l, L, o, h, r, hr => by
    simp only [subs] at h
    split at h
    · rename_i R hR
      split at h
      · split at h
        · rename_i L1 o2 h2
          rcases List.mem_cons.1 hr with rfl | hr
          · rw [regAt_eq] at hR
            exact (List.getElem?_eq_some_iff.1 hR).1
          · exact subs_in h2 r hr
        · cases h
      · cases h
    · cases h
def renVs (ix : List Nat) : List V → Option (List V)
  | [] => some []
  | v :: vs => match renV ix v with
    | some x => match renVs ix vs with
      | some xs => some (x :: xs)
      | none => none
    | none => none
theorem renVs_is {ix : List Nat} {E : Env} (hin : ∀ r ∈ ix, r < E.reg.length) : ∀ {vs ys : List V} {us : List Value}, renVs ix vs = some ys → All2 (V.is E) vs us → All2 (V.is (packE ix E)) ys us
  | [], _, [], h, _ => by cases h; trivial
  | v :: vs, ys, u :: us, h, hc => by
    simp only [renVs] at h
    split at h
    · rename_i x hx
      split at h
      · rename_i xs hxs
        cases h
        exact ⟨renV_is hin hx hc.1, renVs_is hin hxs hc.2⟩
      · cases h
    · cases h

/-! what comes back -/
/-- No region has become one's own, or alive. -/
def sameR : List Reg → List Reg → Bool
  | [], l => freshR l
  | R :: L, R1 :: l => match (!R1.isOwn || R.isOwn) && (!R1.live || R.live) with
    | true => sameR L l
    | false => false
  | _ :: _, [] => false
where freshR : List Reg → Bool
  | [] => true
  | R :: l => match R.isOwn || !R.live with
    | true => freshR l
    | false => false
theorem freshR_is : ∀ {l : List Reg}, sameR.freshR l = true → ∀ (j : Nat) (R : Reg), l[j]? = some R → R.live = true → R.isOwn = true
  | [], _, j, R, h, _ => by simp at h
  | X :: l, h, j, R, hj, hl => by
    simp only [sameR.freshR] at h
    split at h
    · rename_i hb
      cases j with
      | zero =>
        simp at hj
        subst hj
        rw [hl] at hb
        simpa using hb
      | succ j => exact freshR_is h j R (by simpa using hj) hl
    · cases h
theorem sameR_is : ∀ {L l : List Reg}, sameR L l = true → L.length ≤ l.length ∧ (∀ (j : Nat) (R R1 : Reg), L[j]? = some R → l[j]? = some R1 → (R1.isOwn = true → R.isOwn = true) ∧ (R1.live = true → R.live = true)) ∧ ∀ (j : Nat) (R1 : Reg), L.length ≤ j → l[j]? = some R1 → R1.live = true → R1.isOwn = true
  | [], l, h => ⟨Nat.zero_le _, fun j R R1 h => by simp at h, fun j R1 _ hj hl => freshR_is h j R1 hj hl⟩
  | _ :: _, [], h => by cases h
  | R :: L, R1 :: l, h => by
    simp only [sameR] at h
    split at h
    · rename_i hb
      obtain ⟨h1, h2, h3⟩ := sameR_is h
      rw [Bool.and_eq_true] at hb
      refine ⟨by simpa using h1, fun j X X1 hj hj1 => ?_, fun j X1 hle hj hl => ?_⟩
      · cases j with
        | zero =>
          simp at hj hj1
          subst hj hj1
          refine ⟨fun h => ?_, fun h => ?_⟩
          · have := hb.1; rw [h] at this; simpa using this
          · have := hb.2; rw [h] at this; simpa using this
        | succ j => exact h2 j X X1 (by simpa using hj) (by simpa using hj1)
      · cases j with
        | zero => simp at hle
        | succ j => exact h3 j X1 (by simpa using hle) (by simpa using hj) hl
    · cases h
/-- the regions behind the call -/
def layB (ρ : Nat → Nat) : List Nat → List Reg → List Reg → List Reg → Option (List Reg)
  | [], _, l, hp => some (hp ++ mapRs ρ l)
  | r :: ix, R :: L, R1 :: l, hp => match R.isOwn with
    | true => match regSet r (mapR ρ R1) hp with
      | some hp' => layB ρ ix L l hp'
      | none => none
    | false => layB ρ ix L l hp
  | _, _, _, _ => none
theorem layB_is {ρ : Nat → Nat} : ∀ {ix : List Nat} {L l hp hp' : List Reg}, layB ρ ix L l hp = some hp' → L.length = ix.length →
    hp'.length + ix.length = hp.length + l.length ∧ ∀ (q : Nat) (R : Reg), hp'[q]? = some R →
      (q < hp.length ∧ ((∃ (j : Nat) (R0 R1 : Reg), ix[j]? = some q ∧ L[j]? = some R0 ∧ R0.isOwn = true ∧ l[j]? = some R1 ∧ R = mapR ρ R1) ∨ (hp[q]? = some R ∧ ∀ (j : Nat) (R0 : Reg), ix[j]? = some q → L[j]? = some R0 → R0.isOwn = false))) ∨
      (∃ (k : Nat) (R1 : Reg), q = hp.length + k ∧ l[ix.length + k]? = some R1 ∧ R = mapR ρ R1)
  | [], L, l, hp, hp', h, hL => by
    simp only [layB, Option.some.injEq] at h
    subst h
    refine ⟨by simp [mapRs_eq], fun q R hq => ?_⟩
    rcases Nat.lt_or_ge q hp.length with hlt | hge
    · rw [List.getElem?_append_left hlt] at hq
      exact .inl ⟨hlt, .inr ⟨hq, fun j R0 hj => by simp at hj⟩⟩
    · rw [List.getElem?_append_right hge, mapRs_eq, List.getElem?_map] at hq
      cases hq1 : l[q - hp.length]? with
      | none => rw [hq1] at hq; cases hq
      | some R1 =>
        rw [hq1] at hq
        cases hq
        exact .inr ⟨q - hp.length, R1, by omega, by simpa using hq1, rfl⟩
  | r :: ix, [], l, hp, hp', h, hL => by cases hL
  | r :: ix, R :: L, [], hp, hp', h, hL => by cases h
  | r :: ix, R :: L, R1 :: l, hp, hp', h, hL => by
    simp only [layB] at h
    split at h
    · rename_i ho
      split at h
      · rename_i hp2 h2
        obtain ⟨rfl, hlt⟩ := regSet_eq _ _ _ _ h2
        obtain ⟨h3, h4⟩ := layB_is h (by simpa using hL)
        rw [List.length_set] at h3
        refine ⟨by simp; omega, fun q X hq => ?_⟩
        rcases h4 q X hq with ⟨hql, h5⟩ | ⟨k, Y, h5, h6, h7⟩
        · rw [List.length_set] at hql
          refine .inl ⟨hql, ?_⟩
          rcases h5 with ⟨j, R0, Y, a1, a2, a3, a4, a5⟩ | ⟨a1, a2⟩
          · exact .inl ⟨j + 1, R0, Y, by simpa using a1, by simpa using a2, a3, by simpa using a4, a5⟩
          · by_cases hqr : q = r
            · subst hqr
              rw [List.getElem?_set_self hlt] at a1
              cases a1
              exact .inl ⟨0, R, R1, rfl, rfl, ho, rfl, rfl⟩
            · rw [List.getElem?_set_ne (Ne.symm hqr)] at a1
              refine .inr ⟨a1, fun j R0 hj hj0 => ?_⟩
              cases j with
              | zero => simp at hj; exact absurd hj.symm hqr
              | succ j => exact a2 j R0 (by simpa using hj) (by simpa using hj0)
        · rw [List.length_set] at h5
          exact .inr ⟨k, Y, h5, by simpa [Nat.add_right_comm] using h6, h7⟩
      · cases h
    · rename_i ho
      obtain ⟨h3, h4⟩ := layB_is h (by simpa using hL)
      refine ⟨by simp; omega, fun q X hq => ?_⟩
      rcases h4 q X hq with ⟨hql, h5⟩ | ⟨k, Y, h5, h6, h7⟩
      · refine .inl ⟨hql, ?_⟩
        rcases h5 with ⟨j, R0, Y, a1, a2, a3, a4, a5⟩ | ⟨a1, a2⟩
        · exact .inl ⟨j + 1, R0, Y, by simpa using a1, by simpa using a2, a3, by simpa using a4, a5⟩
        · refine .inr ⟨a1, fun j R0 hj hj0 => ?_⟩
          cases j with
          | zero => simp at hj0; subst hj0; simpa using ho
          | succ j => exact a2 j R0 (by simpa using hj) (by simpa using hj0)
      · exact .inr ⟨k, Y, h5, by simpa [Nat.add_right_comm] using h6, h7⟩

/-- where a local number stands -/
noncomputable def bkN (ix : List Nat) (n h k : Nat) : Nat := bif Nat.blt k n then nthNat ix k else h + (k - n)
where nthNat : List Nat → Nat → Nat
  | x :: _, 0 => x
  | _ :: l, k + 1 => nthNat l k
  | [], _ => 0
theorem nthNat_is : ∀ {l : List Nat} {k r : Nat}, l[k]? = some r → bkN.nthNat l k = r
  | [], k, r, h => by simp at h
  | x :: l, 0, r, h => by simp at h; exact h
  | x :: l, k + 1, r, h => nthNat_is (l := l) (k := k) (by simpa using h)
theorem bkN_lt {ix : List Nat} {n h k r : Nat} (hn : n = ix.length) (hk : ix[k]? = some r) : bkN ix n h k = r := by
  have h1 : k < n := by rw [hn]; exact (List.getElem?_eq_some_iff.1 hk).1
  have h2 : Nat.blt k n = true := Nat.ble_eq_true_of_le h1
  unfold bkN
  rw [h2, cond_true]
  exact nthNat_is hk
theorem bkN_ge {ix : List Nat} {n h k : Nat} (hk : n ≤ k) : bkN ix n h k = h + (k - n) := by
  have h2 : Nat.blt k n = false := by
    cases hq : Nat.blt k n with
    | false => rfl
    | true => have := Nat.le_of_ble_eq_true hq; omega
  unfold bkN
  rw [h2, cond_false]

section
variable {P : Program} {f : FuncId}
theorem Runs.local {vs vs' : List V} {hp L hp1 hp' : List Reg} {v : V} {chg : Bool} {l : List (Nat × Nat × Nat)} (h : Runs P f vs' L v hp1 chg) (hnd : (fsts l).Nodup) (hs : subs (fsts l) hp l = some (L, true)) (hv : renVs (fsts l) vs = some vs')
    (hsame : sameR L hp1 = true) (hlay : layB (bkN (fsts l) L.length hp.length) (fsts l) L hp1 hp = some hp') : Runs P f vs hp (mapV (bkN (fsts l) L.length hp.length) v) hp' true := by
  generalize hix : fsts l = ix at *
  obtain ⟨hLl, hL⟩ := subs_is hs rfl
  have hinh := subs_in hs
  rw [hix] at hL hinh
  have hixl : ix.length = l.length := by rw [← hix, fsts_eq, List.length_map]
  have hLn : L.length = ix.length := by rw [hLl, hixl]
  obtain ⟨hlen1, hsm, hfr⟩ := sameR_is hsame
  obtain ⟨hlay1, hlay2⟩ := layB_is hlay hLn
  intro B w0 E us w hvs hh
  have hin : ∀ r ∈ ix, r < E.reg.length := fun r hr => by rw [← hh.len]; exact hinh r hr
  -- what is handed over
  have sub : ∀ {j : Nat} {R' : Reg}, L[j]? = some R' → ∃ r R, ix[j]? = some r ∧ hp[r]? = some R ∧ RegIs (packE ix E) w j R' ∧ (R'.isOwn = true → R.isOwn = true) ∧ (R'.live = true → R.live = true) ∧ (packE ix E).reg[j]? = E.reg[r]? := by
    intro j R' hj
    obtain ⟨r, m, bd', R, h1, h2, h3⟩ := hL j R' hj
    obtain ⟨a, b, c⟩ := subR_is hin h1 h3 rfl (hh.at_ r R h2)
    exact ⟨r, R, h1, h2, a, b, c, packE_at hin h1⟩
  have inj : ∀ {j j' r : Nat}, ix[j]? = some r → ix[j']? = some r → j = j' := by
    intro j j' r h1 h2
    obtain ⟨q1, q2⟩ := List.getElem?_eq_some_iff.1 h1
    obtain ⟨q3, q4⟩ := List.getElem?_eq_some_iff.1 h2
    exact (List.getElem_inj hnd).1 (q2.trans q4.symm)
  have peIn : ∀ {j : Nat} {x : Ent}, (packE ix E).reg[j]? = some x → ∃ r, ix[j]? = some r ∧ E.reg[r]? = some x := by
    intro j x hx
    have hj : j < ix.length := by
      rcases Nat.lt_or_ge j ix.length with h | h
      · exact h
      · have : (packE ix E).reg[j]? = none := List.getElem?_eq_none (by show (ix.map _).length ≤ j; simpa using h)
        rw [this] at hx; cases hx
    have h1 := List.getElem?_eq_getElem hj
    rw [packE_at hin h1] at hx
    exact ⟨_, h1, hx⟩
  have hloc : HR (fun b => ∃ (j : Nat) (R : Reg) (x : Ent), L[j]? = some R ∧ R.isOwn = true ∧ (packE ix E).reg[j]? = some x ∧ x.blk = some b) w (packE ix E) L w := by
    refine ⟨by rw [hLn]; show _ = (ix.map _).length; rw [List.length_map], fun j R' hj => ?_, fun j j' R R' y y' g h1 h2 h3 h4 h5 h6 h7 h8 => ?_, fun j R x g h1 h2 h3 h4 => .inl ⟨j, R, x, h1, h2, h3, h4⟩, fun j x g hx hg => ?_, fun j v hv => ?_, rfl, rfl, rfl, Nat.le_refl _, fun _ _ _ => rfl⟩
    · obtain ⟨r, R, a1, a2, a3, _⟩ := sub hj
      exact a3
    · obtain ⟨r, Q, a1, a2, _, a4, _, a6⟩ := sub h1
      obtain ⟨r', Q', b1, b2, _, _, b5, b6⟩ := sub h3
      rw [a6] at h6
      rw [b6] at h7
      refine hh.sep r r' Q Q' y y' g a2 (a4 h2) b2 (b5 h4) (fun e => h5 ?_) h6 h7 h8
      subst e
      exact inj a1 b1
    · obtain ⟨r, _, h2⟩ := peIn hx
      exact hh.lt r x g h2 hg
    · obtain ⟨r, _, h2⟩ := peIn hv
      exact hh.ok r v h2
  refine Calls.mono (h _ w (packE ix E) us w (renVs_is hin hv hvs) hloc) fun e w1 ⟨E1, u, hE1, he, hu, hh1, _⟩ => ?_
  -- the places
  have pel : (packE ix E).reg.length = ix.length := by show (ix.map _).length = _; rw [List.length_map]
  have hEl : E.reg.length = hp.length := hh.len.symm
  have hE1l : E1.reg.length = hp1.length := hh1.len.symm
  have e1lt : ∀ {j r : Nat}, ix[j]? = some r → E1.reg[j]? = E.reg[r]? := by
    intro j r hj
    have hr := hin r (List.mem_of_getElem? hj)
    rw [List.getElem?_eq_getElem hr]
    refine hE1 j _ ?_
    rw [packE_at hin hj, List.getElem?_eq_getElem hr]
  let E' : Env := ⟨E.reg ++ E1.reg.drop ix.length⟩
  have eold : ∀ {q : Nat}, q < hp.length → E'.reg[q]? = E.reg[q]? := by
    intro q hq
    show (E.reg ++ _)[q]? = _
    rw [List.getElem?_append_left (by rw [hEl]; exact hq)]
  have enew : ∀ {k : Nat}, E'.reg[hp.length + k]? = E1.reg[ix.length + k]? := by
    intro k
    show (E.reg ++ _)[hp.length + k]? = _
    rw [List.getElem?_append_right (by rw [hEl]; omega), List.getElem?_drop]
    congr 1
    omega
  have hle : E.le E' := fun r x hx => by
    have : r < E.reg.length := (List.getElem?_eq_some_iff.1 hx).1
    rw [eold (by rw [← hEl]; exact this)]
    exact hx
  have hρ : ∀ (r : Nat) (x : Ent), E1.reg[r]? = some x → E'.reg[bkN ix L.length hp.length r]? = some x := by
    intro r x hx
    rcases Nat.lt_or_ge r ix.length with hr | hr
    · have h1 := List.getElem?_eq_getElem hr
      rw [bkN_lt hLn h1, eold (hinh _ (List.getElem_mem hr)), ← e1lt h1]
      exact hx
    · rw [bkN_ge (by omega), enew]
      rw [show ix.length + (r - L.length) = r by omega]
      exact hx
  -- a block that the call may have written is one's own that was handed over, or new
  have mine' : ∀ {g : Nat}, (∃ (j : Nat) (R : Reg) (x : Ent), L[j]? = some R ∧ R.isOwn = true ∧ (packE ix E).reg[j]? = some x ∧ x.blk = some g) → ∃ (j r : Nat) (R : Reg) (x : Ent), L[j]? = some R ∧ R.isOwn = true ∧ ix[j]? = some r ∧ E.reg[r]? = some x ∧ x.blk = some g ∧ ∃ Q : Reg, hp[r]? = some Q ∧ Q.isOwn = true := by
    intro g ⟨j, R, x, h1, h2, h3, h4⟩
    obtain ⟨r, Q, a1, a2, _, a4, _, a6⟩ := sub h1
    rw [a6] at h3
    exact ⟨j, r, R, x, h1, h2, a1, h3, h4, Q, a2, a4 h2⟩
  -- a region that was not handed over as one's own lies apart from what may have been written
  have apart : ∀ {q g : Nat} {R : Reg} {x : Ent}, hp[q]? = some R → R.live = true → (∀ (j : Nat) (R0 : Reg), ix[j]? = some q → L[j]? = some R0 → R0.isOwn = false) → E.reg[q]? = some x → x.blk = some g →
      ¬ (∃ (j : Nat) (R : Reg) (x : Ent), L[j]? = some R ∧ R.isOwn = true ∧ (packE ix E).reg[j]? = some x ∧ x.blk = some g) := by
    intro q g R x hq hl hn hx hg hb
    obtain ⟨j, r, R1, y, h1, h2, h3, h4, h5, Q, h6, h7⟩ := mine' hb
    refine hh.sep r q Q R y x g h6 h7 hq hl (fun e => ?_) h4 hx h5 hg
    subst e
    have := hn j R1 h3 h1
    rw [h2] at this
    cases this
  have entA : ∀ {j q : Nat} {x : Ent}, ix[j]? = some q → E'.reg[q]? = some x → E1.reg[j]? = some x := by
    intro j q x hj hx
    rw [eold (hinh q (List.mem_of_getElem? hj))] at hx
    rw [e1lt hj]
    exact hx
  refine ⟨E', u, hle, he, mapV_is hρ hu, ⟨?_, fun q R hq => ?_, fun q q' R R' y y' g hq ho hq' hl hne hy hy' hyg hyg' => ?_, fun q R y g hq ho hy hyg => ?_, fun q y g hy hyg => ?_, fun q v hv => ?_, hh1.os.trans hh.os, hh1.tape.trans hh.tape, hh1.output.trans hh.output, Nat.le_trans hh.size hh1.size, fun b hb hB => ?_⟩, fun h => by cases h⟩
  · show _ = (E.reg ++ _).length
    rw [List.length_append, List.length_drop]
    omega
  · -- the regions
    rcases hlay2 q R hq with ⟨hql, ⟨j, R0, R1, a1, a2, a3, a4, rfl⟩ | ⟨a1, a2⟩⟩ | ⟨k, R1, rfl, a2, rfl⟩
    · have := mapR_is hρ (hh1.at_ j R1 a4)
      rwa [bkN_lt hLn a1] at this
    · cases hlive : R.live with
      | false => cases R <;> first | trivial | cases hlive
      | true =>
        refine (hh.at_ q R a1).keep hle fun x g hx hg => hh1.keep g (hh.lt q x g hx hg) (apart a1 hlive a2 hx hg)
    · have := mapR_is hρ (hh1.at_ _ R1 a2)
      rwa [bkN_ge (by omega), show ix.length + k - L.length = k by omega] at this
  · -- apart
    rcases hlay2 q R hq with ⟨hql, ⟨j, R0, R1, a1, a2, a3, a4, rfl⟩ | ⟨a1, a2⟩⟩ | ⟨k, R1, rfl, a2, rfl⟩
    · rw [mapR_own] at ho
      have hy1 := entA a1 hy
      obtain ⟨r, Q, s1, s2, _, s4, _, _⟩ := sub a2
      rw [a1] at s1; cases s1
      rcases hlay2 q' R' hq' with ⟨hql', ⟨j', R0', R1', b1, b2, b3, b4, rfl⟩ | ⟨b1, b2⟩⟩ | ⟨k', R1', rfl, b2, rfl⟩
      · rw [mapR_live] at hl
        refine hh1.sep j j' R1 R1' y y' g a4 ho b4 hl (fun e => hne ?_) hy1 (entA b1 hy') hyg hyg'
        subst e
        rw [a1] at b1; cases b1; rfl
      · rw [eold hql] at hy
        rw [eold hql'] at hy'
        exact hh.sep q q' Q R' y y' g s2 (s4 a3) b1 hl hne hy hy' hyg hyg'
      · rw [mapR_live] at hl
        rw [enew] at hy'
        have hj : j < ix.length := (List.getElem?_eq_some_iff.1 a1).1
        exact hh1.sep j (ix.length + k') R1 R1' y y' g a4 ho b2 hl (by omega) hy1 hy' hyg hyg'
    · rw [eold hql] at hy
      rcases hlay2 q' R' hq' with ⟨hql', ⟨j', R0', R1', b1, b2, b3, b4, rfl⟩ | ⟨b1, b2⟩⟩ | ⟨k', R1', rfl, b2, rfl⟩
      · obtain ⟨r, Q, s1, s2, _, s4, _, _⟩ := sub b2
        rw [b1] at s1; cases s1
        rw [eold hql'] at hy'
        exact hh.sep q q' R Q y y' g a1 ho s2 (own_live (s4 b3)) hne hy hy' hyg hyg'
      · rw [eold hql'] at hy'
        exact hh.sep q q' R R' y y' g a1 ho b1 hl hne hy hy' hyg hyg'
      · rw [mapR_live] at hl
        rw [enew] at hy'
        have hfo := hfr _ R1' (by omega) b2 hl
        rcases hh1.mine _ R1' y' g b2 hfo hy' hyg' with hb | hb
        · exact apart a1 (own_live ho) a2 hy hyg hb
        · have := hh.lt q y g hy hyg
          omega
    · rw [mapR_own] at ho
      rw [enew] at hy
      rcases hlay2 q' R' hq' with ⟨hql', ⟨j', R0', R1', b1, b2, b3, b4, rfl⟩ | ⟨b1, b2⟩⟩ | ⟨k', R1', rfl, b2, rfl⟩
      · rw [mapR_live] at hl
        have hj : j' < ix.length := (List.getElem?_eq_some_iff.1 b1).1
        exact hh1.sep (ix.length + k) j' R1 R1' y y' g a2 ho b4 hl (by omega) hy (entA b1 hy') hyg hyg'
      · rw [eold hql'] at hy'
        rcases hh1.mine _ R1 y g a2 ho hy hyg with hb | hb
        · exact apart b1 hl b2 hy' hyg' hb
        · have := hh.lt q' y' g hy' hyg'
          omega
      · rw [mapR_live] at hl
        rw [enew] at hy'
        exact hh1.sep (ix.length + k) (ix.length + k') R1 R1' y y' g a2 ho b2 hl (by omega) hy hy' hyg hyg'
  · -- mine
    have ofB : ∀ {g : Nat}, (∃ (j : Nat) (R : Reg) (x : Ent), L[j]? = some R ∧ R.isOwn = true ∧ (packE ix E).reg[j]? = some x ∧ x.blk = some g) → B g ∨ w0.heap.size ≤ g := by
      intro g hb
      obtain ⟨j, r, R1, x, h1, h2, h3, h4, h5, Q, h6, h7⟩ := mine' hb
      exact hh.mine r Q x g h6 h7 h4 h5
    rcases hlay2 q R hq with ⟨hql, ⟨j, R0, R1, a1, a2, a3, a4, rfl⟩ | ⟨a1, a2⟩⟩ | ⟨k, R1, rfl, a2, rfl⟩
    · obtain ⟨r, Q, s1, s2, _, s4, _, _⟩ := sub a2
      rw [a1] at s1; cases s1
      rw [eold hql] at hy
      exact hh.mine q Q y g s2 (s4 a3) hy hyg
    · rw [eold hql] at hy
      exact hh.mine q R y g a1 ho hy hyg
    · rw [mapR_own] at ho
      rw [enew] at hy
      rcases hh1.mine _ R1 y g a2 ho hy hyg with hb | hb
      · exact ofB hb
      · exact .inr (Nat.le_trans hh.size hb)
  · rcases Nat.lt_or_ge q hp.length with hq | hq
    · rw [eold hq] at hy
      exact Nat.lt_of_lt_of_le (hh.lt q y g hy hyg) hh1.size
    · rw [show q = hp.length + (q - hp.length) by omega, enew] at hy
      exact hh1.lt _ y g hy hyg
  · rcases Nat.lt_or_ge q hp.length with hq | hq
    · rw [eold hq] at hv
      exact hh.ok q v hv
    · rw [show q = hp.length + (q - hp.length) by omega, enew] at hv
      exact hh1.ok _ v hv
  · have hb' : b < w.heap.size := Nat.lt_of_lt_of_le hb hh.size
    rw [hh1.keep b hb' fun hbb => ?_]
    · exact hh.keep b hb hB
    · obtain ⟨j, r, R1, x, h1, h2, h3, h4, h5, Q, h6, h7⟩ := mine' hbb
      rcases hh.mine r Q x b h6 h7 h4 h5 with h8 | h8
      · exact hB h8
      · omega

/-- .. nothing is handed over to be written, and a value comes back: nothing has turned. -/
def noOwn : List Reg → Bool
  | [] => true
  | R :: l => match R.isOwn with
    | true => false
    | false => noOwn l
theorem noOwn_is : ∀ {L : List Reg}, noOwn L = true → ∀ (j : Nat) (R : Reg), L[j]? = some R → R.isOwn = false
  | [], _, j, R, h => by simp at h
  | X :: L, h, j, R, hj => by
    simp only [noOwn] at h
    split at h
    · cases h
    · rename_i ho
      cases j with
      | zero => simp at hj; subst hj; exact ho
      | succ j => exact noOwn_is h j R (by simpa using hj)
theorem Runs.still {vs vs' : List V} {hp L hp1 : List Reg} {v : V} {chg : Bool} {l : List (Nat × Nat × Nat)} (h : Runs P f vs' L v hp1 chg) (hnd : (fsts l).Nodup) (hs : subs (fsts l) hp l = some (L, true)) (hv : renVs (fsts l) vs = some vs')
    (hno : noOwn L = true) (hpl : v.plain = true) : Runs P f vs hp v hp false := by
  generalize hix : fsts l = ix at *
  obtain ⟨hLl, hL⟩ := subs_is hs rfl
  have hinh := subs_in hs
  rw [hix] at hL hinh
  have hixl : ix.length = l.length := by rw [← hix, fsts_eq, List.length_map]
  have hLn : L.length = ix.length := by rw [hLl, hixl]
  have no := noOwn_is hno
  intro B w0 E us w hvs hh
  have hin : ∀ r ∈ ix, r < E.reg.length := fun r hr => by rw [← hh.len]; exact hinh r hr
  have peIn : ∀ {j : Nat} {x : Ent}, (packE ix E).reg[j]? = some x → ∃ r, ix[j]? = some r ∧ E.reg[r]? = some x := by
    intro j x hx
    have hj : j < ix.length := by
      rcases Nat.lt_or_ge j ix.length with h | h
      · exact h
      · have : (packE ix E).reg[j]? = none := List.getElem?_eq_none (by show (ix.map _).length ≤ j; simpa using h)
        rw [this] at hx; cases hx
    have h1 := List.getElem?_eq_getElem hj
    rw [packE_at hin h1] at hx
    exact ⟨_, h1, hx⟩
  have hloc : HR (fun _ => False) w (packE ix E) L w := by
    refine ⟨by rw [hLn]; show _ = (ix.map _).length; rw [List.length_map], fun j R' hj => ?_, fun j j' R R' y y' g h1 h2 => ?_, fun j R x g h1 h2 => ?_, fun j x g hx hg => ?_, fun j v hv => ?_, rfl, rfl, rfl, Nat.le_refl _, fun _ _ _ => rfl⟩
    · obtain ⟨r, m, bd', R, h1, h2, h3⟩ := hL j R' hj
      exact (subR_is hin h1 h3 rfl (hh.at_ r R h2)).1
    · rw [no j R h1] at h2; cases h2
    · rw [no j R h1] at h2; cases h2
    · obtain ⟨r, _, h2⟩ := peIn hx
      exact hh.lt r x g h2 hg
    · obtain ⟨r, _, h2⟩ := peIn hv
      exact hh.ok r v h2
  refine Calls.mono (h _ w (packE ix E) us w (renVs_is hin hv hvs) hloc) fun e w1 ⟨E1, u, _, he, hu, hh1, _⟩ => ?_
  have hg := hh1.grew
  refine ⟨E, u, E.le_refl, he, V.plain_is hpl hu, hh.grow hg, fun _ => ⟨hg, fun r x g hr hx _ => ?_⟩⟩
  rw [hh.len] at hr
  rw [List.getElem?_eq_none hr] at hx
  cases hx
end

/-! tables -/
abbrev Tab := List V → List Reg → Option (V × List Reg × Bool × Option Bool)
/-- What a table says is so. -/
def Tells (P : Program) (f : FuncId) (m : Tab) : Prop := ∀ vs hp v hp' chg ob, m vs hp = some (v, hp', chg, ob) → (∀ x, ob = some x → x = true) → Runs P f vs hp v hp' chg
def andO (o : Bool) : Option Bool → Option Bool
  | none => some o
  | some x => some (o && x)
/-- A table, wherever the regions lie: pk says which are handed over, and how. -/
noncomputable def locT (pk : List V → List Reg → Option (List (Nat × Nat × Nat))) (m : Tab) : Tab := fun vs hp =>
  match pk vs hp with
  | none => none
  | some l => match nodupB (fsts l) with
    | false => none
    | true => match subs (fsts l) hp l with
      | none => none
      | some (L, o) => match renVs (fsts l) vs with
        | none => none
        | some vs' => match m vs' L with
          | none => none
          | some (v, hp1, _, ob) => match sameR L hp1 with
            | false => none
            | true => match layB (bkN (fsts l) L.length hp.length) (fsts l) L hp1 hp with
              | none => none
              | some hp' => some (mapV (bkN (fsts l) L.length hp.length) v, hp', true, andO o ob)
theorem andO_is {o : Bool} {ob : Option Bool} (h : ∀ x, andO o ob = some x → x = true) : o = true ∧ ∀ x, ob = some x → x = true := by
  cases ob with
  | none => exact ⟨h o rfl, fun x e => by cases e⟩
  | some y =>
    have := h (o && y) rfl
    rw [Bool.and_eq_true] at this
    exact ⟨this.1, fun x e => by cases e; exact this.2⟩
theorem locT_tells {P : Program} {f : FuncId} {pk : List V → List Reg → Option (List (Nat × Nat × Nat))} {m : Tab} (hm : Tells P f m) : Tells P f (locT pk m) := by
  intro vs hp v hp' chg ob h hob
  unfold locT at h
  split at h
  · cases h
  · rename_i l hl
    split at h
    · cases h
    · rename_i hnd
      split at h
      · cases h
      · rename_i L o hs
        split at h
        · cases h
        · rename_i vs' hv
          split at h
          · cases h
          · rename_i v1 hp1 c1 ob1 h1
            split at h
            · cases h
            · rename_i hsame
              split at h
              · cases h
              · rename_i hp2 hlay
                cases h
                obtain ⟨rfl, hob1⟩ := andO_is hob
                exact Runs.local (hm _ _ _ _ _ _ h1 hob1) (nodupB_is hnd) hs hv hsame hlay
/-- .. and leaves memory alone. -/
noncomputable def stillT (pk : List V → List Reg → Option (List (Nat × Nat × Nat))) (m : Tab) : Tab := fun vs hp =>
  match pk vs hp with
  | none => none
  | some l => match nodupB (fsts l) with
    | false => none
    | true => match subs (fsts l) hp l with
      | none => none
      | some (L, o) => match renVs (fsts l) vs with
        | none => none
        | some vs' => match m vs' L with
          | none => none
          | some (v, _, _, ob) => match noOwn L, V.plain v with
            | true, true => some (v, hp, false, andO o ob)
            | _, _ => none
theorem stillT_tells {P : Program} {f : FuncId} {pk : List V → List Reg → Option (List (Nat × Nat × Nat))} {m : Tab} (hm : Tells P f m) : Tells P f (stillT pk m) := by
  intro vs hp v hp' chg ob h hob
  unfold stillT at h
  split at h
  · cases h
  · rename_i l hl
    split at h
    · cases h
    · rename_i hnd
      split at h
      · cases h
      · rename_i L o hs
        split at h
        · cases h
        · rename_i vs' hv
          split at h
          · cases h
          · rename_i v1 hp1 c1 ob1 h1
            split at h
            · rename_i hno hpl
              cases h
              obtain ⟨rfl, hob1⟩ := andO_is hob
              exact Runs.still (hm _ _ _ _ _ _ h1 hob1) (nodupB_is hnd) hs hv hno hpl
            · cases h
end Go.Proofs.Sx
