/- Twin: what it does to a transaction. -/
import Derived.Test.YtinbeihbhnjjnaaGxIn4
import Derived.Test.YtinbeihbhnjjnaaGxIn5
import Derived.Test.YtinbeihbhnjjnaaGxIn6
import Derived.Test.YtinbeihbhnjjnaaGxIn7
namespace Go.Proofs.Sx
open Go
set_option linter.unusedVariables false
theorem mapAt {α β : Type} {f g : α → β} {l : List α} (h : l.map f = l.map g) {a : α} (ha : a ∈ l) : f a = g a := List.map_inj_left.1 h a ha
section
variable {bd m : Nat} {x : Txx} {b' : By} {i : Nat}
theorem rt_is (hm : m ≤ 12) (hi : i < m) : allR (stepR bd m x b' i) = allR (okR bd m x b' i) := by
  have hl : ∀ k, i < k → i ∈ List.range' 0 k := fun k h => by simp; omega
  rcases (by omega : m = 1 ∨ m = 2 ∨ m = 3 ∨ m = 4 ∨ m = 5 ∨ m = 6 ∨ m = 7 ∨ m = 8 ∨ m = 9 ∨ m = 10 ∨ m = 11 ∨ m = 12) with rfl | rfl | rfl | rfl | rfl | rfl | rfl | rfl | rfl | rfl | rfl | rfl
  · exact mapAt (rt1 bd x b') (hl _ hi)
  · exact mapAt (rt2 bd x b') (hl _ hi)
  · exact mapAt (rt3 bd x b') (hl _ hi)
  · exact mapAt (rt4 bd x b') (hl _ hi)
  · exact mapAt (rt5 bd x b') (hl _ hi)
  · exact mapAt (rt6 bd x b') (hl _ hi)
  · exact mapAt (rt7 bd x b') (hl _ hi)
  · exact mapAt (rt8 bd x b') (hl _ hi)
  · exact mapAt (rt9 bd x b') (hl _ hi)
  · exact mapAt (rt10 bd x b') (hl _ hi)
  · exact mapAt (rt11 bd x b') (hl _ hi)
  · exact mapAt (rt12 bd x b') (hl _ hi)
theorem stepR_is (hm : m ≤ 12) (hi : i < m) {j k : Nat} (h : (j, k) ∈ pairsR) : stepR bd m x b' i j k = okR bd m x b' i j k := by
  have := List.map_inj_left.1 (rt_is (bd := bd) (x := x) (b' := b') hm hi) (j, k) h
  exact this
theorem oR_is (hn : i < x.n) (j : Nat) : AllT (oR x i j) := by
  have h1 : Nat.blt i x.n = true := Nat.ble_eq_true_of_le hn
  unfold oR
  split
  · exact AllT.cons h1 AllT.nil
  · exact AllT.cons h1 AllT.nil
  · exact AllT.cons (bleT (Nat.le_refl _)) AllT.nil
  · exact AllT.nil
theorem steps_R (hm : m ≤ 12) (hi : i < m) (hn : i < x.n) {j k : Nat} (h : (j, k) ∈ pairsR) : Steps (sx Try.prog Mk 1000000) Try.prog Mk (lR x i j) (hpsR bd m x b' i k) (hpsR bd m x b' i (nxR j k)) (vR x i j) (top j).op :=
  ⟨0, false, [], oR x i j, [], oR_is hn j, stepR_is hm hi h⟩
def cR (k : Nat) : Nat := match k with
  | 0 => 0
  | 1 => 1
  | 2 => 1
  | 3 => 2
  | _ => 3
def gR (k : Nat) : Nat := 13 + k
def loR (j : Nat) : Nat := bif Nat.beq j 17 then 4 else 0
theorem ten_of {α : Type} {p : α} {l : List α} {a : α} (h : p ∈ a :: l) : p = a ∨ p ∈ l := List.mem_cons.1 h
theorem treg (hm : m ≤ 12) (hi : i < m) (hn : i < x.n) (chg : Bool) (ob ds : List Bool) : Does Try.prog (nthC row27 2) ⟨slots (slI i), hpI bd m x b' i, chg, 44, 15, ob, ds⟩ .normal ⟨slots (slL i), hpI bd m x b' (i + 1), true, 44, 15, [], []⟩ := by
  have hs := tshape_is
  unfold tshape at hs
  simp only [Bool.and_eq_true] at hs
  obtain ⟨h18, hpl, hdn, hed, hall⟩ := hs
  have hs18 : tops.size = 18 := Nat.eq_of_beq_eq_true h18
  have edge : ∀ {i j : Nat}, (i, j) ∈ edgesR → edgeB tops i j = true := fun {i j} h => List.all_eq_true.1 hed (i, j) h
  have edge17 : ∀ {j : Nat}, j < 17 → edgeB tops 17 j = true := fun {j} h => List.all_eq_true.1 hall j (by simp; omega)
  rw [tcode]
  refine Does.block ?_
  have pl : ∀ {j : Nat}, j < 18 → (top j).guard = none ∧ (top j).dst = some (dR j) := by
    intro j hj
    have h := List.all_eq_true.1 hpl j (by simp; omega)
    unfold tplain at h
    split at h
    · rename_i e h1 h2
      exact ⟨h1, by rw [h2, Nat.eq_of_beq_eq_true h]⟩
    · cases h
  have at_ : ∀ {j : Nat}, j < 18 → tops[j]? = some (top j) := by
    intro j hj
    unfold top
    have h1 : j < tops.size := by rw [hs18]; exact hj
    rw [Array.getElem?_eq_getElem h1]
    rfl
  have S := fun (j k : Nat) (h : (j, k) ∈ pairsR) => steps_R (bd := bd) (b' := b') hm hi hn h
  refine region_chainL (m := 4) (z := 17) (g := gR) (lo := loR) (hps := fun k => hpsR bd m x b' i (cR k)) (l := lR x i) (val := vR x i) (d := fun j => some (dR j)) fol (sx_sound fol knownk 1000000) knownk hs18 ?_ ?_ ?_ ?_ (fun i hi => List.all_eq_true.1 hdn i (by simp; omega)) ?_ ?_ (by decide) (fun j hj hne => edge17 (by omega)) ?_ ?_ ?_
  · intro k hk; unfold gR; omega
  · intro k k' _ _ h; unfold gR at h; omega
  · intro j hj
    obtain ⟨e1, e2⟩ := pl hj
    refine ⟨_, at_ hj, e1, e2, ?_⟩
    have quiet : j ∈ quietR → (∀ k, k < 4 → j ≠ gR k) ∧ (loR j = 0 ∨ (loR j - 1 < 4 ∧ edgeB tops j (gR (loR j - 1)) = true)) ∧ ∀ k, loR j ≤ k → k ≤ 4 → Steps (sx Try.prog Mk 1000000) Try.prog Mk (lR x i j) (hpsR bd m x b' i (cR k)) (hpsR bd m x b' i (cR k)) (vR x i j) (top j).op := by
      intro hq
      have hj13 : j < 13 := by
        have : ∀ a ∈ quietR, a < 13 := by decide
        exact this j hq
      have hlo : loR j = 0 := by
        have : ∀ a ∈ quietR, loR a = 0 := by decide
        exact this j hq
      refine ⟨fun k _ => by unfold gR; omega, .inl hlo, fun k _ hk => ?_⟩
      have hp : ∀ a ∈ quietR, ∀ k ∈ [0, 1, 2, 3], (a, k) ∈ pairsR ∧ nxR a k = k := by decide
      have hc : cR k ∈ [0, 1, 2, 3] := by
        rcases (by omega : k = 0 ∨ k = 1 ∨ k = 2 ∨ k = 3 ∨ k = 4) with rfl | rfl | rfl | rfl | rfl <;> decide
      obtain ⟨h1, h2⟩ := hp j hq _ hc
      have := S j (cR k) h1
      rw [h2] at this
      exact this
    rcases (by omega : j < 13 ∨ j = 13 ∨ j = 14 ∨ j = 15 ∨ j = 16 ∨ j = 17) with h | rfl | rfl | rfl | rfl | rfl
    · refine .inr (quiet ?_)
      have : ∀ a : Fin 13, a.val ∈ quietR := by decide
      exact this ⟨j, h⟩
    · exact .inl ⟨0, by decide, rfl, .inl rfl, S 13 0 (by decide)⟩
    · exact .inl ⟨1, by decide, rfl, .inr (edge (by decide)), S 14 1 (by decide)⟩
    · exact .inl ⟨2, by decide, rfl, .inr (edge (by decide)), S 15 1 (by decide)⟩
    · exact .inl ⟨3, by decide, rfl, .inr (edge (by decide)), S 16 2 (by decide)⟩
    · refine .inr ⟨fun k hk => by unfold gR; omega, .inr ⟨by decide, edge17 (by decide)⟩, fun k h1 h2 => ?_⟩
      have : loR 17 = 4 := rfl
      have hk : k = 4 := by omega
      subst hk
      exact S 17 3 (by decide)
  · intro j hj p hp
    have E : ∀ {k : Nat}, (j, k) ∈ edgesR → k < 18 → p = (dR k, vR x i k) → p ∈ slI i ∨ ∃ i_1 e, i_1 < 18 ∧ edgeB tops j i_1 = true ∧ some (dR i_1) = some e ∧ p = (e, vR x i i_1) := fun {k} h1 h2 h3 => .inr ⟨k, dR k, h2, edge h1, rfl, h3⟩
    rcases (by omega : j = 0 ∨ j = 1 ∨ j = 2 ∨ j = 3 ∨ j = 4 ∨ j = 5 ∨ j = 6 ∨ j = 7 ∨ j = 8 ∨ j = 9 ∨ j = 10 ∨ j = 11 ∨ j = 12 ∨ j = 13 ∨ j = 14 ∨ j = 15 ∨ j = 16 ∨ j = 17) with rfl | rfl | rfl | rfl | rfl | rfl | rfl | rfl | rfl | rfl | rfl | rfl | rfl | rfl | rfl | rfl | rfl | rfl
    · have := one_of hp; subst this; exact .inl (by simp [slI])
    · have := one_of hp; subst this; exact .inl (by simp [slI])
    · exact E (k := 1) (by decide) (by decide) (one_of hp)
    · have := one_of hp; subst this; exact .inl (by simp [slI])
    · rcases two_of hp with h | h
      · exact E (k := 2) (by decide) (by decide) h
      · exact E (k := 3) (by decide) (by decide) h
    · exact E (k := 4) (by decide) (by decide) (one_of hp)
    · exact E (k := 5) (by decide) (by decide) (one_of hp)
    · have := one_of hp; subst this; exact .inl (by simp [slI])
    · exact E (k := 7) (by decide) (by decide) (one_of hp)
    · have := one_of hp; subst this; exact .inl (by simp [slI])
    · rcases two_of hp with h | h
      · exact E (k := 8) (by decide) (by decide) h
      · exact E (k := 9) (by decide) (by decide) h
    · exact E (k := 10) (by decide) (by decide) (one_of hp)
    · exact E (k := 11) (by decide) (by decide) (one_of hp)
    · exact E (k := 12) (by decide) (by decide) (one_of hp)
    · rcases two_of hp with h | h
      · exact E (k := 6) (by decide) (by decide) h
      · exact E (k := 13) (by decide) (by decide) h
    · exact E (k := 14) (by decide) (by decide) (one_of hp)
    · rcases two_of hp with h | h
      · exact E (k := 0) (by decide) (by decide) h
      · exact E (k := 15) (by decide) (by decide) h
    · exact .inr ⟨16, dR 16, by decide, edge17 (by decide), rfl, one_of hp⟩
  · intro a b e ha hb h1 h2
    have : ∀ a b : Fin 18, dR a = dR b → a = b := by decide
    have h3 : dR a = dR b := by
      have h1' : dR a = e := Option.some.inj h1
      have h2' : dR b = e := Option.some.inj h2
      rw [h1', h2']
    have := this ⟨a, ha⟩ ⟨b, hb⟩ h3
    simpa using this
  · intro j e hj h
    have : ∀ a : Fin 18, dR a < 44 := by decide
    have h' : dR j = e := Option.some.inj h
    rw [← h']
    exact this ⟨j, hj⟩
  · intro p hp j hj hne h
    have h' : dR j = p.1 := Option.some.inj h
    have h20 : 20 ≤ dR j := by
      have : ∀ a : Fin 18, a.val ≠ 17 → 20 ≤ dR a := by decide
      exact this ⟨j, hj⟩ hne
    have hp4 : p.1 ≤ 4 := by
      simp only [slI, List.mem_cons, List.mem_nil_iff, or_false] at hp
      rcases hp with rfl | rfl | rfl | rfl
      · exact (by decide : 1 ≤ 4)
      · exact (by decide : 2 ≤ 4)
      · exact (by decide : 3 ≤ 4)
      · exact (by decide : 4 ≤ 4)
    omega
  · intro p hp
    obtain ⟨g1, g2, g3, g4⟩ := slI_get i
    simp only [slI, List.mem_cons, List.mem_nil_iff, or_false] at hp
    rcases hp with rfl | rfl | rfl | rfl
    · exact g1
    · exact g2
    · exact g3
    · exact g4
  · intro p hp
    simp only [slL, List.mem_cons, List.mem_nil_iff, or_false] at hp
    rcases hp with rfl | rfl | rfl | rfl
    · exact .inl ⟨by simp [slI], (by decide : some (dR 17) ≠ some 1)⟩
    · exact .inl ⟨by simp [slI], (by decide : some (dR 17) ≠ some 2)⟩
    · exact .inr ⟨17, 3, by decide, rfl, rfl⟩
    · exact .inl ⟨by simp [slI], (by decide : some (dR 17) ≠ some 4)⟩
/-- one round -/
theorem tround (hm : m ≤ 12) (hi : i < m) (hn : i < x.n) : DoesL Try.prog [inLoop (nthC (rowOf Try.prog 27) 4)] (sHead bd m x b' i []) .normal (sHead bd m x b' (i + 1) []) := by
  refine Does.toL (Does.ofL ?_)
  have hm13 : m ∈ List.range' 0 13 := by simp; omega
  have him : i ∈ List.range' 0 m := by simp; omega
  have A := sxc_sound fol known_none (mapAt (mapAt (pB_in bd x b') hm13) him) (AllT.cons (Nat.ble_eq_true_of_le hn) AllT.nil)
  have C := sxc_sound fol known_none (mapAt (mapAt (pC_in bd x b') hm13) him) AllT.nil
  have hp : spine (inLoop (nthC (rowOf Try.prog 27) 4)) = takeC 2 row27 ++ (nthC row27 2 :: dropC 3 row27) := tparts
  rw [hp]
  exact DoesL.append (DoesL.free A) (DoesL.cons (treg hm hi hn true [] []) (DoesL.free C))
theorem tout (hm : m ≤ 12) (hn : m = x.n ∨ (m = 12 ∧ 12 < x.n)) : DoesL Try.prog [inLoop (nthC (rowOf Try.prog 27) 4)] (sHead bd m x b' m []) (.exit 0) (sHead bd m x b' m []) := by
  refine Does.toL (Does.ofL ?_)
  have hp : spine (inLoop (nthC (rowOf Try.prog 27) 4)) = takeC 2 row27 ++ (nthC row27 2 :: dropC 3 row27) := tparts
  rw [hp]
  have stop : ∀ {l l' : List Code} {s s' : St}, DoesL Try.prog l s (.exit 0) s' → DoesL Try.prog (l ++ l') s (.exit 0) s' := by
    intro l l' s s' h B w0 wc E a w Q hR hQ
    have key : ∀ (l : List Code) (a : Act) (w : World), wpL Try.prog l (fun e a w => match e with
      | .normal => wpL Try.prog l' Q a w
      | e => Q e a w) a w → wpL Try.prog (l ++ l') Q a w := by
      intro l
      induction l with
      | nil => intro a w h; exact h
      | cons c cs ih =>
        intro a w h
        refine Code.wp_mono (fun e a w h => ?_) h
        cases e with
        | normal => exact ih a w h
        | _ => exact h
    exact key l a w (h B w0 wc E a w _ hR fun E1 a1 w1 hE hR1 => hQ E1 a1 w1 hE hR1)
  refine stop ?_
  rcases hn with rfl | ⟨rfl, h12⟩
  · have f := mapAt (pB_out bd x b') (a := x.n) (by simp; omega)
    exact DoesL.free (sxc_sound fol known_none f (AllT.cons (by
      have : Nat.blt x.n x.n = false := by
        cases h : Nat.blt x.n x.n with
        | false => rfl
        | true => have := Nat.le_of_ble_eq_true h; omega
      rw [this]; rfl) AllT.nil))
  · exact DoesL.free (sxc_sound fol known_none (pB_max bd x b') (AllT.cons (Nat.ble_eq_true_of_le h12) AllT.nil))
theorem retH_is {M : Kn} (hM : Known Try.prog M) {f : FuncId} {n : Nat} {l : List Code} {s : St} {v : V} {hp : List Reg} {ob : List Bool} (h : retH f (sxs Try.prog M n l s) = some (v, hp, ob)) (hob : AllT ob) :
    ∃ s3, DoesL Try.prog l s .ret s3 ∧ s3.base = s.base ∧ resV Try.prog (fnOf Try.prog f).results.toList s3.tm s3.hp = some v ∧ s3.hp = hp := by
  unfold retH at h
  split at h
  · rename_i tm hp1 c m b ob1 ds hs
    split at h
    · rename_i v1 hv
      cases h
      obtain ⟨hg, hd⟩ := sxs_sound fol hM hs
      exact ⟨_, hd hob, hg.base, hv, rfl⟩
    · cases h
  · cases h
theorem hpIn_len : regLen (hpIn bd m x) = 15 := rfl
/-- Twin, where the bytes are known to come out so. -/
theorem twin_of (hm : m ≤ 12) (hn : m = x.n ∨ (m = 12 ∧ 12 < x.n)) {ds ob : List Bool} (hA : pA bd m x ds = some (.normal, ⟨slots (slI 0), hpI bd m x b' 0, false, 44, 15, ob, []⟩)) (hob : AllT ob) : ∃ chg, Runs Try.prog 27 [.ag (txIn x)] (hpIn bd m x) (.ag (txOut m x)) (hpF bd m x b') chg := by
  have A := sxc_sound fol known_none hA hob
  have hD := mapAt (pD bd x b') (a := m) (by simp; omega)
  obtain ⟨s3, d3, b3, v3, rfl'⟩ := retH_is knownk hD (AllT.cons (bleT (Nat.le_refl _)) AllT.nil)
  have all : DoesL Try.prog (rowOf Try.prog 27) ⟨tmOf [.ag (txIn x)] 0 (T.full 8), hpIn bd m x, false, 44, 15, [], ds⟩ .ret s3 := by
    refine DoesL.three (k := 4) (id := 0) (N := m) (s := fun i => sHead bd m x b' i []) (b := inLoop (nthC (rowOf Try.prog 27) 4)) (Nat.le_of_ble_eq_true tlen) ?_ (DoesL.spoil (DoesL.free A)) (fun i hi => tround hm hi (by omega)) (tout hm hn) d3
    have h := tloop
    rw [lpId0] at h
    exact h
  have hr := runs_of (hp := hpIn bd m x) (vs := [.ag (txIn x)]) code27 (.inr rfl) (n := 44) (by rw [Nat.eq_of_beq_eq_true tmps27]; rfl) all v3 b3
  rw [rfl'] at hr
  exact ⟨_, hr⟩
end
end Go.Proofs.Sx
