/- Both Intrinsics: contracts. -/
import Derived.Test.YtinbeihbhnjjnaaGxIn13
namespace Go.Proofs.Sx
open Go
set_option linter.unusedVariables false
theorem DoesL.any {P : Program} {l : List Code} {e : Ex} {s' : St} {tm : T} {hp : List Reg} {c : Bool} {n b : Nat} {ob ob' ds ds' : List Bool} (h : DoesL P l ⟨tm, hp, true, n, b, ob, ds⟩ e s') : DoesL P l ⟨tm, hp, c, n, b, ob', ds'⟩ e s' :=
  fun B w0 wc E a w Q hR hQ => h B w0 wc E a w Q ⟨hR.tr, hR.hr, fun h => by cases h⟩ hQ
theorem retV'_is {M : Kn} (hM : Known Try.prog M) {f : FuncId} {n : Nat} {l : List Code} {s : St} {v : V} {ob : List Bool} (h : retV' f (sxs Try.prog M n l s) = some (v, ob)) (hob : AllT ob) :
    ∃ s3, DoesL Try.prog l s .ret s3 ∧ s3.base = s.base ∧ resV Try.prog (fnOf Try.prog f).results.toList s3.tm s3.hp = some v := by
  unfold retV' at h
  split at h
  · rename_i tm hp c m b ob1 ds hs
    split at h
    · rename_i v1 hv
      cases h
      obtain ⟨hg, hd⟩ := sxs_sound fol hM hs
      exact ⟨_, hd hob, hg.base, hv⟩
    · cases h
  · cases h
theorem not_blt {a b : Nat} (h : b ≤ a) : (!(Nat.blt a b)) = true := by
  cases hq : Nat.blt a b with
  | false => rfl
  | true => have := Nat.le_of_ble_eq_true hq; omega
theorem blt_t {a b : Nat} (h : a < b) : Nat.blt a b = true := Nat.ble_eq_true_of_le h
def twoV (v : W) : V := .tp [(false, [.w64 v]), (false, [.bl true])]
section
variable {bd : Nat} {r : Ru} {x : Txx} (hr : Rk r) (hn : x.n ≤ 12) (hb : x.b.length ≤ 800) (hK : ∀ j, j < x.n → x.K j ≤ 12)
include hr hn hb hK
theorem runs28 : ∃ hp1 chg, Runs Try.prog 28 [.ag (rulesS r), .ag (txIn x)] (hpIn bd x.n x) (twoV (v28 r x)) hp1 chg := by
  have hm : x.n ∈ List.range' 0 13 := by simp; omega
  obtain ⟨o1, o2, o3, _, _, o4⟩ := v_nat hr hn hb hK
  have hz := zc_le x.b x.b.length
  have A := sxc_sound fol known_none (mapAt (f28A bd r x) hm) AllT.nil
  -- behind the bytes
  have C : ∃ s3, DoesL Try.prog (dropC 5 (rowOf Try.prog 28)) (s28 bd x.n r x (zc x.b x.b.length) x.b.length []) .ret s3 ∧ s3.base = 15 ∧ resV Try.prog (fnOf Try.prog 28).results.toList s3.tm s3.hp = some (twoV (v28 r x)) := by
    unfold v28
    cases hmk : x.make with
    | false =>
      obtain ⟨s3, h1, h2, h3⟩ := retV'_is knowni (mapAt (f28p bd r x (zc x.b x.b.length) x.b.length) hm) (AllT.cons (by rw [hmk]; rfl) o1)
      exact ⟨s3, DoesL.any h1, h2, h3⟩
    | true =>
      have hw := words_nat hb
      have e : (wdW x).toNat = (x.b.length + 31) / 32 := hw
      have h2 := hr.w2
      have h7 := hr.w7
      have b7 : (r.w 7).toNat * (wdW x).toNat ≤ 2 * 30 := Nat.mul_le_mul h7 (by omega)
      obtain ⟨s3, h1, h2, h3⟩ := retV'_is knowni (mapAt (f28m bd r x (zc x.b x.b.length) x.b.length) hm) (AllT.cons (addO_is (by omega) (by omega) (by omega)) (AllT.cons (bleT (by omega)) (AllT.cons (addO_is (by omega) (by omega) (by omega)) (AllT.cons hmk o1))))
      exact ⟨s3, DoesL.any h1, h2, h3⟩
  obtain ⟨s3, h4, hb3, hv3⟩ := C
  have all : DoesL Try.prog (rowOf Try.prog 28) ⟨tmOf [.ag (rulesS r), .ag (txIn x)] 0 (T.full 8), hpIn bd x.n x, false, 85, 15, [], []⟩ .ret s3 := by
    refine DoesL.three (k := 4) (id := 0) (N := x.b.length) (s := fun i => s28 bd x.n r x (zc x.b i) i []) (b := inLoop (nthC (rowOf Try.prog 28) 4)) (Nat.le_of_ble_eq_true len28) loop28 (DoesL.any A) (fun i hi => Does.toL (Does.ofL ?_)) (Does.toL (Does.ofL ?_)) h4
    · have b1 : Nat.blt i x.b.length = true := blt_t hi
      have zi := zc_le x.b i
      cases hq : zeroAt x.b i with
      | true =>
        have e : zc x.b (i + 1) = zc x.b i + 1 := by
          show (bif zeroAt x.b i then zc x.b i + 1 else zc x.b i) = _
          rw [hq]; rfl
        rw [e]
        exact DoesL.free (sxc_sound fol known_none (mapAt (f28z bd r x (zc x.b i) i) hm) (AllT.cons (bleT (by omega)) (AllT.cons (bleT (by omega)) (AllT.cons hq (AllT.cons b1 (AllT.cons b1 AllT.nil))))))
      | false =>
        have e : zc x.b (i + 1) = zc x.b i := by
          show (bif zeroAt x.b i then zc x.b i + 1 else zc x.b i) = _
          rw [hq]; rfl
        rw [e]
        exact DoesL.free (sxc_sound fol known_none (mapAt (f28n bd r x (zc x.b i) i) hm) (AllT.cons (bleT (by omega)) (AllT.cons (by rw [hq]; rfl) (AllT.cons b1 (AllT.cons b1 AllT.nil)))))
    · exact DoesL.free (sxc_sound fol known_none (mapAt (f28x bd r x (zc x.b x.b.length) x.b.length) hm) (AllT.cons (not_blt (Nat.le_refl _)) AllT.nil))
  have hf := fn28
  rw [Bool.and_eq_true] at hf
  have hres := runs_of (hp := hpIn bd x.n x) (vs := [.ag (rulesS r), .ag (txIn x)]) hf.1 (.inr rfl) (n := 85) (by rw [Nat.eq_of_beq_eq_true hf.2]; rfl) all hv3 hb3
  exact ⟨_, _, hres⟩
omit hr hK in
theorem runs29 : ∃ hp1 chg, Runs Try.prog 29 [.ag (rulesS r), .ag (txIn x)] (hpIn bd x.n x) (twoV (v29 r x)) hp1 chg := by
  have hm : x.n ∈ List.range' 0 13 := by simp; omega
  have A : DoesL Try.prog (takeC 5 (rowOf Try.prog 29)) ⟨tmOf [.ag (rulesS r), .ag (txIn x)] 0 (T.full 8), hpIn bd x.n x, false, 72, 15, [], []⟩ .normal (s29 bd x.n r x (bif x.make then mk29 r x else r.w 1) 0 []) := by
    cases hmk : x.make with
    | false => exact DoesL.any (ob := []) (ds := []) (DoesL.free (sxc_sound fol known_none (mapAt (f29p bd r x) hm) (AllT.cons (by rw [hmk]; rfl) AllT.nil)))
    | true => exact DoesL.any (ob := []) (ds := []) (DoesL.free (sxc_sound fol known_none (mapAt (f29m bd r x) hm) (AllT.cons (bleT (by omega)) (AllT.cons hmk AllT.nil))))
  obtain ⟨s3, h4, hb3, hv3⟩ := retV'_is known_none (mapAt (f29e bd r x (aD r x (bif x.make then mk29 r x else r.w 1) x.b.length) x.b.length) hm) (AllT.cons (not_blt (Nat.le_refl _)) (accN_is x.n 0 [] (by omega) AllT.nil))
  have h4' : DoesL Try.prog (dropC 6 (rowOf Try.prog 29)) (s29 bd x.n r x (aD r x (bif x.make then mk29 r x else r.w 1) x.b.length) x.b.length []) .ret s3 := DoesL.any h4
  have all : DoesL Try.prog (rowOf Try.prog 29) ⟨tmOf [.ag (rulesS r), .ag (txIn x)] 0 (T.full 8), hpIn bd x.n x, false, 72, 15, [], []⟩ .ret s3 := by
    refine DoesL.three (k := 5) (id := 0) (N := x.b.length) (s := fun i => s29 bd x.n r x (aD r x (bif x.make then mk29 r x else r.w 1) i) i []) (b := inLoop (nthC (rowOf Try.prog 29) 5)) (Nat.le_of_ble_eq_true len29) loop29 A (fun i hi => Does.toL (Does.ofL ?_)) (Does.toL (Does.ofL ?_)) h4'
    · have b1 : Nat.blt i x.b.length = true := blt_t hi
      cases hq : zeroAt x.b i with
      | true =>
        have e : aD r x (bif x.make then mk29 r x else r.w 1) (i + 1) = aD r x (bif x.make then mk29 r x else r.w 1) i + r.w 3 := by
          show (bif zeroAt x.b i then _ else _) = _
          rw [hq]; rfl
        rw [e]
        exact DoesL.free (sxc_sound fol known_none (mapAt (f29z bd r x (aD r x (bif x.make then mk29 r x else r.w 1) i) i) hm) (AllT.cons (bleT (by omega)) (AllT.cons hq (AllT.cons b1 (AllT.cons b1 AllT.nil)))))
      | false =>
        have e : aD r x (bif x.make then mk29 r x else r.w 1) (i + 1) = aD r x (bif x.make then mk29 r x else r.w 1) i + r.w 4 := by
          show (bif zeroAt x.b i then _ else _) = _
          rw [hq]; rfl
        rw [e]
        exact DoesL.free (sxc_sound fol known_none (mapAt (f29n bd r x (aD r x (bif x.make then mk29 r x else r.w 1) i) i) hm) (AllT.cons (bleT (by omega)) (AllT.cons (by rw [hq]; rfl) (AllT.cons b1 (AllT.cons b1 AllT.nil)))))
    · exact DoesL.free (sxc_sound fol known_none (mapAt (f29x bd r x (aD r x (bif x.make then mk29 r x else r.w 1) x.b.length) x.b.length) hm) (AllT.cons (not_blt (Nat.le_refl _)) AllT.nil))
  have hf := fn29
  rw [Bool.and_eq_true] at hf
  have hres := runs_of (hp := hpIn bd x.n x) (vs := [.ag (rulesS r), .ag (txIn x)]) hf.1 (.inr rfl) (n := 72) (by rw [Nat.eq_of_beq_eq_true hf.2]; rfl) all hv3 hb3
  exact ⟨_, _, hres⟩
end
/-- What a call that hands back a plain value does. -/
def ValPost (w : World) (v : V) (e : Ending) (w' : World) : Prop := ∃ u, e = .returned u ∧ Grow w w' ∧ ∀ E : Env, v.is E u
theorem runs_valPost {f : FuncId} {vs : List V} {hp hp1 : List Reg} {v : V} {chg : Bool} (h : Runs Try.prog f vs hp v hp1 chg) (hp_ : v.plain = true) {E : Env} {us : List Value} {w : World} (hus : All2 (V.is E) vs us) (hh : HR (fun _ => False) w E hp w) : Calls Try.prog f us.toArray w (ValPost w v) := by
  refine Calls.mono (h _ w E us w hus hh) fun e w1 ⟨E1, u, _, he, hu, hh1, _⟩ => ?_
  exact ⟨u, he, hh1.grew, fun E => V.plain_is hp_ hu⟩
theorem intr_calls {w : World} {u ur : Value} {r : Ru} {x : Txx} (h : TxAt w u x) (hur : ∀ E : Env, (V.ag (rulesS r)).is E ur) (hr : Rk r) (hn : x.n ≤ 12) (hb : x.b.length ≤ 800) (hK : ∀ j, j < x.n → x.K j ≤ 12) :
    Calls Try.prog 28 #[ur, u] w (ValPost w (twoV (v28 r x))) ∧ Calls Try.prog 29 #[ur, u] w (ValPost w (twoV (v29 r x))) := by
  obtain ⟨bd, m, E, hm, hmn, _, hh, hu⟩ := h
  have e : m = x.n := by omega
  subst e
  obtain ⟨hp1, c1, h1⟩ := runs28 (bd := bd) hr hn hb hK
  obtain ⟨hp2, c2, h2⟩ := runs29 (bd := bd) (r := r) hn hb
  exact ⟨runs_valPost h1 rfl (us := [ur, u]) ⟨hur E, hu, trivial⟩ hh, runs_valPost h2 rfl (us := [ur, u]) ⟨hur E, hu, trivial⟩ hh⟩
end Go.Proofs.Sx
