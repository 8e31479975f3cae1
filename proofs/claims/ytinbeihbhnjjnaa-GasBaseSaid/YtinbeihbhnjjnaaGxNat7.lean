/- Numbers in limbs: tables. -/
import Derived.Test.YtinbeihbhnjjnaaGxNat6
namespace Go.Proofs.Sx
open Go
set_option linter.unusedVariables false
def cmpZ (x y : Nat) : Int := if x < y then -1 else if y < x then 1 else 0
/-- What a call that hands back a plain value does. -/
def ValPost (w : World) (v : V) (e : Ending) (w' : World) : Prop := ∃ u, e = .returned u ∧ Grow w w' ∧ ∀ E : Env, v.is E u
theorem Runs.valPost {f : FuncId} {vs : List V} {hp hp1 : List Reg} {v : V} {chg : Bool} (h : Runs Try.prog f vs hp v hp1 chg) (hp_ : v.plain = true) {E : Env} {us : List Value} {w : World} (hus : All2 (V.is E) vs us) (hh : HR (fun _ => False) w E hp w) : Calls Try.prog f us.toArray w (ValPost w v) := by
  refine Calls.mono (h _ w E us w hus hh) fun e w1 ⟨E1, u, _, he, hu, hh1, _⟩ => ?_
  exact ⟨u, he, hh1.grew, fun E => V.plain_is hp_ hu⟩
theorem outV_is {M : Kn} (hM : Known Try.prog M) {f : FuncId} {vs : List V} {hp : List Reg} {v : V} {ds ob : List Bool} (h : outV (callD M f vs hp ds) = some (v, ob)) (hob : AllT ob) : ∃ hp1 chg, Runs Try.prog f vs hp v hp1 chg := by
  unfold outV at h
  split at h
  · rename_i v1 hp1 c1 ob1 ds1 hc
    cases h
    exact ⟨hp1, c1, fun B w0 E us w hv hh => (callF_is (sx_sound fol hM _) hM hc).2.2 hob E B w0 w us hv hh⟩
  · cases h
theorem w_calls {w : World} {v : Value} {l : L32} (h : Shows w v l) (hl : l.length ≤ 10) : Calls Try.prog 41 #[v] w (ValPost w (.ag (wordsC l))) := by
  obtain ⟨_, a2, a3, a4⟩ := arg_is h (E := ⟨[entOf v]⟩) (r := 0) rfl
  have f := mapAt (f41 (nthD l) (capOf v)) (a := qOf l v) (by simp; omega)
  rw [a3] at f
  obtain ⟨hp1, chg, hr⟩ := outV_is knownt f AllT.nil
  exact hr.valPost rfl (us := [v]) ⟨a2, trivial⟩ (arg1_hr h)
def cmpC (x y : Nat) : C := if x < y then .ng 0 else if y < x then .it 1 else .it 0
theorem cmp_calls {w : World} {v v' : Value} {l l' : L32} (h : Shows w v l) (h' : Shows w v' l') (ht : trimL l = l) (hl : l.length ≤ 10) (hl' : l'.length = 2) (hn : 4294967296 ≤ natL l') : Calls Try.prog 40 #[v, v'] w (ValPost w (.one (cmpC (natL l) (natL l')))) := by
  obtain ⟨_, a2, a3, a4⟩ := arg_is h (E := ⟨[entOf v, entOf v']⟩) (r := 0) rfl
  obtain ⟨_, b2, b3, b4⟩ := arg_is h' (E := ⟨[entOf v, entOf v']⟩) (r := 1) rfl
  have hh := arg2_hr h h'
  have hq' : qOf l' v' = 3 := by
    rcases h' with ⟨rfl, rfl⟩ | ⟨g, o, K, rfl, _⟩
    · cases hl'
    · show l'.length + 1 = 3; omega
  rw [hq'] at b2 b3 hh
  have hh2 : HR (fun _ => False) w ⟨[entOf v, entOf v']⟩ [argR (nthD l) (qOf l v), .win (toD (lsD (nthD l') 0 2))] w := hh
  have fin : ∀ {c : C} {vs : List V} {hp : List Reg} {ds ob : List Bool} {M : Kn}, Known Try.prog M → outV (callD M 40 vs hp ds) = some (.one c, ob) → AllT ob → (V.one c).plain = true → All2 (V.is ⟨[entOf v, entOf v']⟩) vs [v, v'] → HR (fun _ => False) w ⟨[entOf v, entOf v']⟩ hp w → c = cmpC (natL l) (natL l') → Calls Try.prog 40 #[v, v'] w (ValPost w (.one (cmpC (natL l) (natL l')))) := by
    intro c vs hp ds ob M hM hf hob hpl hus hhr hc
    obtain ⟨hp1, chg, hr⟩ := outV_is hM hf hob
    rw [← hc]
    exact hr.valPost hpl (us := [v, v']) hus hhr
  have hq : qOf l v ≤ 11 := by omega
  have hlen : qOf l v = l.length + 1 ∨ (qOf l v = 0 ∧ l = []) := by
    rcases h with ⟨rfl, rfl⟩ | ⟨g, o, K, rfl, _⟩
    · exact .inr ⟨rfl, rfl⟩
    · exact .inl rfl
  have hnl := natL_lt l
  have hnl' := natL_lt l'
  rw [hl'] at hnl'
  rcases Nat.lt_or_ge l.length 2 with h2 | h2
  · have f := mapAt (f40l (nthD l) (nthD l') (capOf v) (capOf v')) (a := qOf l v) (by simp; omega)
    refine fin knownt f AllT.nil rfl ⟨a2, b2, trivial⟩ hh2 ?_
    have : natL l < 4294967296 := by
      have h3 : 4294967296 ^ l.length ≤ 4294967296 ^ 1 := Nat.pow_le_pow_right (by decide) (by omega)
      omega
    unfold cmpC
    rw [if_pos (by omega)]
  · have hne : l ≠ [] := by intro e; rw [e] at h2; simp at h2
    rcases Nat.lt_or_ge 2 l.length with h3 | h3
    · have f := mapAt (f40g (nthD l) (nthD l') (capOf v) (capOf v')) (a := qOf l v) (by simp; rcases hlen with e | ⟨_, e⟩ <;> first | omega | exact absurd e hne)
      refine fin knownt f AllT.nil rfl ⟨a2, b2, trivial⟩ hh2 ?_
      have htop := trim_top l (by rw [ht]; exact hne)
      rw [ht] at htop
      have h4 : 4294967296 ^ 2 ≤ 4294967296 ^ (l.length - 1) := Nat.pow_le_pow_right (by decide) (by omega)
      unfold cmpC
      rw [if_neg (by omega), if_pos (by omega)]
    · have hl2 : l.length = 2 := by omega
      have hqq : qOf l v = 3 := by rcases hlen with e | ⟨_, e⟩ <;> first | omega | exact absurd e hne
      rw [hqq] at a2 hh2
      have hus : All2 (V.is ⟨[entOf v, entOf v']⟩) [.one (.sl 0 0 2 (capOf v)), .one (.sl 1 0 2 (capOf v'))] [v, v'] := ⟨a2, b2, trivial⟩
      have hr : HR (fun _ => False) w ⟨[entOf v, entOf v']⟩ [.win (toD (lsD (nthD l) 0 2)), .win (toD (lsD (nthD l') 0 2))] w := hh2
      have e1 := eq_lsD' hl2
      have e2 := eq_lsD' hl'
      have n1 : natL l = (nthD l 0).toNat + 4294967296 * (nthD l 1).toNat := by
        rw [e1]
        show _ = _ + 4294967296 * _
        simp [lsD, natL, nthD]
      have n2 : natL l' = (nthD l' 0).toNat + 4294967296 * (nthD l' 1).toNat := by
        rw [e2]
        show _ = _ + 4294967296 * _
        simp [lsD, natL, nthD]
      have x0 := (nthD l 0).isLt
      have x1 := (nthD l 1).isLt
      have y0 := (nthD l' 0).isLt
      have y1 := (nthD l' 1).isLt
      have T : ∀ {x y : BitVec 32}, x.toNat < y.toNat → lt32 x y = true := fun h => Nat.ble_eq_true_of_le h
      have F : ∀ {x y : BitVec 32}, y.toNat ≤ x.toNat → (!(lt32 x y)) = true := fun {x y} h => by
        cases hq : lt32 x y with
        | false => rfl
        | true => have := Nat.le_of_ble_eq_true hq; omega
      unfold cmpC at fin ⊢
      rcases Nat.lt_or_ge (nthD l 1).toNat (nthD l' 1).toNat with g1 | g1
      · refine fin known_none (f40a (nthD l) (nthD l') _ _) (AllT.cons (T g1) AllT.nil) rfl hus hr ?_
        rw [if_pos (by omega)]
      rcases Nat.lt_or_ge (nthD l' 1).toNat (nthD l 1).toNat with g2 | g2
      · refine fin known_none (f40b (nthD l) (nthD l') _ _) (AllT.cons (T g2) (AllT.cons (F g1) AllT.nil)) rfl hus hr ?_
        rw [if_neg (by omega), if_pos (by omega)]
      rcases Nat.lt_or_ge (nthD l 0).toNat (nthD l' 0).toNat with g3 | g3
      · refine fin known_none (f40c (nthD l) (nthD l') _ _) (AllT.cons (T g3) (AllT.cons (F g2) (AllT.cons (F g1) AllT.nil))) rfl hus hr ?_
        rw [if_pos (by omega)]
      rcases Nat.lt_or_ge (nthD l' 0).toNat (nthD l 0).toNat with g4 | g4
      · refine fin known_none (f40d (nthD l) (nthD l') _ _) (AllT.cons (T g4) (AllT.cons (F g3) (AllT.cons (F g2) (AllT.cons (F g1) AllT.nil)))) rfl hus hr ?_
        rw [if_neg (by omega), if_pos (by omega)]
      · refine fin known_none (f40e (nthD l) (nthD l') _ _) (AllT.cons rfl (AllT.cons (F g4) (AllT.cons (F g3) (AllT.cons (F g2) (AllT.cons (F g1) AllT.nil))))) rfl hus hr ?_
        rw [if_neg (by omega), if_neg (by omega)]
end Go.Proofs.Sx
