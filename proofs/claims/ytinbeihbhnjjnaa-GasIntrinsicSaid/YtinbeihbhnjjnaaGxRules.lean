/- The rules of each fork, as the reference has them; what the law's 'rules' hands back. -/
import Derived.Test.YtinbeihbhnjjnaaGxGrow2
namespace Go.Proofs.Sx
open Go

def ruL : List Ru := [
  ⟨0, 0, 0, nthB [0#64, 21000#64, 0#64, 4#64, 68#64, 0#64, 0#64, 0#64, 0#64, 0#64, 20#64, 20#64, 0#64, 50#64, 40#64, 0#64, 0#64, 0#64, 0#64, 0#64, 24000#64, 10#64, 15000#64, 2#64, 5000000000000000000#64, 0#64]⟩,
  ⟨1, 0, 0, nthB [1#64, 21000#64, 32000#64, 4#64, 68#64, 0#64, 0#64, 0#64, 0#64, 0#64, 20#64, 20#64, 0#64, 50#64, 40#64, 0#64, 0#64, 0#64, 0#64, 0#64, 24000#64, 10#64, 15000#64, 2#64, 5000000000000000000#64, 0#64]⟩,
  ⟨2, 0, 0, nthB [2#64, 21000#64, 32000#64, 4#64, 68#64, 0#64, 0#64, 0#64, 0#64, 0#64, 400#64, 700#64, 0#64, 200#64, 700#64, 0#64, 0#64, 0#64, 5000#64, 25000#64, 24000#64, 10#64, 15000#64, 2#64, 5000000000000000000#64, 0#64]⟩,
  ⟨3, 0, 24576, nthB [3#64, 21000#64, 32000#64, 4#64, 68#64, 0#64, 0#64, 0#64, 0#64, 24576#64, 400#64, 700#64, 0#64, 200#64, 700#64, 0#64, 0#64, 0#64, 5000#64, 25000#64, 24000#64, 50#64, 15000#64, 2#64, 5000000000000000000#64, 0#64]⟩,
  ⟨4, 0, 24576, nthB [4#64, 21000#64, 32000#64, 4#64, 68#64, 0#64, 0#64, 0#64, 0#64, 24576#64, 400#64, 700#64, 0#64, 200#64, 700#64, 0#64, 0#64, 0#64, 5000#64, 25000#64, 24000#64, 50#64, 15000#64, 2#64, 3000000000000000000#64, 3000000#64]⟩,
  ⟨5, 0, 24576, nthB [5#64, 21000#64, 32000#64, 4#64, 68#64, 0#64, 0#64, 0#64, 0#64, 24576#64, 400#64, 700#64, 400#64, 200#64, 700#64, 0#64, 0#64, 0#64, 5000#64, 25000#64, 24000#64, 50#64, 15000#64, 2#64, 2000000000000000000#64, 5000000#64]⟩,
  ⟨6, 0, 24576, nthB [6#64, 21000#64, 32000#64, 4#64, 68#64, 0#64, 0#64, 0#64, 0#64, 24576#64, 400#64, 700#64, 400#64, 200#64, 700#64, 0#64, 0#64, 0#64, 5000#64, 25000#64, 24000#64, 50#64, 15000#64, 2#64, 2000000000000000000#64, 5000000#64]⟩,
  ⟨7, 0, 24576, nthB [7#64, 21000#64, 32000#64, 4#64, 16#64, 0#64, 0#64, 0#64, 0#64, 24576#64, 700#64, 700#64, 700#64, 800#64, 700#64, 0#64, 0#64, 0#64, 5000#64, 25000#64, 24000#64, 50#64, 15000#64, 2#64, 2000000000000000000#64, 5000000#64]⟩,
  ⟨8, 0, 24576, nthB [8#64, 21000#64, 32000#64, 4#64, 16#64, 0#64, 0#64, 0#64, 0#64, 24576#64, 700#64, 700#64, 700#64, 800#64, 700#64, 0#64, 0#64, 0#64, 5000#64, 25000#64, 24000#64, 50#64, 15000#64, 2#64, 2000000000000000000#64, 9000000#64]⟩,
  ⟨9, 0, 24576, nthB [9#64, 21000#64, 32000#64, 4#64, 16#64, 2400#64, 1900#64, 0#64, 0#64, 24576#64, 0#64, 0#64, 0#64, 0#64, 0#64, 2600#64, 2100#64, 100#64, 5000#64, 25000#64, 24000#64, 50#64, 15000#64, 2#64, 2000000000000000000#64, 9000000#64]⟩,
  ⟨10, 0, 24576, nthB [10#64, 21000#64, 32000#64, 4#64, 16#64, 2400#64, 1900#64, 0#64, 0#64, 24576#64, 0#64, 0#64, 0#64, 0#64, 0#64, 2600#64, 2100#64, 100#64, 5000#64, 25000#64, 0#64, 50#64, 4800#64, 5#64, 2000000000000000000#64, 9700000#64]⟩,
  ⟨11, 0, 24576, nthB [11#64, 21000#64, 32000#64, 4#64, 16#64, 2400#64, 1900#64, 0#64, 0#64, 24576#64, 0#64, 0#64, 0#64, 0#64, 0#64, 2600#64, 2100#64, 100#64, 5000#64, 25000#64, 0#64, 50#64, 4800#64, 5#64, 2000000000000000000#64, 10700000#64]⟩,
  ⟨12, 0, 24576, nthB [12#64, 21000#64, 32000#64, 4#64, 16#64, 2400#64, 1900#64, 0#64, 0#64, 24576#64, 0#64, 0#64, 0#64, 0#64, 0#64, 2600#64, 2100#64, 100#64, 5000#64, 25000#64, 0#64, 50#64, 4800#64, 5#64, 2000000000000000000#64, 11400000#64]⟩,
  ⟨13, 0, 24576, nthB [13#64, 21000#64, 32000#64, 4#64, 16#64, 2400#64, 1900#64, 0#64, 0#64, 24576#64, 0#64, 0#64, 0#64, 0#64, 0#64, 2600#64, 2100#64, 100#64, 5000#64, 25000#64, 0#64, 50#64, 4800#64, 5#64, 0#64, 0#64]⟩,
  ⟨14, 49152, 24576, nthB [14#64, 21000#64, 32000#64, 4#64, 16#64, 2400#64, 1900#64, 2#64, 49152#64, 24576#64, 0#64, 0#64, 0#64, 0#64, 0#64, 2600#64, 2100#64, 100#64, 5000#64, 25000#64, 0#64, 50#64, 4800#64, 5#64, 0#64, 0#64]⟩,
  ⟨15, 49152, 24576, nthB [15#64, 21000#64, 32000#64, 4#64, 16#64, 2400#64, 1900#64, 2#64, 49152#64, 24576#64, 0#64, 0#64, 0#64, 0#64, 0#64, 2600#64, 2100#64, 100#64, 5000#64, 25000#64, 0#64, 50#64, 4800#64, 5#64, 0#64, 0#64]⟩]
def nthR : List Ru → Nat → Ru
  | r :: _, 0 => r
  | _ :: l, n + 1 => nthR l n
  | [], _ => ⟨0, 0, 0, fun _ => 0#64⟩
def R (k : Nat) : Ru := nthR ruL k
/-- the rules' cells, the fork's number in letters -/
def rulesS (r : Ru) : List C := .sy r.f :: (rulesC r).drop 1
noncomputable def outT (r : Res) : Option V :=
  match r with
  | some (v, _, _, ob, _) => match allB ob with
    | true => some v
    | false => none
  | none => none
theorem runs_outT {M : Kn} (hM : Known Try.prog M) {f : FuncId} {vs : List V} {v : V} {ds : List Bool} (h : outT (callD M f vs [] ds) = some v) (hv : plainV vs = true) (hr : v.plain = true) (hp : List Reg) : Runs Try.prog f vs hp v hp false := by
  unfold outT at h
  split at h
  · rename_i v1 hp1 c1 ob1 ds1 hc
    split at h
    · rename_i hob
      cases h
      exact Runs.plain (fun B w0 E us w hv hh => (callF_is (sx_sound fol hM _) hM hc).2.2 (allB_is hob) E B w0 w us hv hh) hv hr hp
    · cases h
  · cases h
def okV : V := .one (.bl true)
theorem f43 : (List.range' 0 16).map (fun k => outT (callD M0 43 [.one (.it k)] [] [])) = (List.range' 0 16).map (fun k => some (.tp [(true, rulesC (R k)), (false, [.bl true])])) := by kernel_rfl
theorem map_at {α β : Type} {f g : α → β} {l : List α} (h : l.map f = l.map g) {a : α} (ha : a ∈ l) : f a = g a := List.map_inj_left.1 h a ha
theorem runs43 {k : Nat} (hk : k < 16) (hp : List Reg) : Runs Try.prog 43 [.one (.it k)] hp (.tp [(true, rulesC (R k)), (false, [.bl true])]) hp false :=
  runs_outT known_none (map_at f43 (a := k) (by simp; omega)) rfl rfl hp
theorem Runs.conv {f : FuncId} {vs vs' : List V} {hp hp' : List Reg} {v v' : V} {chg : Bool} (h : Runs Try.prog f vs hp v hp' chg) (ha : ∀ (E : Env) (us : List Value), All2 (V.is E) vs' us → All2 (V.is E) vs us) (hv : ∀ (E : Env) (u : Value), v.is E u → v'.is E u) : Runs Try.prog f vs' hp v' hp' chg := by
  intro B w0 E us w hvs hh
  exact Calls.mono (h B w0 E us w (ha E us hvs) hh) fun e w1 ⟨E1, u, h1, h2, h3, h4⟩ => ⟨E1, u, h1, h2, hv E1 u h3, h4⟩
theorem fork_is : ∀ k, k < 16 → (R k).f = k := by
  intro k hk
  have : ∀ k : Fin 16, (R k.1).f = k.1 := by decide
  exact this ⟨k, hk⟩
theorem rules_cs {E : Env} {k : Nat} {vs : List Value} (h : All2 (C.is E) (rulesC (R k)) vs) : All2 (C.is E) (rulesS (R k)) vs := by
  unfold rulesC at h
  match vs, h with
  | v :: vs, h => exact ⟨h.1, h.2⟩
theorem runs43z {z : Int} (h0 : 0 ≤ z) (h1 : z < 16) (hp : List Reg) : Runs Try.prog 43 [.one (.zi z)] hp (.tp [(true, rulesS (R z.toNat)), (false, [.bl true])]) hp false := by
  refine (runs43 (k := z.toNat) (by omega) hp).conv (fun E us h => ?_) (fun E u h => ?_)
  · match us, h with
    | [u], ⟨hu, _⟩ =>
      refine ⟨?_, trivial⟩
      have hu' : u = .int .i64 z := hu
      subst hu'
      refine ⟨?_, by omega⟩
      rw [Int.toNat_of_nonneg h0]
  · obtain ⟨l, e, ha⟩ := h
    match l, ha with
    | [a, b], ⟨h1, h2, _⟩ =>
      obtain ⟨cs, e1, h3⟩ := h1
      exact ⟨_, e, ⟨cs, e1, rules_cs h3⟩, h2, trivial⟩
noncomputable def ofM (vs : List V) (hp : List Reg) : Option (V × List Reg × Bool × Option Bool) :=
  match vs with
  | [.one (.zi z)] => some (.tp [(true, rulesS (R z.toNat)), (false, [.bl true])], hp, false, some (decide (0 ≤ z) && decide (z < 16)))
  | _ => none
theorem kof : ∀ vs hp v hp' chg ob, ofM vs hp = some (v, hp', chg, ob) → (∀ x, ob = some x → x = true) → Runs Try.prog 43 vs hp v hp' chg := by
  intro vs hp v hp' chg ob h hob
  unfold ofM at h
  split at h
  · cases h
    have h1 := hob _ rfl
    simp only [Bool.and_eq_true, decide_eq_true_eq] at h1
    exact runs43z h1.1 h1.2 hp
  · cases h
noncomputable def Mof : Kn := addK M0 43 ofM
theorem knownof : Known Try.prog Mof := known_add known_none kof
/-- the fork that any number stands for -/
def kz (z : Int) : Int := (z.tmod ((16 : Nat) : Int) + ((16 : Nat) : Int)).tmod ((16 : Nat) : Int)
theorem f14 (z : Int) : outV (callD Mof 14 [.one (.zi z)] [] []) = some (.ag (rulesS (R (kz z).toNat)), [decide (0 ≤ kz z) && decide (kz z < 16), !(decide (((16 : Nat) : Int) = 0)), inI64 (z.tmod ((16 : Nat) : Int) + ((16 : Nat) : Int)), !(decide (((16 : Nat) : Int) = 0))]) := by kernel_rfl
theorem tmod16 (z : Int) : -16 < z.tmod 16 ∧ z.tmod 16 < 16 := by
  have h1 := Int.tmod_lt_of_pos z (b := 16) (by omega)
  have h2 := Int.lt_tmod_of_pos z (b := 16) (by omega)
  exact ⟨by omega, h1⟩
theorem kz_rng (z : Int) : 0 ≤ kz z ∧ kz z < 16 := by
  have h := tmod16 z
  have h3 : 0 ≤ z.tmod 16 + 16 := by omega
  exact ⟨Int.tmod_nonneg _ h3, Int.tmod_lt_of_pos _ (by omega)⟩
theorem runs14 (z : Int) (hp : List Reg) : Runs Try.prog 14 [.one (.zi z)] hp (.ag (rulesS (R (kz z).toNat))) hp false := by
  have hk := kz_rng z
  have ht := tmod16 z
  refine runs_out knownof (f14 z) (AllT.cons ?_ (AllT.cons rfl (AllT.cons ?_ (AllT.cons rfl AllT.nil)))) rfl rfl hp
  · simp only [Bool.and_eq_true, decide_eq_true_eq]
    exact hk
  · unfold inI64
    simp only [Bool.and_eq_true, decide_eq_true_eq]
    show _ ≤ z.tmod 16 + 16 ∧ z.tmod 16 + 16 ≤ _
    omega
noncomputable def rulM (vs : List V) (hp : List Reg) : Option (V × List Reg × Bool × Option Bool) :=
  match vs with
  | [.one (.zi z)] => some (.ag (rulesS (R (kz z).toNat)), hp, false, none)
  | _ => none
theorem krul : ∀ vs hp v hp' chg ob, rulM vs hp = some (v, hp', chg, ob) → (∀ x, ob = some x → x = true) → Runs Try.prog 14 vs hp v hp' chg := by
  intro vs hp v hp' chg ob h _
  unfold rulM at h
  split at h
  · cases h; exact runs14 _ hp
  · cases h
end Go.Proofs.Sx
