/- Functions with a loop, put together out of pieces. -/
import Derived.Test.YtinbeihbhnjjnaaSxRun
namespace Go.Proofs.Sx
open Go

def nthC : List Code → Nat → Code
  | c :: _, 0 => c
  | _ :: l, n + 1 => nthC l n
  | [], _ => .skip
def takeC : Nat → List Code → List Code
  | 0, _ => []
  | n + 1, c :: l => c :: takeC n l
  | _ + 1, [] => []
def dropC : Nat → List Code → List Code
  | 0, l => l
  | n + 1, _ :: l => dropC n l
  | _ + 1, [] => []
def inLoop : Code → Code
  | .block _ (.loop b) => b
  | c => c
def lenL : List Code → Nat
  | [] => 0
  | _ :: l => lenL l + 1

theorem parts3 : ∀ (k : Nat) (l : List Code), k < lenL l → takeC k l ++ (nthC l k :: dropC (k + 1) l) = l
  | 0, c :: l, _ => by simp [takeC, nthC, dropC]
  | k + 1, c :: l, h => by
    have := parts3 k l (by simp [lenL] at h; omega)
    simp only [takeC, nthC, dropC, List.cons_append]
    rw [this]
  | _, [], h => by simp [lenL] at h

theorem DoesL.one {P : Program} {c : Code} {s s' : St} {e : Ex} (h : DoesL P [c] s e s') : Does P c s e s' := by
  intro B w0 wc E a w Q hR hQ
  refine Code.wp_mono (fun e a w h => ?_) (h B w0 wc E a w Q hR hQ)
  cases e <;> exact h

theorem DoesL.three {P : Program} {l : List Code} {b : Code} {k id N : Nat} {s0 s2 s3 : St} {s : Nat → St} {e : Ex} (hk : k < lenL l) (hb : nthC l k = .block id (.loop b)) (h1 : DoesL P (takeC k l) s0 .normal (s 0))
    (h2 : ∀ i, i < N → DoesL P [b] (s i) .normal (s (i + 1))) (h3 : DoesL P [b] (s N) (.exit id) s2) (h4 : DoesL P (dropC (k + 1) l) s2 e s3) : DoesL P l s0 e s3 := by
  have hl := parts3 k l hk
  rw [← hl]
  refine h1.append (DoesL.cons ?_ h4)
  rw [hb]
  exact Does.loop N (fun i hi => (h2 i hi).one) h3.one

/-- chg may always be called so. -/
theorem DoesL.spoil {P : Program} {l : List Code} {e : Ex} {s : St} {tm : T} {hp : List Reg} {c : Bool} {n b : Nat} {ob ds : List Bool} (h : DoesL P l s e ⟨tm, hp, c, n, b, ob, ds⟩) : DoesL P l s e ⟨tm, hp, true, n, b, ob, ds⟩ :=
  fun B w0 wc E a w Q hR hQ => h B w0 wc E a w Q hR fun E' a' w' hE hR' => hQ E' a' w' hE ⟨hR'.tr, hR'.hr, fun h => by cases h⟩

/-- The last piece of a function that hands back one value. -/
noncomputable def lastV (P : Program) (f : FuncId) (r : Option (Ex × St)) : Option V :=
  match r with
  | some (.ret, ⟨tm, hp, _, _, _, [], _⟩) => resV P (fnOf P f).results.toList tm hp
  | _ => none

theorem lastV_is {P : Program} {M : Kn} (hm : P.follows .mixedOrders = true) (hM : Known P M) {f : FuncId} {n : Nat} {l : List Code} {s : St} {v : V} (h : lastV P f (sxs P M n l s) = some v) :
    ∃ s3, DoesL P l s .ret s3 ∧ s3.base = s.base ∧ resV P (fnOf P f).results.toList s3.tm s3.hp = some v := by
  unfold lastV at h
  split at h
  · rename_i tm hp c m b ds hs
    obtain ⟨hg, hd⟩ := sxs_sound hm hM hs
    exact ⟨_, hd AllT.nil, hg.base, h⟩
  · cases h

/-- A function with one loop, of values alone. -/
theorem runs_loop {P : Program} {M : Kn} (hm : P.follows .mixedOrders = true) (hM : Known P M) {f : FuncId} {vs : List V} {v : V} {b : Code} {k id N fuel n : Nat} {s0 s2 : St} {s : Nat → St}
    (hc : hasCode P f = true) (hk : k < lenL (rowOf P f)) (hb : nthC (rowOf P f) k = .block id (.loop b)) (hn : n = lenV' vs + ((fnOf P f).ntmps - lenV' vs)) (hs0 : s0 = ⟨tmOf vs 0 (T.full 8), [], false, n, regLen [], [], []⟩)
    (h1 : DoesL P (takeC k (rowOf P f)) s0 .normal (s 0)) (h2 : ∀ i, i < N → DoesL P [b] (s i) .normal (s (i + 1))) (h3 : DoesL P [b] (s N) (.exit id) s2) (hb2 : s2.base = 0)
    (h4 : lastV P f (sxs P M fuel (dropC (k + 1) (rowOf P f)) s2) = some v) (hv : plainV vs = true) (hr : v.plain = true) (hp : List Reg) : Runs P f vs hp v hp false := by
  obtain ⟨s3, hd, hb3, hres⟩ := lastV_is hm hM h4
  subst hs0
  exact (runs_of hc (.inr rfl) hn (DoesL.three hk hb h1 h2 h3 hd) hres (hb3.trans hb2)).plain hv hr hp
end Go.Proofs.Sx
