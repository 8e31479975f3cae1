/- The law on a write to the storage: its function returns true. -/
import Derived.Test.YtinbeihbhnjjnaaGxSt5
import Derived.Test.YtinbeihbhnjjnaaGxRow
namespace Go.Proofs.Sx
open Go
def unSto (cs : List C) : Option Sto :=
  match cs with
  | [.w64 o0, .w64 o1, .w64 o2, .w64 o3, .w64 c0, .w64 c1, .w64 c2, .w64 c3, .w64 n0, .w64 n1, .w64 n2, .w64 n3, .sb b, .w64 l] => some ⟨nthB [o0, o1, o2, o3], nthB [c0, c1, c2, c3], nthB [n0, n1, n2, n3], b, l⟩
  | [.w64 o0, .w64 o1, .w64 o2, .w64 o3, .w64 c0, .w64 c1, .w64 c2, .w64 c3, .w64 n0, .w64 n1, .w64 n2, .w64 n3, .bl b, .w64 l] => some ⟨nthB [o0, o1, o2, o3], nthB [c0, c1, c2, c3], nthB [n0, n1, n2, n3], b, l⟩
  | _ => none
theorem unSto_is {cs : List C} {s : Sto} (h : unSto cs = some s) {E : Env} {vs : List Value} (hv : All2 (C.is E) cs vs) : All2 (C.is E) (stoC s) vs := by
  unfold unSto at h
  split at h
  · cases h; exact hv
  · cases h
    match vs, hv with
    | [_, _, _, _, _, _, _, _, _, _, _, _, _, _], hv => exact hv
  · cases h
abbrev stoR (r : Ru) (s : Sto) : V := quadV (stX r s) (stA r s) (stS r s) (.sb (stK r s))
def cold16 (r : Ru) : Bool := !(b9B r) || decide (r.w 16 = 2100#64)
noncomputable def stoM (vs : List V) (hp : List Reg) : Option (V × List Reg × Bool × Option Bool) :=
  match vs with
  | [.ag cs, .ag ss] => match unRuS cs, unSto ss with
    | some r, some s => some (stoR r s, hp, false, some (cold16 r))
    | _, _ => none
  | _ => none
theorem ksto {f : FuncId} (hf : ∀ (r : Ru) (s : Sto), (b9B r = true → r.w 16 = 2100#64) → ∀ hp : List Reg, Runs Try.prog f [.ag (rulesS r), .ag (stoC s)] hp (stoR r s) hp false) :
    ∀ vs hp v hp' chg ob, stoM vs hp = some (v, hp', chg, ob) → (∀ x, ob = some x → x = true) → Runs Try.prog f vs hp v hp' chg := by
  intro vs hp v hp' chg ob h hob
  unfold stoM at h
  split at h
  · split at h
    · rename_i r s hr hs
      cases h
      have h1 := hob _ rfl
      unfold cold16 at h1
      simp only [Bool.or_eq_true, Bool.not_eq_true', decide_eq_true_eq] at h1
      rw [unRuS_is hr]
      refine (hf r s (fun h => by rcases h1 with h2 | h2; rw [h] at h2; cases h2; exact h2) hp).conv (fun E us h => ?_) (fun _ _ h => h)
      match us, h with
      | [u, u'], ⟨a, b, _⟩ =>
        obtain ⟨l, e, hl⟩ := b
        exact ⟨a, ⟨l, e, unSto_is hs hl⟩, trivial⟩
    · cases h
  · cases h
noncomputable def Mst : Kn := addK (addK (addK (addK M0 14 rulM) 30 stoM) 31 stoM) 13 trueM
theorem knownst : Known Try.prog Mst := known_add (known_add (known_add (known_add known_none krul) (ksto fun r s h hp => runs30 r s h hp)) (ksto fun r s _ hp => runs31 r s hp)) ktrue
section
variable (f : Int) (s : Sto)
def zr : Ru := R (kz f).toNat
theorem f8 : outV (callD Mst 8 [.one (.zi f), .ag (stoC s)] [] [true, true, true, true]) = some (.one (.bl true), [stK (zr f) s == stK (zr f) s, Nat.beq (stS (zr f) s).toNat (stS (zr f) s).toNat, Nat.beq (stA (zr f) s).toNat (stA (zr f) s).toNat, Nat.beq (stX (zr f) s).toNat (stX (zr f) s).toNat, cold16 (zr f), cold16 (zr f)]) := by kernel_rfl
theorem cold_t (k : Nat) (hk : k < 16) : cold16 (R k) = true := by
  have : ∀ k : Fin 16, cold16 (R k.1) = true := by decide
  exact this ⟨k, hk⟩
theorem law8 : ∃ hp1 chg, Runs Try.prog 8 [.one (.zi f), .ag (stoC s)] [] (.one (.bl true)) hp1 chg := by
  have hk := kz_rng f
  have hc : cold16 (zr f) = true := cold_t _ (by omega)
  exact runs_law knownst (f8 f s) (AllT.cons (by cases stK (zr f) s <;> rfl) (AllT.cons (Nat.beq_refl _) (AllT.cons (Nat.beq_refl _) (AllT.cons (Nat.beq_refl _) (AllT.cons hc (AllT.cons hc AllT.nil))))))
end
theorem a56 : aggT Try.prog 56 = true := by kernel_rfl
theorem t56 : Try.prog.cellTypes Try.prog.depth 56 = some [22, 22, 22, 22, 22, 22, 22, 22, 22, 22, 22, 22, 4, 22] := by kernel_rfl
theorem n56 : Try.prog.cellsOf 56 = 14 := by kernel_rfl
set_option maxRecDepth 100000 in
theorem cell4s {w : World} {r : Reach} {base : Nat} {v : Value} {E : Env} (h : Cell.okWide Try.prog w r base 4 v) : (C.sb (valB v)).is E v := cell4 (E := E) h
set_option maxRecDepth 100000 in
theorem store_open {w : World} {r : Reach} {base : Nat} {v : Value} (h : Value.okWide Try.prog w r base 56 v) : ∃ x : Sto, ∀ E : Env, (V.ag (stoC x)).is E v := by
  obtain ⟨g, rfl, hg⟩ := agg_open a56 t56 n56 rfl h
  exact ⟨⟨fun i => valW (g i), fun i => valW (g (4 + i)), fun i => valW (g (8 + i)), valB (g 12), valW (g 13)⟩, fun E => ⟨_, rfl, cell22 (hg 0 (by decide)), cell22 (hg 1 (by decide)), cell22 (hg 2 (by decide)), cell22 (hg 3 (by decide)), cell22 (hg 4 (by decide)), cell22 (hg 5 (by decide)), cell22 (hg 6 (by decide)), cell22 (hg 7 (by decide)), cell22 (hg 8 (by decide)), cell22 (hg 9 (by decide)), cell22 (hg 10 (by decide)), cell22 (hg 11 (by decide)), cell4s (hg 12 (by decide)), cell22 (hg 13 (by decide)), trivial⟩⟩
end Go.Proofs.Sx
