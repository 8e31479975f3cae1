/- The law on what each operation takes: its function returns true. -/
import Derived.Test.YtinbeihbhnjjnaaGxBsB
import Derived.Test.YtinbeihbhnjjnaaGxBs1
import Derived.Test.YtinbeihbhnjjnaaGxBs7
import Derived.Test.YtinbeihbhnjjnaaGxPart2
import Derived.Test.YtinbeihbhnjjnaaGxRow
namespace Go.Proofs.Sx
open Go
set_option linter.unusedVariables false
theorem rulesS_C {r : Ru} {E : Env} {u : Value} (h : (V.ag (rulesS r)).is E u) : (V.ag (rulesC r)).is E u := by
  obtain ⟨vs, e, ha⟩ := h
  match vs, ha with
  | v :: vs, ha => exact ⟨v :: vs, e, ⟨ha.1, ha.2⟩⟩
noncomputable def baseM : Tab := fun vs hp =>
  match vs with
  | [.ag cs, .one (.zi z)] => match unRuS cs with
    | some r => some (.one (.w64 (baseW r z)), hp, false, some (Nat.ble r.f 15))
    | none => none
  | _ => none
theorem kbase {f : FuncId} (hf : ∀ (r : Ru), r.f ≤ 15 → ∀ (z : Int) (hp : List Reg), Runs Try.prog f [.ag (rulesC r), .one (.zi z)] hp (.one (.w64 (baseW r z))) hp false) : Tells f baseM := by
  intro vs hp v hp' chg ob h hob
  unfold baseM at h
  split at h
  · split at h
    · rename_i r hr
      cases h
      rw [unRuS_is hr]
      refine Runs.conv (hf r (Nat.le_of_ble_eq_true (hob _ rfl)) _ hp) (fun E us h => ?_) (fun _ _ h => h)
      match us, h with
      | [u, u'], ⟨a, b, _⟩ => exact ⟨rulesS_C a, b, trivial⟩
    · cases h
  · cases h
noncomputable def powM : Tab := fun vs hp =>
  match vs with
  | [.ag cs, .ag [.w64 x, .w64 y, .w64 z, .w64 t]] => match unRuS cs with
    | some r => some (.one (.w64 (eW r (nthB [x, y, z, t]))), hp, false, none)
    | none => none
  | _ => none
theorem kpow {f : FuncId} (hf : ∀ (r : Ru) (a : Q) (hp : List Reg), Runs Try.prog f [.ag (rulesC r), .ag (w4 a)] hp (.one (.w64 (eW r a))) hp false) : Tells f powM := by
  intro vs hp v hp' chg ob h hob
  unfold powM at h
  split at h
  · split at h
    · rename_i r hr
      cases h
      rw [unRuS_is hr]
      refine Runs.conv (hf r (nthB [_, _, _, _]) hp) (fun E us h => ?_) (fun _ _ h => h)
      match us, h with
      | [u, u'], ⟨a, b, _⟩ => exact ⟨rulesS_C a, b, trivial⟩
    · cases h
  · cases h
noncomputable def wqM : Tab := fun vs hp =>
  match vs with
  | [.ag [.w64 x, .w64 y, .w64 z, .w64 t], .one (.w64 e)] => some (tpV (wq (nthB [x, y, z, t]) e) (.sb (okQ (nthB [x, y, z, t]))), hp, false, none)
  | _ => none
theorem kwq {f : FuncId} (hf : ∀ (n : Q) (e : W) (hp : List Reg), Runs Try.prog f [.ag (w4 n), .one (.w64 e)] hp (tpV (wq n e) (.sb (okQ n))) hp false) : Tells f wqM := by
  intro vs hp v hp' chg ob h hob
  unfold wqM at h
  split at h
  · cases h
    exact hf (nthB [_, _, _, _]) _ hp
  · cases h
noncomputable def lqM : Tab := fun vs hp =>
  match vs with
  | [.one (.zi s), .ag [.w64 x, .w64 y, .w64 z, .w64 t]] => some (tpV (lq s (nthB [x, y, z, t])) (.sb (okQ (nthB [x, y, z, t]))), hp, false, none)
  | _ => none
theorem klq {f : FuncId} (hf : ∀ (s : Int) (n : Q) (hp : List Reg), Runs Try.prog f [.one (.zi s), .ag (w4 n)] hp (tpV (lq s n) (.sb (okQ n))) hp false) : Tells f lqM := by
  intro vs hp v hp' chg ob h hob
  unfold lqM at h
  split at h
  · cases h
    exact hf _ (nthB [_, _, _, _]) hp
  · cases h
noncomputable def Mba : Kn := addK (addK (addK (addK (addK (addK (addK (addK (addK (addK M0 14 rulM) 19 wqM) 20 wqM) 21 lqM) 22 lqM) 23 baseM) 24 baseM) 25 powM) 26 powM) 13 trueM
theorem knownba : Known Try.prog Mba := known_add (known_add (known_add (known_add (known_add (known_add (known_add (known_add (known_add (known_add known_none krul) (kwq runs19)) (kwq runs20)) (klq runs21)) (klq runs22)) (kbase fun r h z hp => runs23 r h z hp)) (kbase fun r h z hp => runs24 r h z hp)) (kpow runsE25)) (kpow runsE26)) ktrue
section
variable (f z : Int) (n : Q)
def fr : Ru := R (kz f).toNat
def eachW : W := BitVec.ofNat 64 (BitVec.ofInt 64 z &&& BitVec.ofInt 64 ((7 : Nat) : Int)).toNat % 7#64
def topicZ : Int := (z.tmod ((5 : Nat) : Int) + ((5 : Nat) : Int)).tmod ((5 : Nat) : Int)
theorem f6 : outV (callD Mba 6 [.one (.zi f), .one (.zi z), .ag (w4 n)] [] [true, true, true, true, true, true]) =
    some (.one (.bl true), [okQ (q4 n) == okQ (q4 n), eqW (lq (topicZ z) (q4 n)) (lq (topicZ z) (q4 n)), okQ (q4 n) == okQ (q4 n), eqW (wq (q4 n) (eachW z)) (wq (q4 n) (eachW z)), eqW (eW (fr f) (q4 n)) (eW (fr f) (q4 n)), eqW (baseW (fr f) z) (baseW (fr f) z), Nat.ble (fr f).f 15, Nat.ble (fr f).f 15,
      !(decide (((5 : Nat) : Int) = 0)), inI64 (z.tmod ((5 : Nat) : Int) + ((5 : Nat) : Int)), !(decide (((5 : Nat) : Int) = 0)), Nat.blt (BitVec.ofInt 64 ((7 : Nat) : Int)).toNat 9223372036854775808]) := by kernel_rfl
theorem tmod5 (z : Int) : -5 < z.tmod 5 ∧ z.tmod 5 < 5 := by
  have h1 := Int.tmod_lt_of_pos z (b := 5) (by omega)
  have h2 := Int.lt_tmod_of_pos z (b := 5) (by omega)
  exact ⟨by omega, h1⟩
theorem law6 : ∃ hp1 chg, Runs Try.prog 6 [.one (.zi f), .one (.zi z), .ag (w4 n)] [] (.one (.bl true)) hp1 chg := by
  have hk := kz_rng f
  have eq : ∀ y : W, eqW y y = true := fun y => Nat.beq_refl _
  have eb : ∀ b : Bool, (b == b) = true := fun b => by cases b <;> rfl
  have h15 : Nat.ble (fr f).f 15 = true := by
    have : (fr f).f = (kz f).toNat := fork_is _ (by omega)
    rw [this]
    exact bleN (by omega)
  have h5 := tmod5 z
  refine runs_law knownba (f6 f z n) (AllT.cons (eb _) (AllT.cons (eq _) (AllT.cons (eb _) (AllT.cons (eq _) (AllT.cons (eq _) (AllT.cons (eq _) (AllT.cons h15 (AllT.cons h15 (AllT.cons rfl (AllT.cons ?_ (AllT.cons rfl (AllT.cons (by decide) AllT.nil))))))))))))
  unfold inI64
  simp only [Bool.and_eq_true, decide_eq_true_eq]
  show _ ≤ z.tmod 5 + 5 ∧ z.tmod 5 + 5 ≤ _
  omega
end
end Go.Proofs.Sx
