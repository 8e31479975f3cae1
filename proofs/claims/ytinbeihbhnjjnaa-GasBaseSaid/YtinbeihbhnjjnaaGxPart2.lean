/- What a call is given: as known calls; the law's own function. -/
import Derived.Test.YtinbeihbhnjjnaaGxPart
namespace Go.Proofs.Sx
open Go
section
variable (r : Ru) (left : W) (a : Q) (hp : List Reg)
abbrev partR : V := pairV (partX r left a) (.sb (partOk r left a))
theorem nn_t {b : Bool} (h : b = true) : (!(!b)) = true := by rw [h]; rfl
theorem nn_f {b : Bool} (h : b = false) : (!(!(!b))) = true := by rw [h]; rfl
theorem no_f {b : Bool} (h : b = false) : (!b) = true := by rw [h]; rfl
theorem runs15 : Runs Try.prog 15 [.ag (rulesS r), .one (.w64 left), .ag (w4 a)] hp (partR r left a) hp false := by
  have out : ∀ {ds ob : List Bool} {t : W} {b : Bool}, p15 r left a ds = some (pairV t (.bl b), ob) → AllT ob → Runs Try.prog 15 [.ag (rulesS r), .one (.w64 left), .ag (w4 a)] hp (pairV t (.sb b)) hp false :=
    fun h hob => pairV_sb (runs_out knownsm h hob rfl rfl hp)
  unfold partR partX partOk
  cases he : earlyB r with
  | true =>
    cases hh : hiB a with
    | true => exact out (p15a r left a) (AllT.cons (nn_t hh) (AllT.cons he AllT.nil))
    | false =>
      cases ho : overX left a with
      | true => exact out (p15b r left a) (AllT.cons ho (AllT.cons (nn_f hh) (AllT.cons he AllT.nil)))
      | false => exact out (p15c r left a) (AllT.cons (no_f ho) (AllT.cons (nn_f hh) (AllT.cons he AllT.nil)))
  | false =>
    cases hh : hiB a with
    | true => exact out (p15d r left a) (AllT.cons (nn_t hh) (AllT.cons (no_f he) AllT.nil))
    | false => exact out (p15e r left a) (AllT.cons (nn_f hh) (AllT.cons (no_f he) AllT.nil))
theorem runs16 : Runs Try.prog 16 [.ag (rulesS r), .one (.w64 left), .ag (w4 a)] hp (partR r left a) hp false := by
  have out : ∀ {ds ob : List Bool} {t : W} {b : Bool}, p16 r left a ds = some (pairV t (.bl b), ob) → AllT ob → Runs Try.prog 16 [.ag (rulesS r), .one (.w64 left), .ag (w4 a)] hp (pairV t (.sb b)) hp false :=
    fun h hob => pairV_sb (runs_out knownsm h hob rfl rfl hp)
  unfold partR partX partOk
  cases he : earlyB r with
  | true =>
    cases hh : hiB a with
    | true => exact out (p16a r left a) (AllT.cons (nn_t hh) (AllT.cons he AllT.nil))
    | false =>
      cases ho : overX left a with
      | true => exact out (p16b r left a) (AllT.cons ho (AllT.cons (nn_f hh) (AllT.cons he AllT.nil)))
      | false => exact out (p16c r left a) (AllT.cons (no_f ho) (AllT.cons (nn_f hh) (AllT.cons he AllT.nil)))
  | false =>
    cases hh : hiB a with
    | true => exact out (p16d r left a) (AllT.cons (nn_t hh) (AllT.cons (no_f he) AllT.nil))
    | false =>
      cases hb : Nat.blt (mostX left).toNat (smallX a).toNat with
      | true => exact out (p16e r left a) (AllT.cons hb (AllT.cons (nn_f hh) (AllT.cons (no_f he) AllT.nil)))
      | false => exact out (p16f r left a) (AllT.cons (no_f hb) (AllT.cons (nn_f hh) (AllT.cons (no_f he) AllT.nil)))
end
def unRuS (cs : List C) : Option Ru :=
  match cs with
  | [.sy f, .w64 a1, .w64 a2, .w64 a3, .w64 a4, .w64 a5, .w64 a6, .w64 a7, .sy m, .sy k, .w64 a10, .w64 a11, .w64 a12, .w64 a13, .w64 a14, .w64 a15, .w64 a16, .w64 a17, .w64 a18, .w64 a19, .w64 a20, .w64 a21, .w64 a22, .w64 a23, .w64 a24, .w64 a25] => some ⟨f, m, k, nthB [0#64, a1, a2, a3, a4, a5, a6, a7, 0#64, 0#64, a10, a11, a12, a13, a14, a15, a16, a17, a18, a19, a20, a21, a22, a23, a24, a25]⟩
  | _ => none
theorem unRuS_is {cs : List C} {r : Ru} (h : unRuS cs = some r) : cs = rulesS r := by
  unfold unRuS at h
  split at h
  · cases h; rfl
  · cases h
noncomputable def partM (vs : List V) (hp : List Reg) : Option (V × List Reg × Bool × Option Bool) :=
  match vs with
  | [.ag cs, .one (.w64 left), .ag [.w64 a0, .w64 a1, .w64 a2, .w64 a3]] => match unRuS cs with
    | some r => some (pairV (partX r left (nthB [a0, a1, a2, a3])) (.sb (partOk r left (nthB [a0, a1, a2, a3]))), hp, false, none)
    | none => none
  | _ => none
theorem kpart {f : FuncId} (hf : ∀ (r : Ru) (left : W) (a : Q) (hp : List Reg), Runs Try.prog f [.ag (rulesS r), .one (.w64 left), .ag (w4 a)] hp (partR r left a) hp false) : ∀ vs hp v hp' chg ob, partM vs hp = some (v, hp', chg, ob) → (∀ x, ob = some x → x = true) → Runs Try.prog f vs hp v hp' chg := by
  intro vs hp v hp' chg ob h _
  unfold partM at h
  split at h
  · split at h
    · rename_i r hr
      cases h
      rw [unRuS_is hr]
      exact hf r _ (nthB [_, _, _, _]) hp
    · cases h
  · cases h

/-! what is given back -/
def rules23 (r : Ru) (c : W) : List C := [.sy r.f, .w64 (r.w 1), .w64 (r.w 2), .w64 (r.w 3), .w64 (r.w 4), .w64 (r.w 5), .w64 (r.w 6), .w64 (r.w 7), .sy r.m, .sy r.k, .w64 (r.w 10), .w64 (r.w 11), .w64 (r.w 12), .w64 (r.w 13), .w64 (r.w 14), .w64 (r.w 15), .w64 (r.w 16), .w64 (r.w 17), .w64 (r.w 18), .w64 (r.w 19), .w64 (r.w 20), .w64 (r.w 21), .w64 (r.w 22), .w64 c, .w64 (r.w 24), .w64 (r.w 25)]
theorem rules23_is {r : Ru} {c : W} (h : r.w 23 = c) : rulesS r = rules23 r c := by subst h; rfl
def backX (c used refund : W) : W := bif Nat.blt (used / c).toNat refund.toNat then used / c else refund
section
variable (r : Ru) (used refund : W) (hp : List Reg)
noncomputable abbrev b17 (c : W) := run1 M0 17 [.ag (rules23 r c), .one (.w64 used), .one (.w64 refund)] []
noncomputable abbrev b18 (c : W) (ds : List Bool) := run1 M0 18 [.ag (rules23 r c), .one (.w64 used), .one (.w64 refund)] ds
theorem b17a : b17 r used refund 2#64 = some (.one (.w64 (backX 2#64 used refund)), []) := by kernel_rfl
theorem b17b : b17 r used refund 5#64 = some (.one (.w64 (backX 5#64 used refund)), []) := by kernel_rfl
theorem b18a : b18 r used refund 2#64 [true] = some (.one (.w64 refund), [Nat.blt refund.toNat (used / 2#64).toNat]) := by kernel_rfl
theorem b18b : b18 r used refund 2#64 [false] = some (.one (.w64 (used / 2#64)), [!(Nat.blt refund.toNat (used / 2#64).toNat)]) := by kernel_rfl
theorem b18c : b18 r used refund 5#64 [true] = some (.one (.w64 refund), [Nat.blt refund.toNat (used / 5#64).toNat]) := by kernel_rfl
theorem b18d : b18 r used refund 5#64 [false] = some (.one (.w64 (used / 5#64)), [!(Nat.blt refund.toNat (used / 5#64).toNat)]) := by kernel_rfl
theorem blt_t {p q : Nat} : Nat.blt p q = true ↔ p < q := ⟨fun h => Nat.le_of_ble_eq_true h, fun h => Nat.ble_eq_true_of_le h⟩
theorem blt_f {p q : Nat} : Nat.blt p q = false ↔ q ≤ p := by
  rw [Bool.eq_false_iff, ne_eq, blt_t]
  omega
theorem backX_lt {c : W} (h : Nat.blt refund.toNat (used / c).toNat = true) : backX c used refund = refund := by
  unfold backX
  rw [blt_f.2 (Nat.le_of_lt (blt_t.1 h))]
  rfl
theorem backX_ge {c : W} (h : Nat.blt refund.toNat (used / c).toNat = false) : backX c used refund = used / c := by
  unfold backX
  have h1 := blt_f.1 h
  cases hc : Nat.blt (used / c).toNat refund.toNat with
  | true => rfl
  | false =>
    have h2 := blt_f.1 hc
    exact BitVec.eq_of_toNat_eq (by show refund.toNat = _; omega)
theorem runs17 {c : W} (h : r.w 23 = c) (hc : c = 2#64 ∨ c = 5#64) : Runs Try.prog 17 [.ag (rulesS r), .one (.w64 used), .one (.w64 refund)] hp (.one (.w64 (backX c used refund))) hp false := by
  rw [rules23_is h]
  rcases hc with rfl | rfl
  · exact runs_out known_none (b17a r used refund) AllT.nil rfl rfl hp
  · exact runs_out known_none (b17b r used refund) AllT.nil rfl rfl hp
theorem runs18 {c : W} (h : r.w 23 = c) (hc : c = 2#64 ∨ c = 5#64) : Runs Try.prog 18 [.ag (rulesS r), .one (.w64 used), .one (.w64 refund)] hp (.one (.w64 (backX c used refund))) hp false := by
  rw [rules23_is h]
  cases hb : Nat.blt refund.toNat (used / c).toNat with
  | true =>
    rw [backX_lt used refund hb]
    rcases hc with rfl | rfl
    · exact runs_out known_none (b18a r used refund) (AllT.cons hb AllT.nil) rfl rfl hp
    · exact runs_out known_none (b18c r used refund) (AllT.cons hb AllT.nil) rfl rfl hp
  | false =>
    rw [backX_ge used refund hb]
    rcases hc with rfl | rfl
    · exact runs_out known_none (b18b r used refund) (AllT.cons (no_f hb) AllT.nil) rfl rfl hp
    · exact runs_out known_none (b18d r used refund) (AllT.cons (no_f hb) AllT.nil) rfl rfl hp
end
noncomputable def backM (vs : List V) (hp : List Reg) : Option (V × List Reg × Bool × Option Bool) :=
  match vs with
  | [.ag cs, .one (.w64 used), .one (.w64 refund)] => match unRuS cs with
    | some r => some (.one (.w64 (backX (r.w 23) used refund)), hp, false, some (decide (r.w 23 = 2#64) || decide (r.w 23 = 5#64)))
    | none => none
  | _ => none
theorem kback {f : FuncId} (hf : ∀ (r : Ru) (used refund : W) (hp : List Reg) {c : W}, r.w 23 = c → (c = 2#64 ∨ c = 5#64) → Runs Try.prog f [.ag (rulesS r), .one (.w64 used), .one (.w64 refund)] hp (.one (.w64 (backX c used refund))) hp false) : ∀ vs hp v hp' chg ob, backM vs hp = some (v, hp', chg, ob) → (∀ x, ob = some x → x = true) → Runs Try.prog f vs hp v hp' chg := by
  intro vs hp v hp' chg ob h hob
  unfold backM at h
  split at h
  · split at h
    · rename_i r hr
      cases h
      have h1 := hob _ rfl
      simp only [Bool.or_eq_true, decide_eq_true_eq] at h1
      rw [unRuS_is hr]
      exact hf r _ _ hp rfl h1
    · cases h
  · cases h
noncomputable def Mpt : Kn := addK (addK (addK (addK (addK (addK M0 14 rulM) 15 partM) 16 partM) 17 backM) 18 backM) 13 trueM
theorem knownpt : Known Try.prog Mpt := known_add (known_add (known_add (known_add (known_add (known_add known_none krul) (kpart runs15)) (kpart runs16)) (kback runs17)) (kback runs18)) ktrue
end Go.Proofs.Sx
