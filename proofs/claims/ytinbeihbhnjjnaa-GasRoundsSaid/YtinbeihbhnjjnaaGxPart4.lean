/- The law on what a call is given: it returns true. -/
import Derived.Test.YtinbeihbhnjjnaaGxPart3
namespace Go.Proofs.Sx
open Go
variable (x : Ask)
noncomputable def outR (f : FuncId) (r : Option (Ex × St)) : Option (V × List Bool) :=
  match r with
  | some (.ret, ⟨tm, hp, _, _, _, ob, _⟩) => match resV Try.prog (fnOf Try.prog f).results.toList tm hp with
    | some v => some (v, ob)
    | none => none
  | _ => none
theorem outR_is {M : Kn} (hM : Known Try.prog M) {f : FuncId} {n : Nat} {l : List Code} {s : St} {v : V} {ob : List Bool} (h : outR f (sxs Try.prog M n l s) = some (v, ob)) (hob : AllT ob) :
    ∃ s3, DoesL Try.prog l s .ret s3 ∧ s3.base = s.base ∧ resV Try.prog (fnOf Try.prog f).results.toList s3.tm s3.hp = some v := by
  unfold outR at h
  split at h
  · rename_i tm hp c m b ob1 ds hs
    split at h
    · rename_i v1 hv
      cases h
      obtain ⟨hg, hd⟩ := sxs_sound fol hM hs
      exact ⟨_, hd hob, hg.base, hv⟩
    · cases h
  · cases h
def yr : Ru := R (kz x.f).toNat
def yp : W := partX (yr x) x.l x.a
def yok : Bool := partOk (yr x) x.l x.a
def yw : Bool := decide ((yr x).w 23 = 2#64) || decide ((yr x).w 23 = 5#64)
def ybk : W := backX ((yr x).w 23) x.l x.r
noncomputable def yst (ds : List Bool) : St := ⟨slots (ylf x), yhps x 2, true, 65, 0, [], ds⟩
theorem y5a : outR 5 (sxs Try.prog Mpt 1000000 (dropC 2 (rowOf Try.prog 5)) (yst x [true, true, true, true])) =
    some (.one (.bl true), [Nat.beq (ybk x).toNat (ybk x).toNat, yw x, yw x, !(yok x), yok x == yok x, Nat.beq (yp x).toNat (yp x).toNat]) := by kernel_rfl
theorem y5b : outR 5 (sxs Try.prog Mpt 1000000 (dropC 2 (rowOf Try.prog 5)) (yst x [true, true, false, true, true])) =
    some (.one (.bl true), [Nat.beq (ybk x).toNat (ybk x).toNat, yw x, yw x, Nat.ble (yp x).toNat x.l.toNat, !(!(yok x)), yok x == yok x, Nat.beq (yp x).toNat (yp x).toNat]) := by kernel_rfl
noncomputable def yA : Option (Ex × St) := sxc Try.prog Mpt 1000000 (takeC 1 (rowOf Try.prog 5)) [(1, false)] 1 ⟨tmOf [.ag (askC x)] 0 (T.full 8), [], false, 65, 0, [], []⟩
theorem yA_is : yA x = some (.normal, ⟨slots ybase, yhps x 0, false, 65, 0, [], []⟩) := by kernel_rfl
theorem ycode : hasCode Try.prog 5 = true := by kernel_rfl
theorem ytmps : Nat.beq (fnOf Try.prog 5).ntmps 65 = true := by kernel_rfl
theorem ylen : Nat.blt 1 (lenL (rowOf Try.prog 5)) = true := by kernel_rfl
theorem beq_self (n : Nat) : Nat.beq n n = true := Nat.beq_refl n
theorem yw_t : yw x = true := by
  have : ∀ k : Fin 16, (decide ((R k.1).w 23 = 2#64) || decide ((R k.1).w 23 = 5#64)) = true := by decide
  have hk := kz_rng x.f
  exact this ⟨(kz x.f).toNat, by omega⟩
theorem yp_le (h : yok x = true) : (yp x).toNat ≤ x.l.toNat := by
  have hm : (mostX x.l).toNat ≤ x.l.toNat := by
    unfold mostX
    have h1 : (x.l / 64#64).toNat = x.l.toNat / 64 := by rw [BitVec.toNat_udiv]; rfl
    have h3 : x.l / 64#64 ≤ x.l := by rw [BitVec.le_def, h1]; omega
    rw [BitVec.toNat_sub_of_le h3]
    omega
  unfold yok partOk at h
  unfold yp partX
  cases he : earlyB (yr x) with
  | true =>
    rw [he] at h
    have h' : (hiB x.a || overX x.l x.a) = false := by simpa using h
    rw [h']
    rw [Bool.or_eq_false_iff] at h'
    exact blt_f.1 h'.2
  | false =>
    cases hiB x.a with
    | true => exact hm
    | false =>
      show (bif Nat.blt (mostX x.l).toNat (smallX x.a).toNat then mostX x.l else smallX x.a).toNat ≤ _
      cases hb : Nat.blt (mostX x.l).toNat (smallX x.a).toNat with
      | true => exact hm
      | false =>
        have := blt_f.1 hb
        show (smallX x.a).toNat ≤ _
        omega
theorem runs5_of {ds ob : List Bool} (hf : outR 5 (sxs Try.prog Mpt 1000000 (dropC 2 (rowOf Try.prog 5)) (yst x ds)) = some (.one (.bl true), ob)) (hob : AllT ob) : ∃ hp1 chg, Runs Try.prog 5 [.ag (askC x)] [] (.one (.bl true)) hp1 chg := by
  obtain ⟨s3, h3, hb3, hv⟩ := outR_is knownpt hf hob
  have hA : DoesL Try.prog (takeC 1 (rowOf Try.prog 5)) ⟨tmOf [.ag (askC x)] 0 (T.full 8), [], false, 65, 0, [], []⟩ .normal ⟨slots ybase, yhps x 0, false, 65, 0, [], []⟩ := sxc_sound fol knownpt (yA_is x) AllT.nil
  have hR : Does Try.prog (nthC (rowOf Try.prog 5) 1) ⟨slots ybase, yhps x 0, false, 65, 0, [], []⟩ .normal (yst x ds) := DoesL.one (DoesL.free (yreg x false 65 0 (by decide) [] []).toL)
  have hd : DoesL Try.prog (rowOf Try.prog 5) ⟨tmOf [.ag (askC x)] 0 (T.full 8), [], false, 65, 0, [], []⟩ .ret s3 := by
    have hl := parts3 1 (rowOf Try.prog 5) (Nat.le_of_ble_eq_true ylen)
    rw [← hl]
    exact hA.append (DoesL.cons hR h3)
  exact ⟨_, _, runs_of ycode (.inr rfl) (n := 65) (by rw [Nat.eq_of_beq_eq_true ytmps]; rfl) hd hv hb3⟩
theorem law5 : ∃ hp1 chg, Runs Try.prog 5 [.ag (askC x)] [] (.one (.bl true)) hp1 chg := by
  have hw := yw_t x
  cases hok : yok x with
  | false => exact runs5_of x (y5a x) (AllT.cons (beq_self _) (AllT.cons hw (AllT.cons hw (AllT.cons (no_f hok) (AllT.cons (by rw [hok]; rfl) (AllT.cons (beq_self _) AllT.nil))))))
  | true => exact runs5_of x (y5b x) (AllT.cons (beq_self _) (AllT.cons hw (AllT.cons hw (AllT.cons (Nat.ble_eq_true_of_le (yp_le x hok)) (AllT.cons (nn_t hok) (AllT.cons (by rw [hok]; rfl) (AllT.cons (beq_self _) AllT.nil)))))))
end Go.Proofs.Sx
