/- The reference's Grow, whole. -/
import Derived.Test.YtinbeihbhnjjnaaGxNat10
namespace Go.Proofs.Sx
open Go
set_option linter.unusedVariables false
noncomputable def retV (f : FuncId) (r : Option (Ex × St)) : Option (V × List Bool) :=
  match r with
  | some (.ret, ⟨tm, hp, _, _, _, ob, _⟩) => match resV Try.prog (fnOf Try.prog f).results.toList tm hp with
    | some v => some (v, ob)
    | none => none
  | _ => none
theorem retV_is {M : Kn} (hM : Known Try.prog M) {f : FuncId} {n : Nat} {l : List Code} {s : St} {v : V} {ob : List Bool} (h : retV f (sxs Try.prog M n l s) = some (v, ob)) (hob : AllT ob) :
    ∃ s3, DoesL Try.prog l s .ret s3 ∧ s3.base = s.base ∧ resV Try.prog (fnOf Try.prog f).results.toList s3.tm s3.hp = some v := by
  unfold retV at h
  split at h
  · rename_i tm hp c m b ob1 ds hs
    split at h
    · rename_i v1 hv
      cases h
      obtain ⟨hg, hd⟩ := sxs_sound fol hM hs
      exact ⟨_, hd hob, hg.base, hv⟩
    · cases h
  · cases h
def bigL : L32 := ofL 34359738368#64
def bigB (l : L32) : Bool := decide (0 < cmpZ (natL l) (natL bigL))
def cmpO (l : L32) : Bool := (trimL l == l && Nat.ble l.length 10) && (Nat.beq bigL.length 2 && Nat.ble 4294967296 (natL bigL))
def toW (l : L32) : W := 32#64 * wordL l 0
def lessB (s : W) (l : L32) : Bool := Nat.blt (toW l).toNat s.toNat
section
variable (s : W) (a n : Q) (l : L32)
noncomputable def in12 (ds : List Bool) : St := ⟨tmOf [.one (.w64 s), .ag (w4 a), .ag (w4 n)] 0 (T.full 8), [], false, 43, 0, [], ds⟩
noncomputable def mid12 (ds : List Bool) : St := ⟨slots ((9, .one (.dy 2)) :: b12 s), hp12 a n ++ [.nt l], true, 43, 0, [], ds⟩
theorem b12a : sxc Try.prog Mb2 1000000 (takeC 3 (rowOf Try.prog 12)) [(0, false), (4, false), (5, false)] 2 (in12 s a n [false]) = some (.normal, ⟨slots (b12 s), hp12 a n, false, 43, 0, [!(zeroB n)], []⟩) := by kernel_rfl
theorem b12z : outV (callD Mb2 12 [.one (.w64 s), .ag (w4 a), .ag (w4 n)] [] [true]) = some (growV s 0#64 (.bl true), [zeroB n]) := by kernel_rfl
theorem b12r : retV 12 (sxs Try.prog Mb2 1000000 (dropC 4 (rowOf Try.prog 12)) (mid12 s a n l [true])) = some (growV 0#64 0#64 (.bl false), [bigB l, cmpO l]) := by kernel_rfl
theorem b12s : retV 12 (sxs Try.prog Mb2 1000000 (dropC 4 (rowOf Try.prog 12)) (mid12 s a n l [false, true])) = some (growV s (cG (s / 32#64) - cG (s / 32#64)) (.bl true), [lessB s l, Nat.ble l.length 10, !(bigB l), cmpO l]) := by kernel_rfl
theorem b12t : retV 12 (sxs Try.prog Mb2 1000000 (dropC 4 (rowOf Try.prog 12)) (mid12 s a n l [false, false])) = some (growV (toW l) (cG (toW l / 32#64) - cG (s / 32#64)) (.bl true), [!(lessB s l), Nat.ble l.length 10, !(bigB l), cmpO l]) := by kernel_rfl
end
theorem code12 : hasCode Try.prog 12 = true := by kernel_rfl
theorem tmps12 : Nat.beq (fnOf Try.prog 12).ntmps 43 = true := by kernel_rfl
theorem parts12 : takeC 3 (rowOf Try.prog 12) ++ (nthC (rowOf Try.prog 12) 3 :: dropC 4 (rowOf Try.prog 12)) = rowOf Try.prog 12 := by kernel_rfl
theorem big_ok : (Nat.beq bigL.length 2 && Nat.ble 4294967296 (natL bigL)) = true := by kernel_rfl
theorem cmpO_is (a n : Q) : cmpO (wL a n) = true := by
  unfold cmpO
  rw [big_ok, Bool.and_true, bleN (wL_le a n), Bool.and_true]
  have e : trimL (wL a n) = wL a n := trim_trim _
  rw [e]
  simp
def rTo (s : W) (a n : Q) : W := bif zeroB n then s else bif bigB (wL a n) then 0#64 else bif lessB s (wL a n) then s else toW (wL a n)
def rCost (s : W) (a n : Q) : W := bif zeroB n then 0#64 else bif bigB (wL a n) then 0#64 else bif lessB s (wL a n) then cG (s / 32#64) - cG (s / 32#64) else cG (toW (wL a n) / 32#64) - cG (s / 32#64)
def rOk (a n : Q) : Bool := zeroB n || !(bigB (wL a n))
theorem runs12 (s : W) (a n : Q) (hp : List Reg) : Runs Try.prog 12 [.one (.w64 s), .ag (w4 a), .ag (w4 n)] hp (growV (rTo s a n) (rCost s a n) (.sb (rOk a n))) hp false := by
  unfold rTo rCost rOk
  cases hz : zeroB n with
  | true => exact growV_sb (runs_out knownb2 (b12z s a n) (AllT.cons hz AllT.nil) rfl rfl hp)
  | false =>
    have z : (!(zeroB n)) = true := by rw [hz]; rfl
    have A := DoesL.spoil (sxc_sound fol knownb2 (b12a s a n) (AllT.cons z AllT.nil))
    have R := region12 s a n true 0 [!(zeroB n)] []
    have go : ∀ {ds ob : List Bool} {t c : W} {b : Bool}, retV 12 (sxs Try.prog Mb2 1000000 (dropC 4 (rowOf Try.prog 12)) (mid12 s a n (wL a n) ds)) = some (growV t c (.bl b), ob) → AllT ob → Runs Try.prog 12 [.one (.w64 s), .ag (w4 a), .ag (w4 n)] hp (growV t c (.sb b)) hp false := by
      intro ds ob t c b hf hob
      obtain ⟨s3, h1, h2, h3⟩ := retV_is knownb2 hf hob
      have all : DoesL Try.prog (rowOf Try.prog 12) (in12 s a n [false]) .ret s3 := by
        rw [← parts12]
        exact DoesL.append A (DoesL.cons R (DoesL.free h1))
      have hr := runs_of (hp := []) code12 (.inr rfl) (n := 43) (by rw [Nat.eq_of_beq_eq_true tmps12]; rfl) all h3 h2
      exact growV_sb (hr.plain rfl rfl hp)
    have co := cmpO_is a n
    have wl := bleN (wL_le a n)
    cases hb : bigB (wL a n) with
    | true => exact go (b12r s a n (wL a n)) (AllT.cons hb (AllT.cons co AllT.nil))
    | false =>
      have b' : (!(bigB (wL a n))) = true := by rw [hb]; rfl
      cases hl : lessB s (wL a n) with
      | true => exact go (b12s s a n (wL a n)) (AllT.cons hl (AllT.cons wl (AllT.cons b' (AllT.cons co AllT.nil))))
      | false => exact go (b12t s a n (wL a n)) (AllT.cons (by rw [hl]; rfl) (AllT.cons wl (AllT.cons b' (AllT.cons co AllT.nil))))
end Go.Proofs.Sx
