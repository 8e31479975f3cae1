/- The gas laws: calls reckoned from nothing. -/
import Derived.Test.YtinbeihbhnjjnaaSxFun
import Derived.Test.YtinbeihbhnjjnaaProg
namespace Go.Proofs.Sx
open Go

theorem fol : Try.prog.follows .mixedOrders = true := rfl
noncomputable def M0 : Kn := fun _ _ _ => none
abbrev Res := Option (V × List Reg × Bool × List Bool × List Bool)
noncomputable def callD (M : Kn) (f : FuncId) (vs : List V) (hp : List Reg) (ds : List Bool) : Res :=
  callF (sx Try.prog M 1000000) Try.prog M hp [] ds f vs
noncomputable def allB : List Bool → Bool
  | [] => true
  | b :: l => match b with
    | true => allB l
    | false => false
theorem allB_is : ∀ {l : List Bool}, allB l = true → AllT l
  | [], _ => AllT.nil
  | b :: l, h => by
    simp only [allB] at h
    split at h
    · exact AllT.cons rfl (allB_is h)
    · cases h
/-- The value, and what is owed. -/
noncomputable def outV (r : Res) : Option (V × List Bool) :=
  match r with
  | some (v, _, _, ob, _) => some (v, ob)
  | none => none
theorem runs_out {M : Kn} (hM : Known Try.prog M) {f : FuncId} {vs : List V} {v : V} {ds ob : List Bool} (h : outV (callD M f vs [] ds) = some (v, ob)) (hob : AllT ob) (hv : plainV vs = true) (hr : v.plain = true) (hp : List Reg) : Runs Try.prog f vs hp v hp false := by
  unfold outV at h
  split at h
  · rename_i v1 hp1 c1 ob1 ds1 hc
    cases h
    exact Runs.plain (fun B w0 E us w hv hh => (callF_is (sx_sound fol hM _) hM hc).2.2 hob E B w0 w us hv hh) hv hr hp
  · cases h
theorem runs_law {M : Kn} (hM : Known Try.prog M) {f : FuncId} {vs : List V} {ds ob : List Bool} {v : V} (h : outV (callD M f vs [] ds) = some (v, ob)) (hob : AllT ob) : ∃ hp1 chg, Runs Try.prog f vs [] v hp1 chg := by
  unfold outV at h
  split at h
  · rename_i v1 hp1 c1 ob1 ds1 hc
    cases h
    exact ⟨hp1, c1, fun B w0 E us w hv hh => (callF_is (sx_sound fol hM _) hM hc).2.2 hob E B w0 w us hv hh⟩
  · cases h
end Go.Proofs.Sx
