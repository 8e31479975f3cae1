/- The row of the law on Blake, if 'wakes' returns true. -/
import Derived.Test.YtejgaeadplnfgaaHaBlakeLaw
import Derived.Test.YtejgaeadplnfgaaRows
import Derived.WalkKit
import Derived.ProofKit
import Derived.OpenShut
import Derived.ShutString
import Derived.ChangeOld
import Derived.Below
namespace Go.Proofs.Sx
open Go Go.ChangeShapes Go.WideShapes Go.ChangeAt Go.RowKit

/-- A function of a value alone that returns true, and leaves memory alone. -/
theorem calls_true {f : FuncId} {vs : List V} {us : List Value} {hp1 : List Reg} {chg : Bool} (h : Runs Try.prog f vs [] (.one (.bl true)) hp1 chg) (hv : ∀ E : Env, All2 (V.is E) vs us) (w : World) :
    Calls Try.prog f us.toArray w fun e w' => e = .returned (.bool true) ∧ Below w.heap.size w w' := by
  refine Calls.mono (h (fun _ => False) w ⟨[]⟩ us w (hv _) (HR.bare w)) fun e w1 ⟨E1, u, _, he, hu, hh, _⟩ => ?_
  have hg := hh.grew
  have hu' : u = .bool true := hu
  subst hu'
  exact ⟨he, hg.os, hg.tape, hg.output, hg.size, fun k hk => hg.block k hk (by simp)⟩
theorem runs_law {M : Kn} (hM : Known Try.prog M) {f : FuncId} {vs : List V} {ds ob : List Bool} {v : V} (h : outV (callD M f vs [] ds) = some (v, ob)) (hob : AllT ob) : ∃ hp1 chg, Runs Try.prog f vs [] v hp1 chg := by
  unfold outV at h
  split at h
  · rename_i v1 hp1 c1 ob1 ds1 hc
    cases h
    exact ⟨hp1, c1, fun B w0 E us w hv hh => (callF_is (sx_sound fol hM _) hM hc).2.2 hob E B w0 w us hv hh⟩
  · cases h
end Go.Proofs.Sx

namespace Go.Proofs.Ytejgaeadplnfgaa.hashBlake
open Go.ChangeShapes Go.WideShapes Go.ChangeAt Go.RowKit Go.Proofs.Sx
open Go.ChangeMaps (open_string shut_string)
set_option linter.unusedVariables false

theorem own : ownKnob Try.prog.godebug = none := by kernel_rfl
theorem laidOut : laidOutB Try.prog = true := by kernel_rfl
def WakesTrue : Prop := ∀ hp : List Reg, Runs Try.prog 13 [] hp (.one (.bl true)) hp false

theorem walk (h13 : WakesTrue) (v0 : Value) (r : Reach) (base : Nat) (w0 w : World) (hv : Value.okWide Try.prog w0 r base 28 v0) :
    Calls Try.prog 3 #[v0] w fun e w' => e = .returned (.bool true) ∧ Below w.heap.size w w' := by
  obtain ⟨n, h, m, t, fin, hb⟩ := block_open hv
  obtain ⟨hp1, chg, hr⟩ := runs_law (known5 h13) (f3 n h m t fin) (AllT.cons (eqL_self _) AllT.nil)
  exact calls_true hr (us := [v0]) (fun E => ⟨hb E, trivial⟩) w

set_option maxRecDepth 100000 in
theorem lifted (h13 : WakesTrue) (os : Os) (started : os.Started) (H : Type) (enc : TypeId × Value → H) :
    ReturnsInHanded {} Try.checked os 3 .any (Rows.hashBlakeSpec.pre6 enc Try.prog Try.f3 Rows.hashBlakeRow.domain false) (Rows.hashBlakeSpec.post enc Try.prog Try.f3 false true false false) := by
  refine returnsInHanded_of_change (C := Try.checked) own started (by kernel_rfl) Try.func3
    (ChangeSpec.witness6 (enc := enc) (C := Try.checked) false ⟨#[], #[.agg #[.int .u32 0, .int .u64 0, .int .u64 0, .int .u64 0, .int .u64 0, .int .u64 0, .int .u64 0, .int .u64 0, .int .u64 0, .int .u64 0, .int .u64 0, .int .u64 0, .int .u64 0, .int .u64 0, .int .u64 0, .int .u64 0, .int .u64 0, .int .u64 0, .int .u64 0, .int .u64 0, .int .u64 0, .int .u64 0, .int .u64 0, .int .u64 0, .int .u64 0, .int .u64 0, .int .u64 0, .bool false]], []⟩ 8 (by kernel_rfl) (by kernel_rfl) (by kernel_rfl) (by kernel_rfl)) ?_
  intro W base args ds gs before hval0 hW hcnd _
  have hval : ∀ (j : Nat) t v, Try.f3.params[j]? = some t → args[j]? = some v → Value.okWide Try.prog W .any base t v := hval0
  have hW' := hW
  obtain ⟨p, q, hA0, hV, rfl, hfz, hnd⟩ := hW
  have hA : DataW.TrodAll enc Try.prog W 0 (fun _ => true) true Try.f3.params.toList args.toList ds p := hA0
  rw [Try.params3] at hA hval
  obtain ⟨v0, vs0, d0, ds0, p0, q0, hargs, rfl, rfl, h0, r0⟩ := trodAll_cons hA
  obtain ⟨rfl, rfl, rfl⟩ := trodAll_nil r0
  obtain rfl : args = #[v0] := by cases args; simp_all
  obtain ⟨rfl, rfl⟩ := trodVars_none hV
  have k0 := h0
  have lt0 : ∀ x ∈ p0, x.block < W.heap.size := by obtain ⟨m, hm⟩ := k0; exact DataW.trod_lt m _ _ _ hm
  have hv0 := hval 0 28 v0 rfl rfl
  clear hA0 hval0
  refine (walk h13 v0 _ _ _ W hv0).mono fun e W' ⟨he, bel⟩ => ?_
  subst he
  exact ⟨_, rfl, _, _, _, [], _, [], hW', trodAll_mk1 (shut_bool Try.underlying4 _), (trodAll_cons_mk (Below.trod laidOut (by kernel_rfl) (of_decide_eq_true (by kernel_rfl)) k0 bel lt0) trodAll_mk0), rfl, bel.frame _, fun h => by cases h⟩

theorem over (h13 : WakesTrue) : Rows.hashBlakeRow.holds Try.pinned (OpenSpec.ofChange Rows.hashBlakeSpec) :=
  OpenClaim.holds_of_wide 3 Try.f3 rfl rfl rfl rfl rfl rfl rfl ⟨rfl, rfl, rfl, rfl, rfl⟩ rfl rfl rfl rfl rfl (by kernel_rfl) Try.func3 (by kernel_rfl)
    (of_decide_eq_true (by kernel_rfl)) (by unfold Func.isWrapper; first | (rw [if_pos (by decide +kernel)]; kernel_rfl) | (rw [if_neg (by decide +kernel)]; exact ⟨rfl, rfl⟩))
    (fun os started H enc _ => lifted h13 os started H enc)
end Go.Proofs.Ytejgaeadplnfgaa.hashBlake
