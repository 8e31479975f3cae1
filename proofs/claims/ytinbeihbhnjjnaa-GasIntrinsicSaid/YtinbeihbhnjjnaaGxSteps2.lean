/- The law on two steps: its function returns true. -/
import Derived.Test.YtinbeihbhnjjnaaGxSteps
import Derived.Below
namespace Go.Proofs.Sx
open Go Go.RowKit
theorem Runs.sb_true {f : FuncId} {vs : List V} {hp hp' : List Reg} {b : Bool} {chg : Bool} (h : Runs Try.prog f vs hp (.one (.sb b)) hp' chg) (hb : b = true) : Runs Try.prog f vs hp (.one (.bl true)) hp' chg := by
  subst hb
  exact h
/-- A function of values alone that returns true: memory has only grown. -/
theorem calls_below {f : FuncId} {vs : List V} {us : List Value} {hp1 : List Reg} {chg : Bool} (h : Runs Try.prog f vs [] (.one (.bl true)) hp1 chg) (hv : ∀ E : Env, All2 (V.is E) vs us) (w : World) :
    Calls Try.prog f us.toArray w fun e w' => e = .returned (.bool true) ∧ Below w.heap.size w w' := by
  refine Calls.mono (h (fun _ => False) w ⟨[]⟩ us w (hv _) (HR.bare w)) fun e w1 ⟨E1, u, _, he, hu, hh, _⟩ => ?_
  have hg := hh.grew
  have hu' : u = .bool true := hu
  subst hu'
  exact ⟨he, hg.os, hg.tape, hg.output, hg.size, fun k hk => hg.block k hk (by simp)⟩
/-- an integer that fits a word, as a word -/
theorem word_is {i : Int} (h : (Lit.int .u64 i).wf = true) (E : Env) : (V.one (.w64 (BitVec.ofInt 64 i))).is E (.int .u64 i) := by
  have h2 : 0 ≤ i ∧ i ≤ 18446744073709551615 := by simpa [Lit.wf, IntKind.min, IntKind.max, IntKind.signed, IntKind.bits] using h
  show Value.int .u64 i = .int .u64 _
  rw [BitVec.toNat_ofInt]
  congr 1
  omega
theorem modA_lt (a : W) : (modA a).toNat < 549755813888 := by
  unfold modA
  rw [BitVec.toNat_umod]
  exact Nat.mod_lt _ (by decide)
theorem modM_rng (n : W) : 1 ≤ (modM n).toNat ∧ (modM n).toNat ≤ 1048576 := by
  have h : (n % 1048576#64).toNat < 1048576 := by
    rw [BitVec.toNat_umod]
    exact Nat.mod_lt _ (by decide)
  unfold modM
  rw [BitVec.toNat_add, BitVec.toNat_ofNat]
  simp only [Nat.reducePow, Nat.reduceMod]
  omega
theorem law4 (a b n : W) : ∃ hp1 chg, Runs Try.prog 4 [.one (.w64 a), .one (.w64 b), .one (.w64 n)] [] (.one (.bl true)) hp1 chg := by
  obtain ⟨hm, hm'⟩ := modM_rng n
  have ha := modA_lt a
  have hb := modA_lt b
  cases hc : Nat.blt (modA b).toNat (modA a).toNat with
  | true =>
    have hlt : (modA b).toNat < (modA a).toNat := Nat.le_of_ble_eq_true hc
    obtain ⟨hp1, chg, h⟩ := runs_law knowngr (f4a a b n) (steps_all hm hm' (by omega) ha hc)
    exact ⟨hp1, chg, h.sb_true (gOk_q1 hm (by omega))⟩
  | false =>
    have hle : (modA a).toNat ≤ (modA b).toNat := by
      rcases Nat.lt_or_ge (modA b).toNat (modA a).toNat with h | h
      · have : Nat.blt (modA b).toNat (modA a).toNat = true := Nat.ble_eq_true_of_le h
        rw [this] at hc; cases hc
      · exact h
    obtain ⟨hp1, chg, h⟩ := runs_law knowngr (f4b a b n) (steps_all hm hm' hle hb (by rw [hc]; rfl))
    exact ⟨hp1, chg, h.sb_true (gOk_q1 hm (by omega))⟩
end Go.Proofs.Sx
