/- Transactions: rows of hashes, copied. -/
import Derived.Test.YtinbeihbhnjjnaaSxChain
import Derived.Test.YtinbeihbhnjjnaaGxBase
import Derived.Test.YtinbeihbhnjjnaaGxRules
namespace Go.Proofs.Sx
open Go
set_option linter.unusedVariables false
abbrev By := List (BitVec 8)
noncomputable def outH (r : Res) : Option (V × List Reg × Bool × List Bool) :=
  match r with
  | some (v, hp, c, ob, _) => some (v, hp, c, ob)
  | none => none
theorem outH_is {M : Kn} (hM : Known Try.prog M) {f : FuncId} {vs : List V} {hp hp1 : List Reg} {chg : Bool} {ds ob : List Bool} {v : V} (h : outH (callD M f vs hp ds) = some (v, hp1, chg, ob)) (hob : AllT ob) : Runs Try.prog f vs hp v hp1 chg := by
  unfold outH at h
  split at h
  · rename_i v1 hp2 c1 ob1 ds1 hc
    cases h
    exact fun B w0 E us w hv hh => (callF_is (sx_sound fol hM _) hM hc).2.2 hob E B w0 w us hv hh
  · cases h
def cut12 (k : Nat) : Nat := bif Nat.blt 12 k then 12 else k
section
variable (k m : Nat)
theorem f53a : outH (callD M0 53 [.one (.qv 0 k)] [.rw m] [true]) = some (.one (.qv 2 12), [.rw m, .dead, .rw (12 * 32)], false, [Nat.ble (12 * 32) m && true, Nat.ble 12 k, Nat.blt 12 k]) := by kernel_rfl
theorem f53b : outH (callD M0 53 [.one (.qv 0 k)] [.rw m] [false]) = some (.one (.qv 2 k), [.rw m, .dead, .rw (k * 32)], false, [Nat.ble (k * 32) m && Nat.ble (k * 32) 140737488355328, !(Nat.blt 12 k)]) := by kernel_rfl
end
end Go.Proofs.Sx
