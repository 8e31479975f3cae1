/- The law on Keccak-256: its function returns true. -/
import Derived.Test.YtejgaeadplnfgaaHaKr2
import Derived.Test.YtejgaeadplnfgaaHaLaw
namespace Go.Proofs.Sx
open Go Go.RowKit
set_option linter.unusedVariables false
noncomputable def Mj : Kn := addK (addK (addK M0 14 kecT) 16 refT) 13 trueM
theorem knownj : Known Try.prog Mj := known_add (known_add (known_add known_none kkecT) krefT) (ktrue runs13)
section
variable (b : By) (n : Nat)
theorem f5s : outV (callD Mj 5 [.one (.vw 0 0 n)] [.rd b 3000] [false, false, true]) = some (.one (.bl true), [eqB8 (lst8 (nthB8 (kecG (cutS b n))) 0 32) (lst8 (nthB8 (kecG (cutS b n))) 0 32), Nat.ble (cutS b n).length 16384 && true, !(Nat.blt 3000 n), Nat.ble (cutS b n).length 16384 && true, !(Nat.blt 3000 n)]) := by kernel_rfl
theorem f5l : outV (callD Mj 5 [.one (.vw 0 0 n)] [.rd b 9223372036854775807] [true, true, true]) = some (.one (.bl true), [eqB8 (lst8 (nthB8 (kecG (cutS b 3000))) 0 32) (lst8 (nthB8 (kecG (cutS b 3000))) 0 32), Nat.ble (cutS b 3000).length 16384 && true, Nat.ble 3000 n, Nat.blt 3000 n, Nat.ble (cutS b 3000).length 16384 && true, Nat.ble 3000 n, Nat.blt 3000 n]) := by kernel_rfl
end
theorem runs5 : ∀ b : By, b.length ≤ maxLen → ∃ bd hp1 chg, b.length ≤ bd ∧ Runs Try.prog 5 [.one (.vw 0 0 b.length)] [.rd b bd] (.one (.bl true)) hp1 chg := by
  intro b hb
  have le : ∀ n, n ≤ 16384 → (Nat.ble (cutS b n).length 16384 && true) = true := fun n h => by
    rw [Bool.and_true]
    exact Nat.ble_eq_true_of_le (Nat.le_trans (cutS_le _ _) h)
  by_cases h : b.length ≤ 3000
  · have h1 : (!(Nat.blt 3000 b.length)) = true := by
      cases hq : Nat.blt 3000 b.length with
      | false => rfl
      | true => have := Nat.le_of_ble_eq_true hq; omega
    have h2 := le b.length (by omega)
    obtain ⟨hp1, chg, hr⟩ := runs_out knownj (f5s b b.length) (AllT.cons (eqB8_self _) (AllT.cons h2 (AllT.cons h1 (AllT.cons h2 (AllT.cons h1 AllT.nil)))))
    exact ⟨3000, hp1, chg, h, hr⟩
  · have h1 : Nat.blt 3000 b.length = true := Nat.ble_eq_true_of_le (by omega)
    have h3 : Nat.ble 3000 b.length = true := Nat.ble_eq_true_of_le (by omega)
    have h2 := le 3000 (by omega)
    obtain ⟨hp1, chg, hr⟩ := runs_out knownj (f5l b b.length) (AllT.cons (eqB8_self _) (AllT.cons h2 (AllT.cons h3 (AllT.cons h1 (AllT.cons h2 (AllT.cons h3 (AllT.cons h1 AllT.nil)))))))
    exact ⟨_, hp1, chg, hb, hr⟩
end Go.Proofs.Sx
