/- The laws on SHA-256 and RIPEMD-160: their functions return true. -/
import Derived.Test.YtejgaeadplnfgaaHaRpM
import Derived.Test.YtejgaeadplnfgaaHaWakes
import Derived.Test.YtejgaeadplnfgaaHaRow
namespace Go.Proofs.Sx
open Go Go.RowKit

/-! tables -/
/-- A hash: n bytes out of bytes. -/
noncomputable def hashM (g : By → By) (n : Nat) (vs : List V) (hp : List Reg) : Option (V × List Reg × Bool × Option Bool) :=
  match vs with
  | [.one (.dy r)] => match regAt r hp with
    | some R => match R.bytes with
      | some (b, _) => some (.ag (toC8 (lst8 (nthB8 (g b)) 0 n)), hp, false, some (Nat.ble b.length 3000))
      | none => none
    | none => none
  | _ => none
theorem khash {f : FuncId} {g : By → By} {n : Nat} (hn : ∀ b, (g b).length = n) (hf : ∀ b : By, b.length ≤ 3000 → ∃ hp1, Runs Try.prog f [.one (.dy 0)] [.rd b 3000] (.ag (toC8 (g b))) hp1 true) :
    ∀ vs hp v hp' chg ob, hashM g n vs hp = some (v, hp', chg, ob) → (∀ x, ob = some x → x = true) → Runs Try.prog f vs hp v hp' chg := by
  intro vs hp v hp' chg ob h hob
  unfold hashM at h
  split at h
  · split at h
    · rename_i R hR
      split at h
      · rename_i b bd hb
        cases h
        rw [regAt_eq] at hR
        have hle := Nat.le_of_ble_eq_true (hob _ rfl)
        obtain ⟨hp1, hr⟩ := hf b hle
        rw [← eq_lst8 (hn b)]
        exact Runs.read hr rfl (by simp only [V.plain, toC8_plain]) hR hb hle
      · cases h
    · cases h
  · cases h
def shaG (b : By) : By := shaB (padL b false)
def ripG' (b : By) : By := ripH (padL b true)
theorem shaG_len (b : By) : (shaG b).length = 32 := outsS_len _ 32
theorem ripG_len (b : By) : (ripG' b).length = 20 := outsR_len _ 20
noncomputable def Ml : Kn := addK (addK (addK (addK (addK M0 17 (hashM shaG 32)) 18 (hashM shaG 32)) 19 (hashM ripG' 20)) 20 (hashM ripG' 20)) 13 trueM
theorem knownl : Known Try.prog Ml :=
  known_add (known_add (known_add (known_add (known_add known_none (khash shaG_len runs17)) (khash shaG_len runs18)) (khash ripG_len runs19)) (khash ripG_len runs20)) (ktrue runs13)
section
variable (b : By) (n : Nat)
def cutS (b : By) (n : Nat) : By := (b.drop 0).take n
theorem f6s : outV (callD Ml 6 [.one (.vw 0 0 n)] [.rd b 3000] [false, false, true]) = some (.one (.bl true), [eqB8 (lst8 (nthB8 (shaG (cutS b n))) 0 32) (lst8 (nthB8 (shaG (cutS b n))) 0 32), Nat.ble (cutS b n).length 3000, !(Nat.blt 3000 n), Nat.ble (cutS b n).length 3000, !(Nat.blt 3000 n)]) := by kernel_rfl
theorem f6l : outV (callD Ml 6 [.one (.vw 0 0 n)] [.rd b 9223372036854775807] [true, true, true]) = some (.one (.bl true), [eqB8 (lst8 (nthB8 (shaG (cutS b 3000))) 0 32) (lst8 (nthB8 (shaG (cutS b 3000))) 0 32), Nat.ble (cutS b 3000).length 3000, Nat.ble 3000 n, Nat.blt 3000 n, Nat.ble (cutS b 3000).length 3000, Nat.ble 3000 n, Nat.blt 3000 n]) := by kernel_rfl
theorem f7s : outV (callD Ml 7 [.one (.vw 0 0 n)] [.rd b 3000] [false, false, true]) = some (.one (.bl true), [eqB8 (lst8 (nthB8 (ripG' (cutS b n))) 0 20) (lst8 (nthB8 (ripG' (cutS b n))) 0 20), Nat.ble (cutS b n).length 3000, !(Nat.blt 3000 n), Nat.ble (cutS b n).length 3000, !(Nat.blt 3000 n)]) := by kernel_rfl
theorem f7l : outV (callD Ml 7 [.one (.vw 0 0 n)] [.rd b 9223372036854775807] [true, true, true]) = some (.one (.bl true), [eqB8 (lst8 (nthB8 (ripG' (cutS b 3000))) 0 20) (lst8 (nthB8 (ripG' (cutS b 3000))) 0 20), Nat.ble (cutS b 3000).length 3000, Nat.ble 3000 n, Nat.blt 3000 n, Nat.ble (cutS b 3000).length 3000, Nat.ble 3000 n, Nat.blt 3000 n]) := by kernel_rfl
end
theorem runs_out {M : Kn} (hM : Known Try.prog M) {f : FuncId} {vs : List V} {hp : List Reg} {ds ob : List Bool} {v : V} (h : outV (callD M f vs hp ds) = some (v, ob)) (hob : AllT ob) : ∃ hp1 chg, Runs Try.prog f vs hp v hp1 chg := by
  unfold outV at h
  split at h
  · rename_i v1 hp1 c1 ob1 ds1 hc
    cases h
    exact ⟨hp1, c1, fun B w0 E us w hv hh => (callF_is (sx_sound fol hM _) hM hc).2.2 hob E B w0 w us hv hh⟩
  · cases h
theorem cutS_le (b : By) (n : Nat) : (cutS b n).length ≤ n := by unfold cutS; rw [List.length_take]; exact Nat.min_le_left _ _
theorem two_ways {f : FuncId}
    (hs : ∀ (b : By) (n : Nat), ∃ Y : By, outV (callD Ml f [.one (.vw 0 0 n)] [.rd b 3000] [false, false, true]) = some (.one (.bl true), [eqB8 Y Y, Nat.ble (cutS b n).length 3000, !(Nat.blt 3000 n), Nat.ble (cutS b n).length 3000, !(Nat.blt 3000 n)]))
    (hl : ∀ (b : By) (n : Nat), ∃ Y : By, outV (callD Ml f [.one (.vw 0 0 n)] [.rd b 9223372036854775807] [true, true, true]) = some (.one (.bl true), [eqB8 Y Y, Nat.ble (cutS b 3000).length 3000, Nat.ble 3000 n, Nat.blt 3000 n, Nat.ble (cutS b 3000).length 3000, Nat.ble 3000 n, Nat.blt 3000 n])) :
    ∀ b : By, b.length ≤ maxLen → ∃ bd hp1 chg, b.length ≤ bd ∧ Runs Try.prog f [.one (.vw 0 0 b.length)] [.rd b bd] (.one (.bl true)) hp1 chg := by
  intro b hb
  by_cases h : b.length ≤ 3000
  · obtain ⟨Y, hf⟩ := hs b b.length
    have h1 : (!(Nat.blt 3000 b.length)) = true := by
      cases hq : Nat.blt 3000 b.length with
      | false => rfl
      | true => have := Nat.le_of_ble_eq_true hq; omega
    have h2 : Nat.ble (cutS b b.length).length 3000 = true := Nat.ble_eq_true_of_le (Nat.le_trans (cutS_le _ _) h)
    obtain ⟨hp1, chg, hr⟩ := runs_out knownl hf (AllT.cons (eqB8_self _) (AllT.cons h2 (AllT.cons h1 (AllT.cons h2 (AllT.cons h1 AllT.nil)))))
    exact ⟨3000, hp1, chg, h, hr⟩
  · obtain ⟨Y, hf⟩ := hl b b.length
    have h1 : Nat.blt 3000 b.length = true := Nat.ble_eq_true_of_le (by omega)
    have h3 : Nat.ble 3000 b.length = true := Nat.ble_eq_true_of_le (by omega)
    have h2 : Nat.ble (cutS b 3000).length 3000 = true := Nat.ble_eq_true_of_le (cutS_le _ _)
    obtain ⟨hp1, chg, hr⟩ := runs_out knownl hf (AllT.cons (eqB8_self _) (AllT.cons h2 (AllT.cons h3 (AllT.cons h1 (AllT.cons h2 (AllT.cons h3 (AllT.cons h1 AllT.nil)))))))
    exact ⟨_, hp1, chg, hb, hr⟩
theorem runs6 : ∀ b : By, b.length ≤ maxLen → ∃ bd hp1 chg, b.length ≤ bd ∧ Runs Try.prog 6 [.one (.vw 0 0 b.length)] [.rd b bd] (.one (.bl true)) hp1 chg :=
  two_ways (fun b n => ⟨_, f6s b n⟩) fun b n => ⟨_, f6l b n⟩
theorem runs7 : ∀ b : By, b.length ≤ maxLen → ∃ bd hp1 chg, b.length ≤ bd ∧ Runs Try.prog 7 [.one (.vw 0 0 b.length)] [.rd b bd] (.one (.bl true)) hp1 chg :=
  two_ways (fun b n => ⟨_, f7s b n⟩) fun b n => ⟨_, f7l b n⟩
end Go.Proofs.Sx
