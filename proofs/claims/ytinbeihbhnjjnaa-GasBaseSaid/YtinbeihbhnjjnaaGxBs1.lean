/- Words and logs: what the program and the reference hand back. -/
import Derived.Test.YtinbeihbhnjjnaaGxNat14
namespace Go.Proofs.Sx
open Go
set_option linter.unusedVariables false
def tpV (v : W) (ok : C) : V := .tp [(false, [.w64 v]), (false, [ok])]
theorem tpV_sb {f : FuncId} {vs : List V} {hp hp' : List Reg} {t : W} {b : Bool} {chg : Bool} (h : Runs Try.prog f vs hp (tpV t (.bl b)) hp' chg) : Runs Try.prog f vs hp (tpV t (.sb b)) hp' chg := by
  intro B w0 E us w hv hh
  refine Calls.mono (h B w0 E us w hv hh) fun e w1 ⟨E1, u, h1, h2, h3, h4, h5⟩ => ⟨E1, u, h1, h2, ?_, h4, h5⟩
  obtain ⟨l, e, ha⟩ := h3
  match l, ha with
  | [_, _], ⟨x, y, _⟩ => exact ⟨_, e, x, y, trivial⟩
def b41 : L32 := ofL 2199023255552#64
def over41 (n : Q) : Bool := decide (0 < cmpZ (natL (nL n)) (natL b41))
def cmp41 (n : Q) : Bool := (trimL (nL n) == nL n && Nat.ble (nL n).length 10) && (Nat.beq b41.length 2 && Nat.ble 4294967296 (natL b41))
def le41 (n : Q) : Bool := Nat.ble (n 0).toNat 2199023255552
def okQ (n : Q) : Bool := decide (valQ n ≤ 2199023255552)
section
variable (n : Q) (e : W) (t : Int)
theorem w19a : outV (callD M0 19 [.ag (w4 n), .one (.w64 e)] [] [true]) = some (tpV 0#64 (.bl false), [hiB n]) := by kernel_rfl
theorem w19b : outV (callD M0 19 [.ag (w4 n), .one (.w64 e)] [] [false, true]) = some (tpV 0#64 (.bl false), [!(le41 n), !(hiB n)]) := by kernel_rfl
theorem w19c : outV (callD M0 19 [.ag (w4 n), .one (.w64 e)] [] [false, false]) = some (tpV (wordsW (n 0) * e) (.bl true), [!(!(le41 n)), !(hiB n)]) := by kernel_rfl
theorem w20a : outV (callD Mb 20 [.ag (w4 n), .one (.w64 e)] [] [true]) = some (tpV 0#64 (.bl false), [over41 n, cmp41 n]) := by kernel_rfl
theorem w20b : outV (callD Mb 20 [.ag (w4 n), .one (.w64 e)] [] [false]) = some (tpV ((n 0 + 31#64) / 32#64 * e) (.bl true), [!(over41 n), cmp41 n]) := by kernel_rfl
theorem w21a : outV (callD M0 21 [.one (.zi t), .ag (w4 n)] [] [true]) = some (tpV 0#64 (.bl false), [hiB n]) := by kernel_rfl
theorem w21b : outV (callD M0 21 [.one (.zi t), .ag (w4 n)] [] [false, true]) = some (tpV 0#64 (.bl false), [!(le41 n), !(hiB n)]) := by kernel_rfl
theorem w21c : outV (callD M0 21 [.one (.zi t), .ag (w4 n)] [] [false, false]) = some (tpV (375#64 * BitVec.ofInt 64 t + 8#64 * n 0) (.bl true), [!(!(le41 n)), !(hiB n)]) := by kernel_rfl
theorem w22a : outV (callD Mb 22 [.one (.zi t), .ag (w4 n)] [] [true]) = some (tpV 0#64 (.bl false), [over41 n, cmp41 n]) := by kernel_rfl
theorem w22b : outV (callD Mb 22 [.one (.zi t), .ag (w4 n)] [] [false]) = some (tpV (375#64 * BitVec.ofInt 64 t + 8#64 * n 0) (.bl true), [!(over41 n), cmp41 n]) := by kernel_rfl
end
theorem b41_ok : (Nat.beq b41.length 2 && Nat.ble 4294967296 (natL b41)) = true := by kernel_rfl
theorem cmp41_is (n : Q) : cmp41 n = true := by
  unfold cmp41
  rw [b41_ok, Bool.and_true, bleN (Nat.le_trans (nL_le n) (by omega)), Bool.and_true]
  have e : trimL (nL n) = nL n := trim_trim _
  rw [e]
  simp
theorem over41_is (n : Q) : over41 n = !(okQ n) := by
  unfold over41 okQ
  have e : natL b41 = 2199023255552 := by unfold b41; rw [ofL_nat]; rfl
  rw [nL_nat, e]
  unfold cmpZ
  by_cases h1 : valQ n < 2199023255552
  · rw [if_pos h1, decide_eq_false (by omega : ¬ (0 : Int) < -1), decide_eq_true (by omega)]
    rfl
  · rw [if_neg h1]
    by_cases h2 : 2199023255552 < valQ n
    · rw [if_pos h2, decide_eq_true (by omega : (0 : Int) < 1), decide_eq_false (by omega)]
      rfl
    · rw [if_neg h2, decide_eq_false (by omega : ¬ (0 : Int) < 0), decide_eq_true (by omega)]
      rfl
theorem okQ_hi {n : Q} (h : hiB n = true) : okQ n = false := by
  rw [hiB_is] at h
  have h' := of_decide_eq_true h
  unfold okQ
  exact decide_eq_false (by omega)
theorem okQ_lo {n : Q} (h : hiB n = false) : okQ n = le41 n := by
  rw [hiB_is] at h
  have h' : ¬ 18446744073709551616 ≤ valQ n := of_decide_eq_false h
  have e := val_low (a := n) (by omega)
  unfold okQ le41
  rw [e]
  cases hq : Nat.ble (n 0).toNat 2199023255552 with
  | true => exact decide_eq_true (Nat.le_of_ble_eq_true hq)
  | false =>
    refine decide_eq_false fun h2 => ?_
    rw [bleN h2] at hq
    cases hq
def wq (n : Q) (e : W) : W := bif okQ n then wordsW (n 0) * e else 0#64
def lq (t : Int) (n : Q) : W := bif okQ n then 375#64 * BitVec.ofInt 64 t + 8#64 * n 0 else 0#64
theorem words_ok {n : Q} (h : okQ n = true) : (n 0 + 31#64) / 32#64 = wordsW (n 0) := by
  have h' : valQ n ≤ 2199023255552 := of_decide_eq_true h
  have e := val_low (a := n) (by omega)
  apply BitVec.eq_of_toNat_eq
  rw [div32_nat, wordsW_nat, BitVec.toNat_add]
  show ((n 0).toNat + 31) % 2 ^ 64 / 32 = _
  omega
/-- one way or the other -/
theorem two_ways {f : FuncId} {vs : List V} {n : Q} {v : W} (hp : List Reg) (hpl : plainV vs = true)
    (ha : outV (callD M0 f vs [] [true]) = some (tpV 0#64 (.bl false), [hiB n])) (hb : outV (callD M0 f vs [] [false, true]) = some (tpV 0#64 (.bl false), [!(le41 n), !(hiB n)]))
    (hc : outV (callD M0 f vs [] [false, false]) = some (tpV v (.bl true), [!(!(le41 n)), !(hiB n)])) : Runs Try.prog f vs hp (tpV (bif okQ n then v else 0#64) (.sb (okQ n))) hp false := by
  cases hh : hiB n with
  | true =>
    rw [okQ_hi hh]
    exact tpV_sb (runs_out known_none ha (AllT.cons hh AllT.nil) hpl rfl hp)
  | false =>
    rw [okQ_lo hh]
    have h' : (!(hiB n)) = true := by rw [hh]; rfl
    cases hl : le41 n with
    | true => exact tpV_sb (runs_out known_none hc (AllT.cons (by rw [hl]; rfl) (AllT.cons h' AllT.nil)) hpl rfl hp)
    | false => exact tpV_sb (runs_out known_none hb (AllT.cons (by rw [hl]; rfl) (AllT.cons h' AllT.nil)) hpl rfl hp)
theorem two_refs {f : FuncId} {vs : List V} {n : Q} {v : W} (hp : List Reg) (hpl : plainV vs = true)
    (ha : outV (callD Mb f vs [] [true]) = some (tpV 0#64 (.bl false), [over41 n, cmp41 n])) (hb : outV (callD Mb f vs [] [false]) = some (tpV v (.bl true), [!(over41 n), cmp41 n])) : Runs Try.prog f vs hp (tpV (bif okQ n then v else 0#64) (.sb (okQ n))) hp false := by
  have ho := over41_is n
  have hc := cmp41_is n
  cases hq : okQ n with
  | true =>
    rw [hq] at ho
    exact tpV_sb (runs_out knownb hb (AllT.cons (by rw [ho]; rfl) (AllT.cons hc AllT.nil)) hpl rfl hp)
  | false =>
    rw [hq] at ho
    exact tpV_sb (runs_out knownb ha (AllT.cons (by rw [ho]; rfl) (AllT.cons hc AllT.nil)) hpl rfl hp)
theorem runs19 (n : Q) (e : W) (hp : List Reg) : Runs Try.prog 19 [.ag (w4 n), .one (.w64 e)] hp (tpV (wq n e) (.sb (okQ n))) hp false := two_ways hp rfl (w19a n e) (w19b n e) (w19c n e)
theorem runs20 (n : Q) (e : W) (hp : List Reg) : Runs Try.prog 20 [.ag (w4 n), .one (.w64 e)] hp (tpV (wq n e) (.sb (okQ n))) hp false := by
  have h := two_refs hp rfl (w20a n e) (w20b n e)
  unfold wq
  cases hq : okQ n with
  | true => rw [hq] at h; rw [words_ok hq] at h; exact h
  | false => rw [hq] at h; exact h
theorem runs21 (t : Int) (n : Q) (hp : List Reg) : Runs Try.prog 21 [.one (.zi t), .ag (w4 n)] hp (tpV (lq t n) (.sb (okQ n))) hp false := two_ways hp rfl (w21a n t) (w21b n t) (w21c n t)
theorem runs22 (t : Int) (n : Q) (hp : List Reg) : Runs Try.prog 22 [.one (.zi t), .ag (w4 n)] hp (tpV (lq t n) (.sb (okQ n))) hp false := two_refs hp rfl (w22a n t) (w22b n t)
end Go.Proofs.Sx
