/- The law on rounds of writes: what all rounds come to, in plain numbers. -/
import Derived.Test.YtinbeihbhnjjnaaGxRounds1
namespace Go.Proofs.Sx
open Go
/-- what stands out: what was paid above reads, less what was given back -/
def dueI (b9 oc o0 c0 : Bool) (sb : Nat) : Int :=
  bif oc then 0 else bif o0 then (20000 - (bif b9 then 100 else 800)) else ((bif b9 then 2900 else 5000) - (bif b9 then 100 else 800)) - (bif c0 then (sb : Int) else 0)
def xN (b9 cn oc o0 : Bool) : Nat := bif cn then (bif b9 then 100 else 800) else bif oc then (bif o0 then 20000 else (bif b9 then 2900 else 5000)) else (bif b9 then 100 else 800)
def a0N (o0 c0 n0 : Bool) (sb : Nat) : Nat := bif !o0 && (!c0 && n0) then sb else 0
def aN (b9 cn oc on o0 c0 n0 : Bool) (sb : Nat) : Nat :=
  bif cn then 0 else bif oc then (bif o0 then 0 else bif n0 then sb else 0) else
  bif on then (bif o0 then a0N o0 c0 n0 sb + (20000 - (bif b9 then 100 else 800)) else a0N o0 c0 n0 sb + ((bif b9 then 2900 else 5000) - (bif b9 then 100 else 800))) else a0N o0 c0 n0 sb
def sN (cn oc o0 c0 : Bool) (sb : Nat) : Nat := bif cn then 0 else bif oc then 0 else bif !o0 && c0 then sb else 0
theorem round_law (b9 cn oc on o0 c0 n0 : Bool) (sb cost back rd : Nat) (i : Nat)
    (h1 : cn = true → oc = on ∧ c0 = n0) (h2 : oc = true → o0 = c0 ∧ on = cn) (h3 : on = true → o0 = n0 ∧ cn = oc) (hz : o0 = true → c0 = true → oc = true) (hz' : o0 = true → n0 = true → on = true) (hz'' : c0 = true → n0 = true → cn = true)
    (hrd : rd = bif b9 then 100 else 800)
    (hb : (bif !oc && !o0 && c0 then sb else 0) ≤ back) (hd : (cost : Int) - back = i * rd + dueI b9 oc o0 c0 sb) :
    sN cn oc o0 c0 sb ≤ back + aN b9 cn oc on o0 c0 n0 sb ∧ (bif !on && !o0 && n0 then sb else 0) ≤ back + aN b9 cn oc on o0 c0 n0 sb - sN cn oc o0 c0 sb ∧
    ((cost + xN b9 cn oc o0 : Nat) : Int) - (back + aN b9 cn oc on o0 c0 n0 sb - sN cn oc o0 c0 sb : Nat) = (i + 1 : Nat) * rd + dueI b9 on o0 n0 sb := by
  have hi : ((i + 1 : Nat) : Int) * rd = i * rd + rd := by rw [Int.natCast_add, Int.add_mul]; simp
  rw [hi]
  generalize (i : Int) * rd = T at *
  cases b9 <;> cases cn <;> cases oc <;> cases on <;> cases o0 <;> cases c0 <;> cases n0 <;> simp [sN, aN, a0N, xN, dueI] at * <;> omega
end Go.Proofs.Sx
