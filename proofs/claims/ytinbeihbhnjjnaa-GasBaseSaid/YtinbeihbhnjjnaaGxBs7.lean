/- What each operation takes: the program and the reference hand back the same. -/
import Derived.Test.YtinbeihbhnjjnaaGxBs3
import Derived.Test.YtinbeihbhnjjnaaGxBs4
import Derived.Test.YtinbeihbhnjjnaaGxBs5
import Derived.Test.YtinbeihbhnjjnaaGxBs6
import Derived.Test.YtinbeihbhnjjnaaGxNat14
namespace Go.Proofs.Sx
open Go
set_option linter.unusedVariables false
def inQ (r : Ru) (z : Int) : Bool := decide (0 ≤ z) && (decide (z ≤ 255) && Nat.ble (sinceQ z.toNat) r.f)
def baseW (r : Ru) (z : Int) : W := bif inQ r z then baseC r z.toNat else 0#64
theorem obBig_is {z : Int} (h : 255 < z) : AllT (obBig z) := by
  unfold obBig
  repeat (refine AllT.cons (by simp; omega) ?_)
  exact AllT.nil
theorem obRef_is {z : Int} (h : 255 < z) : AllT (obRef z) := by
  unfold obRef
  repeat (refine AllT.cons (by simp; omega) ?_)
  exact AllT.nil
theorem obLow_is {z : Int} (h : z < 0) : AllT (obLow z) := by
  unfold obLow
  repeat (refine AllT.cons (by simp; omega) ?_)
  exact AllT.nil
theorem AllT.app {l l' : List Bool} (h : AllT l) (h' : AllT l') : AllT (l ++ l') := fun b hb => (List.mem_append.1 hb).elim (h b) (h' b)
theorem validL_mem {q : Nat} (hq : sinceQ q ≤ 15) : ∀ {n a : Nat}, a ≤ q → q < a + n → q ∈ validL a n
  | 0, a, h1, h2 => by omega
  | n + 1, a, h1, h2 => by
    unfold validL
    by_cases e : a = q
    · subst e
      rw [bleN hq]
      exact List.mem_cons_self ..
    · have ih := validL_mem hq (n := n) (a := a + 1) (by omega) (by omega)
      cases Nat.ble (sinceQ a) 15 with
      | true => exact List.mem_cons_of_mem _ ih
      | false => exact ih
theorem lateL_mem {q : Nat} (hq : sinceQ q ≤ 15) (h0 : 1 ≤ sinceQ q) : ∀ {n a : Nat}, a ≤ q → q < a + n → q ∈ lateL a n
  | 0, a, h1, h2 => by omega
  | n + 1, a, h1, h2 => by
    unfold lateL
    by_cases e : a = q
    · subst e
      rw [bleN hq, bleN h0]
      exact List.mem_cons_self ..
    · have ih := lateL_mem hq h0 (n := n) (a := a + 1) (by omega) (by omega)
      cases Nat.ble (sinceQ a) 15 && Nat.ble 1 (sinceQ a) with
      | true => exact List.mem_cons_of_mem _ ih
      | false => exact ih
theorem noneL_mem {q : Nat} (hq : 15 < sinceQ q) : ∀ {n a : Nat}, a ≤ q → q < a + n → q ∈ noneL a n
  | 0, a, h1, h2 => by omega
  | n + 1, a, h1, h2 => by
    unfold noneL
    by_cases e : a = q
    · subst e
      have : Nat.ble (sinceQ a) 15 = false := by
        cases hb : Nat.ble (sinceQ a) 15 with
        | false => rfl
        | true => have := Nat.le_of_ble_eq_true hb; omega
      rw [this]
      exact List.mem_cons_self ..
    · have ih := noneL_mem hq (n := n) (a := a + 1) (by omega) (by omega)
      cases Nat.ble (sinceQ a) 15 with
      | true => exact ih
      | false => exact List.mem_cons_of_mem _ ih
section
variable (r : Ru)
theorem g23_is {q : Nat} (hq : q < 256) (hs : sinceQ q ≤ 15) : g23 r q = some (.one (.w64 (baseC r q)), [!(!(Nat.ble r.f 15)), Nat.ble (sinceQ q) r.f]) := by
  have m := fun a h1 h2 => validL_mem hs (n := 32) (a := a) h1 h2
  have : q / 32 < 8 := by omega
  rcases (by omega : q / 32 = 0 ∨ q / 32 = 1 ∨ q / 32 = 2 ∨ q / 32 = 3 ∨ q / 32 = 4 ∨ q / 32 = 5 ∨ q / 32 = 6 ∨ q / 32 = 7) with h | h | h | h | h | h | h | h
  · exact mapAt (t23_0 r) (m 0 (by omega) (by omega))
  · exact mapAt (t23_1 r) (m 32 (by omega) (by omega))
  · exact mapAt (t23_2 r) (m 64 (by omega) (by omega))
  · exact mapAt (t23_3 r) (m 96 (by omega) (by omega))
  · exact mapAt (t23_4 r) (m 128 (by omega) (by omega))
  · exact mapAt (t23_5 r) (m 160 (by omega) (by omega))
  · exact mapAt (t23_6 r) (m 192 (by omega) (by omega))
  · exact mapAt (t23_7 r) (m 224 (by omega) (by omega))
theorem g24_is {q : Nat} (hq : q < 256) (hs : sinceQ q ≤ 15) : g24 r q = some (.one (.w64 (baseC r q)), [!(!(Nat.ble (sinceQ q) r.f)), !(Nat.blt 15 r.f), true]) := by
  have m := fun a h1 h2 => validL_mem hs (n := 32) (a := a) h1 h2
  rcases (by omega : q / 32 = 0 ∨ q / 32 = 1 ∨ q / 32 = 2 ∨ q / 32 = 3 ∨ q / 32 = 4 ∨ q / 32 = 5 ∨ q / 32 = 6 ∨ q / 32 = 7) with h | h | h | h | h | h | h | h
  · exact mapAt (t24_0 r) (m 0 (by omega) (by omega))
  · exact mapAt (t24_1 r) (m 32 (by omega) (by omega))
  · exact mapAt (t24_2 r) (m 64 (by omega) (by omega))
  · exact mapAt (t24_3 r) (m 96 (by omega) (by omega))
  · exact mapAt (t24_4 r) (m 128 (by omega) (by omega))
  · exact mapAt (t24_5 r) (m 160 (by omega) (by omega))
  · exact mapAt (t24_6 r) (m 192 (by omega) (by omega))
  · exact mapAt (t24_7 r) (m 224 (by omega) (by omega))
theorem base_args {r : Ru} {z : Int} {c : C} (hc : ∀ (E : Env) (v : Value), (C.zi z).is E v → c.is E v) : ∀ (E : Env) (us : List Value), All2 (V.is E) [.ag (rulesC r), .one (.zi z)] us → All2 (V.is E) [.ag (rulesS r), .one c] us := by
  intro E us h
  match us, h with
  | [u, v], ⟨h1, h2, _⟩ =>
    obtain ⟨vs, e, ha⟩ := h1
    match vs, ha with
    | w :: vs, ⟨a, b⟩ => exact ⟨⟨w :: vs, e, ⟨a.1, a.2⟩, b⟩, hc E v h2, trivial⟩
theorem bleF {a b : Nat} (h : b < a) : (!(Nat.ble a b)) = true := by
  cases hq : Nat.ble a b with
  | false => rfl
  | true => have := Nat.le_of_ble_eq_true hq; omega
theorem out_conv {f : FuncId} {r : Ru} {z : Int} {c : C} {ds ob : List Bool} {v : W} (hc : ∀ (E : Env) (v : Value), (C.zi z).is E v → c.is E v) (h : outV (callD M0 f [.ag (rulesS r), .one c] [] ds) = some (.one (.w64 v), ob)) (hob : AllT ob) (hpl : plainV [.ag (rulesS r), .one c] = true) (hp : List Reg) : Runs Try.prog f [.ag (rulesC r), .one (.zi z)] hp (.one (.w64 v)) hp false :=
  (runs_out known_none h hob hpl rfl hp).conv (base_args hc) fun E u hu => hu
theorem runs23 (hf : r.f ≤ 15) (z : Int) (hp : List Reg) : Runs Try.prog 23 [.ag (rulesC r), .one (.zi z)] hp (.one (.w64 (baseW r z))) hp false := by
  by_cases h0 : z < 0
  · have e : inQ r z = false := by unfold inQ; rw [decide_eq_false (by omega)]; rfl
    unfold baseW
    rw [e]
    exact out_conv (fun E v h => h) (z23l r z) (AllT.cons rfl (AllT.cons (decide_eq_true h0) AllT.nil)) rfl hp
  by_cases h1 : 255 < z
  · have e : inQ r z = false := by unfold inQ; rw [decide_eq_false (by omega : ¬ z ≤ 255)]; simp
    unfold baseW
    rw [e]
    exact out_conv (fun E v h => h) (z23g r z) (AllT.cons rfl (obBig_is h1)) rfl hp
  obtain ⟨q, rfl⟩ : ∃ q : Nat, z = (q : Int) := ⟨z.toNat, by omega⟩
  have hq : q < 256 := by omega
  have conv : ∀ (E : Env) (v : Value), (C.zi (q : Int)).is E v → (C.it q).is E v := fun E v h => ⟨h, by omega⟩
  have e : inQ r (q : Int) = Nat.ble (sinceQ q) r.f := by unfold inQ; rw [decide_eq_true (by omega), decide_eq_true (by omega)]; rfl
  unfold baseW
  rw [e]
  rcases Nat.lt_or_ge r.f (sinceQ q) with h2 | h2
  · have e2 : Nat.ble (sinceQ q) r.f = false := by have := bleF h2; simpa using this
    rw [e2]
    rcases Nat.lt_or_ge 15 (sinceQ q) with h3 | h3
    · exact out_conv conv (mapAt (v23 r) (noneL_mem h3 (Nat.zero_le _) (by omega))) (AllT.cons rfl AllT.nil) rfl hp
    · exact out_conv conv (mapAt (u23 r) (lateL_mem h3 (by omega) (Nat.zero_le _) (by omega))) (AllT.cons (bleF h2) AllT.nil) rfl hp
  · rw [bleN h2]
    exact out_conv conv (g23_is r hq (by omega)) (AllT.cons (by rw [bleN hf]; rfl) (AllT.cons (bleN h2) AllT.nil)) rfl hp
theorem runs24 (hf : r.f ≤ 15) (z : Int) (hp : List Reg) : Runs Try.prog 24 [.ag (rulesC r), .one (.zi z)] hp (.one (.w64 (baseW r z))) hp false := by
  have h15 : (!(Nat.blt 15 r.f)) = true := bleF (by omega)
  have h99 : (!(Nat.ble 99 r.f)) = true := bleF (by omega)
  by_cases h0 : z < 0
  · have e : inQ r z = false := by unfold inQ; rw [decide_eq_false (by omega)]; rfl
    unfold baseW
    rw [e]
    exact out_conv (fun E v h => h) (z24l r z) (AllT.cons h99 (AllT.app (obLow_is h0) (AllT.cons h15 (AllT.cons rfl AllT.nil)))) rfl hp
  by_cases h1 : 255 < z
  · have e : inQ r z = false := by unfold inQ; rw [decide_eq_false (by omega : ¬ z ≤ 255)]; simp
    unfold baseW
    rw [e]
    exact out_conv (fun E v h => h) (z24g r z) (AllT.cons h99 (AllT.app (obRef_is h1) (AllT.cons h15 (AllT.cons rfl AllT.nil)))) rfl hp
  obtain ⟨q, rfl⟩ : ∃ q : Nat, z = (q : Int) := ⟨z.toNat, by omega⟩
  have hq : q < 256 := by omega
  have conv : ∀ (E : Env) (v : Value), (C.zi (q : Int)).is E v → (C.it q).is E v := fun E v h => ⟨h, by omega⟩
  have e : inQ r (q : Int) = Nat.ble (sinceQ q) r.f := by unfold inQ; rw [decide_eq_true (by omega), decide_eq_true (by omega)]; rfl
  unfold baseW
  rw [e]
  rcases Nat.lt_or_ge r.f (sinceQ q) with h2 | h2
  · have e2 : Nat.ble (sinceQ q) r.f = false := by have := bleF h2; simpa using this
    rw [e2]
    exact out_conv conv (mapAt (u24 r) (a := q) (by simp; omega)) (AllT.cons (bleF h2) (AllT.cons h15 (AllT.cons rfl AllT.nil))) rfl hp
  · rw [bleN h2]
    exact out_conv conv (g24_is r hq (by omega)) (AllT.cons (by rw [bleN h2]; rfl) (AllT.cons h15 (AllT.cons rfl AllT.nil))) rfl hp
end
end Go.Proofs.Sx
