/- gas.Grow as a known call; the law on two steps. -/
import Derived.Test.YtinbeihbhnjjnaaGxGrow
namespace Go.Proofs.Sx
open Go
section
variable (s : W) (a n : Q)
theorem growV_sb {f : FuncId} {vs : List V} {hp hp' : List Reg} {t c : W} {b : Bool} {chg : Bool} (h : Runs Try.prog f vs hp (growV t c (.bl b)) hp' chg) : Runs Try.prog f vs hp (growV t c (.sb b)) hp' chg := by
  intro B w0 E us w hv hh
  refine Calls.mono (h B w0 E us w hv hh) fun e w1 ⟨E1, u, h1, h2, h3, h4⟩ => ⟨E1, u, h1, h2, ?_, h4⟩
  obtain ⟨l, e, ha⟩ := h3
  match l, ha with
  | [_, _, _], ⟨x, y, z, _⟩ => exact ⟨_, e, x, y, z, trivial⟩
theorem runs10 (hp : List Reg) : Runs Try.prog 10 [.one (.w64 s), .ag (w4 a), .ag (w4 n)] hp (growV (gTo s a n) (gCost s a n) (.sb (gOk a n))) hp false := by
  have out : ∀ {ds ob : List Bool} {t c : W} {b : Bool}, gcall s a n ds = some (growV t c (.bl b), ob) → AllT ob → Runs Try.prog 10 [.one (.w64 s), .ag (w4 a), .ag (w4 n)] hp (growV t c (.sb b)) hp false :=
    fun h hob => growV_sb (runs_out knowng h hob rfl rfl hp)
  unfold gTo gCost gOk badB
  cases hz : zeroB n with
  | true => exact out (g1 s a n) (AllT.cons hz AllT.nil)
  | false =>
    have z : (!(zeroB n)) = true := by rw [hz]; rfl
    cases ha : hiB a with
    | true =>
      cases hn : hiB n with
      | true => exact out (g2 s a n) (AllT.cons hn (AllT.cons ha (AllT.cons z AllT.nil)))
      | false => exact out (g3 s a n) (AllT.cons (by rw [hn]; rfl) (AllT.cons ha (AllT.cons z AllT.nil)))
    | false =>
      have a' : (!(hiB a)) = true := by rw [ha]; rfl
      cases hn : hiB n with
      | true => exact out (g4 s a n) (AllT.cons hn (AllT.cons a' (AllT.cons z AllT.nil)))
      | false =>
        have n' : (!(hiB n)) = true := by rw [hn]; rfl
        cases ho : overB a n with
        | true => exact out (g5 s a n) (AllT.cons ho (AllT.cons n' (AllT.cons a' (AllT.cons z AllT.nil))))
        | false =>
          have o' : (!(overB a n)) = true := by rw [ho]; rfl
          cases hm : manyB a n with
          | true => exact out (g6 s a n) (AllT.cons hm (AllT.cons o' (AllT.cons n' (AllT.cons a' (AllT.cons z AllT.nil)))))
          | false => exact out (g7 s a n) (AllT.cons (by rw [hm]; rfl) (AllT.cons o' (AllT.cons n' (AllT.cons a' (AllT.cons z AllT.nil)))))
end
noncomputable def growM (vs : List V) (hp : List Reg) : Option (V × List Reg × Bool × Option Bool) :=
  match vs with
  | [.one (.w64 s), .ag [.w64 a0, .w64 a1, .w64 a2, .w64 a3], .ag [.w64 n0, .w64 n1, .w64 n2, .w64 n3]] =>
    some (growV (gTo s (nthB [a0, a1, a2, a3]) (nthB [n0, n1, n2, n3])) (gCost s (nthB [a0, a1, a2, a3]) (nthB [n0, n1, n2, n3])) (.sb (gOk (nthB [a0, a1, a2, a3]) (nthB [n0, n1, n2, n3]))), hp, false, none)
  | _ => none
theorem kgrow : ∀ vs hp v hp' chg ob, growM vs hp = some (v, hp', chg, ob) → (∀ x, ob = some x → x = true) → Runs Try.prog 10 vs hp v hp' chg := by
  intro vs hp v hp' chg ob h _
  unfold growM at h
  split at h
  · cases h
    exact runs10 _ (nthB [_, _, _, _]) (nthB [_, _, _, _]) hp
  · cases h
noncomputable def trueM (vs : List V) (hp : List Reg) : Option (V × List Reg × Bool × Option Bool) :=
  match vs with
  | [] => some (.one (.bl true), hp, false, none)
  | _ => none
theorem ktrue : ∀ vs hp v hp' chg ob, trueM vs hp = some (v, hp', chg, ob) → (∀ x, ob = some x → x = true) → Runs Try.prog 13 vs hp v hp' chg := by
  intro vs hp v hp' chg ob h _
  unfold trueM at h
  split at h
  · cases h; exact runs13 _
  · cases h
noncomputable def Mgr : Kn := addK (addK M0 10 growM) 13 trueM
theorem knowngr : Known Try.prog Mgr := known_add (known_add known_none kgrow) ktrue

def q1 (x : W) : Q := nthB [x, 0#64, 0#64, 0#64]
def modA (a : W) : W := a % 549755813888#64
def modM (n : W) : W := n % 1048576#64 + 1#64
def stepsOb (x y m : W) (c : Bool) : List Bool :=
  let p := gTo 0#64 (q1 x) (q1 m)
  let q := gTo p (q1 y) (q1 m)
  let s := gTo 0#64 (q1 y) (q1 m)
  [Nat.beq (gCost q (q1 x) (q1 m)).toNat 0, Nat.beq (gTo q (q1 x) (q1 m)).toNat q.toNat, Nat.blt q.toNat (y + m + 32#64).toNat, Nat.beq (q % 32#64).toNat 0, Nat.ble (y + m).toNat q.toNat,
    Nat.beq (gCost 0#64 (q1 x) (q1 m) + gCost p (q1 y) (q1 m)).toNat (gCost 0#64 (q1 y) (q1 m)).toNat, Nat.beq q.toNat s.toNat, !(!(gOk (q1 y) (q1 m))), !(!(gOk (q1 y) (q1 m))), !(!(gOk (q1 x) (q1 m))), c]
theorem f4a (a b n : W) : outV (callD Mgr 4 [.one (.w64 a), .one (.w64 b), .one (.w64 n)] [] [true, false, false, false, true, true, true, true, true, true, true]) =
    some (.one (.sb (gOk (q1 (modA b)) (q1 (modM n)))), stepsOb (modA b) (modA a) (modM n) (Nat.blt (modA b).toNat (modA a).toNat)) := by kernel_rfl
theorem f4b (a b n : W) : outV (callD Mgr 4 [.one (.w64 a), .one (.w64 b), .one (.w64 n)] [] [false, false, false, false, true, true, true, true, true, true, true]) =
    some (.one (.sb (gOk (q1 (modA a)) (q1 (modM n)))), stepsOb (modA a) (modA b) (modM n) (!(Nat.blt (modA b).toNat (modA a).toNat))) := by kernel_rfl
end Go.Proofs.Sx
