/- The law on what a call is given: its function. -/
import Derived.Test.YtinbeihbhnjjnaaSxChain
import Derived.Test.YtinbeihbhnjjnaaGxPart2
namespace Go.Proofs.Sx
open Go
/-- what the law is handed -/
structure Ask where
  f : Int
  l : W
  a : Q
  r : W
def askC (x : Ask) : List C := [.zi x.f, .w64 x.l, .w64 (x.a 0), .w64 (x.a 1), .w64 (x.a 2), .w64 (x.a 3), .w64 x.r]
noncomputable def yops : Array Oper := opsArr (nthC (rowOf Try.prog 5) 1)
noncomputable def yop (j : Nat) : Oper := (yops[j]?).getD default
theorem yshape : nthC (rowOf Try.prog 5) 1 = .region (regId (nthC (rowOf Try.prog 5) 1)) yops true := by kernel_rfl
theorem ysize : yops.size = 10 := by kernel_rfl
theorem ydown : (List.range' 0 10).all (fun j => downB yops j) = true := by kernel_rfl
def yd : Nat → Option Nat
  | 0 => some 11
  | 1 => some 12
  | 2 => some 13
  | 3 => some 14
  | 4 => some 15
  | 5 => some 16
  | 6 => some 4
  | 7 => some 3
  | 8 => none
  | _ => some 5
noncomputable def dstIs (o : Oper) (e : Option Nat) : Bool :=
  match o.guard, o.dst, e with
  | none, some x, some y => Nat.beq x y
  | none, none, none => true
  | _, _, _ => false
theorem dstIs_is {o : Oper} {e : Option Nat} (h : dstIs o e = true) : o.guard = none ∧ o.dst = e := by
  unfold dstIs at h
  split at h
  · rename_i x y h1 h2
    exact ⟨h1, by rw [h2, Nat.eq_of_beq_eq_true h]⟩
  · rename_i h1 h2
    exact ⟨h1, h2⟩
  · cases h
theorem ydst : (List.range' 0 10).all (fun j => dstIs (yop j) (yd j)) = true := by kernel_rfl
theorem yedges : [(1, 0), (3, 2), (5, 4), (7, 1), (8, 6), (8, 3), (9, 5)].all (fun p => edgeB yops p.1 p.2) = true := by kernel_rfl
theorem yedge {i j : Nat} (h : (i, j) ∈ [(1, 0), (3, 2), (5, 4), (7, 1), (8, 6), (8, 3), (9, 5)]) : edgeB yops i j = true := List.all_eq_true.1 yedges (i, j) h
theorem yop_at {j : Nat} (h : j < 10) : yops[j]? = some (yop j) := by
  unfold yop
  have h1 : j < yops.size := by rw [ysize]; exact h
  rw [Array.getElem?_eq_getElem h1]
  rfl
variable (x : Ask)
def yhps : Nat → List Reg
  | 0 => [.own 32 (askC x)]
  | 1 => [.own 32 (askC x), .own 24 [.w64 0#64, .w64 0#64, .w64 0#64, .w64 0#64]]
  | _ => [.own 32 (askC x), .own 24 (w4 x.a)]
def ybase : List (Nat × V) := [(1, .one (.pt 0 0))]
def yval : Nat → V
  | 0 => .one (.pt 0 1)
  | 1 => .one (.w64 x.l)
  | 2 => .one (.pt 0 2)
  | 3 => .ag (w4 x.a)
  | 4 => .one (.pt 0 6)
  | 5 => .one (.w64 x.r)
  | 6 => .one (.pt 1 0)
  | 7 => .one (.w64 x.l)
  | 8 => .raw undef
  | _ => .one (.w64 x.r)
def yl : Nat → List (Nat × V)
  | 0 => ybase
  | 1 => [(11, .one (.pt 0 1))]
  | 2 => ybase
  | 3 => [(13, .one (.pt 0 2))]
  | 4 => ybase
  | 5 => [(15, .one (.pt 0 6))]
  | 6 => []
  | 7 => [(12, .one (.w64 x.l))]
  | 8 => [(4, .one (.pt 1 0)), (14, .ag (w4 x.a))]
  | _ => [(16, .one (.w64 x.r))]
noncomputable def ystep (hp : List Reg) (j : Nat) : Res := stepOp (sx Try.prog Mpt 1000000) Try.prog Mpt (slots (yl x j)) hp 100 [] [] (yop j).op
theorem yq : [0, 1, 2, 3, 4, 5, 7, 9].map (fun j => [0, 1, 2].map fun i => ystep x (yhps x i) j) = [0, 1, 2, 3, 4, 5, 7, 9].map (fun j => [0, 1, 2].map fun i => some (yval x j, yhps x i, false, [], [])) := by kernel_rfl
theorem yc6 : ystep x (yhps x 0) 6 = some (yval x 6, yhps x 1, false, [], []) := by kernel_rfl
theorem yc8 : ystep x (yhps x 1) 8 = some (yval x 8, yhps x 2, true, [], []) := by kernel_rfl
def yg : Nat → Nat
  | 0 => 6
  | _ => 8
abbrev YS (l : List (Nat × V)) (hp hp' : List Reg) (v : V) (j : Nat) : Prop := Steps (sx Try.prog Mpt 1000000) Try.prog Mpt l hp hp' v (yop j).op
theorem ysteps {hp hp' : List Reg} {j : Nat} {v : V} {c : Bool} (h : ystep x hp j = some (v, hp', c, [], [])) : YS (yl x j) hp hp' v j := ⟨100, c, [], [], [], AllT.nil, h⟩
def ylf : List (Nat × V) := [(3, .one (.w64 x.l)), (4, .one (.pt 1 0)), (5, .one (.w64 x.r)), (1, .one (.pt 0 0))]
theorem yreg (chg : Bool) (n base : Nat) (hn : 65 ≤ n) (ob ds : List Bool) : Does Try.prog (nthC (rowOf Try.prog 5) 1) ⟨slots ybase, yhps x 0, chg, n, base, ob, ds⟩ .normal ⟨slots (ylf x), yhps x 2, true, n, base, [], []⟩ := by
  rw [yshape]
  refine region_chain (m := 2) (g := yg) (lo := fun _ => 0) (hps := yhps x) (l := yl x) (val := yval x) (d := yd) fol (sx_sound fol knownpt 1000000) knownpt ysize ?_ ?_ ?_ ?_ (fun i hi => List.all_eq_true.1 ydown i (by simp; omega)) ?_ ?_ ?_ ?_ ?_
  · intro k hk
    have : ∀ k : Fin 2, yg k.1 < 10 := by decide
    exact this ⟨k, hk⟩
  · intro k k' hk hk' h
    have : ∀ k k' : Fin 2, yg k.1 = yg k'.1 → k = k' := by decide
    simpa using this ⟨k, hk⟩ ⟨k', hk'⟩ h
  · intro j hj
    obtain ⟨e1, e2⟩ := dstIs_is (List.all_eq_true.1 ydst j (by simp; omega))
    refine ⟨_, yop_at hj, e1, e2, ?_⟩
    clear e1 e2
    by_cases h6 : j = 6
    · subst h6
      exact .inl ⟨0, by decide, rfl, .inl rfl, ysteps x (yc6 x)⟩
    · by_cases h8 : j = 8
      · subst h8
        exact .inl ⟨1, by decide, rfl, .inr (yedge (by decide)), ysteps x (yc8 x)⟩
      · refine .inr ⟨fun k hk => ?_, .inl rfl, fun i _ hi => ?_⟩
        · have : ∀ k : Fin 2, yg k.1 = 6 ∨ yg k.1 = 8 := by decide
          rcases this ⟨k, hk⟩ with h | h
          · simp only at h; omega
          · simp only at h; omega
        · have hj' : j ∈ [0, 1, 2, 3, 4, 5, 7, 9] := by
            have : ∀ j : Fin 10, j.1 ≠ 6 → j.1 ≠ 8 → j.1 ∈ [0, 1, 2, 3, 4, 5, 7, 9] := by decide
            exact this ⟨j, hj⟩ h6 h8
          have hi' : i ∈ [0, 1, 2] := by
            have : ∀ i : Fin 3, i.1 ∈ [0, 1, 2] := by decide
            exact this ⟨i, by omega⟩
          exact ysteps x (map_at (map_at (yq x) hj') hi')
  · intro j hj p hp
    have hj' : j = 0 ∨ j = 1 ∨ j = 2 ∨ j = 3 ∨ j = 4 ∨ j = 5 ∨ j = 6 ∨ j = 7 ∨ j = 8 ∨ j = 9 := by omega
    rcases hj' with h | h | h | h | h | h | h | h | h | h <;> subst h
    · exact .inl hp
    · exact .inr ⟨0, 11, by decide, yedge (by decide), rfl, one_of hp⟩
    · exact .inl hp
    · exact .inr ⟨2, 13, by decide, yedge (by decide), rfl, one_of hp⟩
    · exact .inl hp
    · exact .inr ⟨4, 15, by decide, yedge (by decide), rfl, one_of hp⟩
    · cases hp
    · exact .inr ⟨1, 12, by decide, yedge (by decide), rfl, one_of hp⟩
    · rcases two_of hp with hp | hp
      · exact .inr ⟨6, 4, by decide, yedge (by decide), rfl, hp⟩
      · exact .inr ⟨3, 14, by decide, yedge (by decide), rfl, hp⟩
    · exact .inr ⟨5, 16, by decide, yedge (by decide), rfl, one_of hp⟩
  · intro i j e hi hj
    have : ∀ i j : Fin 10, yd i.1 = yd j.1 → yd i.1 = none ∨ i = j := by decide
    intro h1 h2
    rcases this ⟨i, hi⟩ ⟨j, hj⟩ (h1.trans h2.symm) with h | h
    · simp only at h; rw [h1] at h; cases h
    · simpa using h
  · intro j e hj
    have : ∀ j : Fin 10, ∀ e, yd j.1 = some e → e < 65 := by
      intro j e h
      have : ∀ j : Fin 10, (match yd j.1 with | some e => decide (e < 65) | none => true) = true := by decide
      have := this j
      rw [h] at this
      simpa using this
    intro h
    have := this ⟨j, hj⟩ e h
    omega
  · intro p hp j hj
    have : ∀ j : Fin 10, yd j.1 ≠ some 1 := by decide
    rw [one_of hp]
    exact this ⟨j, hj⟩
  · intro p hp
    rw [one_of hp]
    kernel_rfl
  · intro p hp
    have hp' : p = (3, .one (.w64 x.l)) ∨ p = (4, .one (.pt 1 0)) ∨ p = (5, .one (.w64 x.r)) ∨ p = (1, .one (.pt 0 0)) := by simpa [ylf] using hp
    rcases hp' with h | h | h | h
    · exact .inr ⟨7, 3, by decide, rfl, h⟩
    · exact .inr ⟨6, 4, by decide, rfl, h⟩
    · exact .inr ⟨9, 5, by decide, rfl, h⟩
    · rw [h]
      exact .inl (List.mem_cons_self ..)
end Go.Proofs.Sx
