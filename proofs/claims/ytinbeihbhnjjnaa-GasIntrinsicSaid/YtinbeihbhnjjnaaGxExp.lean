/- gas.Exp of 255, for any rules. -/
import Derived.Test.YtinbeihbhnjjnaaSxGrow
import Derived.Test.YtinbeihbhnjjnaaGxBase
namespace Go.Proofs.Sx
open Go

noncomputable def getS : Option (Ex × St) → St
  | some (_, s) => s
  | none => ⟨.e, [], false, 0, 0, [], []⟩
def isN : Option (Ex × St) → Bool
  | some (.normal, _) => true
  | _ => false
theorem isN_is {r : Option (Ex × St)} (h : isN r = true) : r = some (.normal, getS r) := by
  unfold isN at h
  split at h
  · rfl
  · cases h
def opsArr : Code → Array Oper
  | .region _ ops _ => ops
  | _ => #[]
def regId : Code → Nat
  | .region id _ _ => id
  | _ => 0
noncomputable def valO (r : Res) : V :=
  match r with
  | some (v, _, _, _, _) => v
  | none => .un
noncomputable def hpO (r : Res) : List Reg :=
  match r with
  | some (_, hp, _, _, _) => hp
  | none => []
noncomputable def okS (r : Res) : Bool :=
  match r with
  | some (_, _, _, ob, _) => allB ob
  | none => false
theorem steps_of {ih : Rec} {P : Program} {M : Kn} {l : List (Nat × V)} {hp : List Reg} {b : Nat} {ds : List Bool} {o : Op} (h : okS (stepOp ih P M (slots l) hp b [] ds o) = true) :
    Steps ih P M l hp (hpO (stepOp ih P M (slots l) hp b [] ds o)) (valO (stepOp ih P M (slots l) hp b [] ds o)) o := by
  generalize hr : stepOp ih P M (slots l) hp b [] ds o = r at h
  match r with
  | some (v, hp1, c, ob1, ds1) => exact ⟨b, c, ds, ob1, ds1, allB_is h, hr⟩
  | none => cases h
theorem steps_eq {ih : Rec} {P : Program} {M : Kn} {l : List (Nat × V)} {hp hp' : List Reg} {v : V} {b : Nat} {o : Op} (h : stepOp ih P M (slots l) hp b [] [] o = some (v, hp', false, [], [])) : Steps ih P M l hp hp' v o :=
  ⟨b, false, [], [], [], AllT.nil, h⟩

noncomputable def xops : Array Oper := opsArr (nthC (rowOf Try.prog 25) 1)
noncomputable def xop (j : Nat) : Oper := (xops[j]?).getD default
/-- A fork's rules: its number, two sizes, and words. -/
structure Ru where
  f : Nat
  m : Nat
  k : Nat
  w : Nat → BitVec 64
def rulesC (r : Ru) : List C := [.it r.f, .w64 (r.w 1), .w64 (r.w 2), .w64 (r.w 3), .w64 (r.w 4), .w64 (r.w 5), .w64 (r.w 6), .w64 (r.w 7), .sy r.m, .sy r.k, .w64 (r.w 10), .w64 (r.w 11), .w64 (r.w 12), .w64 (r.w 13), .w64 (r.w 14), .w64 (r.w 15), .w64 (r.w 16), .w64 (r.w 17), .w64 (r.w 18), .w64 (r.w 19), .w64 (r.w 20), .w64 (r.w 21), .w64 (r.w 22), .w64 (r.w 23), .w64 (r.w 24), .w64 (r.w 25)]
def w255 : List C := [.w64 255#64, .w64 0#64, .w64 0#64, .w64 0#64]
noncomputable def xhp (r : Ru) : List Reg := [.own 34 (rulesC r), .own 24 w255]
def xbase : List (Nat × V) := [(2, .one (.pt 0 0)), (3, .one (.pt 1 0))]
noncomputable def xcall (r : Ru) : Res := stepOp (sx Try.prog M0 1000000) Try.prog M0 (slots [(7, .ag w255)]) (xhp r) 0 [] [] (xop 3).op
noncomputable def xv3 (r : Ru) : V := valO (xcall r)
noncomputable def xhp1 (r : Ru) : List Reg := hpO (xcall r)
noncomputable def xstep (hp : List Reg) (j : Nat) (l : List (Nat × V)) : Res := stepOp (sx Try.prog M0 1000000) Try.prog M0 (slots l) hp 0 [] [] (xop j).op
variable (r : Ru)
theorem xs0 : xstep (xhp r) 0 xbase = some (.one (.pt 0 21), xhp r, false, [], []) := by kernel_rfl
theorem xs0' : xstep (xhp1 r) 0 xbase = some (.one (.pt 0 21), xhp1 r, false, [], []) := by kernel_rfl
theorem xs1 : xstep (xhp r) 1 [(5, .one (.pt 0 21))] = some (.one (.w64 (r.w 21)), xhp r, false, [], []) := by kernel_rfl
theorem xs1' : xstep (xhp1 r) 1 [(5, .one (.pt 0 21))] = some (.one (.w64 (r.w 21)), xhp1 r, false, [], []) := by kernel_rfl
theorem xs2 : xstep (xhp r) 2 xbase = some (.ag w255, xhp r, false, [], []) := by kernel_rfl
theorem xs2' : xstep (xhp1 r) 2 xbase = some (.ag w255, xhp1 r, false, [], []) := by kernel_rfl
theorem xs3 : okS (xcall r) = true := by kernel_rfl
theorem xs4' : xstep (xhp1 r) 4 [(8, xv3 r)] = some (.one (.sy 1), xhp1 r, false, [], []) := by kernel_rfl
theorem xs5' : xstep (xhp1 r) 5 [(9, .one (.sy 1))] = some (.one (.w64 1#64), xhp1 r, false, [], []) := by kernel_rfl
theorem xs5 : xstep (xhp r) 5 [(9, .one (.sy 1))] = some (.one (.w64 1#64), xhp r, false, [], []) := by kernel_rfl
theorem xs6' : xstep (xhp1 r) 6 [(6, .one (.w64 (r.w 21))), (10, .one (.w64 1#64))] = some (.one (.w64 (r.w 21 * 1#64)), xhp1 r, false, [], []) := by kernel_rfl
theorem xs6 : xstep (xhp r) 6 [(6, .one (.w64 (r.w 21))), (10, .one (.w64 1#64))] = some (.one (.w64 (r.w 21 * 1#64)), xhp r, false, [], []) := by kernel_rfl
theorem xs7' : xstep (xhp1 r) 7 [(11, .one (.w64 (r.w 21 * 1#64)))] = some (.one (.w64 (r.w 21 * 1#64)), xhp1 r, false, [], []) := by kernel_rfl
theorem xs7 : xstep (xhp r) 7 [(11, .one (.w64 (r.w 21 * 1#64)))] = some (.one (.w64 (r.w 21 * 1#64)), xhp r, false, [], []) := by kernel_rfl

theorem one_of {α : Type} {p q : α} (h : p ∈ [q]) : p = q := by simpa using h
theorem two_of {α : Type} {p q q' : α} (h : p ∈ [q, q']) : p = q ∨ p = q' := by simpa using h
noncomputable def xplain (j d : Nat) : Bool :=
  match (xop j).guard, (xop j).dst with
  | none, some e => Nat.beq e d
  | _, _ => false
theorem xplain_is {j d : Nat} (h : xplain j d = true) : (xop j).guard = none ∧ (xop j).dst = some d := by
  unfold xplain at h
  split at h
  · rename_i e h1 h2
    exact ⟨h1, by rw [h2, Nat.eq_of_beq_eq_true h]⟩
  · cases h
def xd (j : Nat) : Nat := bif Nat.beq j 7 then 4 else 5 + j
theorem xd_all : (List.range' 0 8).all (fun j => xplain j (xd j)) = true := by kernel_rfl
theorem xsize : xops.size = 8 := by kernel_rfl
theorem xdown : (List.range' 0 8).all (fun j => downB xops j) = true := by kernel_rfl
theorem xedges : [(1, 0), (3, 2), (4, 3), (5, 4), (6, 1), (6, 5), (7, 6)].all (fun p => edgeB xops p.1 p.2) = true := by kernel_rfl
theorem xedge {i j : Nat} (h : (i, j) ∈ [(1, 0), (3, 2), (4, 3), (5, 4), (6, 1), (6, 5), (7, 6)]) : edgeB xops i j = true := List.all_eq_true.1 xedges (i, j) h
theorem xop_at {j : Nat} (h : j < 8) : xops[j]? = some (xop j) := by
  unfold xop
  have h1 : j < xops.size := by rw [xsize]; exact h
  rw [Array.getElem?_eq_getElem h1]
  rfl
noncomputable def xl (v3 : V) (j : Nat) : List (Nat × V) :=
  match j with
  | 0 => xbase
  | 1 => [(5, .one (.pt 0 21))]
  | 2 => xbase
  | 3 => [(7, .ag w255)]
  | 4 => [(8, v3)]
  | 5 => [(9, .one (.sy 1))]
  | 6 => [(6, .one (.w64 (r.w 21))), (10, .one (.w64 1#64))]
  | _ => [(11, .one (.w64 (r.w 21 * 1#64)))]
noncomputable def xval (v3 : V) (j : Nat) : V :=
  match j with
  | 0 => .one (.pt 0 21)
  | 1 => .one (.w64 (r.w 21))
  | 2 => .ag w255
  | 3 => v3
  | 4 => .one (.sy 1)
  | 5 => .one (.w64 1#64)
  | _ => .one (.w64 (r.w 21 * 1#64))
abbrev XS (l : List (Nat × V)) (hp hp' : List Reg) (v : V) (j : Nat) : Prop := Steps (sx Try.prog M0 1000000) Try.prog M0 l hp hp' v (xop j).op
theorem XS.of {hp hp' : List Reg} {j : Nat} {l : List (Nat × V)} {v : V} (h : xstep hp j l = some (v, hp', false, [], [])) : XS l hp hp' v j := steps_eq h
theorem xshape : nthC (rowOf Try.prog 25) 1 = .region (regId (nthC (rowOf Try.prog 25) 1)) xops true := by kernel_rfl
theorem xreg {v3 : V} {hp0 hp1 : List Reg} (h0 : XS xbase hp0 hp0 (.one (.pt 0 21)) 0) (h0' : XS xbase hp1 hp1 (.one (.pt 0 21)) 0) (h1 : XS [(5, .one (.pt 0 21))] hp0 hp0 (.one (.w64 (r.w 21))) 1) (h1' : XS [(5, .one (.pt 0 21))] hp1 hp1 (.one (.w64 (r.w 21))) 1)
    (h2 : XS xbase hp0 hp0 (.ag w255) 2) (h2' : XS xbase hp1 hp1 (.ag w255) 2) (h3 : XS [(7, .ag w255)] hp0 hp1 v3 3) (h4 : XS [(8, v3)] hp1 hp1 (.one (.sy 1)) 4) (h5 : XS [(9, .one (.sy 1))] hp0 hp0 (.one (.w64 1#64)) 5) (h5' : XS [(9, .one (.sy 1))] hp1 hp1 (.one (.w64 1#64)) 5)
    (h6 : XS [(6, .one (.w64 (r.w 21))), (10, .one (.w64 1#64))] hp0 hp0 (.one (.w64 (r.w 21 * 1#64))) 6) (h6' : XS [(6, .one (.w64 (r.w 21))), (10, .one (.w64 1#64))] hp1 hp1 (.one (.w64 (r.w 21 * 1#64))) 6)
    (h7 : XS [(11, .one (.w64 (r.w 21 * 1#64)))] hp0 hp0 (.one (.w64 (r.w 21 * 1#64))) 7) (h7' : XS [(11, .one (.w64 (r.w 21 * 1#64)))] hp1 hp1 (.one (.w64 (r.w 21 * 1#64))) 7)
    (chg : Bool) (n base : Nat) (hn : 12 ≤ n) (ob ds : List Bool) : Does Try.prog (nthC (rowOf Try.prog 25) 1) ⟨slots xbase, hp0, chg, n, base, ob, ds⟩ .normal ⟨slots [(4, .one (.w64 (r.w 21 * 1#64)))], hp1, true, n, base, [], []⟩ := by
  rw [xshape]
  refine region_grow (g := 3) (l := xl r v3) (val := xval r v3) (d := xd) fol (sx_sound fol known_none 1000000) known_none xsize (by decide) ?_ ?_ (fun i hi => List.all_eq_true.1 xdown i (by simp; omega)) ?_ ?_ ?_ ?_ ?_
  · intro j hj
    obtain ⟨e1, e2⟩ := xplain_is (List.all_eq_true.1 xd_all j (by simp; omega))
    refine ⟨_, xop_at hj, e1, e2, ?_⟩
    have hj' : j = 0 ∨ j = 1 ∨ j = 2 ∨ j = 3 ∨ j = 4 ∨ j = 5 ∨ j = 6 ∨ j = 7 := by omega
    clear e1 e2
    rcases hj' with h | h | h | h | h | h | h | h <;> subst h
    · exact .inl ⟨h0, h0'⟩
    · exact .inl ⟨h1, h1'⟩
    · exact .inl ⟨h2, h2'⟩
    · exact h3
    · exact .inr ⟨xedge (by decide), h4⟩
    · exact .inl ⟨h5, h5'⟩
    · exact .inl ⟨h6, h6'⟩
    · exact .inl ⟨h7, h7'⟩
  · intro j hj p hp
    have hj' : j = 0 ∨ j = 1 ∨ j = 2 ∨ j = 3 ∨ j = 4 ∨ j = 5 ∨ j = 6 ∨ j = 7 := by omega
    rcases hj' with h | h | h | h | h | h | h | h <;> subst h
    · exact .inl hp
    · exact .inr ⟨0, by decide, xedge (by decide), one_of hp⟩
    · exact .inl hp
    · exact .inr ⟨2, by decide, xedge (by decide), one_of hp⟩
    · exact .inr ⟨3, by decide, xedge (by decide), one_of hp⟩
    · exact .inr ⟨4, by decide, xedge (by decide), one_of hp⟩
    · rcases two_of hp with hp | hp
      · exact .inr ⟨1, by decide, xedge (by decide), hp⟩
      · exact .inr ⟨5, by decide, xedge (by decide), hp⟩
    · exact .inr ⟨6, by decide, xedge (by decide), one_of hp⟩
  · intro i j hi hj
    have : ∀ i j : Fin 8, xd i = xd j → i = j := by decide
    intro h
    have := this ⟨i, hi⟩ ⟨j, hj⟩ h
    simpa using this
  · intro j hj
    have : ∀ j : Fin 8, xd j < 12 := by decide
    have := this ⟨j, hj⟩
    simp only at this
    omega
  · intro p hp j hj
    have : ∀ j : Fin 8, 2 ≠ xd j ∧ 3 ≠ xd j := by decide
    have := this ⟨j, hj⟩
    rcases two_of hp with rfl | rfl
    · exact this.1
    · exact this.2
  · intro p hp
    rcases two_of hp with rfl | rfl <;> kernel_rfl
  · intro p hp
    exact .inr ⟨7, by decide, one_of hp⟩

noncomputable def xA : Option (Ex × St) := sxc Try.prog M0 1000000 (takeC 1 (rowOf Try.prog 25)) [(2, false), (3, false)] 2 ⟨tmOf [.ag (rulesC r), .ag w255] 0 (T.full 8), [], false, 12, 0, [], []⟩
theorem xA_is : xA r = some (.normal, ⟨slots xbase, xhp r, false, 12, 0, [], []⟩) := by kernel_rfl
theorem xcode : hasCode Try.prog 25 = true := by kernel_rfl
theorem xtmps : Nat.beq (fnOf Try.prog 25).ntmps 12 = true := by kernel_rfl
theorem xlen : Nat.blt 1 (lenL (rowOf Try.prog 25)) = true := by kernel_rfl
theorem xend (hp1 : List Reg) : sxs Try.prog M0 1000000 (dropC 2 (rowOf Try.prog 25)) ⟨slots [(4, .one (.w64 (r.w 21 * 1#64)))], hp1, true, 12, 0, [], []⟩ = some (.ret, ⟨slots [(4, .one (.w64 (r.w 21 * 1#64)))], hp1, true, 12, 0, [], []⟩) := by kernel_rfl
theorem xres (hp1 : List Reg) : resV Try.prog (fnOf Try.prog 25).results.toList (slots [(4, .one (.w64 (r.w 21 * 1#64)))]) hp1 = some (.one (.w64 (r.w 21 * 1#64))) := by kernel_rfl
theorem x3 : XS [(7, .ag w255)] (xhp r) (xhp1 r) (xv3 r) 3 := by
  have h := xs3 r
  unfold xcall at h
  unfold xhp1 xv3 xcall
  exact steps_of h
theorem runs25_of {hp1 : List Reg} (hreg : Does Try.prog (nthC (rowOf Try.prog 25) 1) ⟨slots xbase, xhp r, false, 12, 0, [], []⟩ .normal ⟨slots [(4, .one (.w64 (r.w 21 * 1#64)))], hp1, true, 12, 0, [], []⟩) (hp : List Reg) : Runs Try.prog 25 [.ag (rulesC r), .ag w255] hp (.one (.w64 (r.w 21 * 1#64))) hp false := by
  have hA : DoesL Try.prog (takeC 1 (rowOf Try.prog 25)) ⟨tmOf [.ag (rulesC r), .ag w255] 0 (T.full 8), [], false, 12, 0, [], []⟩ .normal ⟨slots xbase, xhp r, false, 12, 0, [], []⟩ := sxc_sound fol known_none (xA_is r) AllT.nil
  have h3 := (sxs_sound fol known_none (xend r hp1)).2 AllT.nil
  have hd : DoesL Try.prog (rowOf Try.prog 25) ⟨tmOf [.ag (rulesC r), .ag w255] 0 (T.full 8), [], false, 12, 0, [], []⟩ .ret ⟨slots [(4, .one (.w64 (r.w 21 * 1#64)))], hp1, true, 12, 0, [], []⟩ := by
    have hl := parts3 1 (rowOf Try.prog 25) (Nat.le_of_ble_eq_true xlen)
    rw [← hl]
    exact hA.append (DoesL.cons hreg h3)
  have := runs_of xcode (.inr rfl) (n := 12) (by rw [Nat.eq_of_beq_eq_true xtmps]; rfl) hd (xres r hp1) rfl
  exact Runs.plain this rfl rfl hp
theorem runs25 (hp : List Reg) : Runs Try.prog 25 [.ag (rulesC r), .ag w255] hp (.one (.w64 (r.w 21 * 1#64))) hp false :=
  runs25_of r (xreg r (.of (xs0 r)) (.of (xs0' r)) (.of (xs1 r)) (.of (xs1' r)) (.of (xs2 r)) (.of (xs2' r)) (x3 r) (.of (xs4' r)) (.of (xs5 r)) (.of (xs5' r)) (.of (xs6 r)) (.of (xs6' r)) (.of (xs7 r)) (.of (xs7' r)) false 12 0 (by decide) [] []) hp
end Go.Proofs.Sx
