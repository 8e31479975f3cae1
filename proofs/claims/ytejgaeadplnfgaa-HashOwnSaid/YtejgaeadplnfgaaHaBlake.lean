/- Blake: what the program's rounds and the reference's rounds do to the sixteen words. -/
import Derived.Test.YtejgaeadplnfgaaHaRot
namespace Go.Proofs.Sx
open Go

abbrev W := BitVec 64

abbrev Sum3 := W → W → W → W
def s3 : Sum3 := fun p q x => p + (q + x)
def s3' : Sum3 := fun p q x => p + q + x
theorem s3_eq : s3' = s3 := by funext p q x; exact BitVec.add_assoc p q x

def gA (f : Sum3) (p q r s x y : W) : W :=
  f (f p q x) (rotl (q ^^^ (r + rotl (s ^^^ f p q x) 32)) 40) y
def gD (f : Sum3) (p q r s x y : W) : W := rotl (rotl (s ^^^ f p q x) 32 ^^^ gA f p q r s x y) 48
def gC (f : Sum3) (p q r s x y : W) : W := r + rotl (s ^^^ f p q x) 32 + gD f p q r s x y
def gB (f : Sum3) (p q r s x y : W) : W := rotl (rotl (q ^^^ (r + rotl (s ^^^ f p q x) 32)) 40 ^^^ gC f p q r s x y) 1

def putW : Nat → W → List W → List W
  | 0, x, _ :: l => x :: l
  | n + 1, x, y :: l => y :: putW n x l
  | _, _, [] => []
def nthW : List W → Nat → W
  | x :: _, 0 => x
  | _ :: l, n + 1 => nthW l n
  | [], _ => 0

theorem putW_len : ∀ (n : Nat) (x : W) (l : List W), (putW n x l).length = l.length
  | 0, _, _ :: _ => rfl
  | n + 1, x, _ :: l => by simp [putW, putW_len n x l]
  | 0, _, [] => rfl
  | _ + 1, _, [] => rfl

def gL (f : Sum3) (v : List W) (a b c d : Nat) (x y : W) : List W :=
  putW a (gA f (nthW v a) (nthW v b) (nthW v c) (nthW v d) x y) (putW b (gB f (nthW v a) (nthW v b) (nthW v c) (nthW v d) x y)
    (putW c (gC f (nthW v a) (nthW v b) (nthW v c) (nthW v d) x y) (putW d (gD f (nthW v a) (nthW v b) (nthW v c) (nthW v d) x y) v)))

def toC : List W → List C
  | [] => []
  | x :: l => .w64 x :: toC l
def unC64 : List C → Option (List W)
  | [] => some []
  | .w64 x :: l => match unC64 l with
    | some l' => some (x :: l')
    | none => none
  | _ => none
def lst (f : Nat → W) : Nat → Nat → List W
  | _, 0 => []
  | i, n + 1 => f i :: lst f (i + 1) n

theorem unC64_is : ∀ {cs : List C} {ws : List W}, unC64 cs = some ws → cs = toC ws
  | [], ws, h => by cases h; rfl
  | c :: cs, ws, h => by
    cases c with
    | w64 x =>
      simp only [unC64] at h
      split at h
      · rename_i l hl
        cases h
        simp [toC, unC64_is hl]
      · cases h
    | _ => cases h

theorem lst_nth : ∀ (ws : List W) (f : Nat → W) (i : Nat), (∀ j, f (i + j) = nthW ws j) → lst f i ws.length = ws
  | [], _, _, _ => rfl
  | w :: ws, f, i, h => by
    have h0 := h 0
    simp only [Nat.add_zero, nthW] at h0
    simp only [List.length_cons, lst, h0]
    rw [lst_nth ws f (i + 1) fun j => by have := h (j + 1); simpa [nthW, Nat.add_assoc, Nat.add_comm 1] using this]

theorem eq_lst {ws : List W} {n : Nat} (h : ws.length = n) : ws = lst (nthW ws) 0 n := by
  rw [← h, lst_nth ws (nthW ws) 0 fun j => by rw [Nat.zero_add]]

theorem toC_plain : ∀ ws : List W, plains (toC ws) = true
  | [] => rfl
  | _ :: ws => toC_plain ws

theorem map_at {α β : Type} {f g : α → β} {l : List α} (h : l.map f = l.map g) {a : α} (ha : a ∈ l) : f a = g a := List.map_inj_left.1 h a ha

/-- the places of the eight steps of a round -/
def spots : List (Nat × Nat × Nat × Nat) := [(0, 4, 8, 12), (1, 5, 9, 13), (2, 6, 10, 14), (3, 7, 11, 15), (0, 5, 10, 15), (1, 6, 11, 12), (2, 7, 8, 13), (3, 4, 9, 14)]

noncomputable def M1 : Kn := addK (addK M0 45 m45) 49 m49
theorem known1 : Known Try.prog M1 := known_add (known_add known_none k45) k49

abbrev Res := Option (V × List Reg × Bool × List Bool × List Bool)

noncomputable def mixL (t : TypeId) (v : Nat → W) (x y : W) (s : Nat × Nat × Nat × Nat) : Res :=
  call0 M1 28 [.one (.pt 0 0), .one (.it s.1), .one (.it s.2.1), .one (.it s.2.2.1), .one (.it s.2.2.2), .one (.w64 x), .one (.w64 y)] [.own t (toC (lst v 0 16)), .dead]
def mixR (t : TypeId) (v : Nat → W) (x y : W) (s : Nat × Nat × Nat × Nat) : Res :=
  some (.un, [.own t (toC (gL s3 (lst v 0 16) s.1 s.2.1 s.2.2.1 s.2.2.2 x y)), .dead], true, [], [])
theorem f28 (t : TypeId) (v : Nat → W) (x y : W) : spots.map (mixL t v x y) = spots.map (mixR t v x y) := by kernel_rfl

def memSpot (a b c d : Nat) : List (Nat × Nat × Nat × Nat) → Bool
  | [] => false
  | (p, q, r, s) :: l => match Nat.beq a p && Nat.beq b q && Nat.beq c r && Nat.beq d s with
    | true => true
    | false => memSpot a b c d l
theorem memSpot_is {a b c d : Nat} : ∀ {l : List (Nat × Nat × Nat × Nat)}, memSpot a b c d l = true → (a, b, c, d) ∈ l
  | [], h => by cases h
  | (p, q, r, s) :: l, h => by
    simp only [memSpot] at h
    split at h
    · rename_i he
      simp only [Bool.and_eq_true] at he
      obtain ⟨⟨⟨h1, h2⟩, h3⟩, h4⟩ := he
      rw [Nat.eq_of_beq_eq_true h1, Nat.eq_of_beq_eq_true h2, Nat.eq_of_beq_eq_true h3, Nat.eq_of_beq_eq_true h4]
      exact List.mem_cons_self ..
    · exact List.mem_cons_of_mem _ (memSpot_is h)

/-- what mix does, wherever the words lie -/
noncomputable def m28 (vs : List V) (hp : List Reg) : Option (V × List Reg × Bool × Option Bool) :=
  match vs with
  | [.one (.pt r 0), .one (.it a), .one (.it b), .one (.it c), .one (.it d), .one (.w64 x), .one (.w64 y)] => match memSpot a b c d spots, regAt r hp with
    | true, some (.own t cs) => match unC64 cs, Nat.beq (lenC cs) 16 with
      | some ws, true => match regSet r (.own t (toC (gL s3 ws a b c d x y))) hp with
        | some hp' => some (.un, hp', true, none)
        | none => none
      | _, _ => none
    | _, _ => none
  | _ => none

theorem lenC_toC : ∀ ws : List W, lenC (toC ws) = ws.length
  | [] => rfl
  | _ :: ws => by simp [toC, lenC, lenC_toC ws]

theorem k28 : ∀ vs hp v hp' chg ob, m28 vs hp = some (v, hp', chg, ob) → (∀ x, ob = some x → x = true) → Runs Try.prog 28 vs hp v hp' chg := by
  intro vs hp v hp' chg ob h _
  unfold m28 at h
  split at h
  · rename_i r a b c d x y
    split at h
    · rename_i t cs hs hr
      split at h
      · rename_i ws hws hlen
        split at h
        · rename_i hp1 hset
          cases h
          have e := unC64_is hws
          subst e
          have hl : ws.length = 16 := by rw [← lenC_toC]; exact Nat.eq_of_beq_eq_true hlen
          obtain ⟨rfl, hlt⟩ := regSet_eq _ _ _ _ hset
          rw [regAt_eq] at hr
          have hf := map_at (f28 t (nthW ws) x y) (memSpot_is hs)
          simp only [mixL, mixR] at hf
          rw [← eq_lst hl] at hf
          have hrun := runs_of_call fol known1 hf AllT.nil
          have := Runs.block (ws := toC ws) (ws' := toC (gL s3 ws a b c d x y)) (tl := []) (tl2 := []) (more := []) (hp := hp) (r := r) (by simpa using hrun) .none rfl rfl (toC_plain _) (toC_plain _) (by simpa using hr)
          simpa using this
        · cases h
      · cases h
    · cases h
  · cases h

/-! the reference -/
theorem r46 (x : BitVec 64) (n : Nat) (h : n < 64) (hp : List Reg) : Runs Try.prog 46 [.one (.w64 x), .one (.it n)] hp (.one (.w64 (bif Nat.beq n 0 then x else rotl x n))) hp false := by
  cases n with
  | zero => exact (runs_of_call fol known_none (f46z x) AllT.nil).plain rfl rfl hp
  | succ n =>
    have hf := map_at (f46s x) (a := n + 1) (by simp; omega)
    exact (runs_of_call fol known_none hf AllT.nil).plain rfl rfl hp
noncomputable def m46 (vs : List V) (hp : List Reg) : Option (V × List Reg × Bool × Option Bool) :=
  match vs with
  | [.one (.w64 x), .one (.it n)] => match Nat.blt n 64 with
    | true => match Nat.beq n 0 with
      | true => some (.one (.w64 x), hp, false, none)
      | false => some (.one (.w64 (rotl x n)), hp, false, none)
    | false => none
  | _ => none
theorem k46 : ∀ vs hp v hp' chg ob, m46 vs hp = some (v, hp', chg, ob) → (∀ x, ob = some x → x = true) → Runs Try.prog 46 vs hp v hp' chg := by
  intro vs hp v hp' chg ob h _
  unfold m46 at h
  split at h
  · rename_i x n
    split at h
    · rename_i hn
      have := r46 x n (Nat.le_of_ble_eq_true hn) hp
      split at h
      · rename_i h0
        cases h
        rwa [h0] at this
      · rename_i h0
        cases h
        rwa [h0] at this
    · cases h
  · cases h

noncomputable def M2 : Kn := addK M1 46 m46
theorem known2 : Known Try.prog M2 := known_add known1 k46

noncomputable def stirL (v : Nat → W) (x y : W) (s : Nat × Nat × Nat × Nat) : Res :=
  call0 M2 31 [.ag (toC (lst v 0 16)), .one (.it s.1), .one (.it s.2.1), .one (.it s.2.2.1), .one (.it s.2.2.2), .one (.w64 x), .one (.w64 y)] []
def bareV (r : Res) : Option V := match r with
  | some (v, _, _, [], _) => some v
  | _ => none
def stirR (v : Nat → W) (x y : W) (s : Nat × Nat × Nat × Nat) : Option V :=
  some (.ag (toC (gL s3' (lst v 0 16) s.1 s.2.1 s.2.2.1 s.2.2.2 x y)))
theorem f31 (v : Nat → W) (x y : W) : spots.map (fun s => bareV (stirL v x y s)) = spots.map (stirR v x y) := by kernel_rfl

theorem runs_of_bare {M : Kn} (hM : Known Try.prog M) {f : FuncId} {vs : List V} {v : V} (h : bareV (call0 M f vs []) = some v) (hv : plainV vs = true) (hr : v.plain = true) (hp : List Reg) : Runs Try.prog f vs hp v hp false := by
  unfold bareV at h
  split at h
  · rename_i v1 hp1 c1 ds1 hc
    cases h
    exact (runs_of_call fol hM hc AllT.nil).plain hv hr hp
  · cases h

noncomputable def m31 (vs : List V) (hp : List Reg) : Option (V × List Reg × Bool × Option Bool) :=
  match vs with
  | [.ag cs, .one (.it a), .one (.it b), .one (.it c), .one (.it d), .one (.w64 x), .one (.w64 y)] => match memSpot a b c d spots, unC64 cs, Nat.beq (lenC cs) 16 with
    | true, some ws, true => some (.ag (toC (gL s3 ws a b c d x y)), hp, false, none)
    | _, _, _ => none
  | _ => none
theorem k31 : ∀ vs hp v hp' chg ob, m31 vs hp = some (v, hp', chg, ob) → (∀ x, ob = some x → x = true) → Runs Try.prog 31 vs hp v hp' chg := by
  intro vs hp v hp' chg ob h _
  unfold m31 at h
  split at h
  · rename_i cs a b c d x y
    split at h
    · rename_i ws hs hws hlen
      cases h
      have e := unC64_is hws
      subst e
      have hl : ws.length = 16 := by rw [← lenC_toC]; exact Nat.eq_of_beq_eq_true hlen
      have hf := map_at (f31 (nthW ws) x y) (memSpot_is hs)
      simp only [stirL, stirR] at hf
      rw [← eq_lst hl, s3_eq] at hf
      have hpl : plainV [.ag (toC ws), .one (.it a), .one (.it b), .one (.it c), .one (.it d), .one (.w64 x), .one (.w64 y)] = true := by
        simp only [plainV, V.plain, C.plain, toC_plain]
      exact runs_of_bare known2 hf hpl (by simp only [V.plain, toC_plain]) hp
    · cases h
  · cases h
end Go.Proofs.Sx
