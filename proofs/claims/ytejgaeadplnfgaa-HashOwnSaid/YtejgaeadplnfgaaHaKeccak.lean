/- Keccak: what the permutation's steps do to the lanes. -/
import Derived.Test.YtejgaeadplnfgaaHaBlake
import Derived.Test.YtejgaeadplnfgaaSxFun
namespace Go.Proofs.Sx
open Go

/-! the permutation, plainly -/
def colK (a : List W) (x : Nat) : W := 0#64 ^^^ nthW a x ^^^ nthW a (x + 5) ^^^ nthW a (x + 10) ^^^ nthW a (x + 15) ^^^ nthW a (x + 20)
def thetaL (a : List W) : List W := lst (fun i => nthW a i ^^^ (colK a ((i % 5 + 4) % 5) ^^^ rotl (colK a ((i % 5 + 1) % 5)) 1)) 0 25
def turnL (a : List W) : List W :=
  [nthW a 0, rotl (nthW a 6) 44, rotl (nthW a 12) 43, rotl (nthW a 18) 21, rotl (nthW a 24) 14, rotl (nthW a 3) 28, rotl (nthW a 9) 20, rotl (nthW a 10) 3, rotl (nthW a 16) 45, rotl (nthW a 22) 61, rotl (nthW a 1) 1, rotl (nthW a 7) 6, rotl (nthW a 13) 25, rotl (nthW a 19) 8, rotl (nthW a 20) 18, rotl (nthW a 4) 27, rotl (nthW a 5) 36, rotl (nthW a 11) 10, rotl (nthW a 17) 15, rotl (nthW a 23) 56, rotl (nthW a 2) 62, rotl (nthW a 8) 55, rotl (nthW a 14) 39, rotl (nthW a 15) 41, rotl (nthW a 21) 2]
def chiL (a : List W) : List W := lst (fun i => nthW a i ^^^ (~~~(nthW a (i / 5 * 5 + (i % 5 + 1) % 5)) &&& nthW a (i / 5 * 5 + (i % 5 + 2) % 5))) 0 25
def rcL : List W := [1#64, 32898#64, 9223372036854808714#64, 9223372039002292224#64, 32907#64, 2147483649#64, 9223372039002292353#64, 9223372036854808585#64, 138#64, 136#64, 2147516425#64, 2147483658#64, 2147516555#64, 9223372036854775947#64, 9223372036854808713#64, 9223372036854808579#64, 9223372036854808578#64, 9223372036854775936#64, 32778#64, 9223372039002259466#64, 9223372039002292353#64, 9223372036854808704#64, 2147483649#64, 9223372039002292232#64]
def roundK (a : List W) (i : Nat) : List W := putW 0 (nthW (chiL (turnL (thetaL a))) 0 ^^^ nthW rcL i) (chiL (turnL (thetaL a)))
def afterK (a : List W) : Nat → List W
  | 0 => a
  | i + 1 => roundK (afterK a i) i
def permK (a : List W) : List W := afterK a 24

theorem lst_len (f : Nat → W) : ∀ (n i : Nat), (lst f i n).length = n
  | 0, _ => rfl
  | n + 1, _ => by simp [lst, lst_len f n]
theorem thetaL_len (a : List W) : (thetaL a).length = 25 := lst_len _ _ _
theorem turnL_len (a : List W) : (turnL a).length = 25 := rfl
theorem chiL_len (a : List W) : (chiL a).length = 25 := lst_len _ _ _
theorem roundK_len (a : List W) (i : Nat) : (roundK a i).length = 25 := by rw [roundK, putW_len, chiL_len]
theorem afterK_len {a : List W} (h : a.length = 25) : ∀ i, (afterK a i).length = 25
  | 0 => h
  | _ + 1 => roundK_len _ _

/-! a block of words, and what may lie behind it -/
def splitW : Nat → List C → Option (List W × List C)
  | 0, cs => some ([], cs)
  | n + 1, .w64 x :: cs => match splitW n cs with
    | some (ws, tl) => some (x :: ws, tl)
    | none => none
  | _, _ => none
theorem splitW_is : ∀ {n : Nat} {cs : List C} {ws : List W} {tl : List C}, splitW n cs = some (ws, tl) → cs = toC ws ++ tl ∧ ws.length = n
  | 0, cs, ws, tl, h => by cases h; exact ⟨rfl, rfl⟩
  | n + 1, [], ws, tl, h => by cases h
  | n + 1, c :: cs, ws, tl, h => by
    cases c with
    | w64 x =>
      simp only [splitW] at h
      split at h
      · rename_i ws1 tl1 h1
        cases h
        obtain ⟨h2, h3⟩ := splitW_is h1
        exact ⟨by rw [h2]; rfl, by simp [h3]⟩
      · cases h
    | _ => cases h

def tailOf : List C → Option (List C)
  | [] => some []
  | [.nl] => some [.nl]
  | [.dy _] => some [.dy 1]
  | _ => none
theorem tailOf_is {tl tl2 : List C} (h : tailOf tl = some tl2) : Tail2 tl2 tl := by
  unfold tailOf at h
  split at h
  · cases h; exact .none
  · cases h; exact .nl
  · cases h; exact .dy _
  · cases h
def tails : List (List C) := [[], [.nl], [.dy 1]]
theorem tailOf_mem {tl tl2 : List C} (h : tailOf tl = some tl2) : tl2 ∈ tails := by
  unfold tailOf at h
  split at h <;> cases h <;> simp [tails]

/-- The first region, where the second is nobody's. -/
def headR (r : Res) : Option (V × Reg) :=
  match r with
  | some (v, R :: .dead :: _, _, [], _) => some (v, R)
  | _ => none

/-- A function that turns the 25 words at which it is shown. -/
noncomputable def blockK (g : List W → List W) (vs : List V) (hp : List Reg) : Option (V × List Reg × Bool × Option Bool) :=
  match vs with
  | [.one (.pt r 0)] => match regAt r hp with
    | some (.own t cs) => match splitW 25 cs with
      | some (ws, tl) => match tailOf tl with
        | some _ => match regSet r (.own t (toC (g ws) ++ tl)) hp with
          | some hp' => some (.un, hp', true, none)
          | none => none
        | none => none
      | none => none
    | _ => none
  | _ => none

theorem kblock {M : Kn} (hM : Known Try.prog M) {f : FuncId} {g : List W → List W}
    (hf : ∀ (t : TypeId) (a : Nat → W) (tl : List C), tl ∈ tails → headR (call0 M f [.one (.pt 0 0)] [.own t (toC (lst a 0 25) ++ tl), .dead]) = some (.un, .own t (toC (g (lst a 0 25)) ++ tl))) :
    ∀ vs hp v hp' chg ob, blockK g vs hp = some (v, hp', chg, ob) → (∀ x, ob = some x → x = true) → Runs Try.prog f vs hp v hp' chg := by
  intro vs hp v hp' chg ob h _
  unfold blockK at h
  split at h
  · rename_i r
    split at h
    · rename_i t cs hr
      split at h
      · rename_i ws tl hs
        split at h
        · rename_i tl2 ht
          split at h
          · rename_i hp1 hset
            cases h
            obtain ⟨rfl, hl⟩ := splitW_is hs
            obtain ⟨rfl, hlt⟩ := regSet_eq _ _ _ _ hset
            rw [regAt_eq] at hr
            have h1 := hf t (nthW ws) tl2 (tailOf_mem ht)
            rw [← eq_lst hl] at h1
            unfold headR at h1
            split at h1
            · rename_i v1 R1 more c1 ds1 hc
              cases h1
              have hrun := runs_of_call fol hM hc AllT.nil
              exact Runs.block hrun (tailOf_is ht) rfl rfl (toC_plain _) (toC_plain _) hr
            · cases h1
          · cases h
        · cases h
      · cases h
    · cases h
  · cases h

noncomputable def inK (M : Kn) (f : FuncId) (t : TypeId) (a : Nat → W) (tl : List C) : Option (V × Reg) := headR (call0 M f [.one (.pt 0 0)] [.own t (toC (lst a 0 25) ++ tl), .dead])
def outK (g : List W → List W) (t : TypeId) (a : Nat → W) (tl : List C) : Option (V × Reg) := some (.un, .own t (toC (g (lst a 0 25)) ++ tl))
theorem f53 (t : TypeId) (a : Nat → W) : tails.map (inK M1 53 t a) = tails.map (outK thetaL t a) := by kernel_rfl
theorem f54 (t : TypeId) (a : Nat → W) : tails.map (inK M1 54 t a) = tails.map (outK turnL t a) := by kernel_rfl
theorem f55 (t : TypeId) (a : Nat → W) : tails.map (inK M1 55 t a) = tails.map (outK chiL t a) := by kernel_rfl
theorem k53 : ∀ vs hp v hp' chg ob, blockK thetaL vs hp = some (v, hp', chg, ob) → (∀ x, ob = some x → x = true) → Runs Try.prog 53 vs hp v hp' chg :=
  kblock known1 fun t a _ h => map_at (f53 t a) h
theorem k54 : ∀ vs hp v hp' chg ob, blockK turnL vs hp = some (v, hp', chg, ob) → (∀ x, ob = some x → x = true) → Runs Try.prog 54 vs hp v hp' chg :=
  kblock known1 fun t a _ h => map_at (f54 t a) h
theorem k55 : ∀ vs hp v hp' chg ob, blockK chiL vs hp = some (v, hp', chg, ob) → (∀ x, ob = some x → x = true) → Runs Try.prog 55 vs hp v hp' chg :=
  kblock known1 fun t a _ h => map_at (f55 t a) h
theorem f52 : bareV (call0 M1 52 [] []) = some (.ag (toC rcL)) := by kernel_rfl
end Go.Proofs.Sx
