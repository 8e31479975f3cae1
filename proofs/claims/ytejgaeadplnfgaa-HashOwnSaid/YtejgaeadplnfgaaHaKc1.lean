/- Keccak-256, by the program: a block is taken in. -/
import Derived.Test.YtejgaeadplnfgaaHaLoc
import Derived.Test.YtejgaeadplnfgaaHaShaM
namespace Go.Proofs.Sx
open Go
set_option linter.unusedVariables false
def zer25 : List W := [0#64, 0#64, 0#64, 0#64, 0#64, 0#64, 0#64, 0#64, 0#64, 0#64, 0#64, 0#64, 0#64, 0#64, 0#64, 0#64, 0#64, 0#64, 0#64, 0#64, 0#64, 0#64, 0#64, 0#64, 0#64]
def xorK (β : Nat → W) (ws : List W) (j : Nat) : List W := putW (j / 8) (nthW ws (j / 8) ^^^ (β j <<< (j % 8 * 8))) ws
def xorsK (β : Nat → W) (ws : List W) : Nat → List W
  | 0 => ws
  | j + 1 => xorK β (xorsK β ws j) j
def absK (ws : List W) (β : Nat → W) : List W := permK (xorsK β ws 136)
theorem xorsK_len (β : Nat → W) {ws : List W} (h : ws.length = 25) : ∀ j, (xorsK β ws j).length = 25
  | 0 => h
  | j + 1 => by simp [xorsK, xorK, putW_len, xorsK_len β h j]
theorem permK_len {ws : List W} (h : ws.length = 25) : (permK ws).length = 25 := afterK_len h 24
theorem absK_len (β : Nat → W) {ws : List W} (h : ws.length = 25) : (absK ws β).length = 25 := permK_len (xorsK_len β h 136)
theorem xorsK_ext {β γ : Nat → W} (ws : List W) : ∀ {n : Nat}, (∀ j, j < n → β j = γ j) → xorsK β ws n = xorsK γ ws n
  | 0, _ => rfl
  | n + 1, h => by
    show xorK _ _ _ = xorK _ _ _
    rw [xorsK_ext ws (n := n) fun j hj => h j (by omega)]
    unfold xorK
    rw [h n (by omega)]
theorem absK_ext {β γ : Nat → W} (ws : List W) (h : ∀ j, j < 136 → β j = γ j) : absK ws β = absK ws γ := by
  unfold absK
  rw [xorsK_ext ws h]
def byteP (b : By) (i j : Nat) : W := BitVec.setWidth 64 (b.getD (i + j) 0#8)
def byteO (x : By) (j : Nat) : W := BitVec.setWidth 64 (nthB8 x j)

/-- the permutation, wherever the lanes lie -/
noncomputable def permT : Tab := fun vs hp =>
  match vs with
  | [.one (.pt r 0)] => match regAt r hp with
    | some (.own t cs) => match splitW 25 cs with
      | some (ws, tl) => match tailOf tl with
        | some _ => match regSet r (.own t (toC (lst (nthW (permK ws)) 0 25) ++ tl)) hp with
          | some hp' => some (.un, hp', true, none)
          | none => none
        | none => none
      | none => none
    | _ => none
  | _ => none
theorem kperm : Tells Try.prog 47 permT := by
  intro vs hp v hp' chg ob h _
  unfold permT at h
  split at h
  · rename_i r
    split at h
    · rename_i t cs hr
      split at h
      · rename_i ws tl hs
        split at h
        · rename_i tl2 ht
          obtain ⟨rfl, hl⟩ := splitW_is hs
          split at h
          · rename_i hp1 hset
            cases h
            obtain ⟨rfl, hlt⟩ := regSet_eq _ _ _ _ hset
            rw [regAt_eq] at hr
            rw [← eq_lst (permK_len hl)]
            have hrun := runs47 t ws hl tl2 (tailOf_mem ht)
            exact Runs.block (more := []) hrun (tailOf_is ht) rfl rfl (toC_plain _) (toC_plain _) hr
          · cases h
        · cases h
      · cases h
    · cases h
  · cases h
noncomputable def Mk : Kn := addK M0 47 permT
theorem knownk : Known Try.prog Mk := known_add known_none kperm
def ak : List (Nat × Bool) := [(0, false), (6, false), (7, false), (8, false)]
section
variable (b : By) (a : Nat → W) (i bd : Nat) (t : TypeId)
noncomputable def aInA (ws : List W) : St := ⟨tmOf [.one (.pt 0 0), .one (.vl 1 i 136)] 0 (T.full 8), [.own t (toC ws ++ [.dy 1]), .rd b bd], false, 31, 2, [], []⟩
noncomputable def aSA (ws : List W) (j : Nat) : St := ⟨slots [(0, .one (.pt 0 0)), (6, .one (.vl 1 i 136)), (7, .one (.it 136)), (8, .one (.it j))], [.own t (toC ws ++ [.dy 1]), .rd b bd], true, 31, 2, [], []⟩
theorem k32aA : sxp Mk (takeC 1 (rowOf Try.prog 32)) 2 [0, 1] ak (aInA b i bd t (lst a 0 25)) = some (.normal, aSA b i bd t (lst a 0 25) 0, []) := by kernel_rfl
theorem k32rA : (List.range' 0 136).map (fun j => sxp Mk [inLoop (nthC (rowOf Try.prog 32) 1)] 2 [0, 1] ak (aSA b i bd t (lst a 0 25) j)) =
    (List.range' 0 136).map (fun j => some (.normal, aSA b i bd t (xorK (byteP b i) (lst a 0 25) j) (j + 1), [true])) := by kernel_rfl
theorem k32xA : sxp Mk [inLoop (nthC (rowOf Try.prog 32) 1)] 2 [0, 1] ak (aSA b i bd t (lst a 0 25) 136) = some (.exit (blkN (nthC (rowOf Try.prog 32) 1)), aSA b i bd t (lst a 0 25) 136, []) := by kernel_rfl
noncomputable def aZA (ws : List W) : St := ⟨slots [], [.own t (toC ws ++ [.dy 1]), .rd b bd], true, 31, 2, [], []⟩
theorem k32zA : sxp Mk (dropC 2 (rowOf Try.prog 32)) 2 [0, 1] [] (aSA b i bd t (lst a 0 25) 136) = some (.normal, aZA b bd t (lst (nthW (permK (lst a 0 25))) 0 25), []) := by kernel_rfl
end
section
variable (b : By) (a : Nat → W) (i bd : Nat) (t : TypeId)
noncomputable def aInB (ws : List W) : St := ⟨tmOf [.one (.pt 0 0), .one (.vl 1 i 136)] 0 (T.full 8), [.own t (toC ws ++ [.dy 2]), .rd b bd, .dead], false, 31, 3, [], []⟩
noncomputable def aSB (ws : List W) (j : Nat) : St := ⟨slots [(0, .one (.pt 0 0)), (6, .one (.vl 1 i 136)), (7, .one (.it 136)), (8, .one (.it j))], [.own t (toC ws ++ [.dy 2]), .rd b bd, .dead], true, 31, 3, [], []⟩
theorem k32aB : sxp Mk (takeC 1 (rowOf Try.prog 32)) 3 [0, 1, 2] ak (aInB b i bd t (lst a 0 25)) = some (.normal, aSB b i bd t (lst a 0 25) 0, []) := by kernel_rfl
theorem k32rB : (List.range' 0 136).map (fun j => sxp Mk [inLoop (nthC (rowOf Try.prog 32) 1)] 3 [0, 1, 2] ak (aSB b i bd t (lst a 0 25) j)) =
    (List.range' 0 136).map (fun j => some (.normal, aSB b i bd t (xorK (byteP b i) (lst a 0 25) j) (j + 1), [true])) := by kernel_rfl
theorem k32xB : sxp Mk [inLoop (nthC (rowOf Try.prog 32) 1)] 3 [0, 1, 2] ak (aSB b i bd t (lst a 0 25) 136) = some (.exit (blkN (nthC (rowOf Try.prog 32) 1)), aSB b i bd t (lst a 0 25) 136, []) := by kernel_rfl
noncomputable def aZB (ws : List W) : St := ⟨slots [], [.own t (toC ws ++ [.dy 2]), .rd b bd, .dead], true, 31, 3, [], []⟩
theorem k32zB : sxp Mk (dropC 2 (rowOf Try.prog 32)) 3 [0, 1, 2] [] (aSB b i bd t (lst a 0 25) 136) = some (.normal, aZB b bd t (lst (nthW (permK (lst a 0 25))) 0 25), []) := by kernel_rfl
end
section
variable (a : Nat → W) (x : Nat → BitVec 8)
/-! a block of one's own -/
noncomputable def oIn (ws : List W) (x : By) : St := ⟨tmOf [.one (.pt 0 0), .one (.sl 1 0 136 136)] 0 (T.full 8), [.own 59 (toC ws), .own 77 (toC8 x)], false, 31, 2, [], []⟩
noncomputable def oS (ws : List W) (x : By) (j : Nat) : St := ⟨slots [(0, .one (.pt 0 0)), (6, .one (.sl 1 0 136 136)), (7, .one (.it 136)), (8, .one (.it j))], [.own 59 (toC ws), .own 77 (toC8 x)], true, 31, 2, [], []⟩
theorem o32a : sxp Mk (takeC 1 (rowOf Try.prog 32)) 2 [0, 1] ak (oIn (lst a 0 25) (lst8 x 0 136)) = some (.normal, oS (lst a 0 25) (lst8 x 0 136) 0, []) := by kernel_rfl
theorem o32r : (List.range' 0 136).map (fun j => sxp Mk [inLoop (nthC (rowOf Try.prog 32) 1)] 2 [0, 1] ak (oS (lst a 0 25) (lst8 x 0 136) j)) =
    (List.range' 0 136).map (fun j => some (.normal, oS (xorK (byteO (lst8 x 0 136)) (lst a 0 25) j) (lst8 x 0 136) (j + 1), [])) := by kernel_rfl
theorem o32x : sxp Mk [inLoop (nthC (rowOf Try.prog 32) 1)] 2 [0, 1] ak (oS (lst a 0 25) (lst8 x 0 136) 136) = some (.exit (blkN (nthC (rowOf Try.prog 32) 1)), oS (lst a 0 25) (lst8 x 0 136) 136, []) := by kernel_rfl
noncomputable def oZ (ws : List W) (x : By) : St := ⟨slots [], [.own 59 (toC ws), .own 77 (toC8 x)], true, 31, 2, [], []⟩
theorem o32z : sxp Mk (dropC 2 (rowOf Try.prog 32)) 2 [0, 1] [] (oS (lst a 0 25) (lst8 x 0 136) 136) = some (.normal, oZ (lst (nthW (permK (lst a 0 25))) 0 25) (lst8 x 0 136), []) := by kernel_rfl
end
theorem code32 : hasCode Try.prog 32 = true := by kernel_rfl
theorem tmps32 : Nat.beq (fnOf Try.prog 32).ntmps 31 = true := by kernel_rfl
theorem len32 : Nat.blt 1 (lenL (rowOf Try.prog 32)) = true := by kernel_rfl
theorem at32 : nthC (rowOf Try.prog 32) 1 = .block (blkN (nthC (rowOf Try.prog 32) 1)) (.loop (inLoop (nthC (rowOf Try.prog 32) 1))) := by kernel_rfl
theorem res32 : (fnOf Try.prog 32).results.toList = [] := by kernel_rfl
theorem runs32A (t : TypeId) (ws : List W) (hl : ws.length = 25) (b : By) (i bd : Nat) :
    Runs Try.prog 32 [.one (.pt 0 0), .one (.vl 1 i 136)] [.own t (toC ws ++ [.dy 1]), .rd b bd] .un [.own t (toC (absK ws (byteP b i)) ++ [.dy 1]), .rd b bd] true := by
  have eW := eq_lst hl
  have eX := fun j => eq_lst (xorsK_len (byteP b i) hl j)
  have A : DoesK Try.prog 2 (takeC 1 (rowOf Try.prog 32)) (aInA b i bd t ws) .normal (aSA b i bd t (xorsK (byteP b i) ws 0) 0) := by
    have f := k32aA b (nthW ws) i bd t
    simp only [← eW] at f
    exact sxp_is knownk f AllT.nil
  have R : ∀ j, j < 136 → DoesK Try.prog 2 [inLoop (nthC (rowOf Try.prog 32) 1)] (aSA b i bd t (xorsK (byteP b i) ws j) j) .normal (aSA b i bd t (xorsK (byteP b i) ws (j + 1)) (j + 1)) := by
    intro j hj
    have f := map_at (k32rA b (nthW (xorsK (byteP b i) ws j)) i bd t) (a := j) (by simp; omega)
    simp only [← eX] at f
    exact sxp_is knownk f (AllT.cons rfl AllT.nil)
  have X : DoesK Try.prog 2 [inLoop (nthC (rowOf Try.prog 32) 1)] (aSA b i bd t (xorsK (byteP b i) ws 136) 136) (.exit (blkN (nthC (rowOf Try.prog 32) 1))) (aSA b i bd t (xorsK (byteP b i) ws 136) 136) := by
    have f := k32xA b (nthW (xorsK (byteP b i) ws 136)) i bd t
    simp only [← eX] at f
    exact sxp_is knownk f AllT.nil
  have Z : DoesK Try.prog 2 (dropC 2 (rowOf Try.prog 32)) (aSA b i bd t (xorsK (byteP b i) ws 136) 136) .normal (aZA b bd t (absK ws (byteP b i))) := by
    have f := k32zA b (nthW (xorsK (byteP b i) ws 136)) i bd t
    simp only [← eX] at f
    rw [← eq_lst (permK_len (xorsK_len (byteP b i) hl 136))] at f
    exact sxp_is knownk f AllT.nil
  have all : DoesK Try.prog 2 (rowOf Try.prog 32) (aInA b i bd t ws) .normal (aZA b bd t (absK ws (byteP b i))) :=
    DoesK.three (N := 136) (s := fun j => aSA b i bd t (xorsK (byteP b i) ws j) j) (Nat.le_of_ble_eq_true len32) at32 A R X Z
  exact runsK_of (vs := [.one (.pt 0 0), .one (.vl 1 i 136)]) (hp := [.own t (toC ws ++ [C.dy 1]), .rd b bd]) code32 (.inl rfl) (n := 31) (by rw [Nat.eq_of_beq_eq_true tmps32]; rfl) all (by rw [res32]; rfl)
theorem runs32B (t : TypeId) (ws : List W) (hl : ws.length = 25) (b : By) (i bd : Nat) :
    Runs Try.prog 32 [.one (.pt 0 0), .one (.vl 1 i 136)] [.own t (toC ws ++ [.dy 2]), .rd b bd, .dead] .un [.own t (toC (absK ws (byteP b i)) ++ [.dy 2]), .rd b bd, .dead] true := by
  have eW := eq_lst hl
  have eX := fun j => eq_lst (xorsK_len (byteP b i) hl j)
  have A : DoesK Try.prog 3 (takeC 1 (rowOf Try.prog 32)) (aInB b i bd t ws) .normal (aSB b i bd t (xorsK (byteP b i) ws 0) 0) := by
    have f := k32aB b (nthW ws) i bd t
    simp only [← eW] at f
    exact sxp_is knownk f AllT.nil
  have R : ∀ j, j < 136 → DoesK Try.prog 3 [inLoop (nthC (rowOf Try.prog 32) 1)] (aSB b i bd t (xorsK (byteP b i) ws j) j) .normal (aSB b i bd t (xorsK (byteP b i) ws (j + 1)) (j + 1)) := by
    intro j hj
    have f := map_at (k32rB b (nthW (xorsK (byteP b i) ws j)) i bd t) (a := j) (by simp; omega)
    simp only [← eX] at f
    exact sxp_is knownk f (AllT.cons rfl AllT.nil)
  have X : DoesK Try.prog 3 [inLoop (nthC (rowOf Try.prog 32) 1)] (aSB b i bd t (xorsK (byteP b i) ws 136) 136) (.exit (blkN (nthC (rowOf Try.prog 32) 1))) (aSB b i bd t (xorsK (byteP b i) ws 136) 136) := by
    have f := k32xB b (nthW (xorsK (byteP b i) ws 136)) i bd t
    simp only [← eX] at f
    exact sxp_is knownk f AllT.nil
  have Z : DoesK Try.prog 3 (dropC 2 (rowOf Try.prog 32)) (aSB b i bd t (xorsK (byteP b i) ws 136) 136) .normal (aZB b bd t (absK ws (byteP b i))) := by
    have f := k32zB b (nthW (xorsK (byteP b i) ws 136)) i bd t
    simp only [← eX] at f
    rw [← eq_lst (permK_len (xorsK_len (byteP b i) hl 136))] at f
    exact sxp_is knownk f AllT.nil
  have all : DoesK Try.prog 3 (rowOf Try.prog 32) (aInB b i bd t ws) .normal (aZB b bd t (absK ws (byteP b i))) :=
    DoesK.three (N := 136) (s := fun j => aSB b i bd t (xorsK (byteP b i) ws j) j) (Nat.le_of_ble_eq_true len32) at32 A R X Z
  exact runsK_of (vs := [.one (.pt 0 0), .one (.vl 1 i 136)]) (hp := [.own t (toC ws ++ [C.dy 2]), .rd b bd, .dead]) code32 (.inl rfl) (n := 31) (by rw [Nat.eq_of_beq_eq_true tmps32]; rfl) all (by rw [res32]; rfl)
theorem runs32o (ws : List W) (hl : ws.length = 25) (x : By) (hx : x.length = 136) :
    Runs Try.prog 32 [.one (.pt 0 0), .one (.sl 1 0 136 136)] [.own 59 (toC ws), .own 77 (toC8 x)] .un [.own 59 (toC (absK ws (byteO x))), .own 77 (toC8 x)] true := by
  have eW := eq_lst hl
  have eB := eq_lst8 hx
  have eX := fun j => eq_lst (xorsK_len (byteO x) hl j)
  have A : DoesK Try.prog 2 (takeC 1 (rowOf Try.prog 32)) (oIn ws x) .normal (oS (xorsK (byteO x) ws 0) x 0) := by
    have f := o32a (nthW ws) (nthB8 x)
    simp only [← eW, ← eB] at f
    exact sxp_is knownk f AllT.nil
  have R : ∀ j, j < 136 → DoesK Try.prog 2 [inLoop (nthC (rowOf Try.prog 32) 1)] (oS (xorsK (byteO x) ws j) x j) .normal (oS (xorsK (byteO x) ws (j + 1)) x (j + 1)) := by
    intro j hj
    have f := map_at (o32r (nthW (xorsK (byteO x) ws j)) (nthB8 x)) (a := j) (by simp; omega)
    simp only [← eX, ← eB] at f
    exact sxp_is knownk f AllT.nil
  have X : DoesK Try.prog 2 [inLoop (nthC (rowOf Try.prog 32) 1)] (oS (xorsK (byteO x) ws 136) x 136) (.exit (blkN (nthC (rowOf Try.prog 32) 1))) (oS (xorsK (byteO x) ws 136) x 136) := by
    have f := o32x (nthW (xorsK (byteO x) ws 136)) (nthB8 x)
    simp only [← eX, ← eB] at f
    exact sxp_is knownk f AllT.nil
  have Z : DoesK Try.prog 2 (dropC 2 (rowOf Try.prog 32)) (oS (xorsK (byteO x) ws 136) x 136) .normal (oZ (absK ws (byteO x)) x) := by
    have f := o32z (nthW (xorsK (byteO x) ws 136)) (nthB8 x)
    simp only [← eX, ← eB] at f
    rw [← eq_lst (permK_len (xorsK_len (byteO x) hl 136))] at f
    exact sxp_is knownk f AllT.nil
  have all : DoesK Try.prog 2 (rowOf Try.prog 32) (oIn ws x) .normal (oZ (absK ws (byteO x)) x) :=
    DoesK.three (N := 136) (s := fun j => oS (xorsK (byteO x) ws j) x j) (Nat.le_of_ble_eq_true len32) at32 A R X Z
  exact runsK_of (hp := [.own 59 (toC ws), .own 77 (toC8 x)]) code32 (.inl rfl) (n := 31) (by rw [Nat.eq_of_beq_eq_true tmps32]; rfl) all (by rw [res32]; rfl)

/-! as a table -/
noncomputable def absL : Tab := fun vs hp =>
  match vs, hp with
  | [.one (.pt 0 0), .one (.vl 1 i 136)], [.own t cs, .rd b bd] => match splitW 25 cs with
    | some (ws, [.dy 1]) => some (.un, [.own t (toC (lst (nthW (absK ws (byteP b i))) 0 25) ++ [.dy 1]), .rd b bd], true, none)
    | _ => none
  | [.one (.pt 0 0), .one (.vl 1 i 136)], [.own t cs, .rd b bd, .dead] => match splitW 25 cs with
    | some (ws, [.dy 2]) => some (.un, [.own t (toC (lst (nthW (absK ws (byteP b i))) 0 25) ++ [.dy 2]), .rd b bd, .dead], true, none)
    | _ => none
  | [.one (.pt 0 0), .one (.sl 1 0 136 136)], [.own 59 cs, .own 77 cs2] => match splitW 25 cs, bytesC cs2, Nat.beq (lenC cs2) 136 with
    | some (ws, []), some x, true => some (.un, [.own 59 (toC (lst (nthW (absK ws (byteO x))) 0 25)), .own 77 (toC8 x)], true, none)
    | _, _, _ => none
  | _, _ => none
theorem bytesC_toC8 : ∀ {cs : List C} {x : By}, bytesC cs = some x → cs = toC8 x
  | [], x, h => by cases h; rfl
  | c :: cs, x, h => by
    cases c with
    | w8 y =>
      simp only [bytesC] at h
      split at h
      · rename_i l hl
        cases h
        rw [bytesC_toC8 hl]
        rfl
      · cases h
    | _ => cases h
theorem lenC_toC8 : ∀ l : By, lenC (toC8 l) = l.length
  | [] => rfl
  | _ :: l => by simp [toC8, lenC, lenC_toC8 l]
theorem kabs : Tells Try.prog 32 absL := by
  intro vs hp v hp' chg ob h _
  unfold absL at h
  split at h
  · split at h
    · rename_i ws hs
      obtain ⟨rfl, hl⟩ := splitW_is hs
      cases h
      rw [← eq_lst (absK_len _ hl)]
      exact runs32A _ ws hl _ _ _
    · cases h
  · split at h
    · rename_i ws hs
      obtain ⟨rfl, hl⟩ := splitW_is hs
      cases h
      rw [← eq_lst (absK_len _ hl)]
      exact runs32B _ ws hl _ _ _
    · cases h
  · split at h
    · rename_i ws x hs hb hl2
      obtain ⟨rfl, hl⟩ := splitW_is hs
      cases h
      have e := bytesC_toC8 hb
      subst e
      rw [lenC_toC8] at hl2
      rw [← eq_lst (absK_len _ hl)]
      have := runs32o ws hl x (Nat.eq_of_beq_eq_true hl2)
      simpa using this
    · cases h
  · cases h
/-- the last cell, if it is a slice of a region -/
def tailN : List C → Option Nat
  | [] => none
  | [.dy q] => some q
  | _ :: cs => tailN cs
/-- which regions it reaches -/
noncomputable def absPk (vs : List V) (hp : List Reg) : Option (List (Nat × Nat × Nat)) :=
  match vs with
  | [.one (.pt r _), .one (.vl r2 _ _)] => match regAt r hp with
    | some (.own _ cs) => match tailN cs with
      | some q => match Nat.beq q r2 with
        | true => some [(r, 0, 0), (r2, 5, 0)]
        | false => some [(r, 0, 0), (r2, 5, 0), (q, 3, 0)]
      | none => none
    | _ => none
  | [.one (.pt r _), .one (.sl r2 _ _ _)] => some [(r, 0, 0), (r2, 0, 0)]
  | _ => none
noncomputable def absT : Tab := locT absPk absL
theorem kabsT : Tells Try.prog 32 absT := locT_tells kabs
end Go.Proofs.Sx
