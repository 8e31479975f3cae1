/- Keccak-256, by the reference: what it hands back: the same as the program. -/
import Derived.Test.YtejgaeadplnfgaaHaKr1
namespace Go.Proofs.Sx
open Go
set_option linter.unusedVariables false
noncomputable def permV : Tab := fun vs hp =>
  match vs with
  | [.ag cs] => match splitW 25 cs with
    | some (ws, []) => some (.ag (toC (lst (nthW (permK ws)) 0 25)), hp, false, none)
    | _ => none
  | _ => none
theorem kpermV : Tells Try.prog 33 permV := by
  intro vs hp v hp' chg ob h _
  unfold permV at h
  split at h
  · split at h
    · rename_i ws hs
      obtain ⟨rfl, hl⟩ := splitW_is hs
      cases h
      rw [← eq_lst (permK_len hl)]
      have := runs33 ws hl hp
      simpa using this
    · cases h
  · cases h
noncomputable def Mv : Kn := addK M0 33 permV
theorem knownv : Known Try.prog Mv := known_add known_none kpermV
def pk0 (b : By) : By := (b.drop 0).take b.length ++ [1#8]
def neZ (x : By) : Bool := !(Nat.beq (x.length % 136) 0)
def setL (x : By) : By := x.set (0 + (x.length - 1)) (x.getD (0 + (x.length - 1)) 0#8 ||| 128#8)
def byteR (p : By) (i j : Nat) : W := BitVec.setWidth 64 (p.getD (0 + (i + j)) 0#8)
noncomputable def s16 : List Code := spine (inLoop (nthC (rowOf Try.prog 16) 6))
noncomputable def s16i : List Code := spine (inBlk (nthC s16 2))
section
variable (b x p : By) (a : Nat → W) (o : Nat → BitVec 8) (i bd : Nat)
noncomputable def xIn : St := ⟨tmOf [.one (.dy 0)] 0 (T.full 8), [.rd b 16384], false, 80, 1, [], []⟩
noncomputable def xS (x : By) (bd : Nat) (ds : List Bool) : St := ⟨slots [(2, .one (.pt 1 0)), (3, .one (.dy 2))], [.rd b 16384, .own 33 (toC8 zer32), .dyn 5 x bd], true, 80, 1, [], ds⟩
def xk : List (Nat × Bool) := [(2, false), (3, false)]
theorem k16a : sxp Mv (takeC 2 (rowOf Try.prog 16)) 1 [0, 1, 5] xk (xIn b) = some (.normal, xS b (pk0 b) 16385 [], []) := by kernel_rfl
theorem k16r : sxp Mv [inLoop (nthC (rowOf Try.prog 16) 2)] 1 [0, 1, 4] xk (xS b x 16600 [true]) = some (.normal, xS b (x ++ [0#8]) 16601 [], [neZ x, true]) := by kernel_rfl
theorem k16x : sxp Mv [inLoop (nthC (rowOf Try.prog 16) 2)] 1 [0, 1, 2] xk (xS b x 16600 [false]) = some (.exit (blkN (nthC (rowOf Try.prog 16) 2)), xS b x 16600 [], [!(neZ x), true]) := by kernel_rfl
theorem k16s : sxp Mv (takeC 1 (dropC 3 (rowOf Try.prog 16))) 1 [0, 1, 2] xk (xS b x 16600 []) = some (.normal, xS b (setL x) 16600 [], [Nat.blt (x.length - 1) x.length, Nat.blt (x.length - 1) x.length, Nat.ble 1 x.length, Nat.ble 1 x.length]) := by kernel_rfl
noncomputable def xB (p : By) (ws : List W) (i : Nat) (ds : List Bool) : St := ⟨slots [(2, .one (.pt 1 0)), (3, .one (.dy 2)), (4, .one (.pt 3 0)), (5, .one (.sy i))], [.rd b 16384, .own 33 (toC8 zer32), .dyn 5 p 16600, .own 58 (toC ws)], true, 80, 1, [], ds⟩
def xk5 : List (Nat × Bool) := [(2, false), (3, false), (4, false), (5, true)]
theorem k16b : sxp Mv (takeC 2 (dropC 4 (rowOf Try.prog 16))) 1 [0, 1, 2, 3] xk5 (xS b p 16600 []) = some (.normal, xB b p zer25 0 [], []) := by kernel_rfl
theorem k16c : sxp Mv (takeC 2 s16) 1 [0, 1, 2, 3] xk5 (xB b p (lst a 0 25) i [true]) = some (.normal, xB b p (lst a 0 25) i [], [Nat.blt i p.length]) := by kernel_rfl
theorem k16y : sxp Mv (takeC 2 s16) 1 [0, 1, 2, 3] xk5 (xB b p (lst a 0 25) i [false]) = some (.exit (blkN (nthC (rowOf Try.prog 16) 6)), xB b p (lst a 0 25) i [], [!(Nat.blt i p.length)]) := by kernel_rfl
noncomputable def xX (p : By) (ws : List W) (i j : Nat) : St := ⟨slots [(2, .one (.pt 1 0)), (3, .one (.dy 2)), (4, .one (.pt 3 0)), (5, .one (.sy i)), (6, .one (.it j))], [.rd b 16384, .own 33 (toC8 zer32), .dyn 5 p 16600, .own 58 (toC ws)], true, 80, 1, [], []⟩
def xk6 : List (Nat × Bool) := [(2, false), (3, false), (4, false), (5, true), (6, false)]
theorem k16d : sxp Mv (takeC 1 s16i) 1 [0, 1, 2, 3] xk6 (xB b p (lst a 0 25) i []) = some (.normal, xX b p (lst a 0 25) i 0, []) := by kernel_rfl
theorem k16w : (List.range' 0 136).map (fun j => sxp Mv [inLoop (nthC s16i 1)] 1 [0, 1, 2, 3] xk6 (xX b p (lst a 0 25) i j)) =
    (List.range' 0 136).map (fun j => some (.normal, xX b p (xorK (byteR p i) (lst a 0 25) j) i (j + 1), [Nat.blt (i + j) p.length, Nat.ble (i + j) 9223372036854775807])) := by kernel_rfl
theorem k16e : sxp Mv [inLoop (nthC s16i 1)] 1 [0, 1, 2, 3] xk6 (xX b p (lst a 0 25) i 136) = some (.exit (blkN (nthC s16i 1)), xX b p (lst a 0 25) i 136, []) := by kernel_rfl
theorem k16p : sxp Mv (dropC 2 s16i) 1 [0, 1, 2, 3] xk5 (xX b p (lst a 0 25) i 136) = some (.normal, xB b p (lst (nthW (permK (lst a 0 25))) 0 25) i [], []) := by kernel_rfl
theorem k16f : sxp Mv (dropC 3 s16) 1 [0, 1, 2, 3] xk5 (xB b p (lst a 0 25) i []) = some (.normal, xB b p (lst a 0 25) (i + 136) [], [Nat.ble (i + 136) 9223372036854775807]) := by kernel_rfl
noncomputable def xO (ws : List W) (o : By) (j : Nat) : St := ⟨slots [(2, .one (.pt 1 0)), (4, .one (.pt 2 0)), (7, .one (.pt 3 0)), (8, .one (.it j))], [.rd b 16384, .own 33 (toC8 zer32), .own 58 (toC ws), .own 33 (toC8 o)], true, 80, 1, [], []⟩
def xk8 : List (Nat × Bool) := [(2, false), (4, false), (7, false), (8, false)]
theorem k16g : sxp Mv (takeC 2 (dropC 7 (rowOf Try.prog 16))) 1 [0, 1, 3, 4] xk8 (xB b p (lst a 0 25) i []) = some (.normal, xO b (lst a 0 25) zer32 0, []) := by kernel_rfl
theorem k16o : (List.range' 0 32).map (fun j => sxp Mv [inLoop (nthC (rowOf Try.prog 16) 9)] 1 [0, 1, 2, 3] xk8 (xO b (lst a 0 25) (lst8 o 0 32) j)) =
    (List.range' 0 32).map (fun j => some (.normal, xO b (lst a 0 25) (outJ (lst a 0 25) (lst8 o 0 32) j) (j + 1), [])) := by kernel_rfl
theorem k16h : sxp Mv [inLoop (nthC (rowOf Try.prog 16) 9)] 1 [0, 1, 2, 3] xk8 (xO b (lst a 0 25) (lst8 o 0 32) 32) = some (.exit (blkN (nthC (rowOf Try.prog 16) 9)), xO b (lst a 0 25) (lst8 o 0 32) 32, []) := by kernel_rfl
noncomputable def xZ (o : By) : St := ⟨slots [(2, .one (.pt 1 0))], [.rd b 16384, .own 33 (toC8 o)], true, 80, 1, [], []⟩
theorem k16z : sxp Mv (dropC 10 (rowOf Try.prog 16)) 1 [0, 1] [(2, false)] (xO b (lst a 0 25) (lst8 o 0 32) 32) = some (.ret, xZ b (lst8 o 0 32), []) := by kernel_rfl
theorem k16v : resV Try.prog (fnOf Try.prog 16).results.toList (slots [(2, .one (.pt 1 0))]) [.rd b 16384, .own 33 (toC8 (lst8 o 0 32))] = some (.ag (toC8 (lst8 o 0 32))) := by kernel_rfl
end
theorem code16 : hasCode Try.prog 16 = true := by kernel_rfl
theorem tmps16 : Nat.beq (fnOf Try.prog 16).ntmps 80 = true := by kernel_rfl
theorem len16 : Nat.blt 2 (lenL (rowOf Try.prog 16)) = true := by kernel_rfl
theorem len16' : Nat.blt 2 (lenL (dropC 4 (rowOf Try.prog 16))) = true := by kernel_rfl
theorem len16'' : Nat.blt 2 (lenL (dropC 7 (rowOf Try.prog 16))) = true := by kernel_rfl
theorem len16s : Nat.blt 2 (lenL s16) = true := by kernel_rfl
theorem len16i : Nat.blt 1 (lenL s16i) = true := by kernel_rfl
theorem at16 : nthC (rowOf Try.prog 16) 2 = .block (blkN (nthC (rowOf Try.prog 16) 2)) (.loop (inLoop (nthC (rowOf Try.prog 16) 2))) := by kernel_rfl
theorem at16' : nthC (dropC 4 (rowOf Try.prog 16)) 2 = .block (blkN (nthC (rowOf Try.prog 16) 6)) (.loop (inLoop (nthC (rowOf Try.prog 16) 6))) := by kernel_rfl
theorem at16'' : nthC (dropC 7 (rowOf Try.prog 16)) 2 = .block (blkN (nthC (rowOf Try.prog 16) 9)) (.loop (inLoop (nthC (rowOf Try.prog 16) 9))) := by kernel_rfl
theorem at16s : nthC s16 2 = .block (blkN (nthC s16 2)) (inBlk (nthC s16 2)) := by kernel_rfl
theorem at16i : nthC s16i 1 = .block (blkN (nthC s16i 1)) (.loop (inLoop (nthC s16i 1))) := by kernel_rfl
theorem d16 : takeC 1 (dropC 3 (rowOf Try.prog 16)) ++ dropC 4 (rowOf Try.prog 16) = dropC 3 (rowOf Try.prog 16) := by kernel_rfl
theorem d16' : dropC 3 (dropC 4 (rowOf Try.prog 16)) = dropC 7 (rowOf Try.prog 16) := by kernel_rfl
theorem d16'' : dropC 3 (dropC 7 (rowOf Try.prog 16)) = dropC 10 (rowOf Try.prog 16) := by kernel_rfl
def zerosK (b : By) : Nat := (136 - (b.length + 1) % 136) % 136
def pkZ (b : By) (j : Nat) : By := pk0 b ++ List.replicate j 0#8
def padK (b : By) : By := setL (pkZ b (zerosK b))
def refG (b : By) : By := outsK (kF (padK b) 0 ((padK b).length / 136)) 32
theorem pk0_len (b : By) : (pk0 b).length = b.length + 1 := by simp [pk0]
theorem pkZ_len (b : By) (j : Nat) : (pkZ b j).length = b.length + 1 + j := by simp [pkZ, pk0_len]
theorem pkZ_succ (b : By) (i : Nat) : pkZ b i ++ [0#8] = pkZ b (i + 1) := by
  unfold pkZ
  rw [List.replicate_succ', List.append_assoc]
theorem padK_len (b : By) : (padK b).length = b.length + 1 + zerosK b := by simp [padK, setL, pkZ_len]
theorem zerosK_mod (b : By) : (b.length + 1 + zerosK b) % 136 = 0 := by unfold zerosK; omega
theorem zerosK_not (b : By) {j : Nat} (h : j < zerosK b) : (b.length + 1 + j) % 136 ≠ 0 := by unfold zerosK at h; omega
theorem zerosK_lt (b : By) : zerosK b < 136 := Nat.mod_lt _ (by decide)
section
variable (b p : By) (i : Nat) (hi : i + 136 ≤ p.length) (hp : p.length ≤ 16600)
include hi hp
theorem rk_body (ws : List W) (hl : ws.length = 25) : DoesK Try.prog 1 [inLoop (nthC (rowOf Try.prog 16) 6)] (xB b p ws i []) .normal (xB b p (absK ws (byteP p i)) (i + 136) []) := by
  have eW := eq_lst hl
  have eb : byteR p i = byteP p i := by
    funext j
    unfold byteR byteP
    rw [Nat.zero_add]
  have lX := xorsK_len (byteP p i) hl
  have eX := fun j => eq_lst (lX j)
  have C1 : DoesK Try.prog 1 (takeC 2 s16) (xB b p ws i []) .normal (xB b p ws i []) := by
    have f := k16c b p (nthW ws) i
    simp only [← eW] at f
    exact sxp_is knownv f (AllT.cons (Nat.ble_eq_true_of_le (by omega : i + 1 ≤ p.length)) AllT.nil)
  have A : DoesK Try.prog 1 (takeC 1 s16i) (xB b p ws i []) .normal (xX b p (xorsK (byteP p i) ws 0) i 0) := by
    have f := k16d b p (nthW ws) i
    simp only [← eW] at f
    exact sxp_is knownv f AllT.nil
  have R : ∀ j, j < 136 → DoesK Try.prog 1 [inLoop (nthC s16i 1)] (xX b p (xorsK (byteP p i) ws j) i j) .normal (xX b p (xorsK (byteP p i) ws (j + 1)) i (j + 1)) := by
    intro j hj
    have f := map_at (k16w b p (nthW (xorsK (byteP p i) ws j)) i) (a := j) (by simp; omega)
    simp only [← eX, eb] at f
    exact sxp_is knownv f (AllT.cons (Nat.ble_eq_true_of_le (by omega : i + j + 1 ≤ p.length)) (AllT.cons (Nat.ble_eq_true_of_le (by omega)) AllT.nil))
  have X : DoesK Try.prog 1 [inLoop (nthC s16i 1)] (xX b p (xorsK (byteP p i) ws 136) i 136) (.exit (blkN (nthC s16i 1))) (xX b p (xorsK (byteP p i) ws 136) i 136) := by
    have f := k16e b p (nthW (xorsK (byteP p i) ws 136)) i
    simp only [← eX] at f
    exact sxp_is knownv f AllT.nil
  have Z : DoesK Try.prog 1 (dropC 2 s16i) (xX b p (xorsK (byteP p i) ws 136) i 136) .normal (xB b p (absK ws (byteP p i)) i []) := by
    have f := k16p b p (nthW (xorsK (byteP p i) ws 136)) i
    simp only [← eX] at f
    rw [← eq_lst (permK_len (lX 136))] at f
    exact sxp_is knownv f AllT.nil
  have C2 : DoesK Try.prog 1 [nthC s16 2] (xB b p ws i []) .normal (xB b p (absK ws (byteP p i)) i []) := by
    rw [at16s]
    refine DoesK.block ?_
    show DoesK Try.prog 1 s16i _ _ _
    exact DoesK.three (N := 136) (s := fun j => xX b p (xorsK (byteP p i) ws j) i j) (Nat.le_of_ble_eq_true len16i) at16i A R X Z
  have C3 : DoesK Try.prog 1 (dropC 3 s16) (xB b p (absK ws (byteP p i)) i []) .normal (xB b p (absK ws (byteP p i)) (i + 136) []) := by
    have f := k16f b p (nthW (absK ws (byteP p i))) i
    simp only [← eq_lst (absK_len (byteP p i) hl)] at f
    exact sxp_is knownv f (AllT.cons (Nat.ble_eq_true_of_le (by omega)) AllT.nil)
  refine DoesK.ofSpine ?_
  show DoesK Try.prog 1 s16 _ _ _
  have hpp := parts3 2 s16 (Nat.le_of_ble_eq_true len16s)
  rw [← hpp]
  exact C1.append (DoesK.append (l := [nthC s16 2]) C2 C3)
end
theorem runs16 (b : By) (hb : b.length ≤ 16384) : ∃ hp1, Runs Try.prog 16 [.one (.dy 0)] [.rd b 16384] (.ag (toC8 (refG b))) hp1 true := by
  have hz := zerosK_lt b
  have hpl := padK_len b
  have hpm := zerosK_mod b
  have re1 : ∀ {l : List Code} {s : St} {e : Ex} {y : By} {bd : Nat}, y.length ≤ 16600 → DoesK Try.prog 1 l s e (xS b y bd []) → DoesK Try.prog 1 l s e (xS b y 16600 []) :=
    fun hy h => DoesK.rebd (r := 2) h rfl hy
  have A : DoesK Try.prog 1 (takeC 2 (rowOf Try.prog 16)) (xIn b) .normal (xS b (pkZ b 0) 16600 []) := by
    have h := sxp_is knownv (k16a b) AllT.nil
    have e0 : pkZ b 0 = pk0 b := by simp [pkZ]
    rw [e0]
    exact re1 (by rw [pk0_len]; omega) h
  have R : ∀ j, j < zerosK b → DoesK Try.prog 1 [inLoop (nthC (rowOf Try.prog 16) 2)] (xS b (pkZ b j) 16600 []) .normal (xS b (pkZ b (j + 1)) 16600 []) := by
    intro j hj
    have hne : neZ (pkZ b j) = true := by
      unfold neZ
      rw [pkZ_len]
      have := zerosK_not b hj
      cases hq : Nat.beq ((b.length + 1 + j) % 136) 0 with
      | false => rfl
      | true => exact absurd (Nat.eq_of_beq_eq_true hq) this
    have h := sxp_is knownv (k16r b (pkZ b j)) (AllT.cons hne (AllT.cons rfl AllT.nil))
    rw [← pkZ_succ]
    exact re1 (by rw [List.length_append, pkZ_len, List.length_singleton]; omega) h
  have X : DoesK Try.prog 1 [inLoop (nthC (rowOf Try.prog 16) 2)] (xS b (pkZ b (zerosK b)) 16600 []) (.exit (blkN (nthC (rowOf Try.prog 16) 2))) (xS b (pkZ b (zerosK b)) 16600 []) := by
    refine sxp_is knownv (k16x b (pkZ b (zerosK b))) (AllT.cons ?_ (AllT.cons rfl AllT.nil))
    unfold neZ
    rw [pkZ_len, zerosK_mod]
    rfl
  have S : DoesK Try.prog 1 (takeC 1 (dropC 3 (rowOf Try.prog 16))) (xS b (pkZ b (zerosK b)) 16600 []) .normal (xS b (padK b) 16600 []) := by
    have hp := pkZ_len b (zerosK b)
    have q1 : Nat.blt ((pkZ b (zerosK b)).length - 1) (pkZ b (zerosK b)).length = true := Nat.ble_eq_true_of_le (by omega)
    have q2 : Nat.ble 1 (pkZ b (zerosK b)).length = true := Nat.ble_eq_true_of_le (by omega)
    exact sxp_is knownv (k16s b (pkZ b (zerosK b))) (AllT.cons q1 (AllT.cons q1 (AllT.cons q2 (AllT.cons q2 AllT.nil))))
  generalize hP : padK b = p at hpl S
  have hple : p.length ≤ 16600 := by omega
  have hpm' : p.length % 136 = 0 := by omega
  have eK := fun k => eq_lst (kF_len p 0 k)
  have B1 : DoesK Try.prog 1 (takeC 2 (dropC 4 (rowOf Try.prog 16))) (xS b p 16600 []) .normal (xB b p (kF p 0 0) (136 * 0) []) := sxp_is knownv (k16b b p) AllT.nil
  have B2 : ∀ k, k < p.length / 136 → DoesK Try.prog 1 [inLoop (nthC (rowOf Try.prog 16) 6)] (xB b p (kF p 0 k) (136 * k) []) .normal (xB b p (kF p 0 (k + 1)) (136 * (k + 1)) []) := by
    intro k hk
    have := rk_body b p (136 * k) (by omega) hple (kF p 0 k) (kF_len p 0 k)
    have e : kF p 0 (k + 1) = absK (kF p 0 k) (byteP p (136 * k)) := by
      show absK _ (byteP p (0 + 136 * k)) = _
      rw [Nat.zero_add]
    rw [e]
    exact this
  have B3 : DoesK Try.prog 1 [inLoop (nthC (rowOf Try.prog 16) 6)] (xB b p (kF p 0 (p.length / 136)) (136 * (p.length / 136)) []) (.exit (blkN (nthC (rowOf Try.prog 16) 6))) (xB b p (kF p 0 (p.length / 136)) (136 * (p.length / 136)) []) := by
    have f := k16y b p (nthW (kF p 0 (p.length / 136))) (136 * (p.length / 136))
    simp only [← eK] at f
    have h0 : Nat.blt (136 * (p.length / 136)) p.length = false := by
      rw [show 136 * (p.length / 136) = p.length by omega]
      unfold Nat.blt
      cases hq : Nat.ble (p.length + 1) p.length with
      | false => rfl
      | true => have := Nat.le_of_ble_eq_true hq; omega
    refine DoesK.ofSpine ?_
    show DoesK Try.prog 1 s16 _ _ _
    have hpp := parts3 2 s16 (Nat.le_of_ble_eq_true len16s)
    rw [← hpp]
    exact DoesK.early _ (sxp_is knownv f (AllT.cons (by rw [h0]; rfl) AllT.nil))
  have O0 : DoesK Try.prog 1 (takeC 2 (dropC 7 (rowOf Try.prog 16))) (xB b p (kF p 0 (p.length / 136)) (136 * (p.length / 136)) []) .normal (xO b (kF p 0 (p.length / 136)) (outsK (kF p 0 (p.length / 136)) 0) 0) := by
    have f := k16g b p (nthW (kF p 0 (p.length / 136))) (136 * (p.length / 136))
    simp only [← eK] at f
    exact sxp_is knownv f AllT.nil
  have O1 : ∀ j, j < 32 → DoesK Try.prog 1 [inLoop (nthC (rowOf Try.prog 16) 9)] (xO b (kF p 0 (p.length / 136)) (outsK (kF p 0 (p.length / 136)) j) j) .normal (xO b (kF p 0 (p.length / 136)) (outsK (kF p 0 (p.length / 136)) (j + 1)) (j + 1)) := by
    intro j hj
    have f := map_at (k16o b (nthW (kF p 0 (p.length / 136))) (nthB8 (outsK (kF p 0 (p.length / 136)) j))) (a := j) (by simp; omega)
    simp only [← eK, ← eq_lst8 (outsK_len _ j)] at f
    exact sxp_is knownv f AllT.nil
  have O2 : DoesK Try.prog 1 [inLoop (nthC (rowOf Try.prog 16) 9)] (xO b (kF p 0 (p.length / 136)) (outsK (kF p 0 (p.length / 136)) 32) 32) (.exit (blkN (nthC (rowOf Try.prog 16) 9))) (xO b (kF p 0 (p.length / 136)) (outsK (kF p 0 (p.length / 136)) 32) 32) := by
    have f := k16h b (nthW (kF p 0 (p.length / 136))) (nthB8 (outsK (kF p 0 (p.length / 136)) 32))
    simp only [← eK, ← eq_lst8 (outsK_len _ 32)] at f
    exact sxp_is knownv f AllT.nil
  have O3 : DoesK Try.prog 1 (dropC 10 (rowOf Try.prog 16)) (xO b (kF p 0 (p.length / 136)) (outsK (kF p 0 (p.length / 136)) 32) 32) .ret (xZ b (outsK (kF p 0 (p.length / 136)) 32)) := by
    have f := k16z b (nthW (kF p 0 (p.length / 136))) (nthB8 (outsK (kF p 0 (p.length / 136)) 32))
    simp only [← eK, ← eq_lst8 (outsK_len _ 32)] at f
    exact sxp_is knownv f AllT.nil
  have T3 : DoesK Try.prog 1 (dropC 7 (rowOf Try.prog 16)) (xB b p (kF p 0 (p.length / 136)) (136 * (p.length / 136)) []) .ret (xZ b (outsK (kF p 0 (p.length / 136)) 32)) :=
    DoesK.three (N := 32) (s := fun j => xO b (kF p 0 (p.length / 136)) (outsK (kF p 0 (p.length / 136)) j) j) (Nat.le_of_ble_eq_true len16'') at16'' O0 O1 O2 (by rw [d16'']; exact O3)
  have T2 : DoesK Try.prog 1 (dropC 4 (rowOf Try.prog 16)) (xS b p 16600 []) .ret (xZ b (outsK (kF p 0 (p.length / 136)) 32)) :=
    DoesK.three (N := p.length / 136) (s := fun k => xB b p (kF p 0 k) (136 * k) []) (Nat.le_of_ble_eq_true len16') at16' B1 B2 B3 (by rw [d16']; exact T3)
  have all : DoesK Try.prog 1 (rowOf Try.prog 16) (xIn b) .ret (xZ b (outsK (kF p 0 (p.length / 136)) 32)) :=
    DoesK.three (N := zerosK b) (s := fun j => xS b (pkZ b j) 16600 []) (Nat.le_of_ble_eq_true len16) at16 A R X (by rw [← d16]; exact S.append T2)
  have hv := k16v b (nthB8 (outsK (kF p 0 (p.length / 136)) 32))
  simp only [← eq_lst8 (outsK_len _ 32)] at hv
  subst hP
  exact ⟨_, runsK_of (vs := [.one (.dy 0)]) (hp := [.rd b 16384]) code16 (.inr rfl) (n := 80) (by rw [Nat.eq_of_beq_eq_true tmps16]; rfl) all hv⟩

/-! the same -/
theorem nthB8_lst8 (f : Nat → BitVec 8) : ∀ (n i j : Nat), j < n → nthB8 (lst8 f i n) j = f (i + j)
  | 0, _, _, h => by omega
  | n + 1, i, 0, _ => rfl
  | n + 1, i, j + 1, h => by
    show nthB8 (lst8 f (i + 1) n) j = _
    rw [nthB8_lst8 f n (i + 1) j (by omega)]
    congr 1
    omega
theorem getD_pkZ (b : By) (z k : Nat) : (pkZ b z).getD k 0#8 = if k < b.length then b.getD k 0#8 else if k = b.length then 1#8 else 0#8 := by
  have e : pkZ b z = b ++ ([1#8] ++ List.replicate z 0#8) := by simp [pkZ, pk0]
  rw [e, List.getD_eq_getElem?_getD]
  by_cases h1 : k < b.length
  · rw [if_pos h1, List.getElem?_append_left h1, List.getD_eq_getElem?_getD]
  · rw [if_neg h1, List.getElem?_append_right (by omega)]
    by_cases h2 : k = b.length
    · rw [if_pos h2, h2, Nat.sub_self]
      rfl
    · rw [if_neg h2]
      obtain ⟨d, hd⟩ : ∃ d, k - b.length = d + 1 := ⟨k - b.length - 1, by omega⟩
      rw [hd]
      show (List.replicate z 0#8)[d]?.getD 0#8 = 0#8
      rw [List.getElem?_replicate]
      split <;> rfl
theorem getD_padK (b : By) (k : Nat) (hk : k < (padK b).length) : (padK b).getD k 0#8 = if k = (padK b).length - 1 then (pkZ b (zerosK b)).getD k 0#8 ||| 128#8 else (pkZ b (zerosK b)).getD k 0#8 := by
  have hl : (padK b).length = (pkZ b (zerosK b)).length := by simp [padK, setL]
  rw [hl] at hk ⊢
  unfold padK setL
  rw [Nat.zero_add]
  by_cases h : k = (pkZ b (zerosK b)).length - 1
  · rw [if_pos h, List.getD_eq_getElem?_getD, ← h, List.getElem?_set_self hk]
    rfl
  · rw [if_neg h, List.getD_eq_getElem?_getD, List.getElem?_set_ne (fun e => h e.symm), List.getD_eq_getElem?_getD]
theorem refG_is (m : By) : refG m = kecG m := by
  unfold refG kecG sumK
  have hl := padK_len m
  have hmod := zerosK_mod m
  have hz := zerosK_lt m
  have hq : (padK m).length / 136 = m.length / 136 + 1 := by omega
  rw [hq]
  refine congrArg (fun s => outsK s 32) ?_
  show absK (kF (padK m) 0 (m.length / 136)) (byteP (padK m) (0 + 136 * (m.length / 136))) = _
  have e1 : kF (padK m) 0 (m.length / 136) = kF m 0 (m.length / 136) := kF_ext fun q hq => by
    rw [Nat.zero_add, getD_padK m q (by omega), if_neg (by omega), getD_pkZ, if_pos (by omega)]
  rw [e1]
  refine absK_ext _ fun j hj => ?_
  unfold byteP byteO
  refine congrArg (fun y => BitVec.setWidth 64 y) ?_
  unfold lastK
  rw [nthB8_lst8 _ 136 0 j hj, Nat.zero_add, Nat.zero_add, getD_padK m _ (by omega)]
  have hdl : (m.drop (136 * (m.length / 136))).length = m.length - 136 * (m.length / 136) := List.length_drop
  have key : ∀ j, j < 136 → (pkZ m (zerosK m)).getD (136 * (m.length / 136) + j) 0#8 = lastJ (m.drop (136 * (m.length / 136))) j := by
    intro j hj
    rw [getD_pkZ]
    unfold lastJ
    rw [hdl]
    by_cases h1 : 136 * (m.length / 136) + j < m.length
    · have h2 : Nat.beq j (m.length - 136 * (m.length / 136)) = false := by
        cases hb : Nat.beq j (m.length - 136 * (m.length / 136)) with
        | false => rfl
        | true => have := Nat.eq_of_beq_eq_true hb; omega
      have h3 : Nat.blt j (m.length - 136 * (m.length / 136)) = true := Nat.ble_eq_true_of_le (by omega)
      rw [if_pos h1, h2, h3, cond_false, cond_true, List.getD_eq_getElem?_getD, List.getD_eq_getElem?_getD, List.getElem?_drop]
    · rw [if_neg h1]
      by_cases h2 : 136 * (m.length / 136) + j = m.length
      · have h3 : Nat.beq j (m.length - 136 * (m.length / 136)) = true := by
          rw [show m.length - 136 * (m.length / 136) = j by omega]
          exact Nat.beq_refl j
        rw [if_pos h2, h3, cond_true]
      · have h3 : Nat.beq j (m.length - 136 * (m.length / 136)) = false := by
          cases hb : Nat.beq j (m.length - 136 * (m.length / 136)) with
          | false => rfl
          | true => have := Nat.eq_of_beq_eq_true hb; omega
        have h4 : Nat.blt j (m.length - 136 * (m.length / 136)) = false := by
          cases hb : Nat.blt j (m.length - 136 * (m.length / 136)) with
          | false => rfl
          | true => have := Nat.le_of_ble_eq_true hb; omega
        rw [if_neg h2, h3, h4, cond_false, cond_false]
  by_cases h : j = 135
  · subst h
    rw [if_pos (by omega), key 135 (by omega)]
    rfl
  · have h2 : Nat.beq j 135 = false := by
      cases hb : Nat.beq j 135 with
      | false => rfl
      | true => exact absurd (Nat.eq_of_beq_eq_true hb) h
    rw [if_neg (by omega), key j hj, h2, cond_false]
/-- the reference's hash, as a table -/
noncomputable def refL : Tab := fun vs hp =>
  match vs, hp with
  | [.one (.dy 0)], [.rd b 16384] => some (.ag (toC8 (lst8 (nthB8 (kecG b)) 0 32)), hp, true, none)
  | _, _ => none
theorem krefL : TellsV Try.prog 16 refL := by
  intro vs hp v hp' chg ob h _
  unfold refL at h
  split at h
  · rename_i b
    cases h
    by_cases hb : b.length ≤ 16384
    · obtain ⟨hp1, hr⟩ := runs16 b hb
      rw [← eq_lst8 (kecG_len _), ← refG_is]
      exact ⟨hp1, true, hr⟩
    · exact ⟨[], true, fun B w0 E us w hvs hh => absurd (let ⟨_, _, _, h2, _⟩ := hh.at_ 0 _ rfl; h2) hb⟩
  · cases h
noncomputable def refT : Tab := stillT (rdPk 16384) refL
theorem krefT : Tells Try.prog 16 refT := stillT_tellsV krefL
end Go.Proofs.Sx
