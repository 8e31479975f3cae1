/- Keccak-256, by the reference: the permutation. -/
import Derived.Test.YtejgaeadplnfgaaHaKr0
import Derived.Test.YtejgaeadplnfgaaHaKc3
namespace Go.Proofs.Sx
open Go
set_option linter.unusedVariables false
theorem runs48 (r : Nat) (h : r < 24) (hp : List Reg) : Runs Try.prog 48 [.one (.it r)] hp (.one (.w64 (nthW rcL r))) hp false :=
  runs_of_bare known_none (map_at f48 (a := r) (by simp; omega)) rfl rfl hp
noncomputable def constT : Tab := fun vs hp =>
  match vs with
  | [.one (.sy r)] => some (.one (.w64 (nthW rcL r)), hp, false, some (Nat.blt r 24))
  | _ => none
theorem kconst : Tells Try.prog 48 constT := by
  intro vs hp v hp' chg ob h hob
  unfold constT at h
  split at h
  · cases h
    intro B w0 E us w hvs hh
    cases us with
    | nil => exact hvs.elim
    | cons u us => exact runs48 _ (Nat.le_of_ble_eq_true (hob _ rfl)) hp B w0 E (u :: us) w ⟨hvs.1, hvs.2⟩ hh
  · cases h
noncomputable def rolT : Tab := fun vs hp =>
  match vs with
  | [.one (.w64 x), .one (.it n)] => match Nat.blt 0 n, Nat.blt n 64 with
    | true, true => some (.one (.w64 (rotl x n)), hp, false, none)
    | _, _ => none
  | _ => none
theorem krol : Tells Try.prog 46 rolT := by
  intro vs hp v hp' chg ob h _
  unfold rolT at h
  split at h
  · rename_i x n
    split at h
    · rename_i h1 h2
      cases h
      have h1' := Nat.le_of_ble_eq_true h1
      have h2' := Nat.le_of_ble_eq_true h2
      have hf := map_at (f46s x) (a := n) (by simp; omega)
      exact (runs_of_call fol known_none hf AllT.nil).plain rfl rfl hp
    · cases h
  · cases h
noncomputable def Mu : Kn := addK (addK M0 46 rolT) 48 constT
theorem knownu : Known Try.prog Mu := known_add (known_add known_none krol) kconst
noncomputable def s33 : List Code := spine (inLoop (nthC (rowOf Try.prog 33) 2))
noncomputable def s33i : List Code := spine (inBlk (nthC s33 2))
def thetaR (a : List W) : List W := lst (fun i => nthW a i ^^^ colK a ((i % 5 + 4) % 5) ^^^ rotl (colK a ((i % 5 + 1) % 5)) 1) 0 25
theorem thetaR_L (a : List W) : thetaR a = thetaL a := by
  unfold thetaR thetaL
  congr 1
  funext i
  rw [BitVec.xor_assoc]
def chi0 (a : List W) (r : Nat) : List W := putW 0 (nthW a 0 ^^^ nthW rcL r) a
section
variable (a c : Nat → W) (r : Nat)
noncomputable def vIn (ws : List W) : St := ⟨tmOf [.ag (toC ws)] 0 (T.full 8), [], false, 129, 0, [], []⟩
noncomputable def vS (ws : List W) (r : Nat) (ds : List Bool) : St := ⟨slots [(1, .one (.pt 0 0)), (2, .one (.pt 1 0)), (3, .one (.sy r))], [.own 58 (toC ws), .own 58 (toC zer25)], true, 129, 0, [], ds⟩
def vk : List (Nat × Bool) := [(1, false), (2, false), (3, true)]
theorem v33a : sxp Mu (takeC 2 (rowOf Try.prog 33)) 0 [0, 1] vk (vIn (lst a 0 25)) = some (.normal, vS (lst a 0 25) 0 [], []) := by kernel_rfl
theorem v33c : sxp Mu (takeC 2 s33) 0 [0, 1] vk (vS (lst a 0 25) r [true]) = some (.normal, vS (lst a 0 25) r [], [Nat.blt r 24]) := by kernel_rfl
theorem v33x : sxp Mu (takeC 2 s33) 0 [0, 1] vk (vS (lst a 0 25) r [false]) = some (.exit (blkN (nthC (rowOf Try.prog 33) 2)), vS (lst a 0 25) r [], [!(Nat.blt r 24)]) := by kernel_rfl
theorem v33t : sxp Mu (takeC 5 s33i) 0 [0, 1] vk (vS (lst a 0 25) r []) = some (.normal, vS (thetaR (lst a 0 25)) r [], []) := by kernel_rfl
noncomputable def vB (ws b : List W) (r : Nat) : St := ⟨slots [(1, .one (.pt 0 0)), (2, .one (.pt 1 0)), (3, .one (.sy r)), (7, .one (.pt 2 0))], [.own 58 (toC ws), .own 58 (toC zer25), .own 58 (toC b)], true, 129, 0, [], []⟩
def vk7 : List (Nat × Bool) := [(1, false), (2, false), (3, true), (7, false)]
theorem v33u : sxp Mu (takeC 5 (dropC 5 s33i)) 0 [0, 1, 2] vk7 (vS (lst a 0 25) r []) = some (.normal, vB (lst a 0 25) (turnL (lst a 0 25)) r, []) := by kernel_rfl
theorem v33h : sxp Mu (takeC 2 (dropC 10 s33i)) 0 [0, 1] vk (vB (lst a 0 25) (lst c 0 25) r) = some (.normal, vS (chiL (lst c 0 25)) r [], []) := by kernel_rfl
theorem v33k : sxp Mu (dropC 12 s33i) 0 [0, 1] vk (vS (lst a 0 25) r []) = some (.normal, vS (chi0 (lst a 0 25) r) r [], [Nat.blt r 24]) := by kernel_rfl
theorem v33n : sxp Mu (dropC 3 s33) 0 [0, 1] vk (vS (lst a 0 25) r []) = some (.normal, vS (lst a 0 25) (r + 1) [], [Nat.ble (r + 1) 9223372036854775807]) := by kernel_rfl
noncomputable def vZ (ws : List W) : St := ⟨slots [(2, .one (.pt 0 0))], [.own 58 (toC ws)], true, 129, 0, [], []⟩
theorem v33z : sxp Mu (dropC 3 (rowOf Try.prog 33)) 0 [1] [(2, false)] (vS (lst a 0 25) r []) = some (.ret, vZ (lst a 0 25), []) := by kernel_rfl
theorem v33v : resV Try.prog (fnOf Try.prog 33).results.toList (slots [(2, .one (.pt 0 0))]) [.own 58 (toC (lst a 0 25))] = some (.ag (toC (lst a 0 25))) := by kernel_rfl
end
theorem code33 : hasCode Try.prog 33 = true := by kernel_rfl
theorem tmps33 : Nat.beq (fnOf Try.prog 33).ntmps 129 = true := by kernel_rfl
theorem len33 : Nat.blt 2 (lenL (rowOf Try.prog 33)) = true := by kernel_rfl
theorem len33s : Nat.blt 2 (lenL s33) = true := by kernel_rfl
theorem at33 : nthC (rowOf Try.prog 33) 2 = .block (blkN (nthC (rowOf Try.prog 33) 2)) (.loop (inLoop (nthC (rowOf Try.prog 33) 2))) := by kernel_rfl
theorem at33s : nthC s33 2 = .block (blkN (nthC s33 2)) (inBlk (nthC s33 2)) := by kernel_rfl
theorem d33 : takeC 5 s33i ++ (takeC 5 (dropC 5 s33i) ++ (takeC 2 (dropC 10 s33i) ++ dropC 12 s33i)) = s33i := by kernel_rfl
theorem runs33 (ws : List W) (hl : ws.length = 25) (hp : List Reg) : Runs Try.prog 33 [.ag (toC ws)] hp (.ag (toC (permK ws))) hp false := by
  have eK := fun r => eq_lst (afterK_len hl r)
  have A : DoesK Try.prog 0 (takeC 2 (rowOf Try.prog 33)) (vIn ws) .normal (vS (afterK ws 0) 0 []) := by
    have f := v33a (nthW ws)
    simp only [← eq_lst hl] at f
    exact sxp_is knownu f AllT.nil
  have R : ∀ r, r < 24 → DoesK Try.prog 0 [inLoop (nthC (rowOf Try.prog 33) 2)] (vS (afterK ws r) r []) .normal (vS (afterK ws (r + 1)) (r + 1) []) := by
    intro r hr
    have hb : Nat.blt r 24 = true := Nat.ble_eq_true_of_le hr
    have C1 : DoesK Try.prog 0 (takeC 2 s33) (vS (afterK ws r) r []) .normal (vS (afterK ws r) r []) := by
      have f := v33c (nthW (afterK ws r)) r
      simp only [← eK] at f
      exact sxp_is knownu f (AllT.cons hb AllT.nil)
    have T1 : DoesK Try.prog 0 (takeC 5 s33i) (vS (afterK ws r) r []) .normal (vS (thetaL (afterK ws r)) r []) := by
      have f := v33t (nthW (afterK ws r)) r
      simp only [← eK] at f
      rw [thetaR_L] at f
      exact sxp_is knownu f AllT.nil
    have T2 : DoesK Try.prog 0 (takeC 5 (dropC 5 s33i)) (vS (thetaL (afterK ws r)) r []) .normal (vB (thetaL (afterK ws r)) (turnL (thetaL (afterK ws r))) r) := by
      have f := v33u (nthW (thetaL (afterK ws r))) r
      simp only [← eq_lst (thetaL_len _)] at f
      exact sxp_is knownu f AllT.nil
    have T3 : DoesK Try.prog 0 (takeC 2 (dropC 10 s33i)) (vB (thetaL (afterK ws r)) (turnL (thetaL (afterK ws r))) r) .normal (vS (chiL (turnL (thetaL (afterK ws r)))) r []) := by
      have f := v33h (nthW (thetaL (afterK ws r))) (nthW (turnL (thetaL (afterK ws r)))) r
      simp only [← eq_lst (thetaL_len _), ← eq_lst (turnL_len _)] at f
      exact sxp_is knownu f AllT.nil
    have T4 : DoesK Try.prog 0 (dropC 12 s33i) (vS (chiL (turnL (thetaL (afterK ws r)))) r []) .normal (vS (afterK ws (r + 1)) r []) := by
      have f := v33k (nthW (chiL (turnL (thetaL (afterK ws r))))) r
      simp only [← eq_lst (chiL_len _)] at f
      exact sxp_is knownu f (AllT.cons hb AllT.nil)
    have C2 : DoesK Try.prog 0 [nthC s33 2] (vS (afterK ws r) r []) .normal (vS (afterK ws (r + 1)) r []) := by
      rw [at33s]
      refine DoesK.block ?_
      show DoesK Try.prog 0 s33i _ _ _
      rw [← d33]
      exact T1.append (T2.append (T3.append T4))
    have C3 : DoesK Try.prog 0 (dropC 3 s33) (vS (afterK ws (r + 1)) r []) .normal (vS (afterK ws (r + 1)) (r + 1) []) := by
      have f := v33n (nthW (afterK ws (r + 1))) r
      simp only [← eK] at f
      exact sxp_is knownu f (AllT.cons (Nat.ble_eq_true_of_le (by omega)) AllT.nil)
    refine DoesK.ofSpine ?_
    show DoesK Try.prog 0 s33 _ _ _
    have hpp := parts3 2 s33 (Nat.le_of_ble_eq_true len33s)
    rw [← hpp]
    exact C1.append (DoesK.append (l := [nthC s33 2]) C2 C3)
  have X : DoesK Try.prog 0 [inLoop (nthC (rowOf Try.prog 33) 2)] (vS (afterK ws 24) 24 []) (.exit (blkN (nthC (rowOf Try.prog 33) 2))) (vS (afterK ws 24) 24 []) := by
    have f := v33x (nthW (afterK ws 24)) 24
    simp only [← eK] at f
    refine DoesK.ofSpine ?_
    show DoesK Try.prog 0 s33 _ _ _
    have hpp := parts3 2 s33 (Nat.le_of_ble_eq_true len33s)
    rw [← hpp]
    exact DoesK.early _ (sxp_is knownu f (AllT.cons rfl AllT.nil))
  have Z : DoesK Try.prog 0 (dropC 3 (rowOf Try.prog 33)) (vS (afterK ws 24) 24 []) .ret (vZ (permK ws)) := by
    have f := v33z (nthW (afterK ws 24)) 24
    simp only [← eK] at f
    exact sxp_is knownu f AllT.nil
  have all : DoesK Try.prog 0 (rowOf Try.prog 33) (vIn ws) .ret (vZ (permK ws)) :=
    DoesK.three (N := 24) (s := fun r => vS (afterK ws r) r []) (Nat.le_of_ble_eq_true len33) at33 A R X Z
  have hv := v33v (nthW (permK ws))
  simp only [← eq_lst (permK_len hl)] at hv
  exact (runsK_of (vs := [.ag (toC ws)]) (hp := []) code33 (.inr rfl) (n := 129) (by rw [Nat.eq_of_beq_eq_true tmps33]; rfl) all hv).plain (by simp only [plainV, V.plain, toC_plain]) (by simp only [V.plain, toC_plain]) hp
end Go.Proofs.Sx
