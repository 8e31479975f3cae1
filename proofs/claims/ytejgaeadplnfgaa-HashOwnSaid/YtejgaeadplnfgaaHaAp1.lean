/- The law on two sponges: what its function does. -/
import Derived.Test.YtejgaeadplnfgaaHaCut2
namespace Go.Proofs.Sx
open Go Go.RowKit
set_option linter.unusedVariables false
noncomputable def Ma : Kn := addK (addK (addK (addK (addK (addK M0 21 newT) 22 twinT) 23 feedT) 24 sumT) 16 refT) 13 trueM
theorem knowna : Known Try.prog Ma := known_add (known_add (known_add (known_add (known_add (known_add known_none knewT) ktwinT) kfeedT) ksumT) krefT) (ktrue runs13)
noncomputable def s9 : List Code := spine (inLoop (nthC (rowOf Try.prog 9) 7))
noncomputable def s9i : List Code := spine (inBlk (nthC s9 2))
noncomputable def apIn (n k : Nat) : St := ⟨tmOf [.one (.vw 0 0 n), .one (.vw 1 0 k)] 0 (T.full 8), [.dead, .dead], false, 84, 2, [], []⟩
noncomputable def apT (n k i : Nat) : T := slots [(0, .one (.vw 0 0 n)), (1, .one (.vw 1 0 k)), (5, .one (.pt 2 0)), (6, .one (.pt 4 0)), (7, .one (.dy 6)), (8, .one (.dy 7)), (9, .one (.sy i))]
noncomputable def apH (R0 R1 : Reg) (wS wT : List W) (yS yT x y : By) (bx b2 : Nat) : List Reg := [R0, R1, .own 61 (toC wS ++ [.dy 3]), .dyn 5 yS 135, .own 61 (toC wT ++ [.dy 5]), .dyn 5 yT 135, .dyn 5 x bx, .dyn 5 y b2]
noncomputable def apS (n k i : Nat) (wS wT : List W) (yS yT x y : By) (bx b2 : Nat) (ds : List Bool) : St := ⟨apT n k i, apH .dead .dead wS wT yS yT x y bx b2, true, 84, 2, [], ds⟩
noncomputable def apA (n k i : Nat) (p : By) (wS wT : List W) (yS yT x y : By) (bx b2 : Nat) (ds : List Bool) : St := ⟨apT n k i, apH (.at1 i (.vw 8 0 p.length)) .dead wS wT yS yT x y bx b2 ++ [.rd p 9223372036854775807], true, 84, 2, [], ds⟩
noncomputable def apB (n k i : Nat) (p : By) (wS wT : List W) (yS yT x y : By) (bx b2 : Nat) (ds : List Bool) : St := ⟨apT n k i, apH .dead (.at1 i (.vw 8 0 p.length)) wS wT yS yT x y bx b2 ++ [.rd p 9223372036854775807], true, 84, 2, [], ds⟩
def apk : List (Nat × Bool) := [(0, false), (1, false), (5, false), (6, false), (7, false), (8, false), (9, true)]
section
variable (a c : Nat → W) (yS yT x y p : By) (n k i : Nat)
def roundO (Y p : By) (n i : Nat) : List Bool := [fedOk Y (piece 200 p), twinOk (p.take 200), twinOk p && Nat.beq p.length p.length, Nat.beq (0 + i) i, Nat.blt i n, Nat.blt i n]
theorem a9a : sxp Ma (takeC 2 s9i) 2 [0, 1, 2, 13, 4, 5, 14, 7, 8] apk (apA n k i p (lst a 0 25) (lst c 0 25) yS yT x y 6000 6000 [true]) =
    some (.normal, apA n k i p (fW (lst a 0 25) (yS ++ piece 200 p)) (lst c 0 25) (fedY (yS ++ piece 200 p)) yT (tail_ 200 x p) y 6200 6000 [], roundO yS p n i) := by kernel_rfl
theorem a9n : sxp Ma (takeC 2 s9i) 2 [0, 1, 2, 3, 4, 5, 6, 7] apk (apS n k i (lst a 0 25) (lst c 0 25) yS yT x y 6000 6000 [false]) =
    some (.normal, apS n k i (lst a 0 25) (lst c 0 25) yS yT x y 6000 6000 [], [!(Nat.blt i n)]) := by kernel_rfl
theorem a9b : sxp Ma (dropC 2 s9i) 2 [0, 1, 2, 3, 4, 13, 6, 14, 8] apk (apB n k i p (lst a 0 25) (lst c 0 25) yS yT x y 6000 6000 [true]) =
    some (.normal, apB n k i p (lst a 0 25) (fW (lst c 0 25) (yT ++ piece 200 p)) yS (fedY (yT ++ piece 200 p)) x (tail_ 200 y p) 6000 6200 [], roundO yT p k i) := by kernel_rfl
theorem a9m : sxp Ma (dropC 2 s9i) 2 [0, 1, 2, 3, 4, 5, 6, 7] apk (apS n k i (lst a 0 25) (lst c 0 25) yS yT x y 6000 6000 [false]) =
    some (.normal, apS n k i (lst a 0 25) (lst c 0 25) yS yT x y 6000 6000 [], [!(Nat.blt i k)]) := by kernel_rfl
/-- the row is forgotten -/
noncomputable def apD (n k i : Nat) (p : By) (wS wT : List W) (yS yT x y : By) (bx b2 : Nat) : St := ⟨apT n k i, apH .dead .dead wS wT yS yT x y bx b2 ++ [.rd p 9223372036854775807], true, 84, 2, [], []⟩
theorem a9k (bx b2 : Nat) : packSt 2 [0, 1, 2, 3, 4, 5, 6, 7] apk (apD n k i p (lst a 0 25) (lst c 0 25) yS yT x y bx b2) = some (apS n k i (lst a 0 25) (lst c 0 25) yS yT x y bx b2 []) := by kernel_rfl
/-- does it go on? -/
theorem a9t : sxp Ma (takeC 2 s9) 2 [0, 1, 2, 3, 4, 5, 6, 7] apk (apS n k i (lst a 0 25) (lst c 0 25) yS yT x y 6000 6000 [true, true]) =
    some (.normal, apS n k i (lst a 0 25) (lst c 0 25) yS yT x y 6000 6000 [], [Nat.blt i n, Nat.blt i 30]) := by kernel_rfl
theorem a9u : sxp Ma (takeC 2 s9) 2 [0, 1, 2, 3, 4, 5, 6, 7] apk (apS n k i (lst a 0 25) (lst c 0 25) yS yT x y 6000 6000 [true, false, true]) =
    some (.normal, apS n k i (lst a 0 25) (lst c 0 25) yS yT x y 6000 6000 [], [Nat.blt i k, !(Nat.blt i n), Nat.blt i 30]) := by kernel_rfl
theorem a9x : sxp Ma (takeC 2 s9) 2 [0, 1, 2, 3, 4, 5, 6, 7] apk (apS n k i (lst a 0 25) (lst c 0 25) yS yT x y 6000 6000 [true, false, false]) =
    some (.exit (blkN (nthC (rowOf Try.prog 9) 7)), apS n k i (lst a 0 25) (lst c 0 25) yS yT x y 6000 6000 [], [!(Nat.blt i k), !(Nat.blt i n), Nat.blt i 30]) := by kernel_rfl
theorem a9y : sxp Ma (takeC 2 s9) 2 [0, 1, 2, 3, 4, 5, 6, 7] apk (apS n k i (lst a 0 25) (lst c 0 25) yS yT x y 6000 6000 [false]) =
    some (.exit (blkN (nthC (rowOf Try.prog 9) 7)), apS n k i (lst a 0 25) (lst c 0 25) yS yT x y 6000 6000 [], [!(Nat.blt i 30)]) := by kernel_rfl
theorem a9r : sxp Ma (dropC 3 s9) 2 [0, 1, 2, 3, 4, 5, 6, 7] apk (apS n k i (lst a 0 25) (lst c 0 25) yS yT x y 6000 6000 []) =
    some (.normal, apS n k (i + 1) (lst a 0 25) (lst c 0 25) yS yT x y 6000 6000 [], [Nat.ble (i + 1) 9223372036854775807]) := by kernel_rfl
noncomputable def apN (n k : Nat) : St := ⟨slots [(0, .one (.vw 0 0 n)), (1, .one (.vw 1 0 k)), (5, .one (.pt 2 0)), (6, .one (.pt 4 0)), (7, .one .nl), (8, .one .nl), (9, .one (.sy 0))], [.dead, .dead, .own 61 (toC zer25 ++ [.dy 3]), .dyn 5 [] 0, .own 61 (toC zer25 ++ [.dy 5]), .dyn 5 [] 0], true, 84, 2, [], []⟩
theorem a9s : sxp Ma (takeC 7 (rowOf Try.prog 9)) 2 [0, 1, 2, 3, 4, 5] apk (apIn n k) = some (.normal, apN n k, [true, true]) := by kernel_rfl
noncomputable def apZ (q : Bool) : St := ⟨slots [(4, .one (.sb q))], [.dead, .dead], true, 84, 2, [], []⟩
theorem a9z : sxp Ma (dropC 8 (rowOf Try.prog 9)) 2 [0, 1] [(4, false)] (apS n k i (lst a 0 25) (lst c 0 25) yS yT x y 6000 6000 [true]) =
    some (.ret, apZ (eqB8 (s32 (lst c 0 25) yT) (k32 y)), [Nat.ble y.length 16384 && true, Nat.blt yT.length 136, eqB8 (s32 (lst a 0 25) yS) (k32 x), Nat.ble x.length 16384 && true, Nat.blt yS.length 136]) := by kernel_rfl
theorem a9v (q : Bool) : resV Try.prog (fnOf Try.prog 9).results.toList (slots [(4, .one (.sb q))]) [.dead, .dead] = some (.one (.sb q)) := by kernel_rfl
end
theorem code9' : hasCode Try.prog 9 = true := by kernel_rfl
theorem tmps9' : Nat.beq (fnOf Try.prog 9).ntmps 84 = true := by kernel_rfl
theorem len9' : Nat.blt 7 (lenL (rowOf Try.prog 9)) = true := by kernel_rfl
theorem len9s : Nat.blt 2 (lenL s9) = true := by kernel_rfl
theorem at9' : nthC (rowOf Try.prog 9) 7 = .block (blkN (nthC (rowOf Try.prog 9) 7)) (.loop (inLoop (nthC (rowOf Try.prog 9) 7))) := by kernel_rfl
theorem at9s : nthC s9 2 = .block (blkN (nthC s9 2)) (inBlk (nthC s9 2)) := by kernel_rfl
theorem d9i : takeC 2 s9i ++ dropC 2 s9i = s9i := by kernel_rfl
end Go.Proofs.Sx
