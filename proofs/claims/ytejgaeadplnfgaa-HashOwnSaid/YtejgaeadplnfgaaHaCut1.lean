/- The law on pieces: what its function does. -/
import Derived.Test.YtejgaeadplnfgaaHaTab
namespace Go.Proofs.Sx
open Go Go.RowKit
set_option linter.unusedVariables false
noncomputable def Mc : Kn := addK (addK (addK (addK (addK (addK M0 21 newT) 22 twinT) 23 feedT) 24 sumT) 14 kecT) 13 trueM
theorem knownc : Known Try.prog Mc := known_add (known_add (known_add (known_add (known_add (known_add known_none knewT) ktwinT) kfeedT) ksumT) kkecT) (ktrue runs13)
noncomputable def cuIn (n : Nat) : St := ⟨tmOf [.one (.vw 0 0 n)] 0 (T.full 8), [.dead], false, 77, 1, [], []⟩
noncomputable def cuH (ws : List W) (y al : By) (bd : Nat) : List Reg := [.own 61 (toC ws ++ [.dy 2]), .dyn 5 y 135, .own 61 (toC ws ++ [.dy 4]), .dyn 5 y 135, .dyn 5 al bd]
noncomputable def cuT (n : Nat) (i : Nat) : T := slots [(0, .one (.vw 0 0 n)), (3, .one (.pt 1 0)), (4, .one (.pt 3 0)), (5, .one (.dy 5)), (6, .one (.sy i))]
noncomputable def cuS (n : Nat) (ws : List W) (y al : By) (bd i : Nat) (ds : List Bool) : St := ⟨cuT n i, .dead :: cuH ws y al bd, true, 77, 1, [], ds⟩
noncomputable def cuG (n : Nat) (ws : List W) (y al p : By) (bd j i : Nat) (ds : List Bool) : St := ⟨cuT n i, .at1 j (.vw 6 0 p.length) :: cuH ws y al bd ++ [.rd p 9223372036854775807], true, 77, 1, [], ds⟩
noncomputable def cuD (n : Nat) (ws : List W) (y al p : By) (bd i : Nat) : St := ⟨cuT n i, .dead :: cuH ws y al bd ++ [.rd p 9223372036854775807], true, 77, 1, [], []⟩
def cuk : List (Nat × Bool) := [(0, false), (3, false), (4, false), (5, false), (6, true)]
def piece (m : Nat) (p : By) : By := (p.take m).take m
def tail_ (m : Nat) (al p : By) : By := al ++ ((p.take m).drop 0).take (p.take m).length
def whole_ (al : By) : By := (al.drop 0).take al.length
def s32 (ws : List W) (y : By) : By := lst8 (nthB8 (sumK ws y)) 0 32
def k32 (m : By) : By := lst8 (nthB8 (kecG m)) 0 32
def fW (ws : List W) (m : By) : List W := lst (nthW (fedW ws m)) 0 25
def fedOk (y p : By) : Bool := true && (Nat.ble y.length 135 && (Nat.ble p.length 3000 && true))
def twinOk (p : By) : Bool := Nat.ble p.length 9223372036854775807 && true
section
variable (a : Nat → W) (y al p : By) (n i : Nat)
/-- what is owed of a round, but for its end -/
def cuO (ws : List W) (y al p : By) (n i : Nat) : List Bool :=
  [Nat.ble (whole_ (tail_ 300 al p)).length 16384 && true, Nat.blt (fedY (y ++ piece 300 p)).length 136, fedOk y (piece 300 p), twinOk (p.take 300), fedOk y (piece 300 p), twinOk (p.take 300), twinOk p && Nat.beq p.length p.length, Nat.beq (0 + i) i, Nat.blt i n, Nat.blt i 40, Nat.blt i n]
def cuQ (ws : List W) (y al p : By) : Bool := !(!(eqB8 (s32 (fW ws (y ++ piece 300 p)) (fedY (y ++ piece 300 p))) (k32 (whole_ (tail_ 300 al p)))))
theorem c8e : sxp Mc [inLoop (nthC (rowOf Try.prog 8) 7)] 1 [0, 1, 11, 3, 14, 15, 6] cuk (cuG n (lst a 0 25) y al p 12000 i i [true, true, false, true, false]) =
    some (.normal, cuG n (fW (lst a 0 25) (y ++ piece 300 p)) (fedY (y ++ piece 300 p)) (tail_ 300 al p) p 12300 i (i + 1) [], [Nat.ble (i + 1) 9223372036854775807, !(!(eqB8 (s32 (fW (lst a 0 25) (y ++ piece 300 p)) (fedY (y ++ piece 300 p))) (s32 (fW (lst a 0 25) (y ++ piece 300 p)) (fedY (y ++ piece 300 p))))), Nat.blt (fedY (y ++ piece 300 p)).length 136, Nat.blt (fedY (y ++ piece 300 p)).length 136, Nat.beq (i % 2) 0, true, cuQ (lst a 0 25) y al p] ++ cuO (lst a 0 25) y al p n i) := by kernel_rfl
theorem c8o : sxp Mc [inLoop (nthC (rowOf Try.prog 8) 7)] 1 [0, 1, 11, 3, 14, 15, 6] cuk (cuG n (lst a 0 25) y al p 12000 i i [true, true, false, false]) =
    some (.normal, cuG n (fW (lst a 0 25) (y ++ piece 300 p)) (fedY (y ++ piece 300 p)) (tail_ 300 al p) p 12300 i (i + 1) [], [Nat.ble (i + 1) 9223372036854775807, !(Nat.beq (i % 2) 0), true, cuQ (lst a 0 25) y al p] ++ cuO (lst a 0 25) y al p n i) := by kernel_rfl
/-- the row is forgotten -/
theorem c8k (bd : Nat) : packSt 1 [0, 1, 2, 3, 4, 5] cuk (cuD n (lst a 0 25) y al p bd i) = some (cuS n (lst a 0 25) y al bd i []) := by kernel_rfl
theorem c8x : sxp Mc [inLoop (nthC (rowOf Try.prog 8) 7)] 1 [0, 1, 2, 3, 4, 5] cuk (cuS n (lst a 0 25) y al 12000 i [false]) = some (.exit (blkN (nthC (rowOf Try.prog 8) 7)), cuS n (lst a 0 25) y al 12000 i [], [!(Nat.blt i n)]) := by kernel_rfl
theorem c8y : sxp Mc [inLoop (nthC (rowOf Try.prog 8) 7)] 1 [0, 1, 2, 3, 4, 5] cuk (cuS n (lst a 0 25) y al 12000 i [true, false]) = some (.exit (blkN (nthC (rowOf Try.prog 8) 7)), cuS n (lst a 0 25) y al 12000 i [], [!(Nat.blt i 40), Nat.blt i n]) := by kernel_rfl
noncomputable def cuN (n : Nat) : St := ⟨slots [(0, .one (.vw 0 0 n)), (3, .one (.pt 1 0)), (4, .one (.pt 3 0)), (5, .one .nl), (6, .one (.sy 0))], [.dead, .own 61 (toC zer25 ++ [.dy 2]), .dyn 5 [] 0, .own 61 (toC zer25 ++ [.dy 4]), .dyn 5 [] 0], true, 77, 1, [], []⟩
theorem c8a : sxp Mc (takeC 7 (rowOf Try.prog 8)) 1 [0, 1, 2, 3, 4] cuk (cuIn n) = some (.normal, cuN n, [true, true]) := by kernel_rfl
noncomputable def cuZ (q : Bool) : St := ⟨slots [(2, .one (.sb q))], [.dead], true, 77, 1, [], []⟩
theorem c8z : sxp Mc (dropC 8 (rowOf Try.prog 8)) 1 [0] [(2, false)] (cuS n (lst a 0 25) y al 12000 i [true]) = some (.ret, cuZ (eqB8 (s32 (lst a 0 25) y) (s32 (lst a 0 25) y)), [Nat.blt y.length 136, Nat.blt y.length 136, eqB8 (s32 (lst a 0 25) y) (k32 al), Nat.ble al.length 16384 && true, Nat.blt y.length 136]) := by kernel_rfl
theorem c8v (q : Bool) : resV Try.prog (fnOf Try.prog 8).results.toList (slots [(2, .one (.sb q))]) [.dead] = some (.one (.sb q)) := by kernel_rfl
end
theorem code8 : hasCode Try.prog 8 = true := by kernel_rfl
theorem tmps8 : Nat.beq (fnOf Try.prog 8).ntmps 77 = true := by kernel_rfl
theorem len8 : Nat.blt 7 (lenL (rowOf Try.prog 8)) = true := by kernel_rfl
theorem at8 : nthC (rowOf Try.prog 8) 7 = .block (blkN (nthC (rowOf Try.prog 8) 7)) (.loop (inLoop (nthC (rowOf Try.prog 8) 7))) := by kernel_rfl
end Go.Proofs.Sx
