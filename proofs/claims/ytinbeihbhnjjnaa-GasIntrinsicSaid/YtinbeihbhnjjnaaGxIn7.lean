/- Twin's other pieces, in figures. -/
import Derived.Test.YtinbeihbhnjjnaaGxIn3
namespace Go.Proofs.Sx
open Go
set_option linter.unusedVariables false
section
variable (bd m : Nat) (x : Txx) (b' : By) (i : Nat)
def slL : List (Nat × V) := [(1, .one (.pt 15 0)), (2, .one (.pt 16 0)), (3, .one (lC (i + 1))), (4, .one (.it i))]
def kp4 : List (Nat × Bool) := [(1, false), (2, false), (3, false), (4, false)]
noncomputable def pB (ds : List Bool) : Option (Ex × St) := sxc Try.prog M0 1000000 (takeC 2 row27) kp4 (19 + 3 * i) ⟨slots (slI i), hpI bd m x b' i, true, 44, 15, [], ds⟩
noncomputable def pC : Option (Ex × St) := sxc Try.prog M0 1000000 (dropC 3 row27) kp4 (19 + 3 * (i + 1)) ⟨slots (slL i), hpI bd m x b' (i + 1), true, 44, 15, [], []⟩
noncomputable def sHead (ob : List Bool) : St := ⟨slots (slI i), hpI bd m x b' i, true, 44, 15, ob, []⟩
theorem pB_in : (List.range' 0 13).map (fun m => (List.range' 0 m).map fun i => pB bd m x b' i [true]) = (List.range' 0 13).map fun m => (List.range' 0 m).map fun i => some (.normal, sHead bd m x b' i [Nat.blt i x.n]) := by kernel_rfl
theorem pC_in : (List.range' 0 13).map (fun m => (List.range' 0 m).map fun i => pC bd m x b' i) = (List.range' 0 13).map fun m => (List.range' 0 m).map fun i => some (.normal, sHead bd m x b' (i + 1) []) := by kernel_rfl
theorem pB_out : (List.range' 0 13).map (fun m => pB bd m x b' m [false]) = (List.range' 0 13).map fun m => some (.exit 0, sHead bd m x b' m [!(Nat.blt m x.n)]) := by kernel_rfl
theorem pB_max : pB bd 12 x b' 12 [true] = some (.exit 0, sHead bd 12 x b' 12 [Nat.blt 12 x.n]) := by kernel_rfl
/-! behind the loop -/
noncomputable def retH (f : FuncId) (r : Option (Ex × St)) : Option (V × List Reg × List Bool) :=
  match r with
  | some (.ret, ⟨tm, hp, _, _, _, ob, _⟩) => match resV Try.prog (fnOf Try.prog f).results.toList tm hp with
    | some v => some (v, hp, ob)
    | none => none
  | _ => none
def txOut : List C := txC x (.dy 18) (lC m) (.qv (19 + 3 * m) (cut12 x.kb))
def hpF : List Reg := hpIn bd m x ++ (.own 51 (txOut m x) :: .own 51 (txOut m x) :: .dead :: .dyn 5 b' 800 :: (itR x m 0 m ++ [.rw (cut12 x.kb * 32)]))
theorem pD : (List.range' 0 13).map (fun m => retH 27 (sxs Try.prog Mk 1000000 (dropC 5 (rowOf Try.prog 27)) (sHead bd m x b' m []))) = (List.range' 0 13).map fun m => some (.ag (txOut m x), hpF bd m x b', [Nat.ble (x.kb * 32) (x.kb * 32)]) := by kernel_rfl
/-! the shape of the region -/
def dR (j : Nat) : Nat := bif Nat.beq j 17 then 3 else 20 + j
noncomputable def tplain (j : Nat) : Bool :=
  match (top j).guard, (top j).dst with
  | none, some e => Nat.beq e (dR j)
  | _, _ => false
def edgesR : List (Nat × Nat) := [(2, 1), (4, 2), (4, 3), (5, 4), (6, 5), (8, 7), (10, 8), (10, 9), (11, 10), (12, 11), (13, 12), (14, 6), (14, 13), (15, 14), (16, 0), (16, 15)]
noncomputable def tshape : Bool := Nat.beq tops.size 18 && ((List.range' 0 18).all tplain && ((List.range' 0 18).all (fun j => downB tops j) && (edgesR.all (fun p => edgeB tops p.1 p.2) && (List.range' 0 17).all (fun j => edgeB tops 17 j))))
theorem tshape_is : tshape = true := by kernel_rfl
noncomputable def blkId : Nat := match nthC row27 2 with
  | .block i _ => i
  | _ => 0
noncomputable def tregId : Nat := match nthC row27 2 with
  | .block _ c => regId c
  | _ => 0
theorem tcode : nthC row27 2 = .block blkId (.region tregId tops true) := by kernel_rfl
theorem tparts : row27 = takeC 2 row27 ++ (nthC row27 2 :: dropC 3 row27) := by kernel_rfl
theorem tlen : Nat.blt 4 (lenL (rowOf Try.prog 27)) = true := by kernel_rfl
noncomputable def lpId : Nat := match nthC (rowOf Try.prog 27) 4 with
  | .block i _ => i
  | _ => 0
theorem tloop : nthC (rowOf Try.prog 27) 4 = .block lpId (.loop (inLoop (nthC (rowOf Try.prog 27) 4))) := by kernel_rfl
theorem lpId0 : lpId = 0 := by kernel_rfl
theorem code27 : hasCode Try.prog 27 = true := by kernel_rfl
theorem tmps27 : Nat.beq (fnOf Try.prog 27).ntmps 44 = true := by kernel_rfl
theorem slI_get : (slots (slI i)).get 1 = some (.one (.pt 15 0)) ∧ (slots (slI i)).get 2 = some (.one (.pt 16 0)) ∧ (slots (slI i)).get 3 = some (.one (lC i)) ∧ (slots (slI i)).get 4 = some (.one (.it i)) := ⟨by kernel_rfl, by kernel_rfl, by kernel_rfl, by kernel_rfl⟩
end
theorem Does.block {P : Program} {id : Nat} {c : Code} {s s' : St} (h : Does P c s .normal s') : Does P (.block id c) s .normal s' := by
  intro B w0 wc E a w Q hR hQ
  refine wp_block (h B w0 wc E a w _ hR fun E' a' w' hE hR' => ?_)
  exact hQ E' a' w' hE hR'
end Go.Proofs.Sx
