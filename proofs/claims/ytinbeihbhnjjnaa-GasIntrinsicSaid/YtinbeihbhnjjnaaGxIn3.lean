/- Transactions: how they lie in memory; what Twin's pieces come to. -/
import Derived.Test.YtinbeihbhnjjnaaGxIn2
import Derived.Test.YtinbeihbhnjjnaaGxExp
namespace Go.Proofs.Sx
open Go
set_option linter.unusedVariables false
/-- A transaction: its number, words and flags; its bytes; how many accesses, whose addresses and how many keys; how many blobs. -/
structure Txx where
  kind : Int
  w : Nat → W
  make : Bool
  to : Nat → BitVec 8
  odd : Bool
  b : By
  n : Nat
  A : Nat → Nat → BitVec 8
  K : Nat → Nat
  kb : Nat
def b8 (f : Nat → BitVec 8) : Nat → Nat → List C
  | _, 0 => []
  | i, n + 1 => .w8 (f i) :: b8 f (i + 1) n
def wsC (f : Nat → W) : Nat → Nat → List C
  | _, 0 => []
  | i, n + 1 => .w64 (f i) :: wsC f (i + 1) n
def txC (x : Txx) (d a b : C) : List C := .zi x.kind :: (wsC x.w 0 11 ++ (.sb x.make :: (b8 x.to 0 20 ++ (wsC x.w 11 4 ++ (d :: a :: (wsC x.w 15 4 ++ (b :: .sb x.odd :: wsC x.w 19 8)))))))
def txZ : List C := .it 0 :: (wsC (fun _ => 0#64) 0 11 ++ (.bl false :: (b8 (fun _ => 0#8) 0 20 ++ (wsC (fun _ => 0#64) 0 4 ++ (.nl :: .nl :: (wsC (fun _ => 0#64) 0 4 ++ (.nl :: .bl false :: wsC (fun _ => 0#64) 0 8)))))))
/-- rows of accesses: from j on, n of them; their keys in regions r0 + s * j -/
def accC (x : Txx) (K : Nat → Nat) (r0 s : Nat) : Nat → Nat → List C
  | _, 0 => []
  | j, n + 1 => b8 (x.A j) 0 20 ++ (.qv (r0 + s * j) (K j) :: accC x K r0 s (j + 1) n)
def keyR (x : Txx) (m : Nat) : Nat → Nat → List Reg
  | _, 0 => []
  | j, n + 1 => (bif Nat.blt j m then .rw (x.K j * 32) else .dead) :: keyR x m (j + 1) n
/-- a transaction's memory: 15 regions -/
def hpIn (bd m : Nat) (x : Txx) : List Reg := .rd x.b bd :: (bif Nat.beq m 0 then .dead else .win (accC x x.K 3 1 0 m)) :: .rw (x.kb * 32) :: keyR x m 0 12
def txIn (x : Txx) : List C := txC x (.dy 0) (.qv 1 x.n) (.qv 2 x.kb)
def kCut (x : Txx) (j : Nat) : Nat := cut12 (x.K j)
noncomputable def Mk : Kn := addK M0 53 keysM
theorem knownk : Known Try.prog Mk := known_add known_none kkeys
def itR (x : Txx) (i : Nat) : Nat → Nat → List Reg
  | _, 0 => []
  | j, n + 1 => .rw (kCut x j * 32) :: .own 82 (accC x (kCut x) 19 3 j 1) :: (bif Nat.beq (j + 1) i then .dyc 82 21 i (accC x (kCut x) 19 3 0 i) else .dead) :: itR x i (j + 1) n
section
variable (bd m : Nat) (x : Txx) (b' : By) (i : Nat)
def hpI : List Reg := hpIn bd m x ++ (.own 51 (txC x (.dy 18) (.qv 1 x.n) (.qv 2 x.kb)) :: .own 51 txZ :: .dead :: .dyn 5 b' 800 :: itR x i 0 i)
def lC : Nat → C
  | 0 => .nl
  | i + 1 => .dy (21 + 3 * i)
def slI : List (Nat × V) := [(1, .one (.pt 15 0)), (2, .one (.pt 16 0)), (3, .one (lC i)), (4, .one (.it i))]
noncomputable def pA (ds : List Bool) : Option (Ex × St) := sxc Try.prog M0 1000000 (takeC 4 (rowOf Try.prog 27)) [(1, false), (2, false), (3, false), (4, false)] 19 ⟨tmOf [.ag (txIn x)] 0 (T.full 8), hpIn bd m x, false, 44, 15, [], ds⟩
theorem pA_cut : (List.range' 0 13).map (fun m => pA bd m x [true]) = (List.range' 0 13).map fun m => some (.normal, ⟨slots (slI 0), hpI bd m x ((x.b.drop 0).take 800) 0, false, 44, 15, [Nat.ble 800 x.b.length, Nat.blt 800 x.b.length], []⟩) := by kernel_rfl
theorem pA_all : (List.range' 0 13).map (fun m => pA 800 m x [false]) = (List.range' 0 13).map fun m => some (.normal, ⟨slots (slI 0), hpI 800 m x ((x.b.drop 0).take x.b.length) 0, false, 44, 15, [!(Nat.blt 800 x.b.length)], []⟩) := by kernel_rfl
/-! the loop's region -/
noncomputable def row27 : List Code := spine (inLoop (nthC (rowOf Try.prog 27) 4))
noncomputable def tops : Array Oper := opsArr (match nthC row27 2 with
  | .block _ c => c
  | c => c)
noncomputable def top (j : Nat) : Oper := (tops[j]?).getD default
def lR (j : Nat) : List (Nat × V) :=
  match j with
  | 0 => [(3, .one (lC i))]
  | 1 => [(1, .one (.pt 15 0))]
  | 2 => [(21, .one (.pt 15 38))]
  | 3 => [(4, .one (.it i))]
  | 4 => [(22, .one (.qv 1 x.n)), (23, .one (.it i))]
  | 5 => [(24, .one (.pt 1 (i * 21)))]
  | 6 => [(25, .one (.pt 1 (i * 21)))]
  | 7 => [(1, .one (.pt 15 0))]
  | 8 => [(27, .one (.pt 15 38))]
  | 9 => [(4, .one (.it i))]
  | 10 => [(28, .one (.qv 1 x.n)), (29, .one (.it i))]
  | 11 => [(30, .one (.pt 1 (i * 21)))]
  | 12 => [(31, .one (.pt 1 (i * 21 + 20)))]
  | 13 => [(32, .one (.qv (3 + 1 * i) (x.K i)))]
  | 14 => [(26, .ag (b8 (x.A i) 0 20)), (33, .one (.qv (19 + 3 * i) (kCut x i)))]
  | 15 => [(34, .ag (accC x (kCut x) 19 3 i 1))]
  | 16 => [(20, .one (lC i)), (35, .one (.sl (20 + 3 * i) 0 1 1))]
  | _ => [(36, .one (.dy (21 + 3 * i)))]
def vR (j : Nat) : V :=
  match j with
  | 0 => .one (lC i)
  | 1 => .one (.pt 15 38)
  | 2 => .one (.qv 1 x.n)
  | 3 => .one (.it i)
  | 4 => .one (.pt 1 (i * 21))
  | 5 => .one (.pt 1 (i * 21))
  | 6 => .ag (b8 (x.A i) 0 20)
  | 7 => .one (.pt 15 38)
  | 8 => .one (.qv 1 x.n)
  | 9 => .one (.it i)
  | 10 => .one (.pt 1 (i * 21))
  | 11 => .one (.pt 1 (i * 21 + 20))
  | 12 => .one (.qv (3 + 1 * i) (x.K i))
  | 13 => .one (.qv (19 + 3 * i) (kCut x i))
  | 14 => .ag (accC x (kCut x) 19 3 i 1)
  | 15 => .one (.sl (20 + 3 * i) 0 1 1)
  | 16 => .one (.dy (21 + 3 * i))
  | _ => .one (.dy (21 + 3 * i))
def oR (j : Nat) : List Bool :=
  match j with
  | 4 => [Nat.blt i x.n]
  | 10 => [Nat.blt i x.n]
  | 13 => [Nat.ble (x.K i * 32) (x.K i * 32)]
  | _ => []
def hpsR (k : Nat) : List Reg :=
  match k with
  | 0 => hpI bd m x b' i
  | 1 => hpI bd m x b' i ++ [.rw (kCut x i * 32)]
  | 2 => hpI bd m x b' i ++ [.rw (kCut x i * 32), .own 82 (accC x (kCut x) 19 3 i 1)]
  | _ => hpI bd m x b' (i + 1)
def nxR (j k : Nat) : Nat := bif Nat.beq j 13 then 1 else bif Nat.beq j 15 then 2 else bif Nat.beq j 16 then 3 else k
noncomputable def stepR (j k : Nat) : Res := stepOp (sx Try.prog Mk 1000000) Try.prog Mk (slots (lR x i j)) (hpsR bd m x b' i k) 0 [] [] (top j).op
def quietR : List Nat := [0, 1, 2, 3, 4, 5, 6, 7, 8, 9, 10, 11, 12]
def pairsR : List (Nat × Nat) := quietR.map (fun j => (j, 0)) ++ (quietR.map (fun j => (j, 1)) ++ (quietR.map (fun j => (j, 2)) ++ (quietR.map (fun j => (j, 3)) ++ [(13, 0), (14, 1), (14, 2), (14, 3), (15, 1), (16, 2), (17, 3)])))
noncomputable def allR (F : Nat → Nat → Res) : List Res := pairsR.map fun p => F p.1 p.2
def okR (j k : Nat) : Res := some (vR x i j, hpsR bd m x b' i (nxR j k), false, oR x i j, [])
end
end Go.Proofs.Sx
