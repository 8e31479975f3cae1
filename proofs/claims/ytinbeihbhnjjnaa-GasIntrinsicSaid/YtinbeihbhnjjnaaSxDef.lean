/- A reckoner of Go code over values in letters: what it hands back is what the machine comes to (the proof of that stands in the next text). -/
import Derived.StillTail
import Derived.KernelRfl
import Derived.Laws.Rows
import Derived.Laws.CopyRow
import Derived.RowKit3
namespace Go.Proofs.Sx
open Go

/-- A value of one cell, in letters. -/
inductive C where
  | bl (b : Bool)
  | w8 (x : BitVec 8)
  | w32 (x : BitVec 32)
  | w64 (x : BitVec 64)
  | it (n : Nat)
  | ng (n : Nat)
  | pt (r off : Nat)
  | sl (r off len cap : Nat)
  | nl
  | st (s : List UInt8)
  | sy (n : Nat)
  | sb (b : Bool)
  | dy (r : Nat)
  | vw (r i n : Nat)
  | vl (r i n : Nat)
  | pd (r p : Nat)
  | pi (r j : Nat)
  | zi (z : Int)
  | qv (r n : Nat)
  | qp (r j : Nat)
  | ex (v : Value)

inductive V where
  | one (c : C)
  | ag (cs : List C)
  | un
  | raw (v : Value)
  | tp (l : List (Bool × List C))

/-- A part of what a call hands back: a row of cells (true), or one cell. -/
def V.part : V → Option (Bool × List C)
  | .one c => some (false, [c])
  | .ag cs => some (true, cs)
  | _ => none
def unpart : Bool × List C → Option V
  | (true, cs) => some (.ag cs)
  | (false, [c]) => some (.one c)
  | _ => none
def atL : Nat → List (Bool × List C) → Option (Bool × List C)
  | 0, c :: _ => some c
  | n + 1, _ :: cs => atL n cs
  | _, [] => none

/-- own: a block known whole, that may be written. win: cells that are read. dyn: a slice of bytes of one's own, that grows. rd: a slice of bytes that is read. dead: one that has grown into another. -/
inductive Reg where
  | own (t : TypeId) (cs : List C)
  | win (cs : List C)
  | dyn (t : TypeId) (b : List (BitVec 8)) (bd : Nat)
  | rd (b : List (BitVec 8)) (bd : Nat)
  | qs (f : Nat → Nat → BitVec 64) (n : Nat)
  | nt (l : List (BitVec 32))
  | rw (n : Nat)
  | dyc (t : TypeId) (s n : Nat) (cs : List C)
  | dead

/-- The slots: a tree, by the number's digits. -/
inductive T where
  | e
  | n (l : T) (v : Option V) (r : T)

noncomputable def T.get (t : T) : Nat → Option V :=
  T.rec (motive := fun _ => Nat → Option V) (fun _ => none)
    (fun _ v _ ihl ihr i => Nat.rec (motive := fun _ => Option V) v (fun j _ => cond (Nat.beq (Nat.mod j 2) 0) (ihl (Nat.div j 2)) (ihr (Nat.div j 2))) i) t

noncomputable def T.setK {R : Type} (t : T) : Nat → V → (T → R) → R :=
  T.rec (motive := fun _ => Nat → V → (T → R) → R) (fun _ _ k => k .e)
    (fun l x r ihl ihr i v k => Nat.rec (motive := fun _ => R) (k (.n l (some v) r))
      (fun j _ => cond (Nat.beq (Nat.mod j 2) 0) (ihl (Nat.div j 2) v fun l' => k (.n l' x r)) (ihr (Nat.div j 2) v fun r' => k (.n l x r'))) i) t

def T.full : Nat → T
  | 0 => .e
  | d + 1 => .n (T.full d) none (T.full d)

structure St where
  tm : T
  hp : List Reg
  chg : Bool
  n : Nat
  base : Nat
  ob : List Bool
  ds : List Bool

/-- A number, reckoned out to its last sign. -/
noncomputable def forceN {R : Type} (n : Nat) (k : Nat → R) : R := Nat.rec (motive := fun _ => R) (k 0) (fun m _ => k (m + 1)) n
noncomputable def forceB {R : Type} (b : Bool) (k : Bool → R) : R := match b with | true => k true | false => k false

def C.ofInt (k : IntKind) (n : Int) : Option C :=
  match k, n with
  | .u8, .ofNat m => if m < 256 then some (.w8 (BitVec.ofNat 8 m)) else none
  | .u32, .ofNat m => if m < 4294967296 then some (.w32 (BitVec.ofNat 32 m)) else none
  | .u64, .ofNat m => if m < 18446744073709551616 then some (.w64 (BitVec.ofNat 64 m)) else none
  | .i64, .ofNat m => if m < 9223372036854775808 then some (.it m) else none
  | .i64, .negSucc m => if m < 9223372036854775808 then some (.ng m) else none
  | _, _ => none

def C.ofValue : Value → Option C
  | .bool b => some (.bl b)
  | .int k n => C.ofInt k n
  | .string s => some (.st s.data.toList)
  | .slice none 0 0 => some .nl
  | _ => none

def C.ofList : List Value → Option (List C)
  | [] => some []
  | v :: vs => match C.ofValue v with
    | none => none
    | some c => match C.ofList vs with
      | none => none
      | some cs => some (c :: cs)

def V.ofValue : Value → Option V
  | .agg cs => match C.ofList cs.toList with
    | some l => some (.ag l)
    | none => none
  | .bool b => some (.one (.bl b))
  | .int k n => match C.ofInt k n with
    | some c => some (.one c)
    | none => none
  | .string s => some (.one (.st s.data.toList))
  | .slice none 0 0 => some (.one .nl)
  | .pointer none => some (.raw (.pointer none))
  | _ => none

noncomputable def ev (tm : T) : Operand → Option V
  | .tmp t => tm.get t
  | .const v => V.ofValue v
  | _ => none

noncomputable def evs (tm : T) : List Operand → Option (List V)
  | [] => some []
  | x :: xs => match ev tm x with
    | none => none
    | some v => match evs tm xs with
      | none => none
      | some vs => some (v :: vs)

/-- The first n of a list, if there are so many. -/
def takeN : Nat → List C → Option (List C)
  | 0, _ => some []
  | n + 1, c :: cs => match takeN n cs with
    | some l => some (c :: l)
    | none => none
  | _ + 1, [] => none

def atN : Nat → List C → Option C
  | 0, c :: _ => some c
  | n + 1, _ :: cs => atN n cs
  | _, [] => none

def dropN : Nat → List C → Option (List C)
  | 0, cs => some cs
  | n + 1, _ :: cs => dropN n cs
  | _ + 1, [] => none

/-- vs in the place of as many from off on. -/
def putN : Nat → List C → List C → Option (List C)
  | 0, [], cs => some cs
  | 0, v :: vs, _ :: cs => match putN 0 vs cs with
    | some l => some (v :: l)
    | none => none
  | n + 1, vs, c :: cs => match putN n vs cs with
    | some l => some (c :: l)
    | none => none
  | 0, _ :: _, [] => none
  | _ + 1, _, [] => none

def regAt : Nat → List Reg → Option Reg
  | 0, r :: _ => some r
  | n + 1, _ :: rs => regAt n rs
  | _, [] => none

def regSet : Nat → Reg → List Reg → Option (List Reg)
  | 0, x, _ :: rs => some (x :: rs)
  | n + 1, x, r :: rs => match regSet n x rs with
    | some l => some (r :: l)
    | none => none
  | _, _, [] => none

def regPush : List Reg → Reg → List Reg
  | [], x => [x]
  | r :: rs, x => r :: regPush rs x

/-- regPush, reckoned out. -/
def regPushK {R : Type} : List Reg → Reg → (List Reg → R) → R
  | [], x, k => k [x]
  | r :: rs, x, k => regPushK rs x fun l => k (r :: l)

def regLen : List Reg → Nat
  | [] => 0
  | _ :: rs => regLen rs + 1

def Reg.cells : Reg → List C
  | .own _ cs => cs
  | .win cs => cs
  | _ => []

def Reg.bytes : Reg → Option (List (BitVec 8) × Nat)
  | .dyn _ b bd => some (b, bd)
  | .rd b bd => some (b, bd)
  | _ => none

def aggB (P : Program) (t : TypeId) : Option Bool :=
  match P.underlying t with
  | some (.struct _) => some true
  | some (.array _ _) => some true
  | some _ => some false
  | none => none

def szOf (P : Program) (t : TypeId) : Option Nat :=
  match P.info? t with
  | some i => some i.size
  | none => none

noncomputable def loadV (P : Program) (hp : List Reg) (t : TypeId) (r off : Nat) : Option V :=
  match regAt r hp with
  | none => none
  | some R => match aggB P t with
    | some true => match szOf P t with
      | some n => match dropN off R.cells with
        | some l => match takeN n l with
          | some l' => some (.ag l')
          | none => none
        | none => none
      | none => none
    | some false => match atN off R.cells with
      | some c => some (.one c)
      | none => none
    | none => none

/-- A value's cells, if they can be stored. -/
def V.cells : V → Option (List C)
  | .one c => some [c]
  | .ag cs => some cs
  | _ => none

def lenC : List C → Nat
  | [] => 0
  | _ :: cs => lenC cs + 1

noncomputable def storeV (P : Program) (hp : List Reg) (t : TypeId) (r off : Nat) (v : V) : Option (List Reg) :=
  match V.cells v with
  | none => none
  | some vs => match szOf P t with
    | none => none
    | some n => match Nat.beq (lenC vs) n with
      | false => none
      | true => match regAt r hp with
        | some (.own t' cs) => match putN off vs cs with
          | some cs' => regSet r (.own t' cs') hp
          | none => none
        | _ => none

noncomputable def itK (n : Nat) : Option V := if n < 9223372036854775808 then forceN n fun m => some (.one (.it m)) else none
noncomputable def blK (b : Bool) : Option V := forceB b fun b => some (.one (.bl b))

noncomputable def binC (op : BinOp) (a b : C) : Option V :=
  match a, b with
  | .w64 x, .w64 y => match op with
    | .add => some (.one (.w64 (x + y)))
    | .sub => some (.one (.w64 (x - y)))
    | .mul => some (.one (.w64 (x * y)))
    | .and => some (.one (.w64 (x &&& y)))
    | .or => some (.one (.w64 (x ||| y)))
    | .xor => some (.one (.w64 (x ^^^ y)))
    | .andNot => some (.one (.w64 (x &&& ~~~y)))
    | .shl => some (.one (.w64 (x <<< y.toNat)))
    | .shr => some (.one (.w64 (x >>> y.toNat)))
    | .rem => match Nat.beq y.toNat 0 with
      | true => none
      | false => some (.one (.w64 (x % y)))
    | .quo => match Nat.beq y.toNat 0 with
      | true => none
      | false => some (.one (.w64 (x / y)))
    | _ => none
  | .w32 x, .w32 y => match op with
    | .add => some (.one (.w32 (x + y)))
    | .sub => some (.one (.w32 (x - y)))
    | .mul => some (.one (.w32 (x * y)))
    | .and => some (.one (.w32 (x &&& y)))
    | .or => some (.one (.w32 (x ||| y)))
    | .xor => some (.one (.w32 (x ^^^ y)))
    | .andNot => some (.one (.w32 (x &&& ~~~y)))
    | .rem => match Nat.beq y.toNat 0 with
      | true => none
      | false => some (.one (.w32 (x % y)))
    | _ => none
  | .w8 x, .w8 y => match op with
    | .add => some (.one (.w8 (x + y)))
    | .sub => some (.one (.w8 (x - y)))
    | .mul => some (.one (.w8 (x * y)))
    | .and => some (.one (.w8 (x &&& y)))
    | .or => some (.one (.w8 (x ||| y)))
    | .xor => some (.one (.w8 (x ^^^ y)))
    | .lss => blK (Nat.blt x.toNat y.toNat)
    | .geq => blK (Nat.ble y.toNat x.toNat)
    | _ => none
  | .w64 x, .it n => match op with
    | .shl => some (.one (.w64 (x <<< n)))
    | .shr => some (.one (.w64 (x >>> n)))
    | _ => none
  | .w32 x, .it n => match op with
    | .shl => some (.one (.w32 (x <<< n)))
    | .shr => some (.one (.w32 (x >>> n)))
    | _ => none
  | .w8 x, .it n => match op with
    | .shl => some (.one (.w8 (x <<< n)))
    | .shr => some (.one (.w8 (x >>> n)))
    | _ => none
  | .w32 x, .w64 y => match op with
    | .shl => some (.one (.w32 (x <<< y.toNat)))
    | .shr => some (.one (.w32 (x >>> y.toNat)))
    | _ => none
  | .w8 x, .w64 y => match op with
    | .shl => some (.one (.w8 (x <<< y.toNat)))
    | .shr => some (.one (.w8 (x >>> y.toNat)))
    | _ => none
  | .it a, .it b => match op with
    | .add => itK (a + b)
    | .sub => match Nat.ble b a with
      | true => itK (a - b)
      | false => forceN (b - a) fun m => match m with
        | 0 => none
        | m + 1 => some (.one (.ng m))
    | .mul => itK (a * b)
    | .quo => match Nat.beq b 0 with
      | true => none
      | false => itK (a / b)
    | .rem => match Nat.beq b 0 with
      | true => none
      | false => itK (a % b)
    | .shl => match Nat.ble b 62 with
      | true => itK (a * 2 ^ b)
      | false => none
    | .lss => blK (Nat.blt a b)
    | .leq => blK (Nat.ble a b)
    | .gtr => blK (Nat.blt b a)
    | .geq => blK (Nat.ble b a)
    | .eql => blK (Nat.beq a b)
    | .neq => blK (!(Nat.beq a b))
    | .and => itK (Nat.land a b)
    | .xor => itK (Nat.xor a b)
    | _ => none
  | _, _ => none

noncomputable def unC (op : UnOp) (c : C) : Option V :=
  match op, c with
  | .xor, .w64 x => some (.one (.w64 (~~~x)))
  | .xor, .w32 x => some (.one (.w32 (~~~x)))
  | .xor, .w8 x => some (.one (.w8 (~~~x)))
  | .not, .bl b => blK (!b)
  | .not, .sb b => some (.one (.sb (!b)))
  | .neg, .it n => match n with
    | 0 => some (.one (.it 0))
    | m + 1 => some (.one (.ng m))
  | _, _ => none

noncomputable def convC (k : IntKind) (c : C) : Option V :=
  match k, c with
  | .u8, .w8 x => some (.one (.w8 x))
  | .u8, .w32 x => some (.one (.w8 (x.setWidth 8)))
  | .u8, .w64 x => some (.one (.w8 (x.setWidth 8)))
  | .u32, .w8 x => some (.one (.w32 (x.setWidth 32)))
  | .u32, .w32 x => some (.one (.w32 x))
  | .u32, .w64 x => some (.one (.w32 (x.setWidth 32)))
  | .u64, .w8 x => some (.one (.w64 (x.setWidth 64)))
  | .u64, .w32 x => some (.one (.w64 (x.setWidth 64)))
  | .u64, .w64 x => some (.one (.w64 x))
  | .i64, .w8 x => itK x.toNat
  | .i64, .it n => some (.one (.it n))
  | .u64, .it n => some (.one (.w64 (BitVec.ofNat 64 n)))
  | .u64, .ng n => some (.one (.w64 (BitVec.ofNat 64 (18446744073709551615 - n))))
  | .u32, .it n => some (.one (.w32 (BitVec.ofNat 32 n)))
  | .u64, .zi z => some (.one (.w64 (BitVec.ofInt 64 z)))
  | _, _ => none

def lenV : V → Option Nat
  | .one (.sl _ _ len _) => some len
  | .one .nl => some 0
  | _ => none

/-- a word as a number -/
noncomputable def asIx (v : V) : V :=
  match v with
  | .one (.w32 x) => forceN x.toNat fun n => .one (.it n)
  | .one (.w8 x) => forceN x.toNat fun n => .one (.it n)
  | v => v

/-- a bound of a slice expression -/
noncomputable def boundAt (tm : T) (d : Nat) : Option Operand → Option Nat
  | none => some d
  | some x => match ev tm x with
    | some v => match asIx v with
      | .one (.it n) => some n
      | _ => none
    | none => none

/-- the bounds of a slice expression of something of this length and capacity -/
noncomputable def bounds (tm : T) (len cap : Nat) (lo hi : Option Operand) : Option (Nat × Nat) :=
  match boundAt tm len hi with
  | none => none
  | some h => match Nat.ble h cap with
    | false => none
    | true => match boundAt tm 0 lo with
      | none => none
      | some l => match Nat.ble l h with
        | true => forceN l fun l => forceN h fun h => some (l, h)
        | false => none

noncomputable def slK (r off size l h cap : Nat) : Option V :=
  match Nat.beq cap l with
  | true => some (.one (.sl r off (h - l) (cap - l)))
  | false => forceN (off + l * size) fun o => forceN (h - l) fun n => forceN (cap - l) fun c => some (.one (.sl r o n c))

noncomputable def sliceV (P : Program) (tm : T) (t : TypeId) (x : V) (lo hi : Option Operand) : Option V :=
  match P.underlying t, x with
  | some (.array n elem), .one (.pt r off) => match bounds tm n n lo hi, szOf P elem with
    | some (l, h), some size => slK r off size l h n
    | _, _ => none
  | some (.slice elem), .one (.sl r off len cap) => match bounds tm len cap lo hi, szOf P elem with
    | some (l, h), some size => slK r off size l h cap
    | _, _ => none
  | some .string, .one (.st s) => match bounds tm s.length s.length lo hi with
    | some (l, h) => some (.one (.st ((s.take h).drop l)))
    | none => none
  | _, _ => none

noncomputable def ptK (r off : Nat) : Option V := forceN off fun o => some (.one (.pt r o))

noncomputable def indexAddrV (P : Program) (t : TypeId) (x ix : V) : Option V :=
  match P.underlying t, x, ix with
  | some (.array len elem), .one (.pt r off), .one (.it i) => match Nat.blt i len, szOf P elem with
    | true, some s => ptK r (off + i * s)
    | _, _ => none
  | some (.slice elem), .one (.sl r off len _), .one (.it i) => match Nat.blt i len, szOf P elem with
    | true, some s => ptK r (off + i * s)
    | _, _ => none
  | _, _, _ => none

def atB : Nat → List UInt8 → Option UInt8
  | 0, c :: _ => some c
  | n + 1, _ :: cs => atB n cs
  | _, [] => none

noncomputable def partV (P : Program) (t : TypeId) (cs : List C) (off : Nat) : Option V :=
  match aggB P t with
  | some true => match szOf P t with
    | some n => match dropN off cs with
      | some l => match takeN n l with
        | some l' => some (.ag l')
        | none => none
      | none => none
    | none => none
  | some false => match atN off cs with
    | some c => some (.one c)
    | none => none
  | none => none

noncomputable def indexV (P : Program) (t : TypeId) (x ix : V) : Option V :=
  match P.underlying t, x, ix with
  | some (.array len elem), .ag cs, .one (.it i) => match Nat.blt i len, szOf P elem with
    | true, some s => partV P elem cs (i * s)
    | _, _ => none
  | some .string, .one (.st s), .one (.it i) => match atB i s with
    | some b => some (.one (.w8 b.toBitVec))
    | none => none
  | _, _, _ => none

noncomputable def fillC (place : Nat → Option (Nat × Nat)) (tm : T) : List (Nat × Operand) → List C → Option (List C)
  | [], cells => some cells
  | (i, x) :: rest, cells => match ev tm x with
    | none => none
    | some v => match V.cells v with
      | none => none
      | some vs => match place i with
        | none => none
        | some (off, size) => match Nat.beq (lenC vs) size with
          | false => none
          | true => match putN off vs cells with
            | none => none
            | some cells' => fillC place tm rest cells'

noncomputable def fieldPlaces (P : Program) : List Field → Option (List (Nat × Nat))
  | [] => some []
  | f :: fs => match szOf P f.type with
    | none => none
    | some s => match fieldPlaces P fs with
      | none => none
      | some l => some ((f.offset, s) :: l)

def atP : Nat → List (Nat × Nat) → Option (Nat × Nat)
  | 0, c :: _ => some c
  | n + 1, _ :: cs => atP n cs
  | _, [] => none

noncomputable def zeroV (P : Program) (t : TypeId) : Option (List C) :=
  match P.info? t with
  | none => none
  | some i => match i.zero with
    | none => none
    | some z => match V.ofValue z with
      | none => none
      | some v => V.cells v

noncomputable def buildV (P : Program) (tm : T) (t : TypeId) (parts : List (Nat × Operand)) : Option V :=
  match zeroV P t with
  | none => none
  | some zero => match P.underlying t with
    | some (.struct fs) => match fieldPlaces P fs.toList with
      | none => none
      | some pl => match fillC (fun i => atP i pl) tm parts zero with
        | none => none
        | some cs => some (.ag cs)
    | some (.array _ elem) => match szOf P elem with
      | none => none
      | some s => match fillC (fun i => some (i * s, s)) tm parts zero with
        | none => none
        | some cs => some (.ag cs)
    | _ => none

noncomputable def fieldOff (P : Program) (s : TypeId) (f : Nat) : Option (Nat × TypeId) :=
  match P.underlying s with
  | some (.struct fs) => match fs[f]? with
    | some f => some (f.offset, f.type)
    | none => none
  | _ => none

/-- Is it the sum of two words that the machine makes itself? -/
def isAdd64 (P : Program) (f : FuncId) : Bool :=
  match P.funcs[f]? with
  | some fn => match fn.body.isNone with
    | true => match fn.name == "math/bits.Add64" with
      | true => fn.origin == ""
      | false => false
    | false => false
  | none => false

/-- Operations that leave memory alone. -/
noncomputable def pureOp (P : Program) (tm : T) (hp : List Reg) (o : Op) : Option V :=
  match o with
  | .move x => ev tm x
  | .assign x => ev tm x
  | .pick c a b => match ev tm c with
    | some (.one (.bl true)) => ev tm a
    | some (.one (.bl false)) => ev tm b
    | _ => none
  | .load t a => match ev tm a with
    | some (.one (.pt r off)) => loadV P hp t r off
    | _ => none
  | .nilCheck x => match ev tm x with
    | some (.one (.pt r off)) => some (.one (.pt r off))
    | _ => none
  | .binOp op _ x y _ => match ev tm x, ev tm y with
    | some (.one a), some (.one b) => binC op a b
    | _, _ => none
  | .unOp op _ x => match ev tm x with
    | some (.one a) => unC op a
    | _ => none
  | .convert src dst x => match ev tm x with
    | some (.one a) => match P.underlying src, P.underlying dst with
      | some _, some (.int k) => convC k a
      | _, _ => none
    | _ => none
  | .sliceToArrayPointer arr x => match ev tm x with
    | some (.one (.sl r off len _)) => match P.underlying arr with
      | some (.array n _) => match Nat.ble n len with
        | true => some (.one (.pt r off))
        | false => none
      | _ => none
    | _ => none
  | .slice t x lo hi none => match ev tm x with
    | some v => sliceV P tm t v lo hi
    | none => none
  | .fieldAddr s x f => match ev tm x with
    | some (.one (.pt r off)) => match fieldOff P s f with
      | some (fo, ft) => match szOf P ft with
        | some (_ + 1) => ptK r (off + fo)
        | _ => none
      | none => none
    | _ => none
  | .field s x f => match ev tm x with
    | some (.ag cs) => match fieldOff P s f with
      | some (fo, ft) => partV P ft cs fo
      | none => none
    | _ => none
  | .indexAddr t x ix => match ev tm x, ev tm ix with
    | some v, some i => indexAddrV P t v (asIx i)
    | _, _ => none
  | .index t x ix => match ev tm x, ev tm ix with
    | some v, some i => indexV P t v (asIx i)
    | _, _ => none
  | .build t parts => buildV P tm t parts.toList
  | .extract x i => match ev tm x with
    | some (.tp l) => match atL i l with
      | some p => unpart p
      | none => none
    | _ => none
  | .call c => match c.callee, c.args.toList, c.argTypes.toList with
    | .builtin .len, [x], [t] => match ev tm x with
      | some v => match lenV v, P.underlying t with
        | some n, some (.slice _) => itK n
        | _, _ => none
      | none => none
    | .builtin .max, [x, y], _ => match ev tm x, ev tm y with
      | some (.one (.w64 a)), some (.one (.w64 b)) => some (.one (.w64 (bif Nat.blt a.toNat b.toNat then b else a)))
      | _, _ => none
    | .builtin .min, [x, y], _ => match ev tm x, ev tm y with
      | some (.one (.w64 a)), some (.one (.w64 b)) => some (.one (.w64 (bif Nat.blt b.toNat a.toNat then b else a)))
      | _, _ => none
    | .value (.func f), [x, y, z], _ => match isAdd64 P f with
      | true => match ev tm x, ev tm y, ev tm z with
        | some (.one (.w64 a)), some (.one (.w64 b)), some (.one (.w64 c)) => match Nat.beq c.toNat 0 with
          | true => some (.tp [(false, [.w64 (a + b)]), (false, [.w64 (BitVec.ofNat 64 ((a.toNat + b.toNat) / 18446744073709551616))])])
          | false => none
        | _, _, _ => none
      | false => none
    | _, _, _ => none
  | _ => none

/-- A number in letters, or in figures. -/
def numC : C → Option Nat
  | .it n => some n
  | .sy n => some n
  | _ => none

def isSy : C → Bool
  | .sy _ => true
  | _ => false

/-- The bytes that a slice shows: from where, how many; and a bound in figures. -/
def viewC (hp : List Reg) : C → Option (Nat × Nat × Nat × List (BitVec 8) × Nat)
  | .dy r => match regAt r hp with
    | some R => match R.bytes with
      | some (b, bd) => some (r, 0, b.length, b, bd)
      | none => none
    | none => none
  | .vw r i n => match regAt r hp with
    | some R => match R.bytes with
      | some (b, bd) => some (r, i, n, b, bd)
      | none => none
    | none => none
  | .vl r i n => match regAt r hp with
    | some R => match R.bytes with
      | some (b, _) => some (r, i, n, b, n)
      | none => none
    | none => none
  | _ => none

/-- Numbers that are held against each other. -/
def cmpN (op : BinOp) (x y : Nat) : Option (V × Option Bool) :=
  match op with
  | .lss => some (.one (.sb (Nat.blt x y)), none)
  | .leq => some (.one (.sb (Nat.ble x y)), none)
  | .gtr => some (.one (.sb (Nat.blt y x)), none)
  | .geq => some (.one (.sb (Nat.ble y x)), none)
  | .eql => some (.one (.sb (Nat.beq x y)), none)
  | .neq => some (.one (.sb (!(Nat.beq x y))), none)
  | _ => none

/-- A number in letters, of either sign. -/
def intC : C → Option Int
  | .it n => some n
  | .sy n => some n
  | .ng n => some (Int.negSucc n)
  | .zi z => some z
  | _ => none
def inI64 (z : Int) : Bool := decide (-9223372036854775808 ≤ z) && decide (z ≤ 9223372036854775807)
def symInt (op : BinOp) (x y : Int) : Option (V × Option Bool) :=
  match op with
  | .add => some (.one (.zi (x + y)), some (inI64 (x + y)))
  | .sub => some (.one (.zi (x - y)), some (inI64 (x - y)))
  | .rem => some (.one (.zi (x.tmod y)), some (!(decide (y = 0))))
  | .and => some (.one (.sy (BitVec.ofInt 64 x &&& BitVec.ofInt 64 y).toNat), some (Nat.blt (BitVec.ofInt 64 y).toNat 9223372036854775808))
  | .lss => some (.one (.sb (decide (x < y))), none)
  | .leq => some (.one (.sb (decide (x ≤ y))), none)
  | .gtr => some (.one (.sb (decide (y < x))), none)
  | .geq => some (.one (.sb (decide (y ≤ x))), none)
  | .eql => some (.one (.sb (decide (x = y))), none)
  | .neq => some (.one (.sb (!(decide (x = y)))), none)
  | _ => none

def boolC : C → Option Bool
  | .bl b => some b
  | .sb b => some b
  | _ => none

/-- Numbers in letters. -/
def symBin (op : BinOp) (a b : C) : Option (V × Option Bool) :=
  match numC a, numC b with
  | some x, some y => match op with
    | .add => some (.one (.sy (x + y)), some (Nat.ble (x + y) 9223372036854775807))
    | .sub => some (.one (.sy (x - y)), some (Nat.ble y x))
    | .mul => some (.one (.sy (x * y)), some (Nat.ble (x * y) 9223372036854775807))
    | .rem => some (.one (.sy (x % y)), some (!(Nat.beq y 0)))
    | .quo => some (.one (.sy (x / y)), some (!(Nat.beq y 0)))
    | .lss => some (.one (.sb (Nat.blt x y)), none)
    | .leq => some (.one (.sb (Nat.ble x y)), none)
    | .gtr => some (.one (.sb (Nat.blt y x)), none)
    | .geq => some (.one (.sb (Nat.ble y x)), none)
    | .eql => some (.one (.sb (Nat.beq x y)), none)
    | .neq => some (.one (.sb (!(Nat.beq x y))), none)
    | _ => none
  | _, _ => match a, b with
    | .w8 x, .w8 y => cmpN op x.toNat y.toNat
    | .w32 x, .w32 y => cmpN op x.toNat y.toNat
    | .w64 x, .w64 y => cmpN op x.toNat y.toNat
    | a, b => match intC a, intC b with
      | some x, some y => symInt op x y
      | _, _ => none

/-- Words that are held against each other: their outcome in letters. -/
def eqC (a b : C) : Option Bool :=
  match a, b with
  | .w8 x, .w8 y => some (x == y)
  | .w32 x, .w32 y => some (x == y)
  | .w64 x, .w64 y => some (x == y)
  | _, _ => none

def eqCs : List C → List C → Option Bool
  | [], [] => some true
  | a :: as, b :: bs => match eqC a b with
    | some x => match eqCs as bs with
      | some y => some (x && y)
      | none => none
    | none => none
  | _, _ => none

noncomputable def optNum (tm : T) : Option Operand → Option (Option C)
  | none => some none
  | some x => match ev tm x with
    | some (.one c) => some (some c)
    | _ => none

/-- A cut of a slice of bytes, in letters: high in figures gives a length in figures. -/
def symSlice (hp : List Reg) (x : C) (lo hi : Option C) : Option (V × Option Bool) :=
  match viewC hp x with
  | none => none
  | some (r, i, n, _, _) => match lo, hi with
    | none, none => some (.one (.vw r i n), none)
    | none, some (.it k) => some (.one (.vl r i k), some (Nat.ble k n))
    | none, some (.sy k) => some (.one (.vw r i k), some (Nat.ble k n))
    | some l, none => match numC l with
      | some l => some (.one (.vw r (i + l) (n - l)), some (Nat.ble l n))
      | none => none
    | _, _ => none

/-- Operations that leave memory alone, over letters: the value, and what must hold. -/
noncomputable def symOp (P : Program) (tm : T) (hp : List Reg) (o : Op) : Option (V × Option Bool) :=
  match o with
  | .binOp op t x y _ => match ev tm x, ev tm y with
    | some (.one a), some (.one b) => match symBin op a b with
      | some r => some r
      | none => match boolC a, boolC b, P.underlying t, op with
        | some x, some y, some .bool, .eql => some (.one (.sb (x == y)), none)
        | some x, some y, some .bool, .neq => some (.one (.sb (!(x == y))), none)
        | _, _, _, _ => none
    | some (.ag a), some (.ag b) => match op with
      | .eql => match P.underlying t with
        | some (.array len elem) => match P.underlying elem, szOf P elem, Nat.beq (lenC a) len, Nat.beq (lenC b) len, P.eqGuardType P.depth t with
          | some (.int _), some 1, true, true, false => match eqCs a b with
            | some x => some (.one (.sb x), none)
            | none => none
          | _, _, _, _, _ => none
        | _ => none
      | .neq => match P.underlying t with
        | some (.array len elem) => match P.underlying elem, szOf P elem, Nat.beq (lenC a) len, Nat.beq (lenC b) len, P.eqGuardType P.depth t with
          | some (.int _), some 1, true, true, false => match eqCs a b with
            | some x => some (.one (.sb (!x)), none)
            | none => none
          | _, _, _, _, _ => none
        | _ => none
      | _ => none
    | _, _ => none
  | .convert src dst x => match ev tm x with
    | some (.one (.sy n)) => match P.underlying src, P.underlying dst with
      | some _, some (.int .u64) => some (.one (.w64 (BitVec.ofNat 64 n)), none)
      | _, _ => none
    | some (.one (.w64 x)) => match P.underlying src, P.underlying dst with
      | some _, some (.int .i64) => some (.one (.sy x.toNat), some (Nat.ble x.toNat 9223372036854775807))
      | _, _ => none
    | _ => none
  | .slice t x lo hi none => match ev tm x, optNum tm lo, optNum tm hi with
    | some (.one c), some l, some h => match P.underlying t with
      | some (.slice elem) => match szOf P elem with
        | some 1 => symSlice hp c l h
        | some _ => match c, l, h with
          | .qv r n, none, some (.it k) => some (.one (.qv r k), some (Nat.ble k n))
          | _, _, _ => none
        | none => none
      | _ => none
    | _, _, _ => none
  | .indexAddr t x ix => match ev tm x, ev tm ix with
    | some (.one c), some (.one i) => match numC i with
      | some j => match P.underlying t with
        | some (.slice elem) => match szOf P elem, viewC hp c with
          | some 1, some (r, i, n, _, _) => some (.one (.pd r (i + j)), some (Nat.blt j n))
          | some 4, _ => match c with
            | .qv r n => some (.one (.qp r j), some (Nat.blt j n))
            | _ => none
          | some s, none => match c with
            | .qv r n => some (.one (.pt r (j * s)), some (Nat.blt j n))
            | _ => none
          | _, _ => none
        | some (.array len elem) => match szOf P elem, c with
          | some 1, .pt r 0 => some (.one (.pi r j), some (Nat.blt j len))
          | _, _ => none
        | _ => none
      | none => none
    | _, _ => none
  | .load t x => match ev tm x with
    | some (.one (.pd r p)) => match aggB P t with
      | some false => match regAt r hp with
        | some R => match R.bytes with
          | some (b, _) => some (.one (.w8 (b.getD p 0#8)), none)
          | none => none
        | none => none
      | _ => none
    | some (.one (.qp r j)) => match aggB P t, szOf P t, regAt r hp with
      | some true, some 4, some (.qs f n) => some (.ag [.w64 (f j 0), .w64 (f j 1), .w64 (f j 2), .w64 (f j 3)], some (Nat.blt j n))
      | _, _, _ => none
    | _ => none
  | .call c => match c.callee, c.args.toList, c.argTypes.toList with
    | .builtin .len, [x], [t] => match ev tm x with
      | some (.one c) => match P.underlying t with
        | some (.slice _) => match c with
          | .vl _ _ n => match itK n with
            | some v => some (v, none)
            | none => none
          | .qv _ n => some (.one (.sy n), none)
          | c => match viewC hp c with
            | some (_, _, n, _, _) => some (.one (.sy n), none)
            | none => none
        | _ => none
      | _ => none
    | _, _, _ => none
  | _ => none

/-- vs in the place of the first n cells, n in letters: cells of bytes alone. -/
def overC (b : List (BitVec 8)) (i n : Nat) : Nat → List C → Option (List C)
  | _, [] => some []
  | j, .w8 x :: cs => match overC b i n (j + 1) cs with
    | some l => some (.w8 (bif Nat.blt j n then b.getD (i + j) 0#8 else x) :: l)
    | none => none
  | _, _ => none

/-- x in the place of cell p, p in letters: cells of bytes alone. -/
def pokeC (x : BitVec 8) (p : Nat) : Nat → List C → Option (List C)
  | _, [] => some []
  | j, .w8 y :: cs => match pokeC x p (j + 1) cs with
    | some l => some (.w8 (bif Nat.beq j p then x else y) :: l)
    | none => none
  | _, _ => none

/-- Bytes that stand written out. -/
def bytesC : List C → Option (List (BitVec 8))
  | [] => some []
  | .w8 x :: cs => match bytesC cs with
    | some l => some (x :: l)
    | none => none
  | _ => none

/-- What is appended: the bytes, and a bound of how many. -/
def srcC (hp : List Reg) : C → Option (List (BitVec 8) × Nat)
  | .nl => some ([], 0)
  | .sl r off len _ => match regAt r hp with
    | some R => match dropN off R.cells with
      | some l => match takeN len l with
        | some l' => match bytesC l' with
          | some b => some (b, len)
          | none => none
        | none => none
      | none => none
    | none => none
  | c => match viewC hp c with
    | some (_, i, n, b, bd) => some ((b.drop i).take n, bd)
    | none => none

/-- An integer type's one byte, as the table has it. -/
def byteElem (P : Program) (e : TypeId) : Bool :=
  match P.info? e with
  | some i => match i.zero with
    | some (.int .u8 _) => Nat.beq i.size 1 && Nat.beq i.bytes 1
    | _ => false
  | none => false

/-- A type whose rows can be copied: how many cells, how many bytes. -/
noncomputable def elemR (P : Program) (e : TypeId) : Option (Nat × Nat) :=
  match P.info? e, zeroV P e with
  | some i, some zs => match Nat.beq (lenC zs) i.size, Nat.blt 0 i.size with
    | true, true => forceN i.size fun s => forceN i.bytes fun b => some (s, b)
    | _, _ => none
  | _, _ => none
/-- append of cells that stand written out, to a row of one's own. -/
noncomputable def appendR (P : Program) (hp : List Reg) (base : Nat) (e : TypeId) (d s : C) : Option (V × List Reg × Bool) :=
  match elemR P e, s with
  | some (sz, bz), .sl r' off len _ => match regAt r' hp with
    | some R' => match dropN off R'.cells with
      | some l => match takeN (len * sz) l with
        | some vs => match d with
          | .nl => match Nat.ble (len * bz) 140737488355328, Nat.ble len 1000000 with
            | true, true => regPushK hp (.dyc e sz len vs) fun hp' => forceN (regLen hp) fun q => some (.one (.dy q), hp', false)
            | _, _ => none
          | .dy r => match regAt r hp with
            | some (.dyc e' sz' n cs) => match Nat.beq e e', Nat.beq sz sz', Nat.ble ((n + len) * bz) 140737488355328, Nat.ble (n + len) 1000000 with
              | true, true, true, true => match regSet r .dead hp with
                | some hp1 => forceN (n + len) fun m => regPushK hp1 (.dyc e sz m (cs ++ vs)) fun hp' => forceN (regLen hp) fun q => forceB (Nat.blt r base) fun w => some (.one (.dy q), hp', w)
                | none => none
              | _, _, _, _ => none
            | _ => none
          | _ => none
        | none => none
      | none => none
    | none => none
  | _, _ => none
/-- append of a row of bytes in letters to an empty row of one's own. -/
noncomputable def appendQ (P : Program) (hp : List Reg) (base : Nat) (t : TypeId) (d s : C) : Option (V × List Reg × Bool × Bool) :=
  match P.underlying t, d, s with
  | some (.slice e), .sl r 0 0 0, .qv r' k => match elemR P e, regAt r hp, regAt r' hp with
    | some (sz, bz), some (.own e' []), some (.rw m) => match Nat.beq e e', regSet r .dead hp with
      | true, some hp1 => regPushK hp1 (.rw (k * sz)) fun hp' => forceN (regLen hp) fun q => forceB (Nat.blt r base) fun w => some (.one (.qv q k), hp', w, Nat.ble (k * sz) m && Nat.ble (k * bz) 140737488355328)
      | _, _ => none
    | _, _, _ => none
  | _, _, _ => none

/-- append: the slice behind it, memory behind it, whether what was there may have been written. -/
noncomputable def appendV (P : Program) (hp : List Reg) (base : Nat) (t : TypeId) (d s : C) : Option (V × List Reg × Bool) :=
  match P.underlying t with
  | some (.slice e) => match byteElem P e, srcC hp s with
    | true, some (b2, bd2) => match d with
      | .nl => match Nat.ble bd2 140737488355328 with
        | false => none
        | true => regPushK hp (.dyn e b2 bd2) fun hp' => forceN (regLen hp) fun r' => some (.one (.dy r'), hp', false)
      | .dy r => match regAt r hp with
        | some (.dyn e' b bd) => match Nat.beq e e', Nat.ble (bd + bd2) 140737488355328 with
          | true, true => match regSet r .dead hp with
            | some hp1 => regPushK hp1 (.dyn e (b ++ b2) (bd + bd2)) fun hp' => forceN (regLen hp) fun r' => forceB (Nat.blt r base) fun w => some (.one (.dy r'), hp', w)
            | none => none
          | _, _ => none
        | _ => none
      | .sl r 0 0 0 => match regAt r hp with
        | some (.own e' []) => match Nat.beq e e' with
          | true => match regSet r .dead hp, Nat.ble bd2 140737488355328 with
            | some hp1, true => regPushK hp1 (.dyn e b2 bd2) fun hp' => forceN (regLen hp) fun r' => forceB (Nat.blt r base) fun w => some (.one (.dy r'), hp', w)
            | _, _ => none
          | false => none
        | _ => none
      | _ => none
    | false, _ => appendR P hp base e d s
    | _, _ => none
  | _ => none

/-- So many times the same cells. -/
def reps : Nat → List C → List C
  | 0, _ => []
  | n + 1, l => l ++ reps n l

def slimB (P : Program) (e : TypeId) : Bool :=
  match P.info? e with
  | some i => Nat.ble i.bytes 64
  | none => false
/-- Operations that make or write memory (no calls): the value, memory, whether what was there at first was written, what must hold. -/
noncomputable def effOp (P : Program) (tm : T) (hp : List Reg) (base : Nat) (o : Op) : Option (V × List Reg × Bool × Option Bool) :=
  match o with
  | .alloc t => match zeroV P t with
    | some cs => regPushK hp (.own t cs) fun hp' => forceN (regLen hp) fun r => some (.one (.pt r 0), hp', false, none)
    | none => none
  | .box t x => match ev tm x with
    | some v => match V.cells v with
      | some cs => regPushK hp (.own t cs) fun hp' => forceN (regLen hp) fun r => some (.one (.pt r 0), hp', false, none)
      | none => none
    | none => none
  | .store t a x => match ev tm a, ev tm x with
    | some (.one (.pt r off)), some v => match storeV P hp t r off v with
      | some hp' => forceB (Nat.blt r base) fun w => some (.raw undef, hp', w, none)
      | none => none
    | some (.one (.pi r j)), some (.one (.w8 x)) => match szOf P t, regAt r hp with
      | some 1, some (.own t' cs) => match pokeC x j 0 cs with
        | some cs' => match regSet r (.own t' cs') hp with
          | some hp' => forceB (Nat.blt r base) fun w => some (.raw undef, hp', w, some (Nat.blt j (lenC cs)))
          | none => none
        | none => none
      | _, _ => none
    | some (.one (.pd r p)), some (.one (.w8 x)) => match szOf P t, regAt r hp with
      | some 1, some (.dyn e b bd) => match regSet r (.dyn e (b.set p x) bd) hp with
        | some hp' => forceB (Nat.blt r base) fun w => some (.raw undef, hp', w, none)
        | none => none
      | _, _ => none
    | _, _ => none
  | .buildSlice t len parts => match P.underlying t with
    | some (.slice elem) => match zeroV P elem, szOf P elem with
      | some [z], some 1 => match Nat.ble len 64, fillC (fun i => some (i * 1, 1)) tm parts.toList (List.replicate len z) with
        | true, some cs => regPushK hp (.own elem cs) fun hp' => forceN (regLen hp) fun r => some (.one (.sl r 0 len len), hp', false, none)
        | _, _ => none
      | some zs, some s => match Nat.ble len 64, Nat.ble s 64, Nat.beq (lenC zs) s, fillC (fun i => some (i * s, s)) tm parts.toList (reps len zs) with
        | true, true, true, some cs => regPushK hp (.own elem cs) fun hp' => forceN (regLen hp) fun r => some (.one (.sl r 0 len len), hp', false, none)
        | _, _, _, _ => none
      | _, _ => none
    | _ => none
  | .makeSlice t l c => match P.underlying t, ev tm l, ev tm c with
    | some (.slice elem), some (.one x), some (.one y) => match numC x, numC y with
      | some n0, some m => forceN n0 fun n => match zeroV P elem, szOf P elem, slimB P elem, Nat.beq n m, Nat.ble n 64 with
        | some [z], some 1, true, true, true => regPushK hp (.own elem (List.replicate n z)) fun hp' => forceN (regLen hp) fun r => some (.one (.sl r 0 n n), hp', false, none)
        | _, _, _, _, _ => none
      | _, _ => none
    | _, _, _ => none
  | .call c => match c.callee, c.args.toList, c.argTypes.toList with
    | .builtin .copy, [d, s], [dt, _] => match ev tm d, ev tm s with
      | some (.one (.sl r off len _)), some (.one (.sl r' off' len' _)) => match P.underlying dt with
        | some (.slice elem) => match szOf P elem with
          | some 1 => match regAt r hp, regAt r' hp with
            | some (.own t cs), some R => match dropN off' R.cells with
              | some l => match takeN (Nat.min len' len) l with
                | some vs => match putN off vs cs with
                  | some cs' => match regSet r (.own t cs') hp, itK (Nat.min len' len) with
                    | some hp', some v => forceB (Nat.blt r base) fun w => some (v, hp', w, none)
                    | _, _ => none
                  | none => none
                | none => none
              | none => none
            | _, _ => none
          | _ => none
        | _ => none
      | some (.one (.sl r 0 len _)), some (.one c) => match P.underlying dt with
        | some (.slice elem) => match szOf P elem, regAt r hp, viewC hp c with
          | some 1, some (.own t cs), some (_, i, n, b, _) => match overC b i n 0 cs with
            | some cs' => match regSet r (.own t cs') hp, Nat.beq (lenC cs) len with
              | some hp', true => forceB (Nat.blt r base) fun w => some (.one (.sy n), hp', w, some (Nat.ble n len))
              | _, _ => none
            | none => none
          | _, _, _ => none
        | _ => none
      | _, _ => none
    | .builtin .append, [d, s], [t, t'] => match ev tm d, ev tm s with
      | some (.one d), some (.one s) => match Nat.beq t t' with
        | true => match appendV P hp base t d s with
          | some (v, hp', w) => some (v, hp', w, none)
          | none => match appendQ P hp base t d s with
            | some (v, hp', w, b) => some (v, hp', w, some b)
            | none => none
        | false => none
      | _, _ => none
    | _, _, _ => none
  | _ => none

def pushOb : Option Bool → List Bool → List Bool
  | none, ob => ob
  | some b, ob => b :: ob

inductive Ex where
  | normal
  | exit (id : Nat)
  | ret

abbrev Rec := Code → St → Option (Ex × St)

/-- Calls that are known: by their arguments and memory: the value, memory, whether what was there was written, what must hold. -/
abbrev Kn := FuncId → List V → List Reg → Option (V × List Reg × Bool × Option Bool)

noncomputable def tmOf : List V → Nat → T → T
  | [], _, t => t
  | v :: vs, i, t => t.setK i v fun t' => tmOf vs (i + 1) t'

noncomputable def resV1 (P : Program) (rv : ResultVar) (tm : T) (hp : List Reg) : Option V :=
  match rv with
  | .tmp t => tm.get t
  | .cell a t => match tm.get a with
    | some (.one (.pt r off)) => loadV P hp t r off
    | _ => none
noncomputable def resVs (P : Program) (rs : List ResultVar) (tm : T) (hp : List Reg) : Option (List (Bool × List C)) :=
  match rs with
  | [] => some []
  | r :: rs => match resV1 P r tm hp with
    | some v => match V.part v with
      | some p => match resVs P rs tm hp with
        | some l => some (p :: l)
        | none => none
      | none => none
    | none => none

/-- What a function hands back. -/
noncomputable def resV (P : Program) (rs : List ResultVar) (tm : T) (hp : List Reg) : Option V :=
  match rs with
  | [] => some .un
  | [r] => resV1 P r tm hp
  | r :: r' :: rs => match resVs P (r :: r' :: rs) tm hp with
    | some l => some (.tp l)
    | none => none

def lenV' : List V → Nat
  | [] => 0
  | _ :: vs => lenV' vs + 1

/-- A call: the value, memory, whether what was there was written, what must hold, the decisions left. -/
noncomputable def callF (ih : Rec) (P : Program) (M : Kn) (hp : List Reg) (ob ds : List Bool) (f : FuncId) (vs : List V) : Option (V × List Reg × Bool × List Bool × List Bool) :=
  match P.funcs[f]? with
  | none => none
  | some fn => match fn.name == "runtime.NumGoroutine" with
    | true => none
    | false => match fn.body with
      | none => none
      | some c => match M f vs hp with
        | some (v, hp', chg, b) => some (v, hp', chg, pushOb b ob, ds)
        | none => match ih c ⟨tmOf vs 0 (T.full 8), hp, false, lenV' vs + (fn.ntmps - lenV' vs), regLen hp, ob, ds⟩ with
          | some (.normal, ⟨tm', hp', chg', _, _, ob', ds'⟩) => match resV P fn.results.toList tm' hp' with
            | some v => some (v, hp', chg', ob', ds')
            | none => none
          | some (.ret, ⟨tm', hp', chg', _, _, ob', ds'⟩) => match resV P fn.results.toList tm' hp' with
            | some v => some (v, hp', chg', ob', ds')
            | none => none
          | _ => none

def takeNum : List Bool → Option (Nat × List Bool)
  | [] => none
  | true :: l => some (0, l)
  | false :: l => match takeNum l with
    | some (n, l') => some (n + 1, l')
    | none => none

/-- A rest of words that the decisions tell. -/
noncomputable def remOp (tm : T) (o : Op) (ds : List Bool) : Option (V × Bool × List Bool) :=
  match o with
  | .binOp .rem _ x y _ => match ds with
    | false :: ds => match ev tm x, ev tm y with
      | some (.one (.w32 a)), some (.one (.w32 b)) => match Nat.beq b.toNat 0 with
        | true => none
        | false => match takeNum ds with
          | some (q, ds') => forceN q fun q => some (.one (.w32 (BitVec.ofNat 32 q)), a % b == BitVec.ofNat 32 q, ds')
          | none => none
      | _, _ => none
    | _ => none
  | _ => none

noncomputable def stepOp (ih : Rec) (P : Program) (M : Kn) (tm : T) (hp : List Reg) (base : Nat) (ob ds : List Bool) (o : Op) : Option (V × List Reg × Bool × List Bool × List Bool) :=
  match remOp tm o ds with
  | some (v, b, ds') => some (v, hp, false, b :: ob, ds')
  | none => match pureOp P tm hp o with
  | some v => some (v, hp, false, ob, ds)
  | none => match symOp P tm hp o with
    | some (v, b) => some (v, hp, false, pushOb b ob, ds)
    | none => match effOp P tm hp base o with
      | some (v, hp', w, b) => some (v, hp', w, pushOb b ob, ds)
      | none => match o with
        | .call c => match c.callee with
          | .value (.func f) => match evs tm c.args.toList with
            | some vs => callF ih P M hp ob ds f vs
            | none => none
          | _ => none
        | _ => none

/-- Is an operation's guard met? (Where letters decide it: as the next decision says; the slot is set to it.) -/
noncomputable def wantB (tm : T) (ops : Array Oper) (g : Option (Nat × Bool)) : Option Bool :=
  match g with
  | none => some true
  | some (j, want) => match ops[j]? with
    | none => none
    | some oj => match oj.dst with
      | none => none
      | some d => match tm.get d with
        | some (.one (.bl b)) => match b, want with
          | true, true => some true
          | false, false => some true
          | true, false => some false
          | false, true => some false
        | some (.raw (.tuple _)) => some false
        | _ => none

/-- A guard that letters decide: the slot and the letters. -/
noncomputable def wantS (tm : T) (ops : Array Oper) (g : Option (Nat × Bool)) : Option (Nat × Bool) :=
  match g with
  | none => none
  | some (j, _) => match ops[j]? with
    | none => none
    | some oj => match oj.dst with
      | none => none
      | some d => match tm.get d with
        | some (.one (.sb b)) => some (d, b)
        | _ => none

/-- The first decision, and what it says of b. -/
def decide1 (b : Bool) (ds : List Bool) : Option (Bool × Bool × List Bool) :=
  match ds with
  | [] => match b with
    | true => some (true, true, [])
    | false => some (false, true, [])
  | true :: ds => some (true, b, ds)
  | false :: ds => some (false, !b, ds)

/-- The guard's slot in figures. -/
noncomputable def settle {R : Type} (tm : T) (n : Nat) (ops : Array Oper) (g : Option (Nat × Bool)) (ob ds : List Bool) (stop : R) (k : T → List Bool → List Bool → R) : R :=
  match wantS tm ops g with
  | none => k tm ob ds
  | some (d, b) => match decide1 b ds, Nat.blt d n with
    | some (q, e, ds'), true => tm.setK d (.one (.bl q)) fun tm' => k tm' (e :: ob) ds'
    | _, _ => stop

noncomputable def sops (ih : Rec) (P : Program) (M : Kn) (ops : Array Oper) : List Oper → St → Option St
  | [], st => some st
  | o :: rest, ⟨tm0, hp, chg, n, base, ob0, ds0⟩ => settle tm0 n ops o.guard ob0 ds0 none fun tm ob ds => match wantB tm ops o.guard with
    | none => none
    | some false => match o.dst with
      | none => sops ih P M ops rest ⟨tm, hp, chg, n, base, ob, ds⟩
      | some d => match Nat.blt d n with
        | false => none
        | true => tm.setK d (.raw undef) fun tm' => sops ih P M ops rest ⟨tm', hp, chg, n, base, ob, ds⟩
    | some true => match stepOp ih P M tm hp base ob ds o.op with
      | none => none
      | some (v, hp', c, ob', ds') => forceB (chg || c) fun chg' => match o.dst with
        | none => sops ih P M ops rest ⟨tm, hp', chg', n, base, ob', ds'⟩
        | some d => match Nat.blt d n with
          | false => none
          | true => tm.setK d v fun tm' => sops ih P M ops rest ⟨tm', hp', chg', n, base, ob', ds'⟩

/-- A cell's value, if it is a word or a number. -/
def scalC : C → Option Value
  | .bl b => some (.bool b)
  | .sb b => some (.bool b)
  | .w8 x => some (.int .u8 x.toNat)
  | .w32 x => some (.int .u32 x.toNat)
  | .w64 x => some (.int .u64 x.toNat)
  | .it n => some (.int .i64 n)
  | .sy n => some (.int .i64 n)
  | .zi z => some (.int .i64 z)
  | _ => none

def scalCs : List C → Option (List Value)
  | [] => some []
  | c :: cs => match scalC c with
    | none => none
    | some v => match scalCs cs with
      | none => none
      | some vs => some (v :: vs)

def scalP : Bool × List C → Option Value
  | (true, cs) => match scalCs cs with
    | some vs => some (.agg vs.toArray)
    | none => none
  | (false, [c]) => scalC c
  | _ => none
def scalPs : List (Bool × List C) → Option (List Value)
  | [] => some []
  | c :: cs => match scalP c with
    | none => none
    | some v => match scalPs cs with
      | none => none
      | some vs => some (v :: vs)

/-- Words and numbers, and rows of them: their value. -/
def scal : V → Option Value
  | .one c => scalC c
  | .ag cs => match scalCs cs with
    | some vs => some (.agg vs.toArray)
    | none => none
  | .tp l => match scalPs l with
    | some vs => some (.tuple vs.toArray)
    | none => none
  | _ => none

/-- An operation of a region that draws, ahead of its last: the value. -/
noncomputable def stillOp (ih : Rec) (P : Program) (M : Kn) (tm : T) (hp : List Reg) (ob ds : List Bool) (o : Op) : Option (V × List Bool × List Bool) :=
  match remOp tm o ds with
  | some (v, b, ds') => some (v, b :: ob, ds')
  | none => match pureOp P tm hp o with
  | some v => some (v, ob, ds)
  | none => match symOp P tm hp o with
    | some (v, b) => some (v, pushOb b ob, ds)
    | none => match o with
      | .call c => match c.callee with
        | .value (.func f) => match evs tm c.args.toList with
          | some vs => match callF ih P M hp ob ds f vs with
            | some (v, _, false, ob', ds') => match scal v with
              | some _ => some (v, ob', ds')
              | none => none
            | _ => none
          | none => none
        | _ => none
      | _ => none

/-- The operations that leave memory alone, as far as they go; what is left. -/
noncomputable def sstill (ih : Rec) (P : Program) (M : Kn) (ops : Array Oper) : List Oper → St → List Oper × St
  | [], st => ([], st)
  | o :: rest, ⟨tm0, hp, chg, n, base, ob0, ds0⟩ => settle tm0 n ops o.guard ob0 ds0 (o :: rest, ⟨tm0, hp, chg, n, base, ob0, ds0⟩) fun tm ob ds => match wantB tm ops o.guard with
    | none => (o :: rest, ⟨tm, hp, chg, n, base, ob, ds⟩)
    | some false => match o.dst with
      | none => sstill ih P M ops rest ⟨tm, hp, chg, n, base, ob, ds⟩
      | some d => match Nat.blt d n with
        | false => (o :: rest, ⟨tm, hp, chg, n, base, ob, ds⟩)
        | true => tm.setK d (.raw undef) fun tm' => sstill ih P M ops rest ⟨tm', hp, chg, n, base, ob, ds⟩
    | some true => match stillOp ih P M tm hp ob ds o.op with
      | none => (o :: rest, ⟨tm, hp, chg, n, base, ob, ds⟩)
      | some (v, ob', ds') => match o.dst with
        | none => sstill ih P M ops rest ⟨tm, hp, chg, n, base, ob', ds'⟩
        | some d => match Nat.blt d n with
          | false => (o :: rest, ⟨tm, hp, chg, n, base, ob, ds⟩)
          | true => tm.setK d v fun tm' => sstill ih P M ops rest ⟨tm', hp, chg, n, base, ob', ds'⟩

def lenO : List Oper → Nat
  | [] => 0
  | _ :: l => lenO l + 1

/-- A region. -/
noncomputable def sreg (ih : Rec) (P : Program) (M : Kn) (l : List Oper) (draw : Bool) (st : St) : Option St :=
  match draw with
  | false => sops ih P M l.toArray l st
  | true => match sstill ih P M l.toArray l st with
    | (rest, st') => match rest with
      | [] => match Region.lexB .any l.toArray with
        | true => some st'
        | false => none
      | o :: rest' => match Region.lexTailB .any l.toArray (lenO l - lenO (o :: rest')) with
        | true => sops ih P M l.toArray (o :: rest') st'
        | false => none

noncomputable def sx (P : Program) (M : Kn) : Nat → Rec := fun fuel =>
  Nat.rec (motive := fun _ => Rec) (fun _ _ => none) (fun _ ih c st => match c with
    | .skip => some (.normal, st)
    | .label _ => some (.normal, st)
    | .region _ ops draw => match sreg ih P M ops.toList draw st with
      | none => none
      | some st' => some (.normal, st')
    | .seq a b => match ih a st with
      | some (.normal, st') => ih b st'
      | r => r
    | .cond x a b => match st with
      | ⟨tm, hp, chg, n, base, ob, ds⟩ => match ev tm x with
        | some (.one (.bl true)) => ih a ⟨tm, hp, chg, n, base, ob, ds⟩
        | some (.one (.bl false)) => ih b ⟨tm, hp, chg, n, base, ob, ds⟩
        | some (.one (.sb q)) => match decide1 q ds with
          | some (true, e, ds') => ih a ⟨tm, hp, chg, n, base, e :: ob, ds'⟩
          | some (false, e, ds') => ih b ⟨tm, hp, chg, n, base, e :: ob, ds'⟩
          | none => none
        | _ => none
    | .block id b => match ih b st with
      | some (.exit i, st') => match Nat.beq i id with
        | true => some (.normal, st')
        | false => some (.exit i, st')
      | r => r
    | .loop b => match ih b st with
      | some (.normal, st') => ih (.loop b) st'
      | r => r
    | .exit id => some (.exit id, st)
    | .ret => some (.ret, st)
    | _ => none) fuel

end Go.Proofs.Sx
