/- What each operation takes: by figures. -/
import Derived.Test.YtinbeihbhnjjnaaGxRules
namespace Go.Proofs.Sx
open Go
set_option linter.unusedVariables false
def spanB (q : Nat) : List Nat → Bool
  | a :: b :: l => (Nat.ble a q && Nat.ble q b) || spanB q l
  | _ => false
/-- from which fork on -/
def sinceQ (q : Nat) : Nat :=
  bif spanB q [0, 11, 16, 26, 32, 32, 48, 60, 64, 69, 80, 91, 96, 164, 240, 243, 255, 255] then 0
  else bif spanB q [244, 244] then 1
  else bif spanB q [61, 62, 250, 250, 253, 253] then 4
  else bif spanB q [27, 29, 63, 63, 245, 245] then 5
  else bif spanB q [70, 71] then 7
  else bif spanB q [72, 72] then 10
  else bif spanB q [95, 95] then 14
  else bif spanB q [73, 74, 92, 94] then 15
  else 99
def baseC (r : Ru) (q : Nat) : W :=
  bif spanB q [0x30, 0x30, 0x32, 0x34, 0x36, 0x36, 0x38, 0x38, 0x3a, 0x3a, 0x3d, 0x3d, 0x41, 0x46, 0x48, 0x48, 0x4a, 0x4a, 0x50, 0x50, 0x58, 0x5a, 0x5f, 0x5f] then 2#64
  else bif spanB q [0x01, 0x01, 0x03, 0x03, 0x10, 0x1d, 0x35, 0x35, 0x37, 0x37, 0x39, 0x39, 0x3e, 0x3e, 0x49, 0x49, 0x51, 0x53, 0x5e, 0x5e, 0x60, 0x9f] then 3#64
  else bif spanB q [0x02, 0x02, 0x04, 0x07, 0x0b, 0x0b, 0x47, 0x47] then 5#64
  else bif spanB q [0x08, 0x09, 0x56, 0x56] then 8#64
  else bif spanB q [0x0a, 0x0a, 0x57, 0x57] then 10#64
  else bif spanB q [0x20, 0x20] then 30#64
  else bif spanB q [0x40, 0x40] then 20#64
  else bif spanB q [0x5b, 0x5b] then 1#64
  else bif spanB q [0x5c, 0x5d] then 100#64
  else bif spanB q [0xa0, 0xa4] then 375#64
  else bif spanB q [0x31, 0x31] then r.w 10
  else bif spanB q [0x3b, 0x3c] then r.w 11
  else bif spanB q [0x3f, 0x3f] then r.w 12
  else bif spanB q [0x54, 0x54] then r.w 13
  else bif spanB q [0xf1, 0xf2, 0xf4, 0xf4, 0xfa, 0xfa] then r.w 14
  else bif spanB q [0xff, 0xff] then r.w 18
  else bif spanB q [0xf0, 0xf0, 0xf5, 0xf5] then 32000#64
  else 0#64
def validL : Nat → Nat → List Nat
  | _, 0 => []
  | q, n + 1 => bif Nat.ble (sinceQ q) 15 then q :: validL (q + 1) n else validL (q + 1) n
section
variable (r : Ru)
noncomputable def g23 (q : Nat) : Option (V × List Bool) := outV (callD M0 23 [.ag (rulesS r), .one (.it q)] [] [true, false])
noncomputable def g24 (q : Nat) : Option (V × List Bool) := outV (callD M0 24 [.ag (rulesS r), .one (.it q)] [] [false, false, false])
noncomputable def n23 (q : Nat) : Option (V × List Bool) := outV (callD M0 23 [.ag (rulesS r), .one (.it q)] [] [false])
noncomputable def i23 (q : Nat) : Option (V × List Bool) := outV (callD M0 23 [.ag (rulesS r), .one (.it q)] [] [])
noncomputable def nf24 (q : Nat) : Option (V × List Bool) := outV (callD M0 24 [.ag (rulesS r), .one (.it q)] [] [false, false, true])
def lateL : Nat → Nat → List Nat
  | _, 0 => []
  | q, n + 1 => bif Nat.ble (sinceQ q) 15 && Nat.ble 1 (sinceQ q) then q :: lateL (q + 1) n else lateL (q + 1) n
def noneL : Nat → Nat → List Nat
  | _, 0 => []
  | q, n + 1 => bif Nat.ble (sinceQ q) 15 then noneL (q + 1) n else q :: noneL (q + 1) n
end
end Go.Proofs.Sx
