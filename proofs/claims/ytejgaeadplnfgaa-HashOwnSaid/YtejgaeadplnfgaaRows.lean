/-
  No cell of these rows narrows 'for every input' (looked for: loops, veiled, ifaces, maps, wideKeys, modest, calm, conditions, laid).
  DERIVED. THE GIVEN ROWS OF THIS SEAT. 8 by the template 'for every input the law returns true; each argument reads behind the call as it read before'; 0 by the template 'total and deterministic' (their statements: YtejgaeadplnfgaaTotals.lean).
  GIVEN WITH THE SEED: the statements are not yours to turn. If you find one false, say at which input.
  Laid BY PROGRAM, IN A SANDBOX (cutbox-rows.mjs): the forced cells as the released guide's own fill.sh prints them over the translation cc49ddca1d1d0811… (all of the seat's roots in one cut). By AI agents, Wed Nov 11 2026. No macro, syntax, notation, axiom, sorry.
-/
import Derived.Test.YtejgaeadplnfgaaChecked
import GoSem.Claim
import GoSem.ClaimJoined
import GoSem.ClaimMapViews
import Derived.JoinedTies
import Derived.KernelRfl
namespace Go.Proofs.Ytejgaeadplnfgaa
/- THE CELL 'sum', in the pinned program and in every row, IS THE sha256 OF THE DUMP (.gsa) THAT YtejgaeadplnfgaaProg.lean LOADS. Nothing in Lean hashes anything: it is a label: what it is worth is what the hold of that sum in a sandbox is worth. -/
noncomputable def Try.pinned : Pinned := { name := "ytejgaeadplnfgaa", sum := "cc49ddca1d1d0811f8ad63d0edbd3860baf8c688d2eedd29449d9cfc696ddbb3", checked := Try.checked }
namespace Rows
def none {H : Type} : Left H := { results := [], args := [] }

/-- 'quarrylaw03.HashBlake': WHATEVER THE INPUT: true; the input reads as it did. -/
def hashBlakeSpec : ChangeSpec := { name := "hashBlake", fn := fun _ => fun
  | [d] => { results := [.lit (.bool true)], args := [d] }
  | _ => none }
def hashBlakeRow : OpenClaim := { program := "ytejgaeadplnfgaa", sum := "cc49ddca1d1d0811f8ad63d0edbd3860baf8c688d2eedd29449d9cfc696ddbb3", func := "quarry/quarrylaw03.HashBlake", spec := "hashBlake", apart := false }
def HashBlakeSaid : Prop := hashBlakeRow.holds Try.pinned (OpenSpec.ofChange hashBlakeSpec)

/-- ITS FALSE NEIGHBOUR: 'it returns false'. Refute it at one input. -/
def hashBlakeWrong : ChangeSpec := { name := "hashBlake", fn := fun _ => fun
  | [d] => { results := [.lit (.bool false)], args := [d] }
  | _ => none }
def HashBlakeWrongFalsely : Prop := hashBlakeRow.holds Try.pinned (OpenSpec.ofChange hashBlakeWrong)

/-- 'quarrylaw03.HashRounds': WHATEVER THE INPUT: true; the input reads as it did. -/
def hashRoundsSpec : ChangeSpec := { name := "hashRounds", fn := fun _ => fun
  | [d] => { results := [.lit (.bool true)], args := [d] }
  | _ => none }
def hashRoundsRow : OpenClaim := { program := "ytejgaeadplnfgaa", sum := "cc49ddca1d1d0811f8ad63d0edbd3860baf8c688d2eedd29449d9cfc696ddbb3", func := "quarry/quarrylaw03.HashRounds", spec := "hashRounds", apart := false }
def HashRoundsSaid : Prop := hashRoundsRow.holds Try.pinned (OpenSpec.ofChange hashRoundsSpec)

/-- ITS FALSE NEIGHBOUR: 'it returns false'. Refute it at one input. -/
def hashRoundsWrong : ChangeSpec := { name := "hashRounds", fn := fun _ => fun
  | [d] => { results := [.lit (.bool false)], args := [d] }
  | _ => none }
def HashRoundsWrongFalsely : Prop := hashRoundsRow.holds Try.pinned (OpenSpec.ofChange hashRoundsWrong)

/-- 'quarrylaw03.HashKeccak': WHATEVER THE INPUT: true; the input reads as it did. -/
def hashKeccakSpec : ChangeSpec := { name := "hashKeccak", fn := fun _ => fun
  | [d] => { results := [.lit (.bool true)], args := [d] }
  | _ => none }
def hashKeccakRow : OpenClaim := { program := "ytejgaeadplnfgaa", sum := "cc49ddca1d1d0811f8ad63d0edbd3860baf8c688d2eedd29449d9cfc696ddbb3", func := "quarry/quarrylaw03.HashKeccak", spec := "hashKeccak", apart := false }
def HashKeccakSaid : Prop := hashKeccakRow.holds Try.pinned (OpenSpec.ofChange hashKeccakSpec)

/-- ITS FALSE NEIGHBOUR: 'it returns false'. Refute it at one input. -/
def hashKeccakWrong : ChangeSpec := { name := "hashKeccak", fn := fun _ => fun
  | [d] => { results := [.lit (.bool false)], args := [d] }
  | _ => none }
def HashKeccakWrongFalsely : Prop := hashKeccakRow.holds Try.pinned (OpenSpec.ofChange hashKeccakWrong)

/-- 'quarrylaw03.HashSha': WHATEVER THE INPUT: true; the input reads as it did. -/
def hashShaSpec : ChangeSpec := { name := "hashSha", fn := fun _ => fun
  | [d] => { results := [.lit (.bool true)], args := [d] }
  | _ => none }
def hashShaRow : OpenClaim := { program := "ytejgaeadplnfgaa", sum := "cc49ddca1d1d0811f8ad63d0edbd3860baf8c688d2eedd29449d9cfc696ddbb3", func := "quarry/quarrylaw03.HashSha", spec := "hashSha", apart := false }
def HashShaSaid : Prop := hashShaRow.holds Try.pinned (OpenSpec.ofChange hashShaSpec)

/-- ITS FALSE NEIGHBOUR: 'it returns false'. Refute it at one input. -/
def hashShaWrong : ChangeSpec := { name := "hashSha", fn := fun _ => fun
  | [d] => { results := [.lit (.bool false)], args := [d] }
  | _ => none }
def HashShaWrongFalsely : Prop := hashShaRow.holds Try.pinned (OpenSpec.ofChange hashShaWrong)

/-- 'quarrylaw03.HashRipemd': WHATEVER THE INPUT: true; the input reads as it did. -/
def hashRipemdSpec : ChangeSpec := { name := "hashRipemd", fn := fun _ => fun
  | [d] => { results := [.lit (.bool true)], args := [d] }
  | _ => none }
def hashRipemdRow : OpenClaim := { program := "ytejgaeadplnfgaa", sum := "cc49ddca1d1d0811f8ad63d0edbd3860baf8c688d2eedd29449d9cfc696ddbb3", func := "quarry/quarrylaw03.HashRipemd", spec := "hashRipemd", apart := false }
def HashRipemdSaid : Prop := hashRipemdRow.holds Try.pinned (OpenSpec.ofChange hashRipemdSpec)

/-- ITS FALSE NEIGHBOUR: 'it returns false'. Refute it at one input. -/
def hashRipemdWrong : ChangeSpec := { name := "hashRipemd", fn := fun _ => fun
  | [d] => { results := [.lit (.bool false)], args := [d] }
  | _ => none }
def HashRipemdWrongFalsely : Prop := hashRipemdRow.holds Try.pinned (OpenSpec.ofChange hashRipemdWrong)

/-- 'quarrylaw03.HashCuts': WHATEVER THE INPUT: true; the input reads as it did. -/
def hashCutsSpec : ChangeSpec := { name := "hashCuts", fn := fun _ => fun
  | [d] => { results := [.lit (.bool true)], args := [d] }
  | _ => none }
def hashCutsRow : OpenClaim := { program := "ytejgaeadplnfgaa", sum := "cc49ddca1d1d0811f8ad63d0edbd3860baf8c688d2eedd29449d9cfc696ddbb3", func := "quarry/quarrylaw03.HashCuts", spec := "hashCuts", apart := false }
def HashCutsSaid : Prop := hashCutsRow.holds Try.pinned (OpenSpec.ofChange hashCutsSpec)

/-- ITS FALSE NEIGHBOUR: 'it returns false'. Refute it at one input. -/
def hashCutsWrong : ChangeSpec := { name := "hashCuts", fn := fun _ => fun
  | [d] => { results := [.lit (.bool false)], args := [d] }
  | _ => none }
def HashCutsWrongFalsely : Prop := hashCutsRow.holds Try.pinned (OpenSpec.ofChange hashCutsWrong)

/-- 'quarrylaw03.HashApart': WHATEVER THE INPUT: true; the input reads as it did. -/
def hashApartSpec : ChangeSpec := { name := "hashApart", fn := fun _ => fun
  | [d1, d2] => { results := [.lit (.bool true)], args := [d1, d2] }
  | _ => none }
def hashApartRow : OpenClaim := { program := "ytejgaeadplnfgaa", sum := "cc49ddca1d1d0811f8ad63d0edbd3860baf8c688d2eedd29449d9cfc696ddbb3", func := "quarry/quarrylaw03.HashApart", spec := "hashApart", apart := false }
def HashApartSaid : Prop := hashApartRow.holds Try.pinned (OpenSpec.ofChange hashApartSpec)

/-- ITS FALSE NEIGHBOUR: 'it returns false'. Refute it at one input. -/
def hashApartWrong : ChangeSpec := { name := "hashApart", fn := fun _ => fun
  | [d1, d2] => { results := [.lit (.bool false)], args := [d1, d2] }
  | _ => none }
def HashApartWrongFalsely : Prop := hashApartRow.holds Try.pinned (OpenSpec.ofChange hashApartWrong)

/-- 'quarrylaw03.HashOwn': WHATEVER THE INPUT: true; the input reads as it did. -/
def hashOwnSpec : ChangeSpec := { name := "hashOwn", fn := fun _ => fun
  | [d] => { results := [.lit (.bool true)], args := [d] }
  | _ => none }
def hashOwnRow : OpenClaim := { program := "ytejgaeadplnfgaa", sum := "cc49ddca1d1d0811f8ad63d0edbd3860baf8c688d2eedd29449d9cfc696ddbb3", func := "quarry/quarrylaw03.HashOwn", spec := "hashOwn", apart := false }
def HashOwnSaid : Prop := hashOwnRow.holds Try.pinned (OpenSpec.ofChange hashOwnSpec)

/-- ITS FALSE NEIGHBOUR: 'it returns false'. Refute it at one input. -/
def hashOwnWrong : ChangeSpec := { name := "hashOwn", fn := fun _ => fun
  | [d] => { results := [.lit (.bool false)], args := [d] }
  | _ => none }
def HashOwnWrongFalsely : Prop := hashOwnRow.holds Try.pinned (OpenSpec.ofChange hashOwnWrong)

/- THE SECOND FORM. 'bulk': how many values and letters a reading holds, each counted each time it is reached (what is shared counts as often as it is met; a slice's spare places count too). A statement '..UptoSaid' is the law's where the arguments, and the package variables that the reading takes, are together of bulk at most 1048576: NARROWER than '..Said'. Prove '..Said' where nothing that the law and all that it calls make is longer than what came in: it says more and counts as full. Else prove '..UptoSaid'. A law counts once. -/
mutual
def uptoBulk {H : Type} : DataW H → Nat
  | .lit (.string bytes) => bytes.length + 1
  | .lit _ => 1
  | .nil => 1
  | .ptr d => uptoBulk d + 1
  | .slice elems spare => uptoBulkAll elems + uptoBulkAll spare + 1
  | .agg parts => uptoBulkAll parts + 1
  | .iface _ d => uptoBulk d + 1
  | .map entries => uptoBulkEntries entries + 1
  | .held _ => 1
def uptoBulkAll {H : Type} : List (DataW H) → Nat
  | [] => 0
  | d :: r => uptoBulk d + uptoBulkAll r
def uptoBulkEntries {H : Type} : List (Lit × DataW H) → Nat
  | [] => 0
  | x :: r => uptoBulkEntry x + uptoBulkEntries r
def uptoBulkEntry {H : Type} : Lit × DataW H → Nat
  | (.string bytes, d) => bytes.length + uptoBulk d + 1
  | (_, d) => uptoBulk d + 1
 end
def uptoSmall : (H : Type) → List (DataW H) → Bool := fun _ ds => decide (uptoBulkAll ds ≤ 1048576)
def OpenSpec.upto (s : _root_.Go.ChangeSpec) : _root_.Go.OpenSpec := { _root_.Go.OpenSpec.ofChange s with cond := some uptoSmall }

/-- 'quarrylaw03.HashBlake', WHERE WHAT IT READS IS OF BULK AT MOST 1048576: true; the input reads as it did. -/
def hashBlakeUptoRow : OpenClaim := { program := "ytejgaeadplnfgaa", sum := "cc49ddca1d1d0811f8ad63d0edbd3860baf8c688d2eedd29449d9cfc696ddbb3", func := "quarry/quarrylaw03.HashBlake", spec := "hashBlake", apart := false, narrowed := true }
def HashBlakeUptoSaid : Prop := hashBlakeUptoRow.holds Try.pinned (OpenSpec.upto hashBlakeSpec)

/-- 'quarrylaw03.HashRounds', WHERE WHAT IT READS IS OF BULK AT MOST 1048576: true; the input reads as it did. -/
def hashRoundsUptoRow : OpenClaim := { program := "ytejgaeadplnfgaa", sum := "cc49ddca1d1d0811f8ad63d0edbd3860baf8c688d2eedd29449d9cfc696ddbb3", func := "quarry/quarrylaw03.HashRounds", spec := "hashRounds", apart := false, narrowed := true }
def HashRoundsUptoSaid : Prop := hashRoundsUptoRow.holds Try.pinned (OpenSpec.upto hashRoundsSpec)

/-- 'quarrylaw03.HashKeccak', WHERE WHAT IT READS IS OF BULK AT MOST 1048576: true; the input reads as it did. -/
def hashKeccakUptoRow : OpenClaim := { program := "ytejgaeadplnfgaa", sum := "cc49ddca1d1d0811f8ad63d0edbd3860baf8c688d2eedd29449d9cfc696ddbb3", func := "quarry/quarrylaw03.HashKeccak", spec := "hashKeccak", apart := false, narrowed := true }
def HashKeccakUptoSaid : Prop := hashKeccakUptoRow.holds Try.pinned (OpenSpec.upto hashKeccakSpec)

/-- 'quarrylaw03.HashSha', WHERE WHAT IT READS IS OF BULK AT MOST 1048576: true; the input reads as it did. -/
def hashShaUptoRow : OpenClaim := { program := "ytejgaeadplnfgaa", sum := "cc49ddca1d1d0811f8ad63d0edbd3860baf8c688d2eedd29449d9cfc696ddbb3", func := "quarry/quarrylaw03.HashSha", spec := "hashSha", apart := false, narrowed := true }
def HashShaUptoSaid : Prop := hashShaUptoRow.holds Try.pinned (OpenSpec.upto hashShaSpec)

/-- 'quarrylaw03.HashRipemd', WHERE WHAT IT READS IS OF BULK AT MOST 1048576: true; the input reads as it did. -/
def hashRipemdUptoRow : OpenClaim := { program := "ytejgaeadplnfgaa", sum := "cc49ddca1d1d0811f8ad63d0edbd3860baf8c688d2eedd29449d9cfc696ddbb3", func := "quarry/quarrylaw03.HashRipemd", spec := "hashRipemd", apart := false, narrowed := true }
def HashRipemdUptoSaid : Prop := hashRipemdUptoRow.holds Try.pinned (OpenSpec.upto hashRipemdSpec)

/-- 'quarrylaw03.HashCuts', WHERE WHAT IT READS IS OF BULK AT MOST 1048576: true; the input reads as it did. -/
def hashCutsUptoRow : OpenClaim := { program := "ytejgaeadplnfgaa", sum := "cc49ddca1d1d0811f8ad63d0edbd3860baf8c688d2eedd29449d9cfc696ddbb3", func := "quarry/quarrylaw03.HashCuts", spec := "hashCuts", apart := false, narrowed := true }
def HashCutsUptoSaid : Prop := hashCutsUptoRow.holds Try.pinned (OpenSpec.upto hashCutsSpec)

/-- 'quarrylaw03.HashApart', WHERE WHAT IT READS IS OF BULK AT MOST 1048576: true; the input reads as it did. -/
def hashApartUptoRow : OpenClaim := { program := "ytejgaeadplnfgaa", sum := "cc49ddca1d1d0811f8ad63d0edbd3860baf8c688d2eedd29449d9cfc696ddbb3", func := "quarry/quarrylaw03.HashApart", spec := "hashApart", apart := false, narrowed := true }
def HashApartUptoSaid : Prop := hashApartUptoRow.holds Try.pinned (OpenSpec.upto hashApartSpec)

/-- 'quarrylaw03.HashOwn', WHERE WHAT IT READS IS OF BULK AT MOST 1048576: true; the input reads as it did. -/
def hashOwnUptoRow : OpenClaim := { program := "ytejgaeadplnfgaa", sum := "cc49ddca1d1d0811f8ad63d0edbd3860baf8c688d2eedd29449d9cfc696ddbb3", func := "quarry/quarrylaw03.HashOwn", spec := "hashOwn", apart := false, narrowed := true }
def HashOwnUptoSaid : Prop := hashOwnUptoRow.holds Try.pinned (OpenSpec.upto hashOwnSpec)

end Rows
end Go.Proofs.Ytejgaeadplnfgaa
