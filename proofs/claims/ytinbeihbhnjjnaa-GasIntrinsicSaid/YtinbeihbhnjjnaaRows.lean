/-
  No cell of these rows narrows 'for every input' (looked for: loops, veiled, ifaces, maps, wideKeys, modest, calm, conditions, laid).
  DERIVED. THE GIVEN ROWS OF THIS SEAT. 7 by the template 'for every input the law returns true; each argument reads behind the call as it read before'; 0 by the template 'total and deterministic' (their statements: YtinbeihbhnjjnaaTotals.lean).
  GIVEN WITH THE SEED: the statements are not yours to turn. If you find one false, say at which input.
  Laid BY PROGRAM, IN A SANDBOX (cutbox-rows.mjs): the forced cells as the released guide's own fill.sh prints them over the translation 8950da84b3ce0810… (all of the seat's roots in one cut). By AI agents, Wed Nov 11 2026. No macro, syntax, notation, axiom, sorry.
-/
import Derived.Test.YtinbeihbhnjjnaaChecked
import GoSem.Claim
import GoSem.ClaimJoined
import GoSem.ClaimMapViews
import Derived.JoinedTies
import Derived.KernelRfl
namespace Go.Proofs.Ytinbeihbhnjjnaa
/- THE CELL 'sum', in the pinned program and in every row, IS THE sha256 OF THE DUMP (.gsa) THAT YtinbeihbhnjjnaaProg.lean LOADS. Nothing in Lean hashes anything: it is a label: what it is worth is what the hold of that sum in a sandbox is worth. -/
noncomputable def Try.pinned : Pinned := { name := "ytinbeihbhnjjnaa", sum := "8950da84b3ce081063a5da0c9bcaf02687cb1da50a3b09257bfdbc30e82ecdaf", checked := Try.checked }
namespace Rows
def none {H : Type} : Left H := { results := [], args := [] }

/-- 'quarrylaw17.GasGrow': WHATEVER THE INPUT: true; the input reads as it did. -/
def gasGrowSpec : ChangeSpec := { name := "gasGrow", fn := fun _ => fun
  | [d1, d2, d3] => { results := [.lit (.bool true)], args := [d1, d2, d3] }
  | _ => none }
def gasGrowRow : OpenClaim := { program := "ytinbeihbhnjjnaa", sum := "8950da84b3ce081063a5da0c9bcaf02687cb1da50a3b09257bfdbc30e82ecdaf", func := "quarry/quarrylaw17.GasGrow", spec := "gasGrow", inPlace := ["math/bits.Add64"], apart := false }
def GasGrowSaid : Prop := gasGrowRow.holds Try.pinned (OpenSpec.ofChange gasGrowSpec)

/-- ITS FALSE NEIGHBOUR: 'it returns false'. Refute it at one input. -/
def gasGrowWrong : ChangeSpec := { name := "gasGrow", fn := fun _ => fun
  | [d1, d2, d3] => { results := [.lit (.bool false)], args := [d1, d2, d3] }
  | _ => none }
def GasGrowWrongFalsely : Prop := gasGrowRow.holds Try.pinned (OpenSpec.ofChange gasGrowWrong)

/-- 'quarrylaw17.GasSteps': WHATEVER THE INPUT: true; the input reads as it did. -/
def gasStepsSpec : ChangeSpec := { name := "gasSteps", fn := fun _ => fun
  | [d1, d2, d3] => { results := [.lit (.bool true)], args := [d1, d2, d3] }
  | _ => none }
def gasStepsRow : OpenClaim := { program := "ytinbeihbhnjjnaa", sum := "8950da84b3ce081063a5da0c9bcaf02687cb1da50a3b09257bfdbc30e82ecdaf", func := "quarry/quarrylaw17.GasSteps", spec := "gasSteps", inPlace := ["math/bits.Add64"], apart := false }
def GasStepsSaid : Prop := gasStepsRow.holds Try.pinned (OpenSpec.ofChange gasStepsSpec)

/-- ITS FALSE NEIGHBOUR: 'it returns false'. Refute it at one input. -/
def gasStepsWrong : ChangeSpec := { name := "gasSteps", fn := fun _ => fun
  | [d1, d2, d3] => { results := [.lit (.bool false)], args := [d1, d2, d3] }
  | _ => none }
def GasStepsWrongFalsely : Prop := gasStepsRow.holds Try.pinned (OpenSpec.ofChange gasStepsWrong)

/-- 'quarrylaw17.GasPart': WHATEVER THE INPUT: true; the input reads as it did. -/
def gasPartSpec : ChangeSpec := { name := "gasPart", fn := fun _ => fun
  | [d] => { results := [.lit (.bool true)], args := [d] }
  | _ => none }
def gasPartRow : OpenClaim := { program := "ytinbeihbhnjjnaa", sum := "8950da84b3ce081063a5da0c9bcaf02687cb1da50a3b09257bfdbc30e82ecdaf", func := "quarry/quarrylaw17.GasPart", spec := "gasPart", inPlace := ["math/bits.Add64"], apart := false }
def GasPartSaid : Prop := gasPartRow.holds Try.pinned (OpenSpec.ofChange gasPartSpec)

/-- ITS FALSE NEIGHBOUR: 'it returns false'. Refute it at one input. -/
def gasPartWrong : ChangeSpec := { name := "gasPart", fn := fun _ => fun
  | [d] => { results := [.lit (.bool false)], args := [d] }
  | _ => none }
def GasPartWrongFalsely : Prop := gasPartRow.holds Try.pinned (OpenSpec.ofChange gasPartWrong)

/-- 'quarrylaw17.GasBase': WHATEVER THE INPUT: true; the input reads as it did. -/
def gasBaseSpec : ChangeSpec := { name := "gasBase", fn := fun _ => fun
  | [d1, d2, d3] => { results := [.lit (.bool true)], args := [d1, d2, d3] }
  | _ => none }
def gasBaseRow : OpenClaim := { program := "ytinbeihbhnjjnaa", sum := "8950da84b3ce081063a5da0c9bcaf02687cb1da50a3b09257bfdbc30e82ecdaf", func := "quarry/quarrylaw17.GasBase", spec := "gasBase", inPlace := ["math/bits.Add64"], apart := false }
def GasBaseSaid : Prop := gasBaseRow.holds Try.pinned (OpenSpec.ofChange gasBaseSpec)

/-- ITS FALSE NEIGHBOUR: 'it returns false'. Refute it at one input. -/
def gasBaseWrong : ChangeSpec := { name := "gasBase", fn := fun _ => fun
  | [d1, d2, d3] => { results := [.lit (.bool false)], args := [d1, d2, d3] }
  | _ => none }
def GasBaseWrongFalsely : Prop := gasBaseRow.holds Try.pinned (OpenSpec.ofChange gasBaseWrong)

/-- 'quarrylaw17.GasIntrinsic': WHATEVER THE INPUT: true; the input reads as it did. -/
def gasIntrinsicSpec : ChangeSpec := { name := "gasIntrinsic", fn := fun _ => fun
  | [d1, d2] => { results := [.lit (.bool true)], args := [d1, d2] }
  | _ => none }
def gasIntrinsicRow : OpenClaim := { program := "ytinbeihbhnjjnaa", sum := "8950da84b3ce081063a5da0c9bcaf02687cb1da50a3b09257bfdbc30e82ecdaf", func := "quarry/quarrylaw17.GasIntrinsic", spec := "gasIntrinsic", inPlace := ["math/bits.Add64"], apart := false }
def GasIntrinsicSaid : Prop := gasIntrinsicRow.holds Try.pinned (OpenSpec.ofChange gasIntrinsicSpec)

/-- ITS FALSE NEIGHBOUR: 'it returns false'. Refute it at one input. -/
def gasIntrinsicWrong : ChangeSpec := { name := "gasIntrinsic", fn := fun _ => fun
  | [d1, d2] => { results := [.lit (.bool false)], args := [d1, d2] }
  | _ => none }
def GasIntrinsicWrongFalsely : Prop := gasIntrinsicRow.holds Try.pinned (OpenSpec.ofChange gasIntrinsicWrong)

/-- 'quarrylaw17.GasStore': WHATEVER THE INPUT: true; the input reads as it did. -/
def gasStoreSpec : ChangeSpec := { name := "gasStore", fn := fun _ => fun
  | [d1, d2] => { results := [.lit (.bool true)], args := [d1, d2] }
  | _ => none }
def gasStoreRow : OpenClaim := { program := "ytinbeihbhnjjnaa", sum := "8950da84b3ce081063a5da0c9bcaf02687cb1da50a3b09257bfdbc30e82ecdaf", func := "quarry/quarrylaw17.GasStore", spec := "gasStore", inPlace := ["math/bits.Add64"], apart := false }
def GasStoreSaid : Prop := gasStoreRow.holds Try.pinned (OpenSpec.ofChange gasStoreSpec)

/-- ITS FALSE NEIGHBOUR: 'it returns false'. Refute it at one input. -/
def gasStoreWrong : ChangeSpec := { name := "gasStore", fn := fun _ => fun
  | [d1, d2] => { results := [.lit (.bool false)], args := [d1, d2] }
  | _ => none }
def GasStoreWrongFalsely : Prop := gasStoreRow.holds Try.pinned (OpenSpec.ofChange gasStoreWrong)

/-- 'quarrylaw17.GasRounds': WHATEVER THE INPUT: true; the input reads as it did. -/
def gasRoundsSpec : ChangeSpec := { name := "gasRounds", fn := fun _ => fun
  | [d1, d2, d3] => { results := [.lit (.bool true)], args := [d1, d2, d3] }
  | _ => none }
def gasRoundsRow : OpenClaim := { program := "ytinbeihbhnjjnaa", sum := "8950da84b3ce081063a5da0c9bcaf02687cb1da50a3b09257bfdbc30e82ecdaf", func := "quarry/quarrylaw17.GasRounds", spec := "gasRounds", inPlace := ["math/bits.Add64"], apart := false }
def GasRoundsSaid : Prop := gasRoundsRow.holds Try.pinned (OpenSpec.ofChange gasRoundsSpec)

/-- ITS FALSE NEIGHBOUR: 'it returns false'. Refute it at one input. -/
def gasRoundsWrong : ChangeSpec := { name := "gasRounds", fn := fun _ => fun
  | [d1, d2, d3] => { results := [.lit (.bool false)], args := [d1, d2, d3] }
  | _ => none }
def GasRoundsWrongFalsely : Prop := gasRoundsRow.holds Try.pinned (OpenSpec.ofChange gasRoundsWrong)

/- THE SECOND FORM. 'bulk': how many values and letters a reading holds, each counted each time it is reached (what is shared counts as often as it is met; a slice's spare places count too). A statement '..UptoSaid' is the law's where the arguments, and the package variables that the reading takes, are together of bulk at most 1048576: NARROWER than '..Said'. Prove '..Said' where nothing that the law and all that it calls make is longer than what came in: it says more and counts as full. Else prove '..UptoSaid'. A law counts once. -/
mutual
def uptoBulk {H : Type} : DataW H → Nat
  | .lit (.string bytes) => bytes.length + 1
  | .lit _ => 1
  | .nil => 1
  | .ptr d => uptoBulk d + 1
  | .slice elems spare => uptoBulkAll elems + uptoBulkAll spare + 1
  | .agg parts => uptoBulkAll parts + 1
  | .iface _ d => uptoBulk d + 1
  | .map entries => uptoBulkEntries entries + 1
  | .held _ => 1
def uptoBulkAll {H : Type} : List (DataW H) → Nat
  | [] => 0
  | d :: r => uptoBulk d + uptoBulkAll r
def uptoBulkEntries {H : Type} : List (Lit × DataW H) → Nat
  | [] => 0
  | x :: r => uptoBulkEntry x + uptoBulkEntries r
def uptoBulkEntry {H : Type} : Lit × DataW H → Nat
  | (.string bytes, d) => bytes.length + uptoBulk d + 1
  | (_, d) => uptoBulk d + 1
 end
def uptoSmall : (H : Type) → List (DataW H) → Bool := fun _ ds => decide (uptoBulkAll ds ≤ 1048576)
def OpenSpec.upto (s : _root_.Go.ChangeSpec) : _root_.Go.OpenSpec := { _root_.Go.OpenSpec.ofChange s with cond := some uptoSmall }

/-- 'quarrylaw17.GasGrow', WHERE WHAT IT READS IS OF BULK AT MOST 1048576: true; the input reads as it did. -/
def gasGrowUptoRow : OpenClaim := { program := "ytinbeihbhnjjnaa", sum := "8950da84b3ce081063a5da0c9bcaf02687cb1da50a3b09257bfdbc30e82ecdaf", func := "quarry/quarrylaw17.GasGrow", spec := "gasGrow", inPlace := ["math/bits.Add64"], apart := false, narrowed := true }
def GasGrowUptoSaid : Prop := gasGrowUptoRow.holds Try.pinned (OpenSpec.upto gasGrowSpec)

/-- 'quarrylaw17.GasSteps', WHERE WHAT IT READS IS OF BULK AT MOST 1048576: true; the input reads as it did. -/
def gasStepsUptoRow : OpenClaim := { program := "ytinbeihbhnjjnaa", sum := "8950da84b3ce081063a5da0c9bcaf02687cb1da50a3b09257bfdbc30e82ecdaf", func := "quarry/quarrylaw17.GasSteps", spec := "gasSteps", inPlace := ["math/bits.Add64"], apart := false, narrowed := true }
def GasStepsUptoSaid : Prop := gasStepsUptoRow.holds Try.pinned (OpenSpec.upto gasStepsSpec)

/-- 'quarrylaw17.GasPart', WHERE WHAT IT READS IS OF BULK AT MOST 1048576: true; the input reads as it did. -/
def gasPartUptoRow : OpenClaim := { program := "ytinbeihbhnjjnaa", sum := "8950da84b3ce081063a5da0c9bcaf02687cb1da50a3b09257bfdbc30e82ecdaf", func := "quarry/quarrylaw17.GasPart", spec := "gasPart", inPlace := ["math/bits.Add64"], apart := false, narrowed := true }
def GasPartUptoSaid : Prop := gasPartUptoRow.holds Try.pinned (OpenSpec.upto gasPartSpec)

/-- 'quarrylaw17.GasBase', WHERE WHAT IT READS IS OF BULK AT MOST 1048576: true; the input reads as it did. -/
def gasBaseUptoRow : OpenClaim := { program := "ytinbeihbhnjjnaa", sum := "8950da84b3ce081063a5da0c9bcaf02687cb1da50a3b09257bfdbc30e82ecdaf", func := "quarry/quarrylaw17.GasBase", spec := "gasBase", inPlace := ["math/bits.Add64"], apart := false, narrowed := true }
def GasBaseUptoSaid : Prop := gasBaseUptoRow.holds Try.pinned (OpenSpec.upto gasBaseSpec)

/-- 'quarrylaw17.GasIntrinsic', WHERE WHAT IT READS IS OF BULK AT MOST 1048576: true; the input reads as it did. -/
def gasIntrinsicUptoRow : OpenClaim := { program := "ytinbeihbhnjjnaa", sum := "8950da84b3ce081063a5da0c9bcaf02687cb1da50a3b09257bfdbc30e82ecdaf", func := "quarry/quarrylaw17.GasIntrinsic", spec := "gasIntrinsic", inPlace := ["math/bits.Add64"], apart := false, narrowed := true }
def GasIntrinsicUptoSaid : Prop := gasIntrinsicUptoRow.holds Try.pinned (OpenSpec.upto gasIntrinsicSpec)

/-- 'quarrylaw17.GasStore', WHERE WHAT IT READS IS OF BULK AT MOST 1048576: true; the input reads as it did. -/
def gasStoreUptoRow : OpenClaim := { program := "ytinbeihbhnjjnaa", sum := "8950da84b3ce081063a5da0c9bcaf02687cb1da50a3b09257bfdbc30e82ecdaf", func := "quarry/quarrylaw17.GasStore", spec := "gasStore", inPlace := ["math/bits.Add64"], apart := false, narrowed := true }
def GasStoreUptoSaid : Prop := gasStoreUptoRow.holds Try.pinned (OpenSpec.upto gasStoreSpec)

/-- 'quarrylaw17.GasRounds', WHERE WHAT IT READS IS OF BULK AT MOST 1048576: true; the input reads as it did. -/
def gasRoundsUptoRow : OpenClaim := { program := "ytinbeihbhnjjnaa", sum := "8950da84b3ce081063a5da0c9bcaf02687cb1da50a3b09257bfdbc30e82ecdaf", func := "quarry/quarrylaw17.GasRounds", spec := "gasRounds", inPlace := ["math/bits.Add64"], apart := false, narrowed := true }
def GasRoundsUptoSaid : Prop := gasRoundsUptoRow.holds Try.pinned (OpenSpec.upto gasRoundsSpec)

end Rows
end Go.Proofs.Ytinbeihbhnjjnaa
