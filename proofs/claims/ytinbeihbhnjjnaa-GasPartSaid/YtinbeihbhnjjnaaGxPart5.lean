/- The law on what a call is given: its argument, opened. -/
import Derived.Test.YtinbeihbhnjjnaaGxRow
import Derived.Test.YtinbeihbhnjjnaaGxPart4
namespace Go.Proofs.Sx
open Go
theorem a32 : aggT Try.prog 32 = true := by kernel_rfl
theorem t32 : Try.prog.cellTypes Try.prog.depth 32 = some [3, 22, 22, 22, 22, 22, 22] := by kernel_rfl
theorem n32 : Try.prog.cellsOf 32 = 7 := by kernel_rfl
set_option maxRecDepth 100000 in
theorem ask_open {w : World} {r : Reach} {base : Nat} {v : Value} (h : Value.okWide Try.prog w r base 32 v) : ∃ x : Ask, ∀ E : Env, (V.ag (askC x)).is E v := by
  obtain ⟨g, rfl, hg⟩ := agg_open a32 t32 n32 rfl h
  exact ⟨⟨valZ (g 0), valW (g 1), fun i => valW (g (2 + i)), valW (g 6)⟩, fun E => ⟨_, rfl, cell3 (hg 0 (by decide)), cell22 (hg 1 (by decide)), cell22 (hg 2 (by decide)), cell22 (hg 3 (by decide)), cell22 (hg 4 (by decide)), cell22 (hg 5 (by decide)), cell22 (hg 6 (by decide)), trivial⟩⟩
end Go.Proofs.Sx
