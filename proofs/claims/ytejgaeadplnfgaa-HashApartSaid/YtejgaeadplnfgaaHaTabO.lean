/- Slices of slices of bytes that came in: tables of rows. -/
import Derived.Test.YtejgaeadplnfgaaHaTab
import Derived.Test.YtejgaeadplnfgaaRows
import Derived.WalkKit
import Derived.ProofKit
import Derived.OpenShut
import Derived.ShutString
import Derived.ChangeOld
namespace Go.Proofs.Sx
open Go Go.RowKit Go.ChangeShapes Go.WideShapes Go.ChangeAt
set_option linter.unusedVariables false
theorem cells5 : Try.prog.cellsOf 5 = 1 := by kernel_rfl
theorem cells32 : Try.prog.cellsOf 32 = 1 := by kernel_rfl
theorem tab_open {H : Type} {enc : TypeId × Value → H} {W : World} {A : Option Addr} {len cap : Nat} {d : DataW H} {p : List MemPlace} (h : DataW.Trod enc Try.prog W 0 (fun _ => true) true 39 (.slice A len cap) d p) :
    ∃ (F : Nat → By) (x0 : Ent), TabAt W x0 F len ∧ (C.vw 0 0 len).is ⟨[x0]⟩ (.slice A len cap) ∧ (∀ g, x0.blk = some g → g < W.heap.size) ∧ ∀ v, x0 = .sv v → ∃ A L K, v = .slice A L K := by
  have none_ : ∀ (A : Option Addr) (cap : Nat), cap ≤ maxLen → ∃ (F : Nat → By) (x0 : Ent), TabAt W x0 F 0 ∧ (C.vw 0 0 0).is ⟨[x0]⟩ (.slice A 0 cap) ∧ (∀ g, x0.blk = some g → g < W.heap.size) ∧ ∀ v, x0 = .sv v → ∃ A L K, v = .slice A L K := by
    intro A cap hcap
    exact ⟨fun _ => [], .sv (.slice none 0 0), ⟨none, 0, rfl, fun i hi => absurd hi (by omega)⟩, ⟨none, 0, 0, A, cap, rfl, rfl, fun h => absurd h (by simp), by simp, by simp, hcap⟩, (fun g hg => by cases hg), fun v hv => by cases hv; exact ⟨_, _, _, rfl⟩⟩
  obtain ⟨fuel, hf⟩ := h
  rcases DataW.trod_slice Try.underlying39 hf with ⟨h0, _⟩ | ⟨a, len', cap', elems, rest, n, _, hcs, hx, hb, hl, hm, hlen, hel, hsp, hns⟩
  · simp [Value.cells] at h0
    obtain ⟨rfl, rfl, rfl⟩ := h0
    exact none_ none 0 (Nat.zero_le _)
  · simp [Value.cells] at hcs
    obtain ⟨rfl, rfl, rfl⟩ := hcs
    by_cases h0 : len = 0
    · subst h0
      exact none_ _ cap hm
    · have each : ∀ i, ∃ b : By, i < len → ∃ (ra : Option Addr) (l c : Nat) (z : List Int), W.cell? (a.add i) = some (.slice ra l c) ∧ IsRow .u8 W ra l c z ∧ b = rowY l z := by
        intro i
        by_cases hi : i < len
        · have he := hel i hi
          rw [cells32, Nat.mul_one] at he
          have hi' : i < elems.length := by rw [hlen]; exact hi
          rw [List.getElem?_eq_getElem hi', Option.bind_eq_some_iff] at he
          obtain ⟨cs', hcs', hy⟩ := he
          rcases open_ints Try.underlying32 Try.underlying5 cells5 hy with ⟨e1, _⟩ | ⟨x, l, c, zs, e1, _, hl1, hm1, hz, _, hcell, hwz⟩
          · subst e1
            exact ⟨rowY 0 [], fun _ => ⟨none, 0, 0, [], cell_of_cells?_one hcs', .inl ⟨rfl, rfl, rfl, rfl⟩, rfl⟩⟩
          · subst e1
            exact ⟨rowY l zs, fun _ => ⟨some x, l, c, zs, cell_of_cells?_one hcs', .inr ⟨x, rfl, hl1, hm1, by simpa using hz, hcell, hwz⟩, rfl⟩⟩
        · exact ⟨[], fun h => absurd h hi⟩
      obtain ⟨F, hF⟩ := Classical.axiomOfChoice each
      have hblk : a.block < W.heap.size := by
        obtain ⟨ra, l, c, z, h1, _⟩ := hF 0 (by omega)
        have := World.block_lt_of_cell? W _ h1
        have e : (a.add 0).block = a.block := by unfold Addr.add; split <;> rfl
        rwa [e] at this
      refine ⟨F, .sv (.slice (some a) len cap), ⟨some a, cap, rfl, fun i hi => ?_⟩, ⟨some a, len, cap, some a, cap, rfl, rfl, fun _ => ⟨a, rfl, ?_⟩, by omega, hl, hm⟩, fun g hg => ?_, fun v hv => by cases hv; exact ⟨_, _, _, rfl⟩⟩
      · obtain ⟨ra, l, c, z, h1, h2, h3⟩ := hF i hi
        exact ⟨a, ra, l, c, z, rfl, h1, h2, h3⟩
      · congr 1
      · have hg' : some a.block = some g := hg
        cases hg'
        exact hblk
end Go.Proofs.Sx
