/- A law that is handed bytes: the bytes as they came in. -/
import Derived.Test.YtejgaeadplnfgaaHaPadM
import Derived.Test.YtejgaeadplnfgaaHaBlakeRow
namespace Go.Proofs.Sx
open Go Go.RowKit

/-- What the walk is told of a slice of integers that came in: it is nil; or it leads to a row of 'cap' cells, the numbers 'zs', each fitting its kind. -/
def IsRow (k : IntKind) (w : World) (a : Option Addr) (len cap : Nat) (zs : List Int) : Prop :=
  (a = none ∧ len = 0 ∧ cap = 0 ∧ zs = []) ∨
  ∃ x, a = some x ∧ len ≤ cap ∧ cap ≤ maxLen ∧ zs.length = cap ∧ (∀ i, i < zs.length → w.cell? (x.add i) = some (.int k (zs.getD i 0))) ∧ ∀ n ∈ zs, (Lit.int k n).wf = true
theorem wf8 {z : Int} (h : (Lit.int .u8 z).wf = true) : 0 ≤ z ∧ z ≤ 255 := by simpa [Lit.wf, IntKind.min, IntKind.max, IntKind.signed, IntKind.bits] using h
theorem B8_of {z : Int} (h : (Lit.int .u8 z).wf = true) : Value.int .u8 z = B8 (BitVec.ofInt 8 z) := by
  have := wf8 h
  show Value.int .u8 z = .int .u8 _
  rw [BitVec.toNat_ofInt]
  congr 1
  omega
/-- Bytes that came in: a region, and the value, a view of it all. -/
theorem row_open {w : World} {a : Option Addr} {len cap : Nat} {z : List Int} (h : IsRow .u8 w a len cap z) : ∃ (b : By) (u : Value), b.length = len ∧ len ≤ maxLen ∧ (∀ bd, len ≤ bd → HR (fun _ => False) w ⟨[.sv u]⟩ [.rd b bd] w) ∧ (C.vw 0 0 b.length).is ⟨[.sv u]⟩ (.slice a len cap) := by
  have none_ : ∀ {w : World} bd, HR (fun _ => False) w ⟨[.sv (.slice none 0 0)]⟩ [.rd [] bd] w := fun bd => HR.alone ⟨none, 0, rfl, by simp, by simp, by simp [maxLen], fun j y hj => by simp at hj⟩ fun g hg => by cases hg
  rcases h with ⟨rfl, rfl, rfl, rfl⟩ | ⟨x, rfl, hlen, hcap, hz, hcell, hwf⟩
  · exact ⟨[], .slice none 0 0, rfl, Nat.zero_le _, fun bd _ => none_ bd, none, 0, 0, none, 0, rfl, rfl, fun h => absurd h (by simp), by simp, by simp, by simp [maxLen]⟩
  · by_cases h0 : len = 0
    · subst h0
      exact ⟨[], .slice none 0 0, rfl, Nat.zero_le _, fun bd _ => none_ bd, none, 0, 0, some x, cap, rfl, rfl, fun h => absurd h (by simp), by simp, by simp, hcap⟩
    · refine ⟨(z.take len).map (BitVec.ofInt 8), .slice (some x) len cap, ?_, Nat.le_trans hlen hcap, fun bd hbd => ?_, ?_⟩
      · rw [List.length_map, List.length_take]; omega
      · have hl : ((z.take len).map (BitVec.ofInt 8)).length = len := by rw [List.length_map, List.length_take]; omega
        refine HR.alone ⟨some x, cap, by rw [hl]; rfl, by rw [hl]; exact hbd, by rw [hl]; exact hlen, hcap, fun j y hj => ⟨x, rfl, ?_⟩⟩ fun g hg => ?_
        · have hj' : j < len := by
            rcases Nat.lt_or_ge j len with h | h
            · exact h
            · rw [List.getElem?_eq_none (by rw [hl]; exact h)] at hj; cases hj
          have hjz : j < z.length := by omega
          rw [List.getElem?_map, List.getElem?_take_of_lt hj', List.getElem?_eq_getElem hjz, Option.map_some] at hj
          cases hj
          have hw := hwf z[j] (List.getElem_mem hjz)
          rw [hcell j hjz, List.getD_eq_getElem?_getD, List.getElem?_eq_getElem hjz]
          show some (Value.int .u8 z[j]) = _
          rw [B8_of hw]
        · have := World.block_lt_of_cell? w _ (hcell 0 (by omega))
          have e : (x.add 0).block = x.block := by unfold Addr.add; split <;> rfl
          rw [e] at this
          have hg' : some x.block = some g := hg
          cases hg'
          exact this
      · have hl : ((z.take len).map (BitVec.ofInt 8)).length = len := by rw [List.length_map, List.length_take]; omega
        rw [hl]
        refine ⟨some x, len, cap, some x, cap, rfl, rfl, fun _ => ⟨x, rfl, ?_⟩, by omega, hlen, hcap⟩
        congr 1
/-- A function that is handed bytes and returns true: memory has only grown. -/
theorem calls_rd {f : FuncId} (h : ∀ b : By, b.length ≤ maxLen → ∃ bd hp1 chg, b.length ≤ bd ∧ Runs Try.prog f [.one (.vw 0 0 b.length)] [.rd b bd] (.one (.bl true)) hp1 chg) {w : World} {a : Option Addr} {len cap : Nat} {z : List Int} (hr : IsRow .u8 w a len cap z) :
    Calls Try.prog f #[.slice a len cap] w fun e w' => e = .returned (.bool true) ∧ Below w.heap.size w w' := by
  obtain ⟨b, u, hl, hm, hh, hv⟩ := row_open hr
  obtain ⟨bd, hp1, chg, hbd, hrun⟩ := h b (by omega)
  refine Calls.mono (hrun (fun _ => False) w ⟨[.sv u]⟩ [.slice a len cap] w ⟨hv, trivial⟩ (hh bd (by omega))) fun e w1 ⟨E1, y, _, he, hy, hh1, _⟩ => ?_
  have hg := hh1.grew
  have hy' : y = .bool true := hy
  subst hy'
  exact ⟨he, hg.os, hg.tape, hg.output, hg.size, fun k hk => hg.block k hk (by simp)⟩

def eqB8 : By → By → Bool
  | x :: l, y :: l' => (x == y) && eqB8 l l'
  | _, _ => true
theorem eqB8_self : ∀ l : By, eqB8 l l = true
  | [] => rfl
  | x :: l => by simp [eqB8, eqB8_self l]
end Go.Proofs.Sx
