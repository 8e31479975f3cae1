/- The law on rounds of writes: its arguments, opened. -/
import Derived.Test.YtinbeihbhnjjnaaGxRounds4
import Derived.Deep.Slices
import Derived.Laws.IdiomArrays
import Derived.OpenShut
namespace Go.Proofs.Sx
open Go Go.RowKit Go.ChangeShapes
theorem u60 : Try.prog.underlying 60 = some (.slice 24) := by kernel_rfl
theorem u24 : Try.prog.underlying 24 = some (.array 4 22) := by kernel_rfl
theorem c24 : Try.prog.cellsOf 24 = 4 := by kernel_rfl
theorem c22 : Try.prog.cellsOf 22 = 1 := by kernel_rfl
/-- A world with one region that is read. -/
theorem HR.read {w : World} {F : Nat → Q} {n : Nat} {x : Ent} (hx : RegIs ⟨[x]⟩ w 0 (.qs F n)) (hlt : ∀ g, x.blk = some g → g < w.heap.size) (hok : ∀ v, x = .sv v → ∃ A L K, v = .slice A L K) :
    HR (fun _ => False) w ⟨[x]⟩ [.qs F n] w := by
  have one : ∀ {r : Nat} {y : Ent}, ([x] : List Ent)[r]? = some y → r = 0 ∧ y = x := by
    intro r y h
    cases r with
    | zero => simp at h; exact ⟨rfl, h.symm⟩
    | succ r => simp at h
  refine ⟨rfl, fun r R hR => ?_, fun r r' R R' y y' g hR ho => ?_, fun r R y g hR ho => ?_, fun r y g hy hg => ?_, fun r v hv => ?_, rfl, rfl, rfl, Nat.le_refl _, fun _ _ _ => rfl⟩
  · cases r with
    | zero => simp at hR; subst hR; exact hx
    | succ r => simp at hR
  · cases r with
    | zero => simp at hR; subst hR; cases ho
    | succ r => simp at hR
  · cases r with
    | zero => simp at hR; subst hR; cases ho
    | succ r => simp at hR
  · obtain ⟨_, rfl⟩ := one hy
    exact hlt g hg
  · exact hok v (one hv).2.symm
theorem calls_read {f : FuncId} {vs : List V} {us : List Value} {F : Nat → Q} {n : Nat} {hp1 : List Reg} {chg : Bool} {x : Ent} (h : Runs Try.prog f vs [.qs F n] (.one (.bl true)) hp1 chg) {w : World} (hh : HR (fun _ => False) w ⟨[x]⟩ [.qs F n] w) (hv : All2 (V.is ⟨[x]⟩) vs us) :
    Calls Try.prog f us.toArray w fun e w' => e = .returned (.bool true) ∧ Below w.heap.size w w' := by
  refine Calls.mono (h (fun _ => False) w ⟨[x]⟩ us w hv hh) fun e w1 ⟨E1, u, _, he, hu, hh1, _⟩ => ?_
  have hu' : u = .bool true := hu
  subst hu'
  exact ⟨he, hh1.os, hh1.tape, hh1.output, hh1.size, fun k hk => hh1.keep k hk (fun h => h)⟩
theorem a60 : aggT Try.prog 60 = false := by kernel_rfl
theorem HR.none_ {w : World} {F : Nat → Q} : HR (fun _ => False) w ⟨[.sv (.slice none 0 0)]⟩ [.qs F 0] w :=
  HR.read (.inl rfl) (fun g h => by cases h) (fun v h => by cases h; exact ⟨_, _, _, rfl⟩)
theorem wf_nat {z : Int} (h : (Lit.int .u64 z).wf = true) : z = ((BitVec.ofInt 64 z).toNat : Int) := by
  have := word_is h ⟨[]⟩
  have h2 : Value.int .u64 z = .int .u64 ((BitVec.ofInt 64 z).toNat : Int) := this
  injection h2
set_option maxRecDepth 100000 in
theorem quads_open {H : Type} {enc : TypeId × Value → H} {W : World} {base : Nat} {v : Value} {d : DataW H} {p : List MemPlace} (hval : Value.okWide Try.prog W .any base 60 v) (h : DataW.Trod enc Try.prog W 0 (fun _ => true) true 60 v d p) :
    ∃ (F : Nat → Q) (n : Nat) (x : Ent), HR (fun _ => False) W ⟨[x]⟩ [.qs F n] W ∧ (C.qv 0 n).is ⟨[x]⟩ v := by
  have hc := okWide_cell a60 hval
  unfold Cell.okWide at hc
  rw [u60] at hc
  unfold Cell.ok at hc
  rw [u60] at hc
  cases v with
  | slice A len cap =>
    cases A with
    | none =>
      cases len with
      | zero => exact ⟨fun _ _ => 0#64, 0, _, HR.none_, ⟨none, cap, rfl, by decide, fun h => absurd h (by decide)⟩⟩
      | succ k => exact hc.elim
    | some a =>
      obtain ⟨hle, hcm, hhas⟩ := hc
      obtain ⟨_, hspot, _⟩ := hhas
      obtain ⟨g, o, sp⟩ := a
      simp only at hspot
      subst hspot
      obtain ⟨fuel, h⟩ := h
      rcases Go.Deep.open_slice u60 h with ⟨h0, _⟩ | ⟨a, len', cap', m, q, D, Pl, hcs, _, hl, hmx, hm, _, hall⟩
      · simp [Value.cells] at h0
      · simp only [Value.cells, List.cons.injEq, and_true, Value.slice.injEq, Option.some.injEq] at hcs
        obtain ⟨rfl, rfl, rfl⟩ := hcs
        by_cases hpos : 0 < len
        · have cell : ∀ i j, i < len → j < 4 → W.cell? ⟨g, o + i * 4 + j, none⟩ = some (.int .u64 ((valW ((W.cell? ⟨g, o + i * 4 + j, none⟩).getD undef)).toNat : Int)) := by
            intro i j hi hj
            obtain ⟨cs', hr, ht⟩ := hall i (by simp only [if_true] at hm; omega)
            rw [c24] at hr
            obtain ⟨_, hlen, hcell⟩ := World.cells?_some hr
            match cs', hlen with
            | [c0, c1, c2, c3], _ =>
              obtain ⟨y0, y1, y2, y3, q', _, t0, t1, t2, t3⟩ := trod_array4 u24 c22 ht
              obtain ⟨z0, e0, _, w0⟩ := DataW.trod_int u22 t0
              obtain ⟨z1, e1, _, w1⟩ := DataW.trod_int u22 t1
              obtain ⟨z2, e2, _, w2⟩ := DataW.trod_int u22 t2
              obtain ⟨z3, e3, _, w3⟩ := DataW.trod_int u22 t3
              cases e0; cases e1; cases e2; cases e3
              have hcj := hcell j hj
              rw [add_off, add_off] at hcj
              have fin : ∀ z : Int, (Lit.int .u64 z).wf = true → W.cell? ⟨g, o + i * 4 + j, none⟩ = some (.int .u64 z) → W.cell? ⟨g, o + i * 4 + j, none⟩ = some (.int .u64 ((valW ((W.cell? ⟨g, o + i * 4 + j, none⟩).getD undef)).toNat : Int)) := by
                intro z hz hce
                rw [hce]
                simp only [Option.getD_some, valW]
                rw [← wf_nat hz]
              match j, hj with
              | 0, _ => exact fin z0 w0 hcj
              | 1, _ => exact fin z1 w1 hcj
              | 2, _ => exact fin z2 w2 hcj
              | 3, _ => exact fin z3 w3 hcj
          have hlt : g < W.heap.size := World.block_lt_of_cell? W ⟨g, o + 0 * 4 + 0, none⟩ (cell 0 0 hpos (by decide))
          refine ⟨fun i j => valW ((W.cell? ⟨g, o + i * 4 + j, none⟩).getD undef), len, .at_ g o, HR.read (.inr ⟨g, o, rfl, fun j i hj hi => cell j i hj hi⟩) (fun g' h => by cases h; exact hlt) (fun v h => by cases h), ⟨_, cap, rfl, by simp only [maxLen] at hmx; omega, fun _ => ⟨g, o, rfl, rfl⟩⟩⟩
        · have h0 : len = 0 := by omega
          subst h0
          exact ⟨fun _ _ => 0#64, 0, _, HR.none_, ⟨_, cap, rfl, by decide, fun h => absurd h (by decide)⟩⟩
  | _ => exact hc.elim
end Go.Proofs.Sx
