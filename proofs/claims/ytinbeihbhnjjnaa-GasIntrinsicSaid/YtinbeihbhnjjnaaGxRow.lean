/- Arguments that hold no memory, opened; what is below a call. -/
import Derived.Test.YtinbeihbhnjjnaaGxSteps2
import Derived.Test.YtinbeihbhnjjnaaGxRules
import Derived.WideShapes
namespace Go.Proofs.Sx
open Go Go.RowKit
def valW (v : Value) : W := match v with
  | .int _ n => BitVec.ofInt 64 n
  | _ => 0
def valZ (v : Value) : Int := match v with
  | .int _ n => n
  | _ => 0
def valB (v : Value) : Bool := match v with
  | .bool b => b
  | _ => false
section
variable {w : World} {r : Reach} {base : Nat} {v : Value} {E : Env}
theorem u3 : Try.prog.underlying 3 = some (.int .i64) := by kernel_rfl
theorem u22 : Try.prog.underlying 22 = some (.int .u64) := by kernel_rfl
theorem u4 : Try.prog.underlying 4 = some .bool := by kernel_rfl
set_option maxRecDepth 100000 in
theorem cell22 (h : Cell.okWide Try.prog w r base 22 v) : (C.w64 (valW v)).is E v := by
  unfold Cell.okWide at h
  rw [u22] at h
  unfold Cell.ok at h
  rw [u22] at h
  cases v with
  | int k n =>
    obtain ⟨rfl, h2⟩ := h
    show Value.int .u64 n = .int .u64 _
    have h3 : 0 ≤ n ∧ n ≤ 18446744073709551615 := h2
    simp only [valW, BitVec.toNat_ofInt]
    congr 1
    omega
  | _ => exact h.elim
set_option maxRecDepth 100000 in
theorem cell3 (h : Cell.okWide Try.prog w r base 3 v) : (C.zi (valZ v)).is E v := by
  unfold Cell.okWide at h
  rw [u3] at h
  unfold Cell.ok at h
  rw [u3] at h
  cases v with
  | int k n =>
    obtain ⟨rfl, h2⟩ := h
    rfl
  | _ => exact h.elim
set_option maxRecDepth 100000 in
theorem cell3_rng (h : Cell.okWide Try.prog w r base 3 v) : -9223372036854775808 ≤ valZ v ∧ valZ v ≤ 9223372036854775807 := by
  unfold Cell.okWide at h
  rw [u3] at h
  unfold Cell.ok at h
  rw [u3] at h
  cases v with
  | int k n =>
    obtain ⟨rfl, h2⟩ := h
    exact h2
  | _ => exact h.elim
set_option maxRecDepth 100000 in
theorem cell4 (h : Cell.okWide Try.prog w r base 4 v) : (C.bl (valB v)).is E v := by
  unfold Cell.okWide at h
  rw [u4] at h
  unfold Cell.ok at h
  rw [u4] at h
  cases v with
  | bool b => rfl
  | _ => exact h.elim
def aggT (P : Program) (t : TypeId) : Bool :=
  match P.underlying t with
  | some (.struct _) => true
  | some (.array _ _) => true
  | _ => false
theorem okWide_agg {P : Program} {t : TypeId} (hs : aggT P t = true) (h : Value.okWide P w r base t v) : ∃ cs, v = .agg cs ∧ cs.size = P.cellsOf t ∧ Row.okWide P w r base t cs := by
  unfold aggT at hs
  split at hs
  · rename_i fs hu
    simpa only [Value.okWide, hu] using h
  · rename_i n e hu
    simpa only [Value.okWide, hu] using h
  · cases hs
theorem okWide_cell {P : Program} {t : TypeId} (hs : aggT P t = false) (h : Value.okWide P w r base t v) : Cell.okWide P w r base t v := by
  unfold Value.okWide at h
  unfold aggT at hs
  split at h
  · rename_i fs hu
    rw [hu] at hs; cases hs
  · rename_i n e hu
    rw [hu] at hs; cases hs
  · exact h
theorem agg_open {P : Program} {t : TypeId} {n : Nat} {ts : List TypeId} (hs : aggT P t = true) (hts : P.cellTypes P.depth t = some ts) (hn : P.cellsOf t = n) (hl : ts.length = n) (h : Value.okWide P w r base t v) :
    ∃ g : Nat → Value, v = .agg ((List.range n).map g).toArray ∧ ∀ i, i < n → Cell.okWide P w r base (ts.getD i 0) (g i) := by
  obtain ⟨cs, rfl, hsz, ts', hts', _, hc⟩ := okWide_agg hs h
  rw [hts] at hts'
  cases hts'
  rw [hn] at hsz
  refine ⟨fun i => cs.toList.getD i undef, ?_, fun i hi => ?_⟩
  · congr 1
    apply Array.ext'
    apply List.ext_getElem?
    intro i
    rcases Nat.lt_or_ge i n with hi | hi
    · have h1 : i < cs.size := by omega
      simp [List.getElem?_map, List.getElem?_range hi, h1]
    · rw [List.getElem?_eq_none (by simpa using by omega), List.getElem?_eq_none (by simpa using hi)]
  · have h1 : i < cs.size := by omega
    have h2 : cs[i]? = some (cs.toList.getD i undef) := by
      rw [Array.getElem?_eq_getElem h1]
      simp [List.getD, h1]
    obtain ⟨u, h3, h4⟩ := hc i _ h2
    rw [hl, Nat.mod_eq_of_lt hi] at h3
    rw [List.getD_eq_getElem?_getD, h3]
    exact h4
theorem a22 : aggT Try.prog 22 = false := by kernel_rfl
theorem a3 : aggT Try.prog 3 = false := by kernel_rfl
theorem a24 : aggT Try.prog 24 = true := by kernel_rfl
theorem t24 : Try.prog.cellTypes Try.prog.depth 24 = some [22, 22, 22, 22] := by kernel_rfl
theorem n24 : Try.prog.cellsOf 24 = 4 := by kernel_rfl
set_option maxRecDepth 100000 in
theorem word_open (h : Value.okWide Try.prog w r base 22 v) : ∃ x : W, ∀ E : Env, (V.one (.w64 x)).is E v := ⟨valW v, fun E => cell22 (E := E) (okWide_cell a22 h)⟩
set_option maxRecDepth 100000 in
theorem int_open (h : Value.okWide Try.prog w r base 3 v) : ∃ z : Int, ∀ E : Env, (V.one (.zi z)).is E v := ⟨valZ v, fun E => cell3 (E := E) (okWide_cell a3 h)⟩
set_option maxRecDepth 100000 in
theorem quad_open (h : Value.okWide Try.prog w r base 24 v) : ∃ a : Q, ∀ E : Env, (V.ag (w4 a)).is E v := by
  obtain ⟨g, rfl, hg⟩ := agg_open a24 t24 n24 rfl h
  exact ⟨fun i => valW (g i), fun E => ⟨_, rfl, cell22 (hg 0 (by decide)), cell22 (hg 1 (by decide)), cell22 (hg 2 (by decide)), cell22 (hg 3 (by decide)), trivial⟩⟩
end
end Go.Proofs.Sx
