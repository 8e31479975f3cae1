/- A block for Blake, handed in by value: what it is, in letters; and the law's own function. -/
import Derived.Test.YtejgaeadplnfgaaHaBlake4
import Derived.Test.YtejgaeadplnfgaaHaWake2
import Derived.WideShapes
namespace Go.Proofs.Sx
open Go

def blockC (n : BitVec 32) (h m t : Nat → W) (fin : Bool) : List C :=
  .w32 n :: (toC (lst h 0 8) ++ (toC (lst m 0 16) ++ (toC (lst t 0 2) ++ [.bl fin])))

def valW (v : Value) : W := match v with
  | .int _ n => BitVec.ofInt 64 n
  | _ => 0
def valW32 (v : Value) : BitVec 32 := match v with
  | .int _ n => BitVec.ofInt 32 n
  | _ => 0
def valB (v : Value) : Bool := match v with
  | .bool b => b
  | _ => false

section
variable {w : World} {r : Reach} {base : Nat} {v : Value} {E : Env}
theorem u22 : Try.prog.underlying 22 = some (.int .u32) := by kernel_rfl
theorem u23 : Try.prog.underlying 23 = some (.int .u64) := by kernel_rfl
theorem u4 : Try.prog.underlying 4 = some .bool := by kernel_rfl
theorem cell22 (h : Cell.okWide Try.prog w r base 22 v) : (C.w32 (valW32 v)).is E v := by
  unfold Cell.okWide at h
  rw [u22] at h
  unfold Cell.ok at h
  rw [u22] at h
  cases v with
  | int k n =>
    obtain ⟨rfl, h2⟩ := h
    show Value.int .u32 n = .int .u32 _
    have h3 : 0 ≤ n ∧ n ≤ 4294967295 := h2
    simp only [valW32, BitVec.toNat_ofInt]
    congr 1
    omega
  | _ => exact h.elim
theorem cell23 (h : Cell.okWide Try.prog w r base 23 v) : (C.w64 (valW v)).is E v := by
  unfold Cell.okWide at h
  rw [u23] at h
  unfold Cell.ok at h
  rw [u23] at h
  cases v with
  | int k n =>
    obtain ⟨rfl, h2⟩ := h
    show Value.int .u64 n = .int .u64 _
    have h3 : 0 ≤ n ∧ n ≤ 18446744073709551615 := h2
    simp only [valW, BitVec.toNat_ofInt]
    congr 1
    omega
  | _ => exact h.elim
theorem cell4 (h : Cell.okWide Try.prog w r base 4 v) : (C.bl (valB v)).is E v := by
  unfold Cell.okWide at h
  rw [u4] at h
  unfold Cell.ok at h
  rw [u4] at h
  cases v with
  | bool b => rfl
  | _ => exact h.elim

def isStr (P : Program) (t : TypeId) : Bool :=
  match P.underlying t with
  | some (.struct _) => true
  | _ => false
theorem str28 : isStr Try.prog 28 = true := by kernel_rfl
theorem okWide_str {P : Program} {t : TypeId} (hs : isStr P t = true) (h : Value.okWide P w r base t v) : ∃ cs, v = .agg cs ∧ cs.size = P.cellsOf t ∧ Row.okWide P w r base t cs := by
  unfold isStr at hs
  split at hs
  · rename_i fs hu
    simpa only [Value.okWide, hu] using h
  · cases hs
def blockTs : List TypeId := [22, 23, 23, 23, 23, 23, 23, 23, 23, 23, 23, 23, 23, 23, 23, 23, 23, 23, 23, 23, 23, 23, 23, 23, 23, 23, 23, 4]
theorem block_open (h : Value.okWide Try.prog w r base 28 v) : ∃ (n : BitVec 32) (h m t : Nat → W) (fin : Bool), ∀ E : Env, (V.ag (blockC n h m t fin)).is E v := by
  obtain ⟨cs, rfl, hsz, ts, hts, _, hc⟩ := okWide_str str28 h
  have hts2 : Try.prog.cellTypes Try.prog.depth 28 = some blockTs := by kernel_rfl
  rw [hts2] at hts
  cases hts
  have hsz2 : Try.prog.cellsOf 28 = 28 := by kernel_rfl
  rw [hsz2] at hsz
  have hg : ∀ i, (hi : i < 28) → Cell.okWide Try.prog w r base (blockTs.getD i 0) (cs.toList.getD i undef) := by
    intro i hi
    have h1 : i < cs.size := by omega
    have h2 : cs[i]? = some (cs.toList.getD i undef) := by
      rw [Array.getElem?_eq_getElem h1]
      simp [List.getD, h1]
    obtain ⟨u, h3, h4⟩ := hc i _ h2
    have h5 : i % blockTs.length = i := Nat.mod_eq_of_lt hi
    rw [h5] at h3
    rw [List.getD_eq_getElem?_getD, h3]
    exact h4
  have hl : cs.toList = (List.range 28).map fun i => cs.toList.getD i undef := by
    apply List.ext_getElem?
    intro i
    rcases Nat.lt_or_ge i 28 with hi | hi
    · rw [List.getElem?_map, List.getElem?_range hi]
      have h1 : i < cs.toList.length := by simpa using by omega
      have h2 : i < cs.size := by omega
      simp [List.getD, h2]
    · rw [List.getElem?_eq_none (by simpa using by omega), List.getElem?_eq_none (by simpa using hi)]
  refine ⟨valW32 (cs.toList.getD 0 undef), fun i => valW (cs.toList.getD (1 + i) undef), fun i => valW (cs.toList.getD (9 + i) undef), fun i => valW (cs.toList.getD (25 + i) undef), valB (cs.toList.getD 27 undef), fun E => ⟨cs.toList, by simp, ?_⟩⟩
  rw [hl]
  exact ⟨cell22 (hg 0 (by decide)), cell23 (hg 1 (by decide)), cell23 (hg 2 (by decide)), cell23 (hg 3 (by decide)), cell23 (hg 4 (by decide)), cell23 (hg 5 (by decide)), cell23 (hg 6 (by decide)), cell23 (hg 7 (by decide)), cell23 (hg 8 (by decide)), cell23 (hg 9 (by decide)), cell23 (hg 10 (by decide)), cell23 (hg 11 (by decide)), cell23 (hg 12 (by decide)), cell23 (hg 13 (by decide)), cell23 (hg 14 (by decide)), cell23 (hg 15 (by decide)), cell23 (hg 16 (by decide)), cell23 (hg 17 (by decide)), cell23 (hg 18 (by decide)), cell23 (hg 19 (by decide)), cell23 (hg 20 (by decide)), cell23 (hg 21 (by decide)), cell23 (hg 22 (by decide)), cell23 (hg 23 (by decide)), cell23 (hg 24 (by decide)), cell23 (hg 25 (by decide)), cell23 (hg 26 (by decide)), cell4 (hg 27 (by decide)), trivial⟩
end
end Go.Proofs.Sx
