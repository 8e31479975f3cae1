/- The law on what a transaction takes: its argument, opened. -/
import Derived.Test.YtinbeihbhnjjnaaGxIn17
import Derived.Test.YtinbeihbhnjjnaaGxRow
import Derived.Deep.Slices
import Derived.OpenShut
namespace Go.Proofs.Sx
open Go Go.RowKit Go.ChangeShapes
set_option linter.unusedVariables false
theorem u5' : Try.prog.underlying 5 = some (.int .u8) := by kernel_rfl
theorem c5' : Try.prog.cellsOf 5 = 1 := by kernel_rfl
theorem u47' : Try.prog.underlying 47 = some (.slice 5) := by kernel_rfl
theorem u48' : Try.prog.underlying 48 = some (.slice 82) := by kernel_rfl
theorem u49' : Try.prog.underlying 49 = some (.slice 122) := by kernel_rfl
theorem u45' : Try.prog.underlying 122 = some (.array 32 5) := by kernel_rfl
theorem u46' : Try.prog.underlying 46 = some (.array 20 5) := by kernel_rfl
theorem c45' : Try.prog.cellsOf 122 = 32 := by kernel_rfl
theorem c46' : Try.prog.cellsOf 46 = 20 := by kernel_rfl
theorem c47' : Try.prog.cellsOf 47 = 1 := by kernel_rfl
theorem c48' : Try.prog.cellsOf 48 = 1 := by kernel_rfl
theorem c49' : Try.prog.cellsOf 49 = 1 := by kernel_rfl
theorem c82' : Try.prog.cellsOf 82 = 21 := by kernel_rfl
noncomputable def fsOf (t : TypeId) : Array Field := match Try.prog.underlying t with
  | some (.struct fs) => fs
  | _ => #[]
theorem u51' : Try.prog.underlying 51 = some (.struct (fsOf 51)) := by kernel_rfl
theorem u82' : Try.prog.underlying 82 = some (.struct (fsOf 82)) := by kernel_rfl
def fieldIs (fs : Array Field) (i off t : Nat) : Bool := match fs[i]? with
  | some f => Nat.beq f.offset off && Nat.beq f.type t
  | none => false
theorem fieldIs_is {fs : Array Field} {i off t : Nat} (h : fieldIs fs i off t = true) : ∃ f, fs[i]? = some f ∧ f.offset = off ∧ f.type = t := by
  unfold fieldIs at h
  split at h
  · rename_i f hf
    rw [Bool.and_eq_true] at h
    exact ⟨f, hf, Nat.eq_of_beq_eq_true h.1, Nat.eq_of_beq_eq_true h.2⟩
  · cases h
theorem fd51 : (fieldIs (fsOf 51) 9 37 47 && (fieldIs (fsOf 51) 10 38 48 && fieldIs (fsOf 51) 12 43 49)) = true := by kernel_rfl
theorem fd82 : (fieldIs (fsOf 82) 0 0 46 && fieldIs (fsOf 82) 1 20 49) = true := by kernel_rfl
theorem spot_none {w : World} {a : Addr} {v : Value} (h : w.cell? a = some v) : a.spot = none := by
  unfold World.cell? at h
  split at h
  · split at h
    · cases h
    · rename_i hs
      cases hq : a.spot with
      | none => rfl
      | some k => rw [hq] at hs; exact absurd rfl hs
  · cases h
theorem add_zero' (a : Addr) : a.add 0 = a := by unfold Addr.add; simp
section
variable {H : Type} {enc : TypeId × Value → H} {W : World}
abbrev Tr (enc : TypeId × Value → H) (W : World) (fuel : Nat) (t : TypeId) (cs : List Value) (y : DataW H × List MemPlace) : Prop := DataW.trod enc Try.prog W 0 (fun _ => true) true fuel t cs = some y
theorem tr_u8 {fuel : Nat} {cs : List Value} {y : DataW H × List MemPlace} (h : Tr enc W fuel 5 cs y) : ∃ z : Int, cs = [.int .u8 z] ∧ 0 ≤ z ∧ z ≤ 255 := by
  obtain ⟨z, e, _, hw⟩ := DataW.trod_int u5' h
  refine ⟨z, e, ?_⟩
  simp [Lit.wf, IntKind.min, IntKind.max, IntKind.signed, IntKind.bits] at hw
  omega
theorem tr_arr {fuel n t : Nat} {cs : List Value} {y : DataW H × List MemPlace} (hu : Try.prog.underlying t = some (.array n 5)) (h : Tr enc W fuel t cs y) : ∀ j, j < n → ∃ z : Int, cs[j]? = some (.int .u8 z) ∧ 0 ≤ z ∧ z ≤ 255 := by
  intro j hj
  obtain ⟨xs, m, _, _, _, hx, hall⟩ := DataW.trod_array hu h
  have h1 := hall j hj
  rw [c5', Nat.mul_one, List.getElem?_eq_getElem (by omega)] at h1
  obtain ⟨z, e, hz⟩ := tr_u8 h1
  refine ⟨z, ?_, hz⟩
  have e2 : (cs.drop j).take 1 = [Value.int .u8 z] := e
  have e3 : ((cs.drop j).take 1)[0]? = some (Value.int .u8 z) := by rw [e2]; rfl
  rw [List.getElem?_take_of_lt (by omega), List.getElem?_drop, Nat.add_zero] at e3
  exact e3
/-- A row of hashes that can be read. -/
def KeyAt (W : World) (s : Value) (k : Nat) (e : Ent) : Prop := (∃ A c, s = .slice A k c ∧ (k < 9223372036854775808 ∧ k ≤ c ∧ c ≤ maxLen) ∧ (0 < k → ∃ g o, e = .at_ g o ∧ A = some ⟨g, o, none⟩)) ∧
  (k * 32 = 0 ∨ ∃ (g o : Nat) (f : Nat → Int), e = .at_ g o ∧ ∀ j, j < k * 32 → W.cell? ⟨g, o + j, none⟩ = some (.int .u8 (f j))) ∧ (∀ g, e.blk = some g → g < W.heap.size) ∧ (∀ v, e = .sv v → ∃ A L K, v = .slice A L K)
theorem keyAt_nil (A : Option Addr) (c : Nat) (hc : c ≤ maxLen) : KeyAt W (.slice A 0 c) 0 nilE :=
  ⟨⟨A, c, rfl, ⟨by decide, Nat.zero_le _, hc⟩, fun h => absurd h (by decide)⟩, .inl rfl, (fun g hg => by cases hg), fun v hv => by cases hv; exact ⟨_, _, _, rfl⟩⟩
theorem keys_open {fuel : Nat} {s : Value} {y : DataW H × List MemPlace} (h : Tr enc W fuel 49 [s] y) : ∃ (k : Nat) (e : Ent), KeyAt W s k e := by
  rcases Go.Deep.open_slice u49' h with ⟨h0, _⟩ | ⟨a, len, cap, m, q, D, Pl, hcs, _, hl, hmx, hm, _, hall⟩
  · simp only [List.cons.injEq, and_true] at h0
    subst h0
    exact ⟨0, nilE, keyAt_nil none 0 (Nat.zero_le _)⟩
  · simp only [List.cons.injEq, and_true] at hcs
    subst hcs
    simp only [if_true] at hm
    rcases Nat.eq_zero_or_pos len with h0 | h0
    · subst h0
      exact ⟨0, nilE, keyAt_nil _ cap hmx⟩
    · have cell : ∀ i, i < len → ∀ t, t < 32 → ∃ z : Int, W.cell? (a.add (i * 32 + t)) = some (.int .u8 z) := by
        intro i hi t ht
        obtain ⟨cs', hr, hd⟩ := hall i (by omega)
        rw [c45'] at hr
        obtain ⟨_, hlen, hcell⟩ := World.cells?_some hr
        obtain ⟨z, e, _⟩ := tr_arr u45' hd t ht
        have := hcell t ht
        rw [e, add_add] at this
        exact ⟨z, this⟩
      obtain ⟨z0, hz0⟩ := cell 0 h0 0 (by decide)
      rw [show 0 * 32 + 0 = 0 from rfl, add_zero'] at hz0
      have hsp := spot_none hz0
      obtain ⟨g, o, sp⟩ := a
      simp only at hsp
      subst hsp
      have cell' : ∀ j, j < len * 32 → ∃ z : Int, W.cell? ⟨g, o + j, none⟩ = some (.int .u8 z) := by
        intro j hj
        obtain ⟨z, hz⟩ := cell (j / 32) (by omega) (j % 32) (by omega)
        rw [add_off, show j / 32 * 32 + j % 32 = j by omega] at hz
        exact ⟨z, hz⟩
      obtain ⟨f, hf⟩ := Go.Deep.choose_lt cell'
      refine ⟨len, .at_ g o, ⟨_, cap, rfl, ⟨by simp only [maxLen] at hmx; omega, hl, hmx⟩, fun _ => ⟨g, o, rfl, rfl⟩⟩, .inr ⟨g, o, f, rfl, hf⟩, (fun g' hg => by cases hg; exact World.block_lt_of_cell? W _ hz0), fun v hv => by cases hv⟩
/-- One access. -/
def RowAt (W : World) (g o : Nat) (A : Nat → BitVec 8) (k : Nat) (e : Ent) : Prop := (∀ t, t < 20 → W.cell? ⟨g, o + t, none⟩ = some (B8 (A t))) ∧ ∃ s, W.cell? ⟨g, o + 20, none⟩ = some s ∧ KeyAt W s k e
theorem b8_of {z : Int} (h0 : 0 ≤ z) (h1 : z ≤ 255) : Value.int .u8 z = B8 (BitVec.ofInt 8 z) := by
  show Value.int .u8 z = .int .u8 ((BitVec.ofInt 8 z).toNat : Int)
  simp only [BitVec.toNat_ofInt]
  congr 1
  omega
theorem row_open {fuel : Nat} {g o : Nat} {cs : List Value} {y : DataW H × List MemPlace} (h : Tr enc W fuel 82 cs y) (hcell : ∀ i, i < 21 → W.cell? ⟨g, o + i, none⟩ = cs[i]?) : ∃ (A : Nat → BitVec 8) (k : Nat) (e : Ent), RowAt W g o A k e := by
  obtain ⟨xs, n, _, _, hlen, hx, hall⟩ := DataW.trod_struct u82' h
  rw [c82'] at hlen
  have hfd := fd82
  rw [Bool.and_eq_true] at hfd
  obtain ⟨f0, e0, o0, t0⟩ := fieldIs_is hfd.1
  obtain ⟨f1, e1, o1, t1⟩ := fieldIs_is hfd.2
  have l0 : 0 < xs.length := by rw [hx]; exact (Array.getElem?_eq_some_iff.1 e0).1
  have l1 : 1 < xs.length := by rw [hx]; exact (Array.getElem?_eq_some_iff.1 e1).1
  have h0 := hall 0 f0 e0
  have h1 := hall 1 f1 e1
  rw [o0, t0, c46', List.drop_zero, List.getElem?_eq_getElem l0] at h0
  rw [o1, t1, c49', List.getElem?_eq_getElem l1] at h1
  have hA : ∀ t, t < 20 → ∃ b : BitVec 8, W.cell? ⟨g, o + t, none⟩ = some (B8 b) := by
    intro t ht
    obtain ⟨z, hz, z0, z1⟩ := tr_arr u46' h0 t ht
    rw [List.getElem?_take_of_lt ht] at hz
    exact ⟨BitVec.ofInt 8 z, by rw [hcell t (by omega), hz, b8_of z0 z1]⟩
  obtain ⟨A, hA⟩ := Go.Deep.choose_lt hA
  have es : (cs.drop 20).take 1 = [cs[20]'(by omega)] := by
    apply List.ext_getElem?
    intro i
    cases i with
    | zero => simp
    | succ i => simp [hlen]
  rw [es] at h1
  obtain ⟨k, e, hk⟩ := keys_open h1
  exact ⟨A, k, e, hA, _, by rw [hcell 20 (by decide), List.getElem?_eq_getElem (by omega)], hk⟩
end
end Go.Proofs.Sx
