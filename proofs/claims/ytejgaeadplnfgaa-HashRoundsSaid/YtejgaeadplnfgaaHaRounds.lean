/- The law on Blake without rounds: its function returns true, if 'wakes' does. -/
import Derived.Test.YtejgaeadplnfgaaHaBlakeRow
namespace Go.Proofs.Sx
open Go

def z8 : Nat → W := nthW [0#64, 0#64, 0#64, 0#64, 0#64, 0#64, 0#64, 0#64]
def z16 : Nat → W := nthW [0#64, 0#64, 0#64, 0#64, 0#64, 0#64, 0#64, 0#64, 0#64, 0#64, 0#64, 0#64, 0#64, 0#64, 0#64, 0#64]
def z2 : Nat → W := nthW [0#64, 0#64]
def aB (h m t : Nat → W) (fin : Bool) (i : Nat) : W := nthW (blakeB (BitVec.ofNat 32 0).toNat (nthW (lst h 0 8)) (nthW (lst m 0 16)) (nthW (lst t 0 2)) fin) i
def bB (i : Nat) : W := nthW (blakeB (BitVec.ofNat 32 0).toNat z8 z16 z2 false) i
def ne2 (x y : W) : Bool := !(!(Nat.beq x.toNat y.toNat))
def owedR (h m t : Nat → W) : List Bool :=
  [Nat.beq (bB 0).toNat (BitVec.ofNat 64 7640891576956012808).toNat,
   ne2 (aB h m t true 7) (bB 7), ne2 (aB h m t false 7) (bB 7),
   ne2 (aB h m t true 6) (~~~(bB 6)), ne2 (aB h m t false 6) (bB 6),
   ne2 (aB h m t true 5) (bB 5 ^^^ t 1), ne2 (aB h m t false 5) (bB 5 ^^^ t 1),
   ne2 (aB h m t true 4) (bB 4 ^^^ t 0), ne2 (aB h m t false 4) (bB 4 ^^^ t 0),
   ne2 (aB h m t true 3) (bB 3), ne2 (aB h m t false 3) (bB 3),
   ne2 (aB h m t true 2) (bB 2), ne2 (aB h m t false 2) (bB 2),
   ne2 (aB h m t true 1) (bB 1), ne2 (aB h m t false 1) (bB 1),
   ne2 (aB h m t true 0) (bB 0), ne2 (aB h m t false 0) (bB 0)]
def dsR : List Bool := List.replicate 16 false ++ [true]
theorem f4 (n : BitVec 32) (h m t : Nat → W) (fin : Bool) : outV (callD M5 4 [.ag (blockC n h m t fin)] [] dsR) = some (.one (.bl true), owedR h m t) := by kernel_rfl

theorem x2 (x y : W) : x ^^^ (x ^^^ y) = y := by rw [← BitVec.xor_assoc, BitVec.xor_self, BitVec.zero_xor]
theorem ne2_of {x y : W} (h : x = y) : ne2 x y = true := by subst h; simp [ne2]
section
variable (h m t : Nat → W) (fin : Bool)
theorem aB0 : aB h m t fin 0 = nthW iv 0 := x2 (h 0) (nthW iv 0)
theorem aB1 : aB h m t fin 1 = nthW iv 1 := x2 (h 1) (nthW iv 1)
theorem aB2 : aB h m t fin 2 = nthW iv 2 := x2 (h 2) (nthW iv 2)
theorem aB3 : aB h m t fin 3 = nthW iv 3 := x2 (h 3) (nthW iv 3)
theorem aB4 : aB h m t fin 4 = nthW iv 4 ^^^ t 0 := x2 (h 4) (nthW iv 4 ^^^ t 0)
theorem aB5 : aB h m t fin 5 = nthW iv 5 ^^^ t 1 := x2 (h 5) (nthW iv 5 ^^^ t 1)
theorem aB6f : aB h m t false 6 = nthW iv 6 := x2 (h 6) (nthW iv 6)
theorem aB6t : aB h m t true 6 = ~~~(nthW iv 6) := x2 (h 6) (~~~(nthW iv 6))
theorem aB7 : aB h m t fin 7 = nthW iv 7 := x2 (h 7) (nthW iv 7)
theorem bB0 : bB 0 = nthW iv 0 := x2 0 (nthW iv 0)
theorem bB1 : bB 1 = nthW iv 1 := x2 0 (nthW iv 1)
theorem bB2 : bB 2 = nthW iv 2 := x2 0 (nthW iv 2)
theorem bB3 : bB 3 = nthW iv 3 := x2 0 (nthW iv 3)
theorem bB4 : bB 4 = nthW iv 4 := (x2 0 (nthW iv 4 ^^^ 0)).trans BitVec.xor_zero
theorem bB5 : bB 5 = nthW iv 5 := (x2 0 (nthW iv 5 ^^^ 0)).trans BitVec.xor_zero
theorem bB6 : bB 6 = nthW iv 6 := x2 0 (nthW iv 6)
theorem bB7 : bB 7 = nthW iv 7 := x2 0 (nthW iv 7)
theorem owedR_all : AllT (owedR h m t) := by
  unfold owedR
  refine AllT.cons ?_ (AllT.cons ?_ (AllT.cons ?_ (AllT.cons ?_ (AllT.cons ?_ (AllT.cons ?_ (AllT.cons ?_ (AllT.cons ?_ (AllT.cons ?_ (AllT.cons ?_ (AllT.cons ?_ (AllT.cons ?_ (AllT.cons ?_ (AllT.cons ?_ (AllT.cons ?_ (AllT.cons ?_ (AllT.cons ?_ AllT.nil))))))))))))))))
  · rw [bB0]; rfl
  · exact ne2_of (by rw [aB7, bB7])
  · exact ne2_of (by rw [aB7, bB7])
  · exact ne2_of (by rw [aB6t, bB6])
  · exact ne2_of (by rw [aB6f, bB6])
  · exact ne2_of (by rw [aB5, bB5])
  · exact ne2_of (by rw [aB5, bB5])
  · exact ne2_of (by rw [aB4, bB4])
  · exact ne2_of (by rw [aB4, bB4])
  · exact ne2_of (by rw [aB3, bB3])
  · exact ne2_of (by rw [aB3, bB3])
  · exact ne2_of (by rw [aB2, bB2])
  · exact ne2_of (by rw [aB2, bB2])
  · exact ne2_of (by rw [aB1, bB1])
  · exact ne2_of (by rw [aB1, bB1])
  · exact ne2_of (by rw [aB0, bB0])
  · exact ne2_of (by rw [aB0, bB0])
end
end Go.Proofs.Sx
namespace Go.Proofs.Ytejgaeadplnfgaa.hashRounds
open Go.ChangeShapes Go.WideShapes Go.ChangeAt Go.RowKit Go.Proofs.Sx
open Go.ChangeMaps (open_string shut_string)
set_option linter.unusedVariables false

theorem own : ownKnob Try.prog.godebug = none := by kernel_rfl
theorem laidOut : laidOutB Try.prog = true := by kernel_rfl
def WakesTrue : Prop := ∀ hp : List Reg, Runs Try.prog 13 [] hp (.one (.bl true)) hp false

theorem walk (h13 : WakesTrue) (v0 : Value) (r : Reach) (base : Nat) (w0 w : World) (hv : Value.okWide Try.prog w0 r base 28 v0) :
    Calls Try.prog 4 #[v0] w fun e w' => e = .returned (.bool true) ∧ Below w.heap.size w w' := by
  obtain ⟨n, h, m, t, fin, hb⟩ := block_open hv
  obtain ⟨hp1, chg, hr⟩ := runs_law (known5 h13) (f4 n h m t fin) (owedR_all h m t)
  exact calls_true hr (us := [v0]) (fun E => ⟨hb E, trivial⟩) w

set_option maxRecDepth 100000 in
theorem lifted (h13 : WakesTrue) (os : Os) (started : os.Started) (H : Type) (enc : TypeId × Value → H) :
    ReturnsInHanded {} Try.checked os 4 .any (Rows.hashRoundsSpec.pre6 enc Try.prog Try.f4 Rows.hashRoundsRow.domain false) (Rows.hashRoundsSpec.post enc Try.prog Try.f4 false true false false) := by
  refine returnsInHanded_of_change (C := Try.checked) own started (by kernel_rfl) Try.func4
    (ChangeSpec.witness6 (enc := enc) (C := Try.checked) false ⟨#[], #[.agg #[.int .u32 0, .int .u64 0, .int .u64 0, .int .u64 0, .int .u64 0, .int .u64 0, .int .u64 0, .int .u64 0, .int .u64 0, .int .u64 0, .int .u64 0, .int .u64 0, .int .u64 0, .int .u64 0, .int .u64 0, .int .u64 0, .int .u64 0, .int .u64 0, .int .u64 0, .int .u64 0, .int .u64 0, .int .u64 0, .int .u64 0, .int .u64 0, .int .u64 0, .int .u64 0, .int .u64 0, .bool false]], []⟩ 8 (by kernel_rfl) (by kernel_rfl) (by kernel_rfl) (by kernel_rfl)) ?_
  intro W base args ds gs before hval0 hW hcnd _
  have hval : ∀ (j : Nat) t v, Try.f4.params[j]? = some t → args[j]? = some v → Value.okWide Try.prog W .any base t v := hval0
  have hW' := hW
  obtain ⟨p, q, hA0, hV, rfl, hfz, hnd⟩ := hW
  have hA : DataW.TrodAll enc Try.prog W 0 (fun _ => true) true Try.f4.params.toList args.toList ds p := hA0
  rw [Try.params4] at hA hval
  obtain ⟨v0, vs0, d0, ds0, p0, q0, hargs, rfl, rfl, h0, r0⟩ := trodAll_cons hA
  obtain ⟨rfl, rfl, rfl⟩ := trodAll_nil r0
  obtain rfl : args = #[v0] := by cases args; simp_all
  obtain ⟨rfl, rfl⟩ := trodVars_none hV
  have k0 := h0
  have lt0 : ∀ x ∈ p0, x.block < W.heap.size := by obtain ⟨m, hm⟩ := k0; exact DataW.trod_lt m _ _ _ hm
  have hv0 := hval 0 28 v0 rfl rfl
  clear hA0 hval0
  refine (walk h13 v0 _ _ _ W hv0).mono fun e W' ⟨he, bel⟩ => ?_
  subst he
  exact ⟨_, rfl, _, _, _, [], _, [], hW', trodAll_mk1 (shut_bool Try.underlying4 _), (trodAll_cons_mk (Below.trod laidOut (by kernel_rfl) (of_decide_eq_true (by kernel_rfl)) k0 bel lt0) trodAll_mk0), rfl, bel.frame _, fun h => by cases h⟩

theorem over (h13 : WakesTrue) : Rows.hashRoundsRow.holds Try.pinned (OpenSpec.ofChange Rows.hashRoundsSpec) :=
  OpenClaim.holds_of_wide 4 Try.f4 rfl rfl rfl rfl rfl rfl rfl ⟨rfl, rfl, rfl, rfl, rfl⟩ rfl rfl rfl rfl rfl (by kernel_rfl) Try.func4 (by kernel_rfl)
    (of_decide_eq_true (by kernel_rfl)) (by unfold Func.isWrapper; first | (rw [if_pos (by decide +kernel)]; kernel_rfl) | (rw [if_neg (by decide +kernel)]; exact ⟨rfl, rfl⟩))
    (fun os started H enc _ => lifted h13 os started H enc)
end Go.Proofs.Ytejgaeadplnfgaa.hashRounds
