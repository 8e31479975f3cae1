/- How many bits and bytes a word has: the program's functions. -/
import Derived.Test.YtinbeihbhnjjnaaGxBs9
import Derived.Test.YtinbeihbhnjjnaaGxRules
namespace Go.Proofs.Sx
open Go
set_option linter.unusedVariables false
noncomputable def len67M (vs : List V) (hp : List Reg) : Option (V × List Reg × Bool × Option Bool) :=
  match vs with
  | [.one (.w64 x)] => some (.one (.sy (len67 x)), hp, false, none)
  | _ => none
theorem klen67 : ∀ vs hp v hp' chg ob, len67M vs hp = some (v, hp', chg, ob) → (∀ x, ob = some x → x = true) → Runs Try.prog 67 vs hp v hp' chg := by
  intro vs hp v hp' chg ob h _
  unfold len67M at h
  split at h
  · cases h
    exact Runs.conv (runs67 _ hp) (fun E us h => h) fun E u h => h
  · cases h
noncomputable def Mn : Kn := addK M0 67 len67M
theorem knownn : Known Try.prog Mn := known_add known_none klen67
def nzW (x : W) : Bool := !(Nat.beq x.toNat 0)
def bitO (i : Nat) (x : W) : Bool := Nat.ble (64 * i + len67 x) 9223372036854775807
section
variable (a : Q)
theorem f65_3 : outV (callD Mn 65 [.ag (w4 a)] [] [true]) = some (.one (.sy (192 + len67 (a 3))), [bitO 3 (a 3), nzW (a 3)]) := by kernel_rfl
theorem f65_2 : outV (callD Mn 65 [.ag (w4 a)] [] [false, true]) = some (.one (.sy (128 + len67 (a 2))), [bitO 2 (a 2), nzW (a 2), !(nzW (a 3))]) := by kernel_rfl
theorem f65_1 : outV (callD Mn 65 [.ag (w4 a)] [] [false, false, true]) = some (.one (.sy (64 + len67 (a 1))), [bitO 1 (a 1), nzW (a 1), !(nzW (a 2)), !(nzW (a 3))]) := by kernel_rfl
theorem f65_0 : outV (callD Mn 65 [.ag (w4 a)] [] [false, false, false, true]) = some (.one (.sy (0 + len67 (a 0))), [bitO 0 (a 0), nzW (a 0), !(nzW (a 1)), !(nzW (a 2)), !(nzW (a 3))]) := by kernel_rfl
theorem f65_z : outV (callD Mn 65 [.ag (w4 a)] [] [false, false, false, false]) = some (.one (.it 0), [true, !(nzW (a 0)), !(nzW (a 1)), !(nzW (a 2)), !(nzW (a 3))]) := by kernel_rfl
/-- its bytes, the highest first -/
def byteC : Nat → Nat → List C
  | _, 0 => []
  | i, n + 1 => .w8 ((a ((31 - i) / 8) >>> ((31 - i) % 8 * 8)).setWidth 8) :: byteC (i + 1) n
theorem f64 : outV (callD M0 64 [.ag (w4 a)] [] []) = some (.ag (byteC a 0 32), []) := by kernel_rfl
end
theorem lenQ_le (q : Nat) : lenQ q ≤ 8 := by
  unfold lenQ
  repeat (first | omega | (cases Nat.blt q _ <;> simp only [cond_true, cond_false]))
theorem len67_le (x : W) : len67 x ≤ 64 := by
  have h := lenQ_le (y67 x).toNat
  unfold len67 n67
  cases a67B x <;> cases b67B x <;> cases c67B x <;> simp only [cond_true, cond_false] <;> omega
theorem bitO_is {i : Nat} (hi : i ≤ 3) (x : W) : bitO i x = true := bleN (by have := len67_le x; omega)
def bitsQ (a : Q) : Nat := bif nzW (a 3) then 192 + len67 (a 3) else bif nzW (a 2) then 128 + len67 (a 2) else bif nzW (a 1) then 64 + len67 (a 1) else bif nzW (a 0) then 0 + len67 (a 0) else 0
theorem runs65 (a : Q) (hp : List Reg) : Runs Try.prog 65 [.ag (w4 a)] hp (.one (.sy (bitsQ a))) hp false := by
  unfold bitsQ
  cases h3 : nzW (a 3) with
  | true => exact runs_out knownn (f65_3 a) (AllT.cons (bitO_is (by decide) _) (AllT.cons h3 AllT.nil)) rfl rfl hp
  | false =>
    have g3 : (!(nzW (a 3))) = true := by rw [h3]; rfl
    cases h2 : nzW (a 2) with
    | true => exact runs_out knownn (f65_2 a) (AllT.cons (bitO_is (by decide) _) (AllT.cons h2 (AllT.cons g3 AllT.nil))) rfl rfl hp
    | false =>
      have g2 : (!(nzW (a 2))) = true := by rw [h2]; rfl
      cases h1 : nzW (a 1) with
      | true => exact runs_out knownn (f65_1 a) (AllT.cons (bitO_is (by decide) _) (AllT.cons h1 (AllT.cons g2 (AllT.cons g3 AllT.nil)))) rfl rfl hp
      | false =>
        have g1 : (!(nzW (a 1))) = true := by rw [h1]; rfl
        cases h0 : nzW (a 0) with
        | true => exact runs_out knownn (f65_0 a) (AllT.cons (bitO_is (by decide) _) (AllT.cons h0 (AllT.cons g1 (AllT.cons g2 (AllT.cons g3 AllT.nil))))) rfl rfl hp
        | false =>
          have g0 : (!(nzW (a 0))) = true := by rw [h0]; rfl
          exact Runs.conv (runs_out knownn (f65_z a) (AllT.cons rfl (AllT.cons g0 (AllT.cons g1 (AllT.cons g2 (AllT.cons g3 AllT.nil))))) rfl rfl hp) (fun E us h => h) fun E u h => h
noncomputable def quadM (g : Q → V) : Tab := fun vs hp =>
  match vs with
  | [.ag [.w64 x, .w64 y, .w64 z, .w64 t]] => some (g (nthB [x, y, z, t]), hp, false, none)
  | _ => none
theorem kquad {f : FuncId} {g : Q → V} (hf : ∀ a hp, Runs Try.prog f [.ag (w4 a)] hp (g a) hp false) : Tells f (quadM g) := by
  intro vs hp v hp' chg ob h _
  unfold quadM at h
  split at h
  · cases h
    exact hf (nthB [_, _, _, _]) hp
  · cases h
noncomputable def Ms : Kn := addK (addK M0 65 (quadM fun a => .one (.sy (bitsQ a)))) 64 (quadM fun a => .ag (byteC a 0 32))
theorem knowns : Known Try.prog Ms := known_add (known_add known_none (kquad runs65)) (kquad fun a hp => runs_out known_none (f64 a) AllT.nil rfl rfl hp)
def b50 (a : Q) : List (Nat × V) := [(3, .one (.pt 1 0)), (4, .one (.sy ((bitsQ a + 7) / 8)))]
def i50 (k : Nat) : List (Nat × V) := [(3, .one (.pt 1 0)), (4, .one (.it k))]
def hp50 (a : Q) : List Reg := [.own 24 (w4 a), .own 102 (byteC a 0 32)]
def lenB : List (BitVec 8) → Nat
  | [] => 0
  | _ :: l => lenB l + 1
theorem lenB_eq : ∀ l : List (BitVec 8), lenB l = l.length
  | [] => rfl
  | _ :: l => by simp [lenB, lenB_eq l]
/-- how many bytes are handed back -/
noncomputable def lenR (v : V) (hp : List Reg) : Option Nat :=
  match v with
  | .one .nl => some 0
  | .one (.dy q) => match regAt q hp with
    | some (.dyn _ b _) => some (lenB b)
    | _ => none
  | .one (.qv _ n) => some n
  | _ => none
noncomputable def retL (f : FuncId) (r : Option (Ex × St)) : Option (Nat × List Bool) :=
  match r with
  | some (.ret, ⟨tm, hp, _, _, _, ob, _⟩) => match resV Try.prog (fnOf Try.prog f).results.toList tm hp with
    | some v => match lenR v hp with
      | some n => some (n, ob)
      | none => none
    | none => none
  | _ => none
section
variable (a : Q)
theorem f50a : sxc Try.prog Ms 1000000 (takeC 3 (rowOf Try.prog 50)) [(3, false), (4, false)] 2 ⟨tmOf [.ag (w4 a)] 0 (T.full 8), [], false, 15, 0, [], []⟩ =
    some (.normal, ⟨slots (b50 (q4 a)), hp50 (q4 a), false, 15, 0, [true, Nat.ble (bitsQ (q4 a) + 7) 9223372036854775807], []⟩) := by kernel_rfl
noncomputable def r50 (k : Nat) : Option (Nat × List Bool) := retL 50 (sxs Try.prog M0 1000000 (dropC 3 (rowOf Try.prog 50)) ⟨slots (i50 k), hp50 a, true, 15, 0, [], []⟩)
theorem f50b : (List.range' 0 33).map (r50 a) = (List.range' 0 33).map fun k => some (k, []) := by kernel_rfl
end
end Go.Proofs.Sx
/- How many bytes come back: a slice of which the length alone is told. -/
namespace Go.Proofs.Sx
open Go
set_option linter.unusedVariables false
/-- What stands, said weaker. -/
theorem DoesL.weak {P : Program} {c : List Code} {e : Ex} {s' : St} {L L' : List (Nat × V)} {hp : List Reg} {chg : Bool} {n b : Nat} {ob ds : List Bool} (h : ∀ p ∈ L', ∃ v, (slots L).get p.1 = some v ∧ ∀ (E : Env) (u : Value), v.is E u → p.2.is E u)
    (d : DoesL P c ⟨slots L', hp, chg, n, b, ob, ds⟩ e s') : DoesL P c ⟨slots L, hp, chg, n, b, ob, ds⟩ e s' := by
  intro B w0 wc E a w Q hR hQ
  refine d B w0 wc E a w Q ⟨⟨hR.tr.defers, hR.tr.size, fun i x hx => ?_⟩, hR.hr, hR.ch⟩ hQ
  obtain ⟨v, h1, h2⟩ := h (i, x) (slots_get L' i x hx)
  obtain ⟨u, h3, h4⟩ := hR.tr.at_ i v h1
  exact ⟨u, h3, h2 E u h4⟩
/-- What a call that hands back a slice of so many does. -/
def LenPost (w : World) (n : Nat) (e : Ending) (w' : World) : Prop := ∃ A c, e = .returned (.slice A n c) ∧ Grow w w' ∧ n < 9223372036854775808 ∧ (n = 0 ∨ ∃ g o, A = some ⟨g, o, none⟩ ∧ g < w'.heap.size)
theorem Runs.lenPost {f : FuncId} {vs : List V} {hp hp1 : List Reg} {v : V} {n : Nat} {chg : Bool} (h : Runs Try.prog f vs hp v hp1 chg) (hn : lenR v hp1 = some n) (hm : n < 9223372036854775808) {E : Env} {us : List Value} {w : World} (hus : All2 (V.is E) vs us) (hh : HR (fun _ => False) w E hp w) : Calls Try.prog f us.toArray w (LenPost w n) := by
  refine Calls.mono (h _ w E us w hus hh) fun e w1 ⟨E1, u, _, he, hu, hh1, _⟩ => ?_
  subst he
  unfold lenR at hn
  split at hn
  · cases hn
    have hu' : u = .slice none 0 0 := hu
    subst hu'
    exact ⟨none, 0, rfl, hh1.grew, hm, .inl rfl⟩
  · rename_i q _
    split at hn
    · rename_i t b bd hr
      cases hn
      rw [regAt_eq] at hr
      obtain ⟨v, h1, h2, h3⟩ := hh1.at_ q _ hr
      have hu' : E1.reg[q]? = some (.sv u) := hu
      rw [h1] at hu'
      cases hu'
      rw [lenB_eq]
      rw [lenB_eq] at hm
      rcases h2.2 with ⟨rfl, h4⟩ | ⟨g, cap, cur, rfl, h5, h6, _⟩
      · exact ⟨none, 0, by rw [h4], hh1.grew, hm, .inl h4⟩
      · refine ⟨_, cap, rfl, hh1.grew, hm, .inr ⟨g, 0, rfl, hh1.lt q _ g h1 rfl⟩⟩
    · cases hn
  · rename_i r m _
    cases hn
    obtain ⟨A, c, rfl, h2, h3⟩ := hu
    refine ⟨A, c, rfl, hh1.grew, hm, ?_⟩
    rcases Nat.eq_zero_or_pos n with h0 | h0
    · exact .inl h0
    · obtain ⟨g, o, h4, rfl⟩ := h3 h0
      exact .inr ⟨g, o, rfl, hh1.lt r _ g h4 rfl⟩
  · cases hn
/-- One region more, that nobody looks into. -/
theorem HR.addD {B : Nat → Prop} {w0 w : World} {E : Env} {hp : List Reg} (h : HR B w0 E hp w) (x : Ent) (hf : ∀ g, x.blk = some g → g < w.heap.size) (hxok : ∀ v, x = .sv v → ∃ A L K, v = .slice A L K) : HR B w0 ⟨E.reg ++ [x]⟩ (hp ++ [.dead]) w := by
  have he := E.le_push x
  have old : ∀ (r : Nat) (y : Ent), (E.reg ++ [x])[r]? = some y → (r = hp.length ∧ y = x) ∨ (r < hp.length ∧ E.reg[r]? = some y) := by
    intro r y hy
    have := last_or hy
    rwa [← h.len] at this
  have oldR : ∀ (r : Nat) (y : Reg), (hp ++ [.dead])[r]? = some y → (r = hp.length ∧ y = .dead) ∨ (r < hp.length ∧ hp[r]? = some y) := fun r y hy => last_or hy
  refine ⟨by simp [h.len], fun r Q hQ => ?_, fun r r' Q Q' y y' g hQ ho hQ' hl hne hy hy' hyg => ?_, fun r Q y g hQ ho hy hyg => ?_, fun r y g hy hyg => ?_, fun r v hv => ?_, h.os, h.tape, h.output, h.size, h.keep⟩
  · rcases oldR r Q hQ with ⟨rfl, rfl⟩ | ⟨hr, hQ⟩
    · trivial
    · exact (h.at_ r Q hQ).keep he fun _ _ _ _ => rfl
  · rcases oldR r Q hQ with ⟨_, rfl⟩ | ⟨h1, hQ0⟩
    · cases ho
    rcases oldR r' Q' hQ' with ⟨_, rfl⟩ | ⟨h3, hQ0'⟩
    · cases hl
    rcases old r y hy with ⟨h5, _⟩ | ⟨_, hy0⟩
    · omega
    rcases old r' y' hy' with ⟨h5, _⟩ | ⟨_, hy0'⟩
    · omega
    exact h.sep r r' Q Q' y y' g hQ0 ho hQ0' hl hne hy0 hy0' hyg
  · rcases oldR r Q hQ with ⟨_, rfl⟩ | ⟨h1, hQ0⟩
    · cases ho
    rcases old r y hy with ⟨h5, _⟩ | ⟨_, hy0⟩
    · omega
    exact h.mine r Q y g hQ0 ho hy0 hyg
  · rcases old r y hy with ⟨h1, h2⟩ | ⟨h1, hy0⟩
    · subst h2
      exact hf g hyg
    · exact h.lt r y g hy0 hyg
  · rcases old r _ hv with ⟨h1, h2⟩ | ⟨h1, hy0⟩
    · exact hxok v h2.symm
    · exact h.ok r v hy0
theorem len_at {f : FuncId} {vs : List V} {hp : List Reg} {n : Nat} (h : ∀ (B : Nat → Prop) (w0 : World) (E : Env) (us : List Value) (w : World), All2 (V.is E) vs us → HR B w0 E hp w → Calls Try.prog f us.toArray w (LenPost w n)) : Runs Try.prog f vs hp (.one (.qv hp.length n)) (hp ++ [.dead]) true := by
  intro B w0 E us w hus hh
  refine Calls.mono (h B w0 E us w hus hh) fun e w1 ⟨A, c, he, hg, hm, hA⟩ => ?_
  have h1 := hh.grow hg
  have fin : ∀ x : Ent, (∀ g, x.blk = some g → g < w1.heap.size) → (∀ v, x = .sv v → ∃ A L K, v = .slice A L K) → (0 < n → ∃ g o, x = .at_ g o ∧ A = some ⟨g, o, none⟩) → After B w0 E hp w (.one (.qv hp.length n)) (hp ++ [.dead]) true e w1 := by
    intro x hf hx hn
    refine ⟨⟨E.reg ++ [x]⟩, _, E.le_push _, he, ⟨A, c, rfl, hm, fun h0 => ?_⟩, h1.addD x hf hx, fun h => by cases h⟩
    obtain ⟨g, o, rfl, rfl⟩ := hn h0
    exact ⟨g, o, by rw [hh.len]; simp, rfl⟩
  rcases hA with h0 | ⟨g, o, rfl, hlt⟩
  · exact fin (.sv (.slice none 0 0)) (fun g h => by cases h) (fun v h => by cases h; exact ⟨_, _, _, rfl⟩) fun h => by omega
  · exact fin (.at_ g o) (fun g' h => by cases h; exact hlt) (fun v h => by cases h) fun _ => ⟨g, o, rfl, rfl⟩
noncomputable def pushL (hp : List Reg) (n : Nat) (ob : Option Bool) : Option (V × List Reg × Bool × Option Bool) :=
  regPushK hp .dead fun hp' => forceN (regLen hp) fun q => some (.one (.qv q n), hp', true, ob)
theorem pushL_eq (hp : List Reg) (n : Nat) (ob : Option Bool) : pushL hp n ob = some (.one (.qv hp.length n), hp ++ [.dead], true, ob) := by
  unfold pushL
  rw [regPushK_eq, forceN_eq, regLen_eq]
noncomputable def lenQM (g : Q → Nat) : Tab := fun vs hp =>
  match vs with
  | [.ag [.w64 x, .w64 y, .w64 z, .w64 t]] => pushL hp (g (nthB [x, y, z, t])) none
  | _ => none
theorem klenQ {f : FuncId} {g : Q → Nat} (hf : ∀ (a : Q) (w : World) (u : Value), (V.ag (w4 a)).is ⟨[]⟩ u → Calls Try.prog f #[u] w (LenPost w (g a))) : Tells f (lenQM g) := by
  intro vs hp v hp' chg ob h _
  unfold lenQM at h
  split at h
  · rename_i x y z t
    rw [pushL_eq] at h
    cases h
    refine len_at fun B w0 E us w hus hh => ?_
    match us, hus with
    | [u], ⟨h1, _⟩ => exact hf (nthB [x, y, z, t]) w u (V.plain_is (E := E) rfl h1)
  · cases h
theorem retL_is {M : Kn} (hM : Known Try.prog M) {f : FuncId} {n m : Nat} {l : List Code} {s : St} {ob : List Bool} (h : retL f (sxs Try.prog M m l s) = some (n, ob)) (hob : AllT ob) :
    ∃ s3 v, DoesL Try.prog l s .ret s3 ∧ s3.base = s.base ∧ resV Try.prog (fnOf Try.prog f).results.toList s3.tm s3.hp = some v ∧ lenR v s3.hp = some n := by
  unfold retL at h
  split at h
  · rename_i tm hp c m b ob1 ds hs
    split at h
    · rename_i v1 hv
      split at h
      · rename_i n1 hn
        cases h
        obtain ⟨hg, hd⟩ := sxs_sound fol hM hs
        exact ⟨_, _, hd hob, hg.base, hv, hn⟩
      · cases h
    · cases h
  · cases h
/-! the program's Short -/
theorem bitsQ_le (a : Q) : bitsQ a ≤ 256 := by
  have h0 := len67_le (a 0)
  have h1 := len67_le (a 1)
  have h2 := len67_le (a 2)
  have h3 := len67_le (a 3)
  unfold bitsQ
  cases nzW (a 3) <;> cases nzW (a 2) <;> cases nzW (a 1) <;> cases nzW (a 0) <;> simp only [cond_true, cond_false] <;> omega
def bytesQ (a : Q) : Nat := (bitsQ a + 7) / 8
theorem bytesQ_le (a : Q) : bytesQ a ≤ 32 := by have := bitsQ_le a; unfold bytesQ; omega
theorem parts50 : takeC 3 (rowOf Try.prog 50) ++ dropC 3 (rowOf Try.prog 50) = rowOf Try.prog 50 := by kernel_rfl
theorem code50 : hasCode Try.prog 50 = true := by kernel_rfl
theorem tmps50 : Nat.beq (fnOf Try.prog 50).ntmps 15 = true := by kernel_rfl
theorem q4_bits (a : Q) : bitsQ (q4 a) = bitsQ a := rfl
theorem q4_w4 (a : Q) : w4 (q4 a) = w4 a := rfl
theorem get50 (a : Q) : (slots (b50 a)).get 3 = some (.one (.pt 1 0)) ∧ (slots (b50 a)).get 4 = some (.one (.sy (bytesQ a))) := ⟨by kernel_rfl, by kernel_rfl⟩
theorem short_calls (a : Q) (w : World) (u : Value) (hu : (V.ag (w4 a)).is ⟨[]⟩ u) : Calls Try.prog 50 #[u] w (LenPost w (bytesQ a)) := by
  have A := sxc_sound fol knowns (f50a a) (AllT.cons rfl (AllT.cons (bleN (by have := bitsQ_le (q4 a); omega)) AllT.nil))
  have hk := bytesQ_le a
  have g := mapAt (f50b (q4 a)) (a := bytesQ a) (by simp; omega)
  obtain ⟨s3, v, h1, h2, h3, h4⟩ := retL_is known_none g AllT.nil
  have B := DoesL.weak (L := b50 (q4 a)) (L' := i50 (bytesQ a)) (fun p hp => by
    obtain ⟨g3, g4⟩ := get50 (q4 a)
    rcases two_of hp with rfl | rfl
    · exact ⟨_, g3, fun E u h => h⟩
    · exact ⟨_, g4, fun E u h => h⟩) h1
  have all : DoesL Try.prog (rowOf Try.prog 50) ⟨tmOf [.ag (w4 a)] 0 (T.full 8), [], false, 15, 0, [], []⟩ .ret s3 := by
    rw [← parts50]
    exact DoesL.append (DoesL.spoil A) (DoesL.free B)
  have hr := runs_of (hp := []) (vs := [.ag (w4 a)]) code50 (.inr rfl) (n := 15) (by rw [Nat.eq_of_beq_eq_true tmps50]; rfl) all h3 h2
  exact hr.lenPost h4 (by omega) (us := [u]) ⟨hu, trivial⟩ (HR.bare w)
theorem kshort : Tells 50 (lenQM bytesQ) := klenQ short_calls
end Go.Proofs.Sx
