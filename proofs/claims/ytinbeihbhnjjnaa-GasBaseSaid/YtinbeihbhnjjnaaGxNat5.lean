/- Numbers in limbs: what the functions do, wherever the numbers lie. -/
import Derived.Test.YtinbeihbhnjjnaaGxNat4
namespace Go.Proofs.Sx
open Go
set_option linter.unusedVariables false
/-- One region more, of memory that no region shows. -/
theorem HR.addR {B : Nat → Prop} {w0 w : World} {E : Env} {hp : List Reg} (h : HR B w0 E hp w) (x : Ent) (hf : ∀ g, x.blk = some g → (B g ∨ w0.heap.size ≤ g) ∧ g < w.heap.size ∧ ∀ (r : Nat) (y : Ent), E.reg[r]? = some y → y.blk ≠ some g)
    (hxok : ∀ v, x = .sv v → ∃ A L K, v = .slice A L K) (R : Reg) (hR : RegIs ⟨E.reg ++ [x]⟩ w hp.length R) : HR B w0 ⟨E.reg ++ [x]⟩ (hp ++ [R]) w := by
  have he := E.le_push x
  have old : ∀ (r : Nat) (y : Ent), (E.reg ++ [x])[r]? = some y → (r = hp.length ∧ y = x) ∨ (r < hp.length ∧ E.reg[r]? = some y) := by
    intro r y hy
    have := last_or hy
    rwa [← h.len] at this
  have oldR : ∀ (r : Nat) (y : Reg), (hp ++ [R])[r]? = some y → (r = hp.length ∧ y = R) ∨ (r < hp.length ∧ hp[r]? = some y) := fun r y hy => last_or hy
  refine ⟨by simp [h.len], fun r Q hQ => ?_, fun r r' Q Q' y y' g hQ ho hQ' hl hne hy hy' hyg => ?_, fun r Q y g hQ ho hy hyg => ?_, fun r y g hy hyg => ?_, fun r v hv => ?_, h.os, h.tape, h.output, h.size, h.keep⟩
  · rcases oldR r Q hQ with ⟨rfl, rfl⟩ | ⟨hr, hQ⟩
    · exact hR
    · exact (h.at_ r Q hQ).keep he fun _ _ _ _ => rfl
  · rcases old r y hy with ⟨h1, h2⟩ | ⟨h1, hy0⟩
    · rcases old r' y' hy' with ⟨h3, h4⟩ | ⟨h3, hy0'⟩
      · omega
      · subst h2
        intro e
        exact (hf g hyg).2.2 r' y' hy0' e
    · rcases old r' y' hy' with ⟨h3, h4⟩ | ⟨h3, hy0'⟩
      · subst h4
        intro e
        exact (hf g e).2.2 r y hy0 hyg
      · rcases oldR r Q hQ with ⟨h5, _⟩ | ⟨_, hQ0⟩
        · omega
        · rcases oldR r' Q' hQ' with ⟨h5, _⟩ | ⟨_, hQ0'⟩
          · omega
          · exact h.sep r r' Q Q' y y' g hQ0 ho hQ0' hl hne hy0 hy0' hyg
  · rcases old r y hy with ⟨h1, h2⟩ | ⟨h1, hy0⟩
    · subst h2
      exact (hf g hyg).1
    · rcases oldR r Q hQ with ⟨h5, _⟩ | ⟨_, hQ0⟩
      · omega
      · exact h.mine r Q y g hQ0 ho hy0 hyg
  · rcases old r y hy with ⟨h1, h2⟩ | ⟨h1, hy0⟩
    · subst h2
      exact (hf g hyg).2.1
    · exact h.lt r y g hy0 hyg
  · rcases old r _ hv with ⟨h1, h2⟩ | ⟨h1, hy0⟩
    · exact hxok v h2.symm
    · exact h.ok r v hy0
/-- What a call that hands back a number does: memory grows, and what comes back shows the limbs, in memory that was not there. -/
def NatPost (w : World) (l : L32) (e : Ending) (w' : World) : Prop := ∃ u, e = .returned u ∧ Grow w w' ∧ Shows w' u l ∧ ∀ g, u.ownBlock = some g → w.heap.size ≤ g
theorem Runs.natPost {f : FuncId} {vs : List V} {hp hp1 : List Reg} {q : Nat} {l : L32} {chg : Bool} (h : Runs Try.prog f vs hp (.one (.dy q)) hp1 chg) (hq : hp1[q]? = some (.nt l)) {E : Env} {us : List Value} {w : World} (hus : All2 (V.is E) vs us) (hh : HR (fun _ => False) w E hp w) : Calls Try.prog f us.toArray w (NatPost w l) := by
  refine Calls.mono (h _ w E us w hus hh) fun e w1 ⟨E1, u, _, he, hu, hh1, _⟩ => ?_
  obtain ⟨v, h1, h2⟩ := hh1.at_ q _ hq
  have hu' : E1.reg[q]? = some (.sv u) := hu
  rw [h1] at hu'
  cases hu'
  refine ⟨u, he, hh1.grew, h2, fun g hg => ?_⟩
  rcases hh1.mine q _ _ g hq rfl h1 hg with h3 | h3
  · exact h3.elim
  · exact h3
/-- .. and what comes back nil shows none. -/
theorem Runs.nilPost {f : FuncId} {vs : List V} {hp hp1 : List Reg} {chg : Bool} (h : Runs Try.prog f vs hp (.one .nl) hp1 chg) {E : Env} {us : List Value} {w : World} (hus : All2 (V.is E) vs us) (hh : HR (fun _ => False) w E hp w) : Calls Try.prog f us.toArray w (NatPost w []) := by
  refine Calls.mono (h _ w E us w hus hh) fun e w1 ⟨E1, u, _, he, hu, hh1, _⟩ => ?_
  have hu' : u = .slice none 0 0 := hu
  subst hu'
  exact ⟨_, he, hh1.grew, .inl ⟨rfl, rfl⟩, fun g hg => by cases hg⟩
theorem natOut_is {M : Kn} (hM : Known Try.prog M) {f : FuncId} {vs : List V} {hp : List Reg} {ds ob : List Bool} {l : L32} (h : natOut (callD M f vs hp ds) = some (l, ob)) (hob : AllT ob) : ∃ q hp1 chg, Runs Try.prog f vs hp (.one (.dy q)) hp1 chg ∧ hp1[q]? = some (.nt l) := by
  unfold natOut at h
  split at h
  · rename_i q hp1 c1 ob1 ds1 hc
    split at h
    · rename_i l1 hl
      cases h
      rw [regAt_eq] at hl
      exact ⟨q, hp1, c1, fun B w0 E us w hv hh => (callF_is (sx_sound fol hM _) hM hc).2.2 hob E B w0 w us hv hh, hl⟩
    · cases h
  · cases h
theorem natOutC_is {M : Kn} (hM : Known Try.prog M) {f : FuncId} {vs : List V} {hp : List Reg} {ds : List Bool} {l : L32} (h : natOutC (callD M f vs hp ds) = some l) : ∃ q hp1 chg, Runs Try.prog f vs hp (.one (.dy q)) hp1 chg ∧ hp1[q]? = some (.nt l) := by
  unfold natOutC at h
  split at h
  · rename_i l1 ob hc
    split at h
    · rename_i hb
      cases h
      exact natOut_is hM hc (allB_is hb)
    · cases h
  · cases h
/-! arguments -/
def entOf : Value → Ent
  | .slice (some ⟨g, o, _⟩) _ _ => .at_ g o
  | _ => .sv (.slice none 0 0)
def qOf (l : L32) : Value → Nat
  | .slice (some _) _ _ => l.length + 1
  | _ => 0
def capOf : Value → Nat
  | .slice _ _ c => c
  | _ => 0
theorem arg_is {w : World} {v : Value} {l : L32} (h : Shows w v l) {E : Env} {r : Nat} (hr : E.reg[r]? = some (entOf v)) : RegIs E w r (argR (nthD l) (qOf l v)) ∧ (V.one (argV r (qOf l v) (capOf v))).is E v ∧ lOf (nthD l) (qOf l v) = l ∧ qOf l v ≤ l.length + 1 := by
  rcases h with ⟨rfl, rfl⟩ | ⟨g, o, K, rfl, h1, h2, h3, h4⟩
  · exact ⟨trivial, rfl, rfl, Nat.zero_le _⟩
  · refine ⟨⟨g, o, hr, fun j c hj => ?_⟩, ⟨g, o, hr, rfl⟩, (eq_lsD l).symm, Nat.le_refl _⟩
    rw [← eq_lsD l] at hj
    have key : ∀ (l : L32) (j : Nat) (c : C), (toD l)[j]? = some c → ∃ x, l[j]? = some x ∧ c = .w32 x := by
      intro l
      induction l with
      | nil => intro j c h; simp [toD] at h
      | cons x l ih =>
        intro j c h
        cases j with
        | zero => simp [toD] at h; exact ⟨x, rfl, h.symm⟩
        | succ j => exact ih j c (by simpa [toD] using h)
    obtain ⟨x, h5, rfl⟩ := key l j c hj
    exact ⟨_, rfl, h4 j x h5⟩
theorem argR_own (a : Nat → BitVec 32) (q : Nat) : (argR a q).isOwn = false := by cases q <;> rfl
theorem ent_lt {w : World} {v : Value} {l : L32} (h : Shows w v l) {g : Nat} (hg : (entOf v).blk = some g) : g < w.heap.size := by
  rcases h with ⟨rfl, rfl⟩ | ⟨g', o, K, rfl, h1, h2, h3, h4⟩
  · cases hg
  · have e : g' = g := by cases hg; rfl
    subst e
    exact Shows.lt (v := .slice (some ⟨g', o, none⟩) l.length K) (.inr ⟨g', o, K, rfl, h1, h2, h3, h4⟩) rfl
theorem ent_ok {w : World} {v : Value} {l : L32} (h : Shows w v l) {u : Value} (hu : entOf v = .sv u) : ∃ A L K, u = .slice A L K := by
  rcases h with ⟨rfl, rfl⟩ | ⟨g', o, K, rfl, h1, h2, h3, h4⟩
  · cases hu; exact ⟨_, _, _, rfl⟩
  · cases hu
theorem arg1_hr {w : World} {v : Value} {l : L32} (h : Shows w v l) : HR (fun _ => False) w ⟨[entOf v]⟩ [argR (nthD l) (qOf l v)] w := by
  have no : ∀ {q : Nat} {R : Reg}, ([argR (nthD l) (qOf l v)] : List Reg)[q]? = some R → R.isOwn = false := by
    intro q R hq
    match q, hq with
    | 0, hq => cases hq; exact argR_own _ _
    | q + 1, hq => simp at hq
  refine ⟨rfl, fun q R hq => ?_, fun q q' R R' x x' b hq ho => ?_, fun q R x b hq ho => ?_, fun q x b hx hb => ?_, fun q u hv => ?_, rfl, rfl, rfl, Nat.le_refl _, fun _ _ _ => rfl⟩
  · match q, hq with
    | 0, hq => cases hq; exact (arg_is h rfl).1
    | q + 1, hq => simp at hq
  · rw [no hq] at ho; cases ho
  · rw [no hq] at ho; cases ho
  · match q, hx with
    | 0, hx => cases hx; exact ent_lt h hb
    | q + 1, hx => simp at hx
  · match q, hv with
    | 0, hv => exact ent_ok h (Option.some.inj hv)
    | q + 1, hv => simp at hv
theorem arg2_hr {w : World} {v v' : Value} {l l' : L32} (h : Shows w v l) (h' : Shows w v' l') : HR (fun _ => False) w ⟨[entOf v, entOf v']⟩ [argR (nthD l) (qOf l v), argR (nthD l') (qOf l' v')] w := by
  have no : ∀ {q : Nat} {R : Reg}, ([argR (nthD l) (qOf l v), argR (nthD l') (qOf l' v')] : List Reg)[q]? = some R → R.isOwn = false := by
    intro q R hq
    match q, hq with
    | 0, hq => cases hq; exact argR_own _ _
    | 1, hq => cases hq; exact argR_own _ _
    | q + 2, hq => simp at hq
  refine ⟨rfl, fun q R hq => ?_, fun q q' R R' x x' b hq ho => ?_, fun q R x b hq ho => ?_, fun q x b hx hb => ?_, fun q u hv => ?_, rfl, rfl, rfl, Nat.le_refl _, fun _ _ _ => rfl⟩
  · match q, hq with
    | 0, hq => cases hq; exact (arg_is h rfl).1
    | 1, hq => cases hq; exact (arg_is h' rfl).1
    | q + 2, hq => simp at hq
  · rw [no hq] at ho; cases ho
  · rw [no hq] at ho; cases ho
  · match q, hx with
    | 0, hx => cases hx; exact ent_lt h hb
    | 1, hx => cases hx; exact ent_lt h' hb
    | q + 2, hx => simp at hx
  · match q, hv with
    | 0, hv => exact ent_ok h (Option.some.inj hv)
    | 1, hv => exact ent_ok h' (Option.some.inj hv)
    | q + 2, hv => simp at hv
/-! what each function does -/
theorem add_calls {w : World} {v v' : Value} {l l' : L32} (h : Shows w v l) (h' : Shows w v' l') (hl : l.length ≤ 9) (hl' : l'.length ≤ 8) : Calls Try.prog 37 #[v, v'] w (NatPost w (trimL (addL l l'))) := by
  obtain ⟨_, a2, a3, a4⟩ := arg_is h (E := ⟨[entOf v, entOf v']⟩) (r := 0) rfl
  obtain ⟨_, b2, b3, b4⟩ := arg_is h' (E := ⟨[entOf v, entOf v']⟩) (r := 1) rfl
  have f := mapAt (mapAt (f37 (nthD l) (nthD l') (capOf v) (capOf v')) (a := qOf l v) (by simp; omega)) (a := qOf l' v') (by simp; omega)
  rw [a3, b3] at f
  obtain ⟨chg, hr⟩ := runV_is knownt f AllT.nil
  exact hr.natPost rfl (us := [v, v']) ⟨a2, b2, trivial⟩ (arg2_hr h h')
theorem mul_calls {w : World} {v v' : Value} {l l' : L32} (h : Shows w v l) (h' : Shows w v' l') (hl : l.length ≤ 2) (hl' : l'.length ≤ 2) : Calls Try.prog 61 #[v, v'] w (NatPost w (trimL (mulL l l'))) := by
  obtain ⟨_, a2, a3, a4⟩ := arg_is h (E := ⟨[entOf v, entOf v']⟩) (r := 0) rfl
  obtain ⟨_, b2, b3, b4⟩ := arg_is h' (E := ⟨[entOf v, entOf v']⟩) (r := 1) rfl
  have f := mapAt (mapAt (f61 (nthD l) (nthD l') (capOf v) (capOf v')) (a := qOf l v) (by simp; omega)) (a := qOf l' v') (by simp; omega)
  rw [a3, b3] at f
  obtain ⟨q, hp1, chg, hr, hq⟩ := natOut_is knownt f AllT.nil
  exact hr.natPost hq (us := [v, v']) ⟨a2, b2, trivial⟩ (arg2_hr h h')
theorem shr_calls {w : World} {v : Value} {l : L32} (h : Shows w v l) (hl : l.length ≤ 10) {s : Nat} (hs : s ∈ shs) : Calls Try.prog 36 #[v, .int .i64 (s : Int)] w (NatPost w (trimL (shrL s l))) := by
  obtain ⟨_, a2, a3, a4⟩ := arg_is h (E := ⟨[entOf v]⟩) (r := 0) rfl
  have hs64 : s < 9223372036854775808 := by simp [shs] at hs; omega
  rcases Nat.lt_or_ge (qOf l v) 2 with hq | hq
  · have f := mapAt (mapAt (f36z (nthD l) (capOf v)) (a := qOf l v) (by simp; omega)) hs
    obtain ⟨chg, hr⟩ := runV_is knownt f AllT.nil
    have e : l = [] := by
      have h0 : qOf l v = 0 ∨ qOf l v = 1 := by omega
      rcases h0 with h0 | h0
      · rw [h0] at a3; exact a3.symm
      · rw [h0] at a3; exact a3.symm
    have P := hr.nilPost (us := [v, .int .i64 (s : Int)]) ⟨a2, ⟨rfl, hs64⟩, trivial⟩ (arg1_hr h)
    subst e
    exact P
  · have f := mapAt (mapAt (f36 (nthD l) (capOf v)) (a := qOf l v) (by simp; omega)) hs
    rw [a3] at f
    obtain ⟨chg, hr⟩ := runV_is knownt f AllT.nil
    exact hr.natPost rfl (us := [v, .int .i64 (s : Int)]) ⟨a2, ⟨rfl, hs64⟩, trivial⟩ (arg1_hr h)
theorem of_calls (w : World) (x : BitVec 64) : Calls Try.prog 39 #[.int .u64 (x.toNat : Int)] w (NatPost w (trimL [x.setWidth 32, (x >>> 32).setWidth 32])) := by
  obtain ⟨chg, hr⟩ := runV_is knownt (f39 x) AllT.nil
  exact hr.natPost rfl (us := [.int .u64 (x.toNat : Int)]) ⟨rfl, trivial⟩ (HR.bare w)
theorem n_calls (w : World) {x y z t : BitVec 64} {u : Value} (hu : (V.ag [.w64 x, .w64 y, .w64 z, .w64 t]).is ⟨[]⟩ u) : Calls Try.prog 38 #[u] w (NatPost w (trimL (limbsE x y z t))) := by
  obtain ⟨q, hp1, chg, hr, hq⟩ := natOutC_is knownt (f38 x y z t)
  exact hr.natPost hq (us := [u]) ⟨hu, trivial⟩ (HR.bare w)
end Go.Proofs.Sx
