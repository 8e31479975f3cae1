/- A region in any order, of operations that hand back numbers in limbs. -/
import Derived.Test.YtinbeihbhnjjnaaGxNat8
import Derived.Test.YtinbeihbhnjjnaaSxGrow
namespace Go.Proofs.Sx
open Go
set_option linter.unusedVariables false
inductive Kd where
  | val (v : V)
  | nat (l : L32)
/-- what comes back -/
def Kd.is (E : Env) (wS w : World) (u : Value) : Kd → Prop
  | .val v => v.is E u
  | .nat l => Shows w u l ∧ ∀ g, u.ownBlock = some g → wS.heap.size ≤ g
def Kd.at (E : Env) (wS w : World) (a : Act) (s : Nat) (k : Kd) : Prop := ∃ u, a.tmps[s]? = some u ∧ k.is E wS w u
theorem Kd.is_grow {E : Env} {wS w w' : World} {u : Value} {k : Kd} (h : k.is E wS w u) (hg : Grow w w') : k.is E wS w' u := by
  cases k with
  | val v => exact h
  | nat l => exact ⟨h.1.grow hg, h.2⟩
theorem Kd.at_put_ne {E : Env} {wS w w' : World} {a : Act} {s d : Nat} {k : Kd} {v : Value} (h : k.at E wS w a s) (hg : Grow w w') (hne : s ≠ d) : k.at E wS w' (a.put (some d) v) s :=
  let ⟨u, h1, h2⟩ := h; ⟨u, by rw [← h1]; simp [Act.put, Array.getElem?_setIfInBounds_ne (Ne.symm hne)], Kd.is_grow h2 hg⟩
/-- What an operation of such a region does. -/
def StepN (hp0 : List Reg) (n : Nat) (baseL : List (Nat × V)) (pre : Nat → Prop) (kd : Nat → Kd) (d : Nat → Nat) (k : Kd) (o : Oper) : Prop :=
  ∀ (B : Nat → Prop) (w0 wS : World) (E : Env) (a : Act) (w : World) (K : Act → World → Prop) (Q : Exit → Act → World → Prop), HR B w0 E hp0 w → Grow wS w → a.tmps.size = n → a.defers = [] → (∀ p ∈ baseL, SlotIs E a p.1 p.2) → (∀ i, pre i → (kd i).at E wS w a (d i)) →
    (∀ u w', Grow w w' → k.is E wS w' u → K (a.put o.dst u) w') → o.wp Try.prog a w K Q
theorem region_nats {ops : Array Oper} {id n base N last : Nat} {hp0 : List Reg} {baseL : List (Nat × V)} {kd : Nat → Kd} {d : Nat → Nat} {chg : Bool} {ob ds : List Bool} {L : L32}
    (hsz : ops.size = N) (hop : ∀ j, j < N → ∃ o, ops[j]? = some o ∧ o.guard = none ∧ o.dst = some (d j) ∧ StepN hp0 n baseL (fun i => i < N ∧ edgeB ops j i = true) kd d (kd j) o)
    (hdown : ∀ i, i < N → downB ops i = true) (hd : ∀ i j, i < N → j < N → d i = d j → i = j) (hdn : ∀ j, j < N → d j < n)
    (hb : ∀ p ∈ baseL, ∀ j, j < N → p.1 ≠ d j) (hbl : ∀ p ∈ baseL, (slots baseL).get p.1 = some p.2) (hla : last < N) (hlk : kd last = .nat L) :
    Does Try.prog (.region id ops true) ⟨slots baseL, hp0, chg, n, base, ob, ds⟩ .normal ⟨slots ((d last, .one (.dy hp0.length)) :: baseL), hp0 ++ [.nt L], true, n, base, [], []⟩ := by
  intro B w0 wc E a w Q hR hQ
  refine wp_region_any fol ?_
  have hE0 : HR B w0 E hp0 { w with drawn := w.drawn + 1 } := hR.hr.grow (Grow.drawn w)
  refine wpAny_inv (md := .any) (fun listed a' w' => listed.size = N ∧ Grow w w' ∧ a'.defers = [] ∧ a'.tmps.size = n ∧ (∀ p ∈ baseL, SlotIs E a' p.1 p.2) ∧ (∀ j, j < N → listed.getD j true = true → (kd j).at E w w' a' (d j)) ∧ HR B w0 E hp0 w') ?_ ?_ ops.size _ a _ ?_ ?_
  · rintro listed a1 w1 i ⟨hls, hg1, hdf, hts, hbs, hvs, hh⟩ hi
    have hun := (mem_ready.1 hi).1
    obtain ⟨_, oi, hoi, _⟩ := mem_ready.1 hi
    have hiN : i < N := by rw [← hsz]; exact (Array.getElem?_eq_some_iff.1 hoi).1
    obtain ⟨o, ho, hgd, hdst, hst⟩ := hop i hiN
    refine wp_op_of ho hgd (hst B w0 w E a1 w1 _ Q hh hg1 hts hdf hbs (fun k hk => hvs k hk.1 (edge_is hi hk.2)) fun u w2 hg2 hu => ?_)
    rw [hdst]
    refine ⟨by simpa using hls, hg1.trans hg2, hdf, by simp [Act.put, hts], fun p hp => (hbs p hp).put_ne (hb p hp i hiN), fun j hj hlj => ?_, hh.grow hg2⟩
    by_cases hji : j = i
    · subst hji
      exact ⟨u, by simp [Act.put, hts, hdn _ hiN], hu⟩
    · rcases getD_set_eq hlj with h | h
      · exact absurd h hji
      · exact Kd.at_put_ne (hvs j hj h) hg2 fun e => hji (hd j i hj hiN e)
  · rintro listed a1 w1 ⟨hls, hg1, hdf, hts, hbs, hvs, hh⟩ hr
    have all : ∀ j, j < N → listed.getD j true = true := by
      intro j hj
      cases hc : listed.getD j true with
      | true => rfl
      | false => exact absurd hr (ready_some hdown hls j hj hc)
    obtain ⟨u, h1, h2⟩ := hvs last hla (all last hla)
    rw [hlk] at h2
    obtain ⟨hs, hf⟩ := h2
    have hlastE : (E.reg ++ [Ent.sv u])[hp0.length]? = some (.sv u) := by rw [hh.len]; simp
    have h3 := hh.addR (.sv u) (fun g hgb => ⟨.inr (Nat.le_trans hR.hr.size (hf g hgb)), hs.lt hgb, fun r y hy hyb => by
      have := hR.hr.lt r y g hy hyb
      have := hf g hgb
      omega⟩) (fun v hv => by
        cases hv
        rcases hs with ⟨e, _⟩ | ⟨g, o, K, e, _⟩
        · exact ⟨_, _, _, e⟩
        · exact ⟨_, _, _, e⟩) (.nt L) ⟨u, hlastE, hs⟩
    refine hQ ⟨E.reg ++ [.sv u]⟩ a1 w1 (E.le_push _) ⟨tr_of hdf hts fun p hp => ?_, h3, fun h => by cases h⟩
    rcases List.mem_cons.1 hp with rfl | hp
    · exact ⟨u, h1, hlastE⟩
    · exact (hbs p hp).mono (E.le_push _)
  · refine Nat.le_trans (openN_le _) ?_
    simp
  · have fresh : ∀ j, j < N → (Array.replicate ops.size false).getD j true = false := fun j hj => by simp [Array.getD, hsz, hj]
    refine ⟨by simp [hsz], Grow.drawn w, hR.tr.defers, hR.tr.size, fun p hp => hR.tr.at_ _ _ (hbl p hp), fun j hj h => ?_, hE0⟩
    rw [fresh j hj] at h; cases h
/-! its operations -/
def callB (o : Oper) : Option (FuncId × List Operand) :=
  match o.op with
  | .call c => match c.callee with
    | .value (.func f) => some (f, c.args.toList)
    | _ => none
  | _ => none
noncomputable def fnB (f : FuncId) : Bool :=
  match Try.prog.funcs[f]? with
  | some fn => !(fn.name == "runtime.NumGoroutine") && !fn.body.isNone
  | none => false
theorem step_call {o : Oper} {f : FuncId} {xs : List Operand} (ho : callB o = some (f, xs)) (hfn : fnB f = true) {l : List (Nat × V)} {vs : List V} (hvs : evs (slots l) xs = some vs) {E : Env} {a : Act} {n : Nat} {w : World} (htr : TR E (slots l) n a) {L : L32}
    (hc : ∀ us, All2 (V.is E) vs us → Calls Try.prog f us.toArray w (NatPost w L)) {K : Act → World → Prop} {Q : Exit → Act → World → Prop} {wS : World} (hS : Grow wS w) (next : ∀ u w', Grow w w' → (Kd.nat L).is E wS w' u → K (a.put o.dst u) w') : o.wp Try.prog a w K Q := by
  unfold callB at ho
  split at ho
  · rename_i c hop
    split at ho
    · rename_i f' hcal
      cases ho
      unfold fnB at hfn
      split at hfn
      · rename_i fn hf
        rw [Bool.and_eq_true] at hfn
        unfold Oper.wp
        rw [call_run hop hcal hf (by simpa using hfn.1) (by simpa using hfn.2) w]
        refine Calls.mono (hc _ (evs_is htr hvs)) fun e w1 ⟨u, he, hg, hs, hfr⟩ => ?_
        subst he
        exact next u w1 hg ⟨hs, fun g hgb => Nat.le_trans hS.size (hfr g hgb)⟩
      · cases hfn
    · cases ho
  · cases ho
theorem step_val {M : Kn} (hM : Known Try.prog M) {o : Oper} {l : List (Nat × V)} {hp0 : List Reg} {v : V} {ob1 ds1 : List Bool} (h : stepOp (sx Try.prog M 1000000) Try.prog M (slots l) hp0 hp0.length [] [] o.op = some (v, hp0, false, ob1, ds1)) (hob : AllT ob1) (hpl : v.plain = true)
    {B : Nat → Prop} {w0 : World} {E : Env} {a : Act} {n : Nat} {w : World} (htr : TR E (slots l) n a) (hh : HR B w0 E hp0 w) {K : Act → World → Prop} {Q : Exit → Act → World → Prop} {wS : World} (next : ∀ u w', Grow w w' → (Kd.val v).is E wS w' u → K (a.put o.dst u) w') : o.wp Try.prog a w K Q := by
  refine (step_is (sx_sound fol hM _) hM h).2 hob B w0 E n a w K Q htr hh fun E1 u w1 hE hu hh1 hc => ?_
  exact next u w1 (hc rfl w (Chg.refl hh)).1 (V.plain_is hpl hu)
end Go.Proofs.Sx
