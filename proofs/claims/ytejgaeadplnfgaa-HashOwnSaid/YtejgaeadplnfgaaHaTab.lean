/- Laws that are handed slices of slices of bytes: one row after the other is looked at. -/
import Derived.Test.YtejgaeadplnfgaaHaWr
import Derived.Test.YtejgaeadplnfgaaHaWakes
import Derived.Test.YtejgaeadplnfgaaHaRow
namespace Go.Proofs.Sx
open Go Go.RowKit
set_option linter.unusedVariables false
/-! pieces of code from one start, with places that stay -/
def PreE (X : List Ent) (E : Env) : Prop := ∀ (r : Nat) (x : Ent), X[r]? = some x → E.reg[r]? = some x
def DoesW (w0 : World) (X : List Ent) (l : List Code) (s : St) (e : Ex) (s' : St) : Prop :=
  ∀ (wc : World) (E : Env) (a : Act) (w : World) (Q : Exit → Act → World → Prop), PreE X E → Rel (fun _ => False) w0 wc E s a w →
    (∀ (E' : Env) (a' : Act) (w' : World), PreE X E' → Rel (fun _ => False) w0 wc E' s' a' w' → Q e.to a' w') → wpL Try.prog l Q a w
section
variable {w0 : World} {X : List Ent}
theorem DoesK.toW {k : Nat} {l : List Code} {s s' : St} {e : Ex} (h : DoesK Try.prog k l s e s') (hk : X.length ≤ k) : DoesW w0 X l s e s' :=
  fun wc E a w Q hX hR hQ => h _ w0 wc E a w Q hR fun E' a' w' hE hR' => hQ E' a' w' (fun r x hx => hE r x (Nat.lt_of_lt_of_le (List.getElem?_eq_some_iff.1 hx).1 hk) (hX r x hx)) hR'
theorem DoesW.append {s s' : St} {e : Ex} : ∀ {l l' : List Code} {s1 : St}, DoesW w0 X l s .normal s1 → DoesW w0 X l' s1 e s' → DoesW w0 X (l ++ l') s e s' := by
  intro l l' s1 h h' wc E a w Q hX hR hQ
  have key : ∀ (l : List Code) (a : Act) (w : World), wpL Try.prog l (Exit.then (wpL Try.prog l' Q) Q) a w → wpL Try.prog (l ++ l') Q a w := by
    intro l
    induction l with
    | nil => intro a w h; exact h
    | cons c cs ih =>
      intro a w h
      refine Code.wp_mono (fun e a w h => ?_) h
      cases e with
      | normal => exact ih a w h
      | _ => exact h
  exact key l a w (h wc E a w _ hX hR fun E1 a1 w1 hE hR1 => h' wc E1 a1 w1 Q hE hR1 hQ)
theorem DoesW.ghost {l : List Code} {s s2 s' : St} {e : Ex} (hg : ∀ (wc : World) (E : Env) (a : Act) (w : World), PreE X E → Rel (fun _ => False) w0 wc E s a w → ∃ E', PreE X E' ∧ Rel (fun _ => False) w0 wc E' s2 a w) (h : DoesW w0 X l s2 e s') : DoesW w0 X l s e s' := by
  intro wc E a w Q hX hR hQ
  obtain ⟨E', hX', hR'⟩ := hg wc E a w hX hR
  exact h wc E' a w Q hX' hR' hQ
theorem DoesW.loop {id : Nat} {b : Code} {s : Nat → St} {s' : St} (n : Nat) (h : ∀ i, i < n → DoesW w0 X [b] (s i) .normal (s (i + 1))) (hx : DoesW w0 X [b] (s n) (.exit id) s') : DoesW w0 X [.block id (.loop b)] (s 0) .normal s' := by
  intro wc E a w Q hX hR hQ
  refine wp_block (wp_loop_rounds (n + 1) ?_)
  have one : ∀ {Q : Exit → Act → World → Prop} {a : Act} {w : World}, wpL Try.prog [b] Q a w → b.wp Try.prog Q a w := fun h => Code.wp_mono (fun e a w h => by cases e <;> exact h) h
  have key : ∀ (m i : Nat), m + i = n → ∀ (E1 : Env) (a : Act) (w : World), PreE X E1 → Rel (fun _ => False) w0 wc E1 (s i) a w → Code.rounds Try.prog b (Exit.inBlock id (Exit.then (wpL Try.prog [] Q) Q)) (m + 1) a w := by
    intro m
    induction m with
    | zero =>
      intro i hi E1 a w hE hR
      rw [rounds_succ]
      have : i = n := by omega
      subst this
      refine one (hx wc E1 a w _ hE hR fun E2 a2 w2 hE2 hR2 => ?_)
      simp only [Ex.to, Exit.then, Exit.inBlock, if_true]
      exact hQ E2 a2 w2 hE2 hR2
    | succ m ih =>
      intro i hi E1 a w hE hR
      rw [rounds_succ]
      refine one (h i (by omega) wc E1 a w _ hE hR fun E2 a2 w2 hE2 hR2 => ?_)
      exact ih (i + 1) (by omega) E2 a2 w2 hE2 hR2
  exact key n 0 (by omega) E a w hX hR
theorem DoesW.three {l : List Code} {b : Code} {j id N : Nat} {s0 s2 s3 : St} {s : Nat → St} {e : Ex} (hk : j < lenL l) (hb : nthC l j = .block id (.loop b)) (h1 : DoesW w0 X (takeC j l) s0 .normal (s 0))
    (h2 : ∀ i, i < N → DoesW w0 X [b] (s i) .normal (s (i + 1))) (h3 : DoesW w0 X [b] (s N) (.exit id) s2) (h4 : DoesW w0 X (dropC (j + 1) l) s2 e s3) : DoesW w0 X l s0 e s3 := by
  have hl := parts3 j l hk
  rw [← hl]
  refine h1.append (DoesW.append (l := [nthC l j]) ?_ h4)
  rw [hb]
  exact DoesW.loop N h2 h3
end
/-- What is called, at last. -/
theorem calls_W {f : FuncId} {X : List Ent} {vr : V} {vs : List V} {us : List Value} {hp : List Reg} {E : Env} {w0 : World} {s' : St} {n : Nat} (hc : hasCode Try.prog f = true) (hn : n = lenV' vs + ((fnOf Try.prog f).ntmps - lenV' vs))
    (h : DoesW w0 X (rowOf Try.prog f) ⟨tmOf vs 0 (T.full 8), hp, false, n, regLen hp, [], []⟩ .ret s') (hv : resV Try.prog (fnOf Try.prog f).results.toList s'.tm s'.hp = some vr) (ht : ∀ (E : Env) (u : Value), vr.is E u → u = .bool true)
    (hX : PreE X E) (hh : HR (fun _ => False) w0 E hp w0) (hus : All2 (V.is E) vs us) : Calls Try.prog f us.toArray w0 fun e w' => e = .returned (.bool true) ∧ Below w0.heap.size w0 w' := by
  unfold hasCode at hc
  split at hc
  · rename_i fn hf
    have e1 : fnOf Try.prog f = fn := by unfold fnOf; rw [hf]; rfl
    cases hbd : fn.body with
    | none => rw [hbd] at hc; cases hc
    | some c =>
      have e2 : codeOf Try.prog f = c := by unfold codeOf; rw [e1, hbd]; rfl
      refine calls_of_wp hf hbd ?_
      rw [e1] at hv hn
      subst hn
      have e3 : rowOf Try.prog f = spine c := by unfold rowOf; rw [e2]
      rw [e3] at h
      refine wp_spine c _ _ _ (h w0 E _ w0 _ hX ⟨enter_tr hus, hh, fun _ => by rw [regLen_eq]; exact Chg.refl hh⟩ fun E' a' w' hE hR => ?_)
      obtain ⟨u, h1, h2⟩ := resV_is hR.tr hR.hr hv
      have h1' : u = .bool true := ht _ _ h1
      subst h1'
      have hg := hR.hr
      exact ⟨hR.tr.defers, .bool true, h2, rfl, hg.os, hg.tape, hg.output, hg.size, fun k hk => hg.keep k hk id⟩
  · cases hc

/-! regions forgotten, and old ones looked at -/
theorem HR.kill {B : Nat → Prop} {w0 w : World} {E : Env} {hp : List Reg} (h : HR B w0 E hp w) (r : Nat) : HR B w0 E (hp.set r .dead) w := by
  have old : ∀ {q : Nat} {R : Reg}, (hp.set r .dead)[q]? = some R → R = .dead ∨ hp[q]? = some R := by
    intro q R hq
    by_cases e : q = r
    · subst e
      have hlt : q < hp.length := by
        have := (List.getElem?_eq_some_iff.1 hq).1
        simpa using this
      rw [List.getElem?_set_self hlt] at hq
      exact .inl (Option.some.inj hq).symm
    · rw [List.getElem?_set_ne (Ne.symm e)] at hq
      exact .inr hq
  refine ⟨by rw [List.length_set]; exact h.len, fun q R hq => ?_, fun q q' R R' x x' g hq ho hq' hl hne => ?_, fun q R x g hq ho => ?_, h.lt, h.ok, h.os, h.tape, h.output, h.size, h.keep⟩
  · rcases old hq with rfl | hq
    · trivial
    · exact h.at_ q R hq
  · rcases old hq with rfl | hq
    · cases ho
    · rcases old hq' with rfl | hq'
      · cases hl
      · exact h.sep q q' R R' x x' g hq ho hq' hl hne
  · rcases old hq with rfl | hq
    · cases ho
    · exact h.mine q R x g hq ho
theorem DoesK.kill {P : Program} {k : Nat} {l : List Code} {s : St} {e : Ex} {tm : T} {hp : List Reg} {n b : Nat} {ob ds : List Bool} (h : DoesK P k l s e ⟨tm, hp, true, n, b, ob, ds⟩) (r : Nat) : DoesK P k l s e ⟨tm, hp.set r .dead, true, n, b, ob, ds⟩ :=
  fun B w0 wc E a w Q hR hQ => h B w0 wc E a w Q hR fun E1 a1 w1 hE hR1 => hQ E1 a1 w1 hE ⟨hR1.tr, hR1.hr.kill r, fun h => by cases h⟩
/-- Regions that are read, of memory that was there, come in. -/
theorem HR.look {w0 w : World} {E E' : Env} {hp hp' : List Reg} (h : HR (fun _ => False) w0 E hp w) (hlen : hp'.length = E'.reg.length) (hle : E.le E') (hat : ∀ (r : Nat) (R : Reg), hp'[r]? = some R → hp[r]? = some R ∨ RegIs E' w r R ∧ R.isOwn = false)
    (hold : ∀ (r : Nat) (R : Reg) (x : Ent) (g : Nat), hp'[r]? = some R → R.live = true → R.isOwn = false → E'.reg[r]? = some x → x.blk = some g → g < w0.heap.size)
    (hnew : ∀ (r : Nat) (x : Ent) (g : Nat), E'.reg[r]? = some x → x.blk = some g → E.reg[r]? = some x ∨ g < w0.heap.size) (hok : ∀ (r : Nat) (v : Value), E'.reg[r]? = some (.sv v) → E.reg[r]? = some (.sv v) ∨ ∃ A L K, v = .slice A L K) : HR (fun _ => False) w0 E' hp' w := by
  have ownOld : ∀ {r : Nat} {R : Reg}, hp'[r]? = some R → R.isOwn = true → hp[r]? = some R := by
    intro r R hr ho
    rcases hat r R hr with h1 | ⟨_, h2⟩
    · exact h1
    · rw [h2] at ho; cases ho
  have entOld : ∀ {r : Nat} {R : Reg} {x : Ent}, hp[r]? = some R → E'.reg[r]? = some x → E.reg[r]? = some x := by
    intro r R x hr hx
    have hlt : r < E.reg.length := by rw [← h.len]; exact (List.getElem?_eq_some_iff.1 hr).1
    have := hle r _ (List.getElem?_eq_getElem hlt)
    rw [hx] at this
    rw [List.getElem?_eq_getElem hlt, this]
  refine ⟨hlen, fun r R hr => ?_, fun r r' R R' x x' g hr ho hr' hl hne hx hx' hg hg' => ?_, fun r R x g hr ho hx hg => ?_, fun r x g hx hg => ?_, fun r v hv => ?_, h.os, h.tape, h.output, h.size, h.keep⟩
  · rcases hat r R hr with h1 | ⟨h1, _⟩
    · exact (h.at_ r R h1).keep hle fun _ _ _ _ => rfl
    · exact h1
  · have hr0 := ownOld hr ho
    have hx0 := entOld hr0 hx
    cases ho' : R'.isOwn with
    | true =>
      have hr0' := ownOld hr' ho'
      exact h.sep r r' R R' x x' g hr0 ho hr0' hl hne hx0 (entOld hr0' hx') hg hg'
    | false =>
      have h1 := hold r' R' x' g hr' hl ho' hx' hg'
      rcases h.mine r R x g hr0 ho hx0 hg with h2 | h2
      · exact h2
      · omega
  · have hr0 := ownOld hr ho
    exact h.mine r R x g hr0 ho (entOld hr0 hx) hg
  · rcases hnew r x g hx hg with h1 | h1
    · exact h.lt r x g h1 hg
    · exact Nat.lt_of_lt_of_le h1 h.size
  · rcases hok r v hv with h1 | h1
    · exact h.ok r v h1
    · exact h1

/-! tables of rows -/
/-- A row's bytes, and the value that stands for it. -/
def rowY (len : Nat) (z : List Int) : By := (z.take len).map (BitVec.ofInt 8)
def rowV (a : Option Addr) (len cap : Nat) : Value := if len = 0 then .slice none 0 0 else .slice a len cap
theorem IsRow.still {w0 w : World} {a : Option Addr} {len cap : Nat} {z : List Int} (h : IsRow .u8 w0 a len cap z) (hw : ∀ g, g < w0.heap.size → w.heap[g]? = w0.heap[g]?) : IsRow .u8 w a len cap z := by
  rcases h with h | ⟨x, h1, h2, h3, h4, h5, h6⟩
  · exact .inl h
  · refine .inr ⟨x, h1, h2, h3, h4, fun i hi => ?_, h6⟩
    have hc := h5 i hi
    rw [World.cell?_of_block (w := w0) (hw _ (World.block_lt_of_cell? w0 _ hc))]
    exact hc
theorem row_at {w : World} {a : Option Addr} {len cap : Nat} {z : List Int} (h : IsRow .u8 w a len cap z) : (rowY len z).length = len ∧ len ≤ maxLen ∧ RegIs ⟨[.sv (rowV a len cap)]⟩ w 0 (.rd (rowY len z) 9223372036854775807) ∧
    (∀ g, (rowV a len cap).ownBlock = some g → g < w.heap.size) ∧ (C.vw 0 0 len).is ⟨[.sv (rowV a len cap)]⟩ (.slice a len cap) ∧ ∃ A L K, rowV a len cap = .slice A L K := by
  have hlen : (rowY len z).length = len ∧ len ≤ maxLen := by
    unfold rowY
    rcases h with ⟨_, rfl, _, rfl⟩ | ⟨x, _, h2, h3, h4, _, _⟩
    · exact ⟨rfl, Nat.zero_le _⟩
    · exact ⟨by rw [List.length_map, List.length_take]; omega, Nat.le_trans h2 h3⟩
  by_cases h0 : len = 0
  · subst h0
    have hcap : cap ≤ maxLen := by
      rcases h with ⟨_, _, rfl, _⟩ | ⟨x, _, _, h3, _⟩
      · exact Nat.zero_le _
      · exact h3
    have eb : rowY 0 z = [] := by simp [rowY]
    refine ⟨hlen.1, hlen.2, ?_, (fun g hg => by cases hg), ⟨none, 0, 0, a, cap, rfl, rfl, fun h => absurd h (by simp), by simp, by simp, hcap⟩, _, _, _, rfl⟩
    rw [eb]
    exact ⟨none, 0, rfl, by simp, by simp, by simp [maxLen], fun j y hj => by simp at hj⟩
  · have eu : rowV a len cap = .slice a len cap := if_neg h0
    rcases h with ⟨_, rfl, _⟩ | ⟨x, rfl, h2, hcap, hz, hcell, hwf⟩
    · exact absurd rfl h0
    · rw [eu]
      refine ⟨hlen.1, hlen.2, ⟨some x, cap, by rw [hlen.1]; rfl, by rw [hlen.1]; exact hlen.2, by rw [hlen.1]; exact h2, hcap, fun j y hj => ⟨x, rfl, ?_⟩⟩, fun g hg => ?_, ⟨some x, len, cap, some x, cap, rfl, rfl, fun _ => ⟨x, rfl, ?_⟩, by omega, h2, hcap⟩, _, _, _, rfl⟩
      · have hj' : j < len := by
          rcases Nat.lt_or_ge j len with h | h
          · exact h
          · rw [List.getElem?_eq_none (by rw [hlen.1]; exact h)] at hj; cases hj
        have hjz : j < z.length := by omega
        unfold rowY at hj
        rw [List.getElem?_map, List.getElem?_take_of_lt hj', List.getElem?_eq_getElem hjz, Option.map_some] at hj
        cases hj
        have hw := hwf z[j] (List.getElem_mem hjz)
        rw [hcell j hjz, List.getD_eq_getElem?_getD, List.getElem?_eq_getElem hjz]
        show some (Value.int .u8 z[j]) = _
        rw [B8_of hw]
      · have := World.block_lt_of_cell? w _ (hcell 0 (by omega))
        have e : (x.add 0).block = x.block := by unfold Addr.add; split <;> rfl
        rw [e] at this
        have hg' : some x.block = some g := hg
        cases hg'
        exact this
      · congr 1
/-- A table of n rows, at the start. -/
def TabAt (w0 : World) (x : Ent) (F : Nat → By) (n : Nat) : Prop :=
  ∃ A K, x = .sv (.slice A n K) ∧ ∀ i, i < n → ∃ ad a len cap z, A = some ad ∧ w0.cell? (ad.add i) = some (.slice a len cap) ∧ IsRow .u8 w0 a len cap z ∧ F i = rowY len z
/-- The row i of the table at place r is looked at, at place q, behind all. -/
theorem tab_look {w0 w wc : World} {X : List Ent} {E : Env} {x : Ent} {F : Nat → By} {n i r : Nat} {tm : T} {hp hp' : List Reg} {c : Bool} {m b : Nat} {ob ds : List Bool} {a : Act} (hT : TabAt w0 x F n) (hi : i < n) (hx : X[r]? = some x) (hX : PreE X E)
    (hr : hp[r]? = some .dead) (hp'e : hp' = hp.set r (.at1 i (.vw hp.length 0 (F i).length)) ++ [.rd (F i) 9223372036854775807]) (hsafe : ∀ (q : Nat) (R : Reg), hp[q]? = some R → R.isOwn = true ∨ R.live = false) (hR : Rel (fun _ => False) w0 wc E ⟨tm, hp, c, m, b, ob, ds⟩ a w) :
    ∃ E', PreE X E' ∧ Rel (fun _ => False) w0 wc E' ⟨tm, hp', true, m, b, ob, ds⟩ a w := by
  obtain ⟨A, K, rfl, hrows⟩ := hT
  obtain ⟨ad, ra, len, cap, z, rfl, hcell, hrow, hF⟩ := hrows i hi
  have hkeep : ∀ g, g < w0.heap.size → w.heap[g]? = w0.heap[g]? := fun g hg => hR.hr.keep g hg id
  obtain ⟨l1, l2, l3, l4, l5, l6⟩ := row_at (hrow.still hkeep)
  obtain ⟨_, _, _, l4', _, _⟩ := row_at hrow
  have hx' := hX r _ hx
  have hlen := hR.hr.len
  have hrl : r < hp.length := (List.getElem?_eq_some_iff.1 hr).1
  have hblk : ad.block < w0.heap.size := by
    have := World.block_lt_of_cell? w0 _ hcell
    have e : (ad.add i).block = ad.block := by unfold Addr.add; split <;> rfl
    rwa [e] at this
  have hle := E.le_push (.sv (rowV ra len cap))
  have atq : (E.reg ++ [Ent.sv (rowV ra len cap)])[hp.length]? = some (.sv (rowV ra len cap)) := by
    rw [hlen]
    have h := hR.hr.len
    simp only at h
    simp
  have atnew : ∀ {q : Nat} {y : Ent}, (E.reg ++ [Ent.sv (rowV ra len cap)])[q]? = some y → E.reg[q]? = some y ∨ (q = hp.length ∧ y = .sv (rowV ra len cap)) := by
    intro q y hy
    rcases last_or hy with ⟨h1, h2⟩ | ⟨_, h2⟩
    · exact .inr ⟨by rw [h1]; exact hlen.symm, h2⟩
    · exact .inl h2
  have hρ : ∀ (q : Nat) (y : Ent), ([Ent.sv (rowV ra len cap)] : List Ent)[q]? = some y → (E.reg ++ [Ent.sv (rowV ra len cap)])[hp.length + q]? = some y := by
    intro q y hy
    cases q with
    | zero => simp at hy; subst hy; exact atq
    | succ q => simp at hy
  have regOf : ∀ {q : Nat} {R : Reg}, hp'[q]? = some R → (hp[q]? = some R ∧ q ≠ r) ∨ (q = r ∧ R = .at1 i (.vw hp.length 0 (F i).length)) ∨ (q = hp.length ∧ R = .rd (F i) 9223372036854775807) := by
    intro q R hq
    rw [hp'e] at hq
    rcases last_or hq with ⟨h1, h2⟩ | ⟨h1, h2⟩
    · exact .inr (.inr ⟨by rw [h1, List.length_set], h2⟩)
    · by_cases e : q = r
      · subst e
        rw [List.getElem?_set_self hrl] at h2
        exact .inr (.inl ⟨rfl, (Option.some.inj h2).symm⟩)
      · rw [List.getElem?_set_ne (Ne.symm e)] at h2
        exact .inl ⟨h2, e⟩
  refine ⟨⟨E.reg ++ [.sv (rowV ra len cap)]⟩, fun q y hq => hle q y (hX q y hq), hR.tr.mono hle, ?_, fun h => by cases h⟩
  refine HR.look hR.hr ?_ hle (fun q R hq => ?_) (fun q R y g hq hlv hno hy hg => ?_) (fun q y g hy hg => ?_) (fun q v hv => ?_)
  · rw [hp'e, List.length_append, List.length_set]
    show _ = (E.reg ++ _).length
    rw [List.length_append, ← hlen]
    rfl
  · rcases regOf hq with ⟨h1, _⟩ | ⟨rfl, rfl⟩ | ⟨rfl, rfl⟩
    · exact .inl h1
    · refine .inr ⟨⟨ad, n, K, .slice ra len cap, hle _ _ hx', ?_, ?_⟩, rfl⟩
      · rw [hF, l1]
        obtain ⟨A', L', K', A2, c2, e1, e2, e3⟩ := l5
        exact ⟨A', L', K', A2, c2, hρ 0 _ e1, e2, e3⟩
      · rw [World.cell?_of_block (w := w0) (hkeep _ (World.block_lt_of_cell? w0 _ hcell))]
        exact hcell
    · refine .inr ⟨?_, rfl⟩
      rw [hF]
      obtain ⟨A', K', e1, e2⟩ := l3
      exact ⟨A', K', hρ 0 _ e1, e2⟩
  · rcases regOf hq with ⟨h1, _⟩ | ⟨rfl, rfl⟩ | ⟨rfl, rfl⟩
    · rcases hsafe q R h1 with h2 | h2
      · rw [h2] at hno; cases hno
      · rw [h2] at hlv; cases hlv
    · rcases atnew hy with h1 | ⟨h1, _⟩
      · rw [hx'] at h1
        cases h1
        have hg' : some ad.block = some g := hg
        cases hg'
        exact hblk
      · omega
    · have : y = .sv (rowV ra len cap) := by
        have h1 : (E.reg ++ [Ent.sv (rowV ra len cap)])[hp.length]? = some y := hy
        rw [atq] at h1
        exact (Option.some.inj h1).symm
      subst this
      exact l4' g hg
  · rcases atnew hy with h1 | ⟨_, rfl⟩
    · exact .inl h1
    · exact .inr (l4' g hg)
  · rcases atnew hv with h1 | ⟨_, h2⟩
    · exact .inl h1
    · cases h2
      exact .inr l6
end Go.Proofs.Sx
