/- Numbers in limbs: what taking off zeros does, wherever they lie. -/
import Derived.Test.YtinbeihbhnjjnaaGxNat1
namespace Go.Proofs.Sx
open Go
set_option linter.unusedVariables false
theorem mapAt {α β : Type} {f g : α → β} {l : List α} (h : l.map f = l.map g) {a : α} (ha : a ∈ l) : f a = g a := List.map_inj_left.1 h a ha
theorem zsO_cons (x : BitVec 32) (l : L32) : ∀ (i n : Nat), zsO (nthD (x :: l)) (i + 1) n = zsO (nthD l) i n
  | _, 0 => rfl
  | i, n + 1 => by
    show zero32 (nthD l i) :: zsO (nthD (x :: l)) (i + 1 + 1) n = zero32 (nthD l i) :: zsO (nthD l) (i + 1) n
    rw [zsO_cons x l (i + 1) n]
theorem allZ_is : ∀ {l : L32}, allZ l = true → AllT (zsO (nthD l) 0 l.length)
  | [], _ => AllT.nil
  | x :: l, h => by
    unfold allZ at h
    rw [Bool.and_eq_true] at h
    show AllT (zero32 x :: zsO (nthD (x :: l)) 1 l.length)
    rw [zsO_cons x l 0]
    exact AllT.cons h.1 (allZ_is h.2)
theorem trim_split : ∀ (l : L32), (trimL l).length ≤ l.length ∧ trimL l = l.take (trimL l).length ∧ AllT (trimO (nthD l) l.length (trimL l).length)
  | [] => ⟨Nat.le_refl _, rfl, AllT.nil⟩
  | x :: l => by
    obtain ⟨h1, h2, h3⟩ := trim_split l
    have e : trimL (x :: l) = match zero32 x && allZ l with
      | true => []
      | false => x :: trimL l := rfl
    cases hb : zero32 x && allZ l with
    | true =>
      rw [hb] at e
      simp only at e
      rw [e]
      exact ⟨Nat.zero_le _, rfl, allZ_is (l := x :: l) hb⟩
    | false =>
      rw [hb] at e
      simp only at e
      rw [e]
      refine ⟨Nat.succ_le_succ h1, by show x :: trimL l = x :: l.take _; rw [← h2], ?_⟩
      show AllT ((!(zero32 (nthD (x :: l) (trimL l).length))) :: zsO (nthD (x :: l)) ((trimL l).length + 1) (l.length + 1 - ((trimL l).length + 1)))
      rw [zsO_cons, show l.length + 1 - ((trimL l).length + 1) = l.length - (trimL l).length by omega]
      cases hk : (trimL l).length with
      | zero =>
        have hz : allZ l = true := by
          cases hq : allZ l with
          | true => rfl
          | false =>
            cases l with
            | nil => cases hq
            | cons y l =>
              have e2 : trimL (y :: l) = match zero32 y && allZ l with
                | true => []
                | false => y :: trimL l := rfl
              have hq' : (zero32 y && allZ l) = false := hq
              rw [hq'] at e2
              simp only at e2
              rw [e2] at hk
              cases hk
        rw [hz, Bool.and_true] at hb
        refine AllT.cons ?_ ?_
        · show (!(zero32 x)) = true
          rw [hb]; rfl
        · exact allZ_is hz
      | succ k =>
        rw [hk] at h3
        exact h3
theorem runs59 (l : L32) (hl : l.length ≤ 11) : ∃ chg, Runs Try.prog 59 [.one (.sl 0 0 l.length l.length)] [.own 95 (toD l)] (.one (.sl 0 0 (trimL l).length l.length)) [.own 95 (toD l)] chg := by
  obtain ⟨h1, _, h3⟩ := trim_split l
  have f := mapAt (mapAt (f59 (nthD l)) (a := l.length) (by simp; omega)) (a := (trimL l).length) (by simp; omega)
  unfold tr59 at f
  rw [← eq_lsD l] at f
  exact runV_is known_none f h3
def d32 (x : BitVec 32) : Value := .int .u32 (x.toNat : Int)
theorem trim_runs {l : L32} (hl : l.length ≤ 11) {hp : List Reg} {r : Nat} (hr : hp[r]? = some (.own 95 (toD l))) :
    Runs Try.prog 59 [.one (.sl r 0 l.length l.length)] hp (.one (.dy hp.length)) (hp.set r .dead ++ [.nt (trimL l)]) true := by
  intro B w0 E us w hus hh
  match us, hus with
  | [u], ⟨hu, _⟩ =>
    obtain ⟨g, vs, hg, hvs, hheap⟩ := hh.at_ r _ hr
    obtain ⟨g', o', hg', hu'⟩ := hu
    rw [hg] at hg'
    cases hg'
    have ev := all2_toD hvs
    obtain ⟨chg, hrun⟩ := runs59 l hl
    have hlt : g < w.heap.size := hh.lt r _ g hg rfl
    have hl1 : HR (fun b => b = g) w ⟨[.at_ g 0]⟩ [.own 95 (toD l)] w := by
      refine ⟨rfl, fun q R hq => ?_, fun q q' R R' x x' b hq _ hq' _ hne _ _ _ => ?_, fun q R x b hq _ hx hb => ?_, fun q x b hx hb => ?_, fun q v hv => ?_, rfl, rfl, rfl, Nat.le_refl _, fun _ _ _ => rfl⟩
      · match q, hq with
        | 0, hq =>
          cases hq
          refine ⟨g, vs, rfl, ?_, hheap⟩
          have pl : ∀ (l : L32) (vs : List Value), All2 (C.is E) (toD l) vs → All2 (C.is ⟨[.at_ g 0]⟩) (toD l) vs := by
            intro l
            induction l with
            | nil => intro vs h; cases vs <;> first | trivial | exact h.elim
            | cons x l ih =>
              intro vs h
              cases vs with
              | nil => exact h.elim
              | cons v vs => exact ⟨h.1, ih vs h.2⟩
          exact pl l vs hvs
        | q + 1, hq => simp at hq
      · match q, hq, q', hq', hne with
        | 0, _, 0, _, hne => exact absurd rfl hne
        | q + 1, hq, _, _, _ => simp at hq
        | 0, _, q' + 1, hq', _ => simp at hq'
      · match q, hx with
        | 0, hx => cases hx; cases hb; exact .inl rfl
        | q + 1, hx => simp at hx
      · match q, hx with
        | 0, hx => cases hx; cases hb; exact hlt
        | q + 1, hx => simp at hx
      · match q, hv with
        | 0, hv => cases hv
        | q + 1, hv => simp at hv
    refine Calls.mono (hrun _ w ⟨[.at_ g 0]⟩ [u] w ⟨⟨g, 0, rfl, hu'⟩, trivial⟩ hl1) fun e w1 ⟨E1, u1, hE1, he, hu1, hh1, _⟩ => ?_
    have hg1 : E1.reg[0]? = some (.at_ g 0) := hE1 0 _ rfl
    obtain ⟨g2, o2, hg2, hu1'⟩ := hu1
    rw [hg1] at hg2
    cases hg2
    obtain ⟨g3, vs1, hg3, hvs1, hheap1⟩ := hh1.at_ 0 _ rfl
    rw [hg1] at hg3
    cases hg3
    have ev1 := all2_toD hvs1
    obtain ⟨t1, t2, _⟩ := trim_split l
    have hgr : w.grownBy w1 (some g) := ⟨hh1.os, hh1.tape, hh1.output, hh1.size, fun k hk hne => hh1.keep k hk fun e => hne (by rw [e])⟩
    have hll : vs1.length = l.length := by rw [ev1, List.length_map]
    have hmax : l.length ≤ maxLen := by simp only [maxLen]; omega
    have hsh : Shows w1 u1 (trimL l) := by
      refine .inr ⟨g, 0, l.length, hu1', t1, hmax, by rw [hheap1]; rfl, fun j x hj => ?_⟩
      rw [Nat.zero_add, cell_of_row w1 g j _ 95 _ hheap1, ev1]
      have hjl : j < (trimL l).length := (List.getElem?_eq_some_iff.1 hj).1
      rw [t2, List.getElem?_take_of_lt hjl] at hj
      simp [hj]
    have hset : ∀ (q : Nat) (R : Reg), (hp.set r .dead)[q]? = some R → R = .dead ∨ hp[q]? = some R ∧ q ≠ r := by
      intro q R hq
      have hlt : r < hp.length := (List.getElem?_eq_some_iff.1 hr).1
      by_cases e : q = r
      · subst e
        rw [List.getElem?_set_self hlt] at hq
        exact .inl (Option.some.inj hq).symm
      · rw [List.getElem?_set_ne (Ne.symm e)] at hq
        exact .inr ⟨hq, e⟩
    have hadd := hh.add (hp1 := hp.set r .dead) (by simp) (fun q R hq => (hset q R hq).imp id (·.1)) (some g) (fun b hb => by
      cases hb
      refine ⟨hh.mine r _ _ g hr rfl hg rfl, hlt, fun q R x hq hl hx hxg => ?_⟩
      rcases hset q R hq with rfl | ⟨hq, hne⟩
      · cases hl
      · exact hh.sep r q _ R _ x g hr rfl hq hl (Ne.symm hne) hg hx rfl hxg) hgr (.sv u1) (.inr (.inl (by rw [hu1']; rfl))) (fun b hb => hsh.lt hb) (fun v hv => by cases hv; exact ⟨_, _, _, hu1'⟩) (.nt (trimL l)) ⟨u1, by rw [hh.len]; simp, hsh⟩
    exact ⟨⟨E.reg ++ [.sv u1]⟩, u1, E.le_push _, he, by rw [hh.len]; show (E.reg ++ [Ent.sv u1])[E.reg.length]? = _; simp, hadd, fun h => by cases h⟩
noncomputable def trimM (vs : List V) (hp : List Reg) : Option (V × List Reg × Bool × Option Bool) :=
  match vs with
  | [.one (.sl r 0 n m)] => match regAt r hp with
    | some (.own 95 cs) => match unD cs with
      | some l => match Nat.beq n (lenC cs), Nat.beq m (lenC cs), Nat.ble (lenC cs) 11, regSet r .dead hp with
        | true, true, true, some hp1 => regPushK hp1 (.nt (trimL l)) fun hp' => forceN (regLen hp) fun q => some (.one (.dy q), hp', true, none)
        | _, _, _, _ => none
      | none => none
    | _ => none
  | _ => none
theorem ktrim : ∀ vs hp v hp' chg ob, trimM vs hp = some (v, hp', chg, ob) → (∀ x, ob = some x → x = true) → Runs Try.prog 59 vs hp v hp' chg := by
  intro vs hp v hp' chg ob h _
  unfold trimM at h
  split at h
  · rename_i r n m
    split at h
    · rename_i cs hr
      split at h
      · rename_i l hl
        split at h
        · rename_i hp1 h1 h2 h3 h4
          rw [regPushK_eq, forceN_eq, regLen_eq] at h
          cases h
          rw [regAt_eq] at hr
          have e := unD_is hl
          subst e
          rw [lenC_eq, toD_len] at h1 h2 h3
          have e1 := Nat.eq_of_beq_eq_true h1
          have e2 := Nat.eq_of_beq_eq_true h2
          subst e1 e2
          obtain ⟨rfl, _⟩ := regSet_eq _ _ _ _ h4
          exact trim_runs (Nat.le_of_ble_eq_true h3) hr
        · cases h
      · cases h
    · cases h
  · cases h
noncomputable def Mt : Kn := addK M0 59 trimM
theorem knownt : Known Try.prog Mt := known_add known_none ktrim
end Go.Proofs.Sx
