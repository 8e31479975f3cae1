/- The region of two blocks, whole. -/
import Derived.Test.YtejgaeadplnfgaaSxAny2
namespace Go.Proofs.Sx
open Go

def edgeB (ops : Array Oper) (i d : Nat) : Bool :=
  match ops[i]? with
  | some o => o.after.toList.any fun e => Region.binds .any e && Nat.beq e.on d
  | none => false

theorem edge_is {ops : Array Oper} {listed : Array Bool} {i d : Nat} (hi : i ∈ Region.ready .any ops listed) (he : edgeB ops i d = true) : listed.getD d true = true := by
  obtain ⟨_, o, ho, hall⟩ := mem_ready.1 hi
  unfold edgeB at he
  rw [ho] at he
  simp only [List.any_eq_true, Bool.and_eq_true] at he
  obtain ⟨e, h1, h2, h3⟩ := he
  have h4 := hall e (by simpa using h1) h2
  rw [Nat.eq_of_beq_eq_true h3] at h4
  rcases Nat.lt_or_ge d listed.size with h | h
  · simp [Array.getD, h] at h4 ⊢
    exact h4
  · simp [Array.getD, Nat.not_lt.2 h] at h4

theorem wp_op_of {P : Program} {ops : Array Oper} {Q : Exit → Act → World → Prop} {i : Nat} {o : Oper} {K : Act → World → Prop} {a : Act} {w : World} (ho : ops[i]? = some o) (hg : o.guard = none) (h : o.wp P a w K Q) : wpOp P ops Q i K a w := by
  unfold wpOp
  simp only [ho]
  have : Region.wanted o (yielded ops a.tmps) = true := by unfold Region.wanted; rw [hg]
  rw [if_pos this]
  exact .inl h

/-- Whatever an operation waits for stands ahead of it. -/
def downB (ops : Array Oper) (i : Nat) : Bool :=
  match ops[i]? with
  | some o => o.after.toList.all fun e => !(Region.binds .any e) || Nat.blt e.on i
  | none => false

theorem ready_some {ops : Array Oper} {listed : Array Bool} (hd : ∀ i, i < 12 → downB ops i = true) (hls : listed.size = 12) : ∀ (k : Nat), k < 12 → listed.getD k true = false → Region.ready .any ops listed ≠ [] := by
  intro k
  induction k using Nat.strongRecOn with
  | _ k ih =>
    intro hk hun hr
    have h0 := hd k hk
    unfold downB at h0
    split at h0
    · rename_i o ho
      have hin : k ∈ Region.ready .any ops listed := by
        refine mem_ready.2 ⟨hun, o, ho, fun e he hb => ?_⟩
        have h1 := List.all_eq_true.1 h0 e (by simpa using he)
        rw [hb] at h1
        have h2 : e.on < k := by simpa using h1
        cases hc : listed.getD e.on false with
        | true => rfl
        | false =>
          refine absurd hr (ih e.on h2 (by omega) ?_)
          have h3 : e.on < listed.size := by omega
          simp [Array.getD, h3] at hc ⊢
          exact hc
      rw [hr] at hin
      cases hin
    · cases h0

theorem openN_le : ∀ l : List Bool, openN l ≤ l.length
  | [] => Nat.le_refl _
  | true :: l => Nat.le_succ_of_le (openN_le l)
  | false :: l => Nat.succ_le_succ (openN_le l)

section
variable {P : Program} {M : Kn} {ih : Rec}

theorem region_two (hm : P.follows .mixedOrders = true) (hs : Sound P ih) (hM : Known P M) {ops : Array Oper} {id n base : Nat} {hp0 hp10 hp11 : List Reg} {baseL lf : List (Nat × V)} {l : Nat → List (Nat × V)} {val : Nat → V} {t : TypeId} {zc : List C} {x10 x11 : V} {c10 c11 chg : Bool} {ob ds : List Bool}
    (hsz : ops.size = 12)
    (hq : ∀ j, j < 8 → ∃ o, ops[j]? = some o ∧ o.guard = none ∧ o.dst = some (45 + j) ∧ stepOp ih P M (slots (l j)) hp0 hp0.length [] [] o.op = some (val j, hp0, false, [], []))
    (hl : ∀ j, j < 8 → ∀ p ∈ l j, p ∈ baseL ∨ ∃ d, d < 8 ∧ edgeB ops j d = true ∧ p = (45 + d, val d))
    (h8 : ∃ o, ops[8]? = some o ∧ o.guard = none ∧ o.dst = some 10 ∧ o.op = .alloc t) (h9 : ∃ o, ops[9]? = some o ∧ o.guard = none ∧ o.dst = some 11 ∧ o.op = .alloc t)
    (h10 : ∃ o, ops[10]? = some o ∧ o.guard = none ∧ o.dst = none ∧ stepOp ih P M (slots lf) (hp0 ++ [.own t zc] ++ [.own t zc]) base [] [] o.op = some (x10, hp10, c10, [], []))
    (h11 : ∃ o, ops[11]? = some o ∧ o.guard = none ∧ o.dst = none ∧ stepOp ih P M (slots lf) hp10 base [] [] o.op = some (x11, hp11, c11, [], []))
    (e10 : ∀ d, d < 10 → edgeB ops 10 d = true ∨ ∃ m, m < 12 ∧ edgeB ops 10 m = true ∧ edgeB ops m d = true) (e11 : ∀ d, d < 11 → edgeB ops 11 d = true)
    (hdown : ∀ i, i < 12 → downB ops i = true) (hz : zeroV P t = some zc) (hpl : plains zc = true) (hn : 53 ≤ n) (hb : ∀ p ∈ baseL, p.1 < 45 ∧ p.1 ≠ 10 ∧ p.1 ≠ 11) (hbl : ∀ p ∈ baseL, (slots baseL).get p.1 = some p.2)
    (hlf : ∀ p ∈ lf, p ∈ baseL ∨ (∃ d, d < 8 ∧ p = (45 + d, val d)) ∨ p = (10, .one (.pt hp0.length 0)) ∨ p = (11, .one (.pt (hp0.length + 1) 0))) :
    Does P (.region id ops true) ⟨slots baseL, hp0, chg, n, base, ob, ds⟩ .normal ⟨slots lf, hp11, true, n, base, [], []⟩ := by
  intro B w0 wc E a w Q hR hQ
  obtain ⟨zv, hzv, hrun⟩ := alloc_run (P := P) (t := t) hz hpl
  refine wp_region_any hm ?_
  have hgw : Grow w { w with drawn := w.drawn + 1 } := Grow.drawn w
  have hE0 : HR B w0 E hp0 { w with drawn := w.drawn + 1 } := hR.hr.grow hgw
  refine wpAny_inv (md := .any) (fun listed a' w' => (PhA B w0 { w with drawn := w.drawn + 1 } E n hp0 baseL val t zv listed a' w' ∧ listed.getD 10 true = false ∧ listed.getD 11 true = false ∧ listed.size = 12 ∧ ∀ k d, k < 12 → listed.getD k true = true → edgeB ops k d = true → listed.getD d true = true) ∨
      (∃ E2, E.le E2 ∧ Rel B w0 wc E2 ⟨slots lf, hp10, true, n, base, [], []⟩ a' w' ∧ (∀ j, j < 11 → listed.getD j true = true) ∧ listed.getD 11 true = false ∧ listed.size = 12) ∨
      (∃ E2, E.le E2 ∧ Rel B w0 wc E2 ⟨slots lf, hp11, true, n, base, [], []⟩ a' w' ∧ (∀ j, j < 12 → listed.getD j true = true) ∧ listed.size = 12)) ?_ ?_ ops.size _ a _ ?_ ?_
  · intro listed a1 w1 i hI hi
    have hun := (mem_ready.1 hi).1
    obtain ⟨_, oi, hoi, _⟩ := mem_ready.1 hi
    have hi12 : i < 12 := by rw [← hsz]; exact (Array.getElem?_eq_some_iff.1 hoi).1
    have set_false : ∀ {k}, k ≠ i → listed.getD k true = false → (listed.setIfInBounds i true).getD k true = false := fun hk h => by
      rw [getD_set_ne true (fun e => hk e.symm)]; exact h
    have set_true : ∀ {k}, listed.getD k true = true → (listed.setIfInBounds i true).getD k true = true := fun {k} h => by
      by_cases hk : k = i
      · subst hk
        rw [hun] at h
        cases h
      · rw [getD_set_ne true (fun e => hk e.symm)]; exact h
    rcases hI with ⟨hA, q10, q11, hls, hcl⟩ | ⟨E2, hE2, hR2, hall, q11, hls⟩ | ⟨E2, hE2, hR2, hall, hls⟩
    · have set_self : (listed.setIfInBounds i true).getD i true = true := by simp [Array.getD, hls, hi12]
      have hcl' : ∀ k d, k < 12 → (listed.setIfInBounds i true).getD k true = true → edgeB ops k d = true → (listed.setIfInBounds i true).getD d true = true := by
        intro k d hk h1 h2
        rcases getD_set_eq h1 with rfl | h3
        · exact set_true (edge_is hi h2)
        · exact set_true (hcl k d hk h3 h2)
      by_cases hlt : i < 8
      · obtain ⟨o, ho, hg, hd, hst⟩ := hq i hlt
        refine wp_op_of ho hg (Oper.wp_mono (fun a' w' h => .inl ⟨h, set_false (by omega) q10, set_false (by omega) q11, by simpa using hls, hcl'⟩)
          (phA_quiet hs hM hlt hn hd hb (fun p hp => ?_) rfl hst hA))
        rcases hl i hlt p hp with h1 | ⟨d, h1, h2, h3⟩
        · exact .inl h1
        · exact .inr ⟨d, h1, edge_is hi h2, h3⟩
      · by_cases h8' : i = 8
        · subst h8'
          obtain ⟨o, ho, hg, hd, hop⟩ := h8
          exact wp_op_of ho hg (Oper.wp_mono (fun a' w' h => .inl ⟨h, set_false (by omega) q10, set_false (by omega) q11, by simpa using hls, hcl'⟩)
            (phA_alloc (.inl ⟨rfl, rfl⟩) hn hd hb hun (fun a w => hrun a w o hop) hA))
        · by_cases h9' : i = 9
          · subst h9'
            obtain ⟨o, ho, hg, hd, hop⟩ := h9
            exact wp_op_of ho hg (Oper.wp_mono (fun a' w' h => .inl ⟨h, set_false (by omega) q10, set_false (by omega) q11, by simpa using hls, hcl'⟩)
              (phA_alloc (.inr ⟨rfl, rfl⟩) hn hd hb hun (fun a w => hrun a w o hop) hA))
          · by_cases h10' : i = 10
            · subst h10'
              have full : ∀ j, j < 10 → listed.getD j true = true := fun j hj => (e10 j hj).elim (fun h => edge_is hi h) fun ⟨m, h1, h2, h3⟩ => hcl m j h1 (edge_is hi h2) h3
              obtain ⟨o, ho, hg, hd, hst⟩ := h10
              obtain ⟨E2, hE2, hR2⟩ := phA_full (base := base) full hzv hE0 hA hlf
              have hR3 := hR2 wc [] []
              refine wp_op_of ho hg ((step_is hs hM hst).2 AllT.nil B w0 E2 n a1 w1 _ Q hR3.tr hR3.hr fun E3 u w3 hE3 _ hh3 _ => .inr (.inl ⟨E3, Env.le_trans hE2 hE3, ?_, fun j hj => ?_, set_false (by omega) q11, by simpa using hls⟩))
              · rw [hd]
                exact ⟨hR3.tr.mono hE3, hh3, fun h => by cases h⟩
              · by_cases hj10 : j = 10
                · subst hj10; exact set_self
                · exact set_true (full j (by omega))
            · have h11' : i = 11 := by omega
              subst h11'
              have := edge_is hi (e11 10 (by omega))
              rw [q10] at this
              cases this
    · have set_self : (listed.setIfInBounds i true).getD i true = true := by simp [Array.getD, hls, hi12]
      have h11' : i = 11 := by
        by_cases hlt : i < 11
        · have := hall i hlt
          rw [hun] at this
          cases this
        · omega
      subst h11'
      obtain ⟨o, ho, hg, hd, hst⟩ := h11
      refine wp_op_of ho hg ((step_is hs hM hst).2 AllT.nil B w0 E2 n a1 w1 _ Q hR2.tr hR2.hr fun E3 u w3 hE3 _ hh3 _ => .inr (.inr ⟨E3, Env.le_trans hE2 hE3, ?_, fun j hj => ?_, by simpa using hls⟩))
      · rw [hd]
        exact ⟨hR2.tr.mono hE3, hh3, fun h => by cases h⟩
      · by_cases hj11 : j = 11
        · subst hj11; exact set_self
        · exact set_true (hall j (by omega))
    · have := hall i hi12
      rw [hun] at this
      cases this
  · intro listed a1 w1 hI hr
    rcases hI with ⟨hA, q10, q11, hls, hcl⟩ | ⟨E2, hE2, hR2, hall, q11, hls⟩ | ⟨E2, hE2, hR2, hall, hls⟩
    · exact absurd hr (ready_some hdown hls 10 (by omega) q10)
    · exact absurd hr (ready_some hdown hls 11 (by omega) q11)
    · exact hQ E2 a1 w1 hE2 hR2
  · refine Nat.le_trans (openN_le _) ?_
    simp
  · have fresh : ∀ j, j < 12 → (Array.replicate ops.size false).getD j true = false := fun j hj => by simp [Array.getD, hsz, hj]
    refine .inl ⟨⟨E, 0, 1, E.le_refl, hR.tr.defers, hR.tr.size, hE0, Grow.refl _, fun p hp => hR.tr.at_ _ _ (hbl p hp), fun j hj hlj => ?_, fun h => ?_, fun h => ?_, fun _ _ => by omega⟩, ?_, ?_, by simp [hsz], fun k d hk h => by rw [fresh k hk] at h; cases h⟩
    · rw [fresh j (by omega)] at hlj; cases hlj
    · rw [fresh 8 (by omega)] at h; cases h
    · rw [fresh 9 (by omega)] at h; cases h
    · exact fresh 10 (by omega)
    · exact fresh 11 (by omega)
end
end Go.Proofs.Sx
