/- RIPEMD-160 of no bytes: the region of the two lines does what is reckoned, in every order. -/
import Derived.Test.YtejgaeadplnfgaaHaRip4
namespace Go.Proofs.Sx
open Go

theorem kept_get {tm : T} : ∀ {l : List Nat} {p : Nat × V}, p ∈ kept tm l → tm.get p.1 = some p.2
  | [], _, h => by cases h
  | i :: l, p, h => by
    simp only [kept] at h
    split at h
    · rename_i v hv
      rcases List.mem_cons.1 h with rfl | h
      · exact hv
      · exact kept_get h
    · exact kept_get h
theorem DoesL.kept {P : Program} {l : List Code} {s s1 : St} {e : Ex} (h : DoesL P l s e s1) (ks : List Nat) (ob ds : List Bool) : DoesL P l s e ⟨slots (kept s1.tm ks), s1.hp, true, s1.n, s1.base, ob, ds⟩ :=
  fun B w0 wc E a w Q hR hQ => h B w0 wc E a w Q hR fun E1 a1 w1 hE hR1 => hQ E1 a1 w1 hE ⟨⟨hR1.tr.defers, hR1.tr.size, fun i x hx => hR1.tr.at_ i x (kept_get (slots_get _ _ _ hx))⟩, hR1.hr, fun h => by cases h⟩

theorem rbase_eq : rbase = [(2, .one (.pt 0 0)), (3, .one (.pt 1 0)), (4, .one (.pt 2 0)), (5, .one (.pt 3 0)), (6, .one (.dy 132)), (7, .one (.pt 133 0))] := by kernel_rfl
theorem ropN_at {j : Nat} (h : j < 12) : ropsA[j]? = some (ropN j) := by
  unfold ropN
  have h1 : j < ropsA.size := by rw [rsize]; exact h
  rw [Array.getElem?_eq_getElem h1]
  rfl
noncomputable def plainOp (j d : Nat) : Bool :=
  match (ropN j).guard, (ropN j).dst with
  | none, some e => Nat.beq e d
  | _, _ => false
noncomputable def bareOp (j : Nat) : Bool :=
  match (ropN j).guard, (ropN j).dst with
  | none, none => true
  | _, _ => false
theorem plainOp_is {j d : Nat} (h : plainOp j d = true) : (ropN j).guard = none ∧ (ropN j).dst = some d := by
  unfold plainOp at h
  split at h
  · rename_i e h1 h2
    exact ⟨h1, by rw [h2, Nat.eq_of_beq_eq_true h]⟩
  · cases h
theorem bareOp_is {j : Nat} (h : bareOp j = true) : (ropN j).guard = none ∧ (ropN j).dst = none := by
  unfold bareOp at h
  split at h
  · rename_i h1 h2
    exact ⟨h1, h2⟩
  · cases h
theorem rp8 : (List.range' 0 8).all (fun j => plainOp j (45 + j)) = true := by kernel_rfl
theorem ro8 : plainOp 8 10 = true := by kernel_rfl
theorem ro9 : plainOp 9 11 = true := by kernel_rfl
theorem ro10 : bareOp 10 = true := by kernel_rfl
theorem ro11 : bareOp 11 = true := by kernel_rfl
theorem rop8 : (ropN 8).op = .alloc 70 := by kernel_rfl
theorem rop9 : (ropN 9).op = .alloc 70 := by kernel_rfl
theorem re3 : ([0, 1, 2] : List Nat).all (fun d => edgeB ropsA 3 d) = true := by kernel_rfl

noncomputable def rval : Nat → V
  | 0 => rv0
  | 1 => rv1
  | 2 => rv2
  | 3 => rv3
  | 4 => rv4
  | 5 => rv5
  | 6 => rv6
  | _ => rv7
noncomputable def rl : Nat → List (Nat × V)
  | 3 => [(45, rv0), (46, rv1), (47, rv2)]
  | 7 => [(49, rv4), (50, rv5), (51, rv6)]
  | _ => rbase

theorem rl_else {j : Nat} (h3 : j ≠ 3) (h7 : j ≠ 7) : rl j = rbase := by
  unfold rl
  split
  · exact absurd rfl h3
  · exact absurd rfl h7
  · rfl
theorem mem3 {α : Type} {p a b c : α} (h : p ∈ [a, b, c]) : p = a ∨ p = b ∨ p = c := by
  simpa only [List.mem_cons, List.not_mem_nil, or_false] using h

theorem rq (j : Nat) (hj : j < 8) : stepOp (sx Try.prog Mr 1000000) Try.prog Mr (slots (rl j)) rhp rhp.length [] [] (ropN j).op = some (rval j, rhp, false, [], []) := by
  match j, hj with
  | 0, _ => exact q0
  | 1, _ => exact q1
  | 2, _ => exact q2
  | 3, _ => exact q3
  | 4, _ => exact q4
  | 5, _ => exact q5
  | 6, _ => exact q6
  | 7, _ => exact q7

theorem ripReg (chg : Bool) (ob ds : List Bool) : Does Try.prog (nthC ripI 3) ⟨slots rbase, rhp, chg, 110, 0, ob, ds⟩ .normal ⟨slots rlf, rhp11, true, 110, 0, [], []⟩ := by
  rw [rshape]
  refine region_two (zc := rzc) (t := 70) (hp10 := rhp10) (c10 := false) (c11 := false) (x10 := valO (rsto 10 rhp9)) (x11 := valO (rsto 11 rhp10)) (l := rl) (val := rval) fol (sx_sound fol knownr 1000000) knownr rsize ?_ ?_ ?_ ?_ ?_ ?_ ?_ ?_ ?_ rz rzp (by decide) ?_ ?_ ?_
  · intro j hj
    obtain ⟨h1, h2⟩ := plainOp_is (List.all_eq_true.1 rp8 j (by simp; omega))
    exact ⟨_, ropN_at (by omega), h1, h2, rq j hj⟩
  · intro j hj p hp
    have e3 : ∀ d, d < 3 → edgeB ropsA 3 d = true := fun d hd => List.all_eq_true.1 re3 d (by simp; omega)
    have e7 : ∀ d, 4 ≤ d → d < 7 → edgeB ropsA 7 d = true := fun d hd hd' => List.all_eq_true.1 re7 d (by simp; omega)
    by_cases h3 : j = 3
    · subst h3
      have hp' : p ∈ [(45, rv0), (46, rv1), (47, rv2)] := hp
      refine .inr ?_
      rcases mem3 hp' with rfl | rfl | rfl
      · exact ⟨0, by decide, e3 0 (by decide), rfl⟩
      · exact ⟨1, by decide, e3 1 (by decide), rfl⟩
      · exact ⟨2, by decide, e3 2 (by decide), rfl⟩
    · by_cases h7 : j = 7
      · subst h7
        have hp' : p ∈ [(49, rv4), (50, rv5), (51, rv6)] := hp
        refine .inr ?_
        rcases mem3 hp' with rfl | rfl | rfl
        · exact ⟨4, by decide, e7 4 (by decide) (by decide), rfl⟩
        · exact ⟨5, by decide, e7 5 (by decide) (by decide), rfl⟩
        · exact ⟨6, by decide, e7 6 (by decide) (by decide), rfl⟩
      · rw [rl_else h3 h7] at hp
        exact .inl hp
  · exact ⟨_, ropN_at (by decide), (plainOp_is ro8).1, (plainOp_is ro8).2, rop8⟩
  · exact ⟨_, ropN_at (by decide), (plainOp_is ro9).1, (plainOp_is ro9).2, rop9⟩
  · exact ⟨_, ropN_at (by decide), (bareOp_is ro10).1, (bareOp_is ro10).2, q10⟩
  · exact ⟨_, ropN_at (by decide), (bareOp_is ro11).1, (bareOp_is ro11).2, q11⟩
  · intro d hd
    have h10 : ∀ d, d < 4 ∨ 7 ≤ d ∧ d < 10 → edgeB ropsA 10 d = true := fun d hd => List.all_eq_true.1 re10 d (by simp; omega)
    by_cases h : d < 4 ∨ 7 ≤ d ∧ d < 10
    · exact .inl (h10 d h)
    · exact .inr ⟨7, by decide, h10 7 (by decide), List.all_eq_true.1 re7 d (by simp; omega)⟩
  · exact fun d hd => List.all_eq_true.1 re11 d (by simp; omega)
  · exact fun d hd => List.all_eq_true.1 rdown d (by simp; omega)
  · intro p hp
    rw [rbase_eq] at hp
    simp only [List.mem_cons, List.not_mem_nil, or_false] at hp
    rcases hp with rfl | rfl | rfl | rfl | rfl | rfl <;> decide
  · intro p hp
    rw [rbase_eq] at hp ⊢
    simp only [List.mem_cons, List.not_mem_nil, or_false] at hp
    rcases hp with rfl | rfl | rfl | rfl | rfl | rfl <;> kernel_rfl
  · intro p hp
    unfold rlf at hp
    rcases List.mem_cons.1 hp with rfl | hp
    · exact .inr (.inl ⟨3, by decide, rfl⟩)
    rcases List.mem_cons.1 hp with rfl | hp
    · exact .inr (.inl ⟨7, by decide, rfl⟩)
    rcases List.mem_cons.1 hp with rfl | hp
    · exact .inr (.inr (.inl rfl))
    rcases List.mem_cons.1 hp with rfl | hp
    · exact .inr (.inr (.inr rfl))
    exact .inl hp
end Go.Proofs.Sx
