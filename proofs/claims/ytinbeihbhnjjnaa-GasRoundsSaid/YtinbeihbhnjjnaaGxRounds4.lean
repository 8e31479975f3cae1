/- The law on rounds of writes: its function returns true. -/
import Derived.Test.YtinbeihbhnjjnaaGxRounds3
namespace Go.Proofs.Sx
open Go
/-- the fork's number that the law takes -/
def z9 (f : Int) : Int := ((7 : Nat) : Int) + (f.tmod ((9 : Nat) : Int) + ((9 : Nat) : Int)).tmod ((9 : Nat) : Int)
theorem z9_rng (f : Int) : 7 ≤ z9 f ∧ z9 f < 16 := by
  have h1 := Int.tmod_lt_of_pos f (b := 9) (by omega)
  have h2 := Int.lt_tmod_of_pos f (b := 9) (by omega)
  have h3 : 0 ≤ (f.tmod 9 + 9).tmod 9 := Int.tmod_nonneg _ (by omega)
  have h4 := Int.tmod_lt_of_pos (f.tmod 9 + 9) (b := 9) (by omega)
  unfold z9
  show 7 ≤ (7 : Int) + (f.tmod 9 + 9).tmod 9 ∧ (7 : Int) + (f.tmod 9 + 9).tmod 9 < 16
  omega
theorem kz_id {z : Int} (h0 : 0 ≤ z) (h1 : z < 16) : kz z = z := by
  have e1 : z.tmod 16 = z := Int.tmod_eq_of_lt h0 h1
  unfold kz
  show (z.tmod 16 + 16).tmod 16 = z
  rw [e1, Int.tmod_eq_emod_of_nonneg (by omega)]
  omega
section
variable (F : Nat → Q) (n : Nat) (o : Q) (f : Int)
def r9 : Ru := R (kz (z9 f)).toNat
noncomputable def rStart : St := ⟨tmOf [.one (.zi f), .ag (w4 o), .one (.qv 0 n)] 0 (T.full 8), [.qs F n], false, 103, 1, [], []⟩
def rkeep0 : List (Nat × Bool) := [(2, false), (4, false), (7, false), (8, false), (9, false), (10, false), (11, false), (12, true)]
theorem rIn : bareS (sxc Try.prog Mst 1000000 (takeC 6 (rowOf Try.prog 9)) rkeep0 4 (rStart F n o f)) =
    some (.normal, rS F n (r9 f) o o 0#64 0#64 0#64 0 [], [inI64 (z9 f), !(decide (((9 : Nat) : Int) = 0)), inI64 (f.tmod ((9 : Nat) : Int) + ((9 : Nat) : Int)), !(decide (((9 : Nat) : Int) = 0))]) := by kernel_rfl
theorem at9 : nthC (rowOf Try.prog 9) 6 = .block (rX9 (nthC (rowOf Try.prog 9) 6)) (.loop rBody) := by kernel_rfl
theorem len9 : Nat.blt 6 (lenL (rowOf Try.prog 9)) = true := by kernel_rfl
theorem code9 : hasCode Try.prog 9 = true := by kernel_rfl
theorem tmps9 : Nat.beq (fnOf Try.prog 9).ntmps 103 = true := by kernel_rfl
section
variable (r : Ru) (cur : Q) (cost back cnt : W) (i : Nat)
theorem rOutA : outR 9 (sxs Try.prog Mst 1000000 (dropC 7 (rowOf Try.prog 9)) (rS F n r o cur cost back cnt i [true, true, true, true])) =
    some (.one (.bl true), [Nat.beq (cost - back).toNat (cnt * 100#64).toNat, Nat.ble back.toNat cost.toNat, eqQ cur o, b9B r]) := by kernel_rfl
theorem rOutB : outR 9 (sxs Try.prog Mst 1000000 (dropC 7 (rowOf Try.prog 9)) (rS F n r o cur cost back cnt i [false, true, true, true])) =
    some (.one (.bl true), [Nat.beq (cost - back).toNat (cnt * 800#64).toNat, Nat.ble back.toNat cost.toNat, eqQ cur o, !(b9B r)]) := by kernel_rfl
end
end
theorem ble_t {p q : Nat} (h : p ≤ q) : Nat.ble p q = true := Nat.ble_eq_true_of_le h
theorem ble_f {p q : Nat} (h : q < p) : Nat.ble p q = false := by
  rw [Bool.eq_false_iff]
  intro h'
  have := Nat.le_of_ble_eq_true h'
  omega
section
variable (F : Nat → Q) (n : Nat) (o : Q) (r : Ru)
def mS (n : Nat) : Nat := if n < 30 then n else 30
noncomputable def stS9 (i : Nat) : St := rS F n r o (curS F (mS n) o i) (costS F (mS n) r o i) (backS F (mS n) r o i) (cntS i) i []
theorem round_does (hf : 7 ≤ r.f) (hsb : (r.w 22).toNat ≤ 15000) (hc : cold16 r = true) {i : Nat} (hi : i < mS n + 1) : DoesL Try.prog [rBody] (stS9 F n o r i) .normal (stS9 F n o r (i + 1)) := by
  have hm : mS n ≤ 30 := by unfold mS; split <;> omega
  have hmn : mS n ≤ n := by unfold mS; split <;> omega
  obtain ⟨_, hless⟩ := inv_step F (mS n) r o hf hsb (by omega) (inv_all F (mS n) r o hf hsb i (by omega))
  have tail : ∀ {nx : Q}, nx = nxS F (mS n) o i → ∀ {l : List Bool}, AllT l → AllT (Nat.ble (i + 1) 9223372036854775807 :: (rTail r o (curS F (mS n) o i) (backS F (mS n) r o i) nx ++ l)) := by
    intro nx e l hl
    subst e
    exact AllT.cons (ble_t (by omega)) (AllT.cons (no_f hless) (AllT.cons (nn_t (stK_t hf _ _ _)) (AllT.cons hc hl)))
  by_cases him : i < mS n
  · have e : nxS F (mS n) o i = F i := if_pos him
    have h := bareS_is knownst (rA1 F n r o (curS F (mS n) o i) (costS F (mS n) r o i) (backS F (mS n) r o i) (cntS i) i) (tail e.symm (AllT.cons (blt_t.2 (by omega)) (AllT.cons (blt_t.2 (by omega)) (AllT.cons (blt_t.2 (by omega)) (AllT.cons (blt_t.2 (by omega)) (AllT.cons (ble_t (by omega)) (AllT.cons (ble_t (by omega)) AllT.nil)))))))
    have h2 : DoesL Try.prog [rBody] (stS9 F n o r i) .normal (rNext F n r o (curS F (mS n) o i) (costS F (mS n) r o i) (backS F (mS n) r o i) (cntS i) i (F i)) := h.bare
    rw [← e] at h2
    exact h2
  · have e : nxS F (mS n) o i = o := if_neg him
    have him' : i = mS n := by omega
    have fin : ∀ {ds ob : List Bool}, rRound F n r o (curS F (mS n) o i) (costS F (mS n) r o i) (backS F (mS n) r o i) (cntS i) i ds = some (.normal, rNext F n r o (curS F (mS n) o i) (costS F (mS n) r o i) (backS F (mS n) r o i) (cntS i) i o, ob) → AllT ob → DoesL Try.prog [rBody] (stS9 F n o r i) .normal (stS9 F n o r (i + 1)) := by
      intro ds ob h hob
      have h2 : DoesL Try.prog [rBody] (stS9 F n o r i) .normal (rNext F n r o (curS F (mS n) o i) (costS F (mS n) r o i) (backS F (mS n) r o i) (cntS i) i o) := (bareS_is knownst h hob).bare
      have e2 : stS9 F n o r (i + 1) = rNext F n r o (curS F (mS n) o i) (costS F (mS n) r o i) (backS F (mS n) r o i) (cntS i) i o := by
        show rS F n r o (nxS F (mS n) o i) (costS F (mS n) r o i + rX r o (curS F (mS n) o i) (nxS F (mS n) o i)) (backS F (mS n) r o i + rA r o (curS F (mS n) o i) (nxS F (mS n) o i) - rD r o (curS F (mS n) o i) (nxS F (mS n) o i)) (cntS i + 1#64) (i + 1) [] = _
        rw [e]
        rfl
      rw [e2]
      exact h2
    by_cases hn : n < 30
    · have hin : i = n := by rw [him']; unfold mS; rw [if_pos hn]
      exact fin (rB2 F n r o _ _ _ _ i) (tail e.symm (AllT.cons (no_f (blt_f.2 (by omega))) (AllT.cons (ble_t (by omega)) (AllT.cons (ble_t (by omega)) AllT.nil))))
    · have hin : i = 30 := by rw [him']; unfold mS; rw [if_neg hn]
      by_cases hn2 : i < n
      · exact fin (rB1 F n r o _ _ _ _ i) (tail e.symm (AllT.cons (no_f (blt_f.2 (by omega))) (AllT.cons (blt_t.2 hn2) (AllT.cons (ble_t (by omega)) (AllT.cons (ble_t (by omega)) AllT.nil)))))
      · exact fin (rB2 F n r o _ _ _ _ i) (tail e.symm (AllT.cons (no_f (blt_f.2 (by omega))) (AllT.cons (ble_t (by omega)) (AllT.cons (ble_t (by omega)) AllT.nil))))
theorem exit_does : DoesL Try.prog [rBody] (stS9 F n o r (mS n + 1)) (.exit (rX9 (nthC (rowOf Try.prog 9) 6))) (stS9 F n o r (mS n + 1)) := by
  have hmn : mS n ≤ n := by unfold mS; split <;> omega
  by_cases hn : n < mS n + 1
  · exact (bareS_is knownst (rE1 F n r o (curS F (mS n) o (mS n + 1)) (costS F (mS n) r o (mS n + 1)) (backS F (mS n) r o (mS n + 1)) (cntS (mS n + 1)) (mS n + 1)) (AllT.cons (no_f (ble_f (by omega))) AllT.nil)).bare
  · have hm : mS n = 30 := by unfold mS at hn ⊢; split at hn <;> split <;> omega
    exact (bareS_is knownst (rE2 F n r o (curS F (mS n) o (mS n + 1)) (costS F (mS n) r o (mS n + 1)) (backS F (mS n) r o (mS n + 1)) (cntS (mS n + 1)) (mS n + 1)) (AllT.cons (no_f (ble_f (by omega))) (AllT.cons (ble_t (by omega)) AllT.nil))).bare
end
theorem sb_le : ∀ k : Fin 16, ((R k.1).w 22).toNat ≤ 15000 := by decide
theorem law9 (F : Nat → Q) (n : Nat) (o : Q) (f : Int) : ∃ hp1 chg, Runs Try.prog 9 [.one (.zi f), .ag (w4 o), .one (.qv 0 n)] [.qs F n] (.one (.bl true)) hp1 chg := by
  have hz := z9_rng f
  have hk : kz (z9 f) = z9 f := kz_id (by omega) (by omega)
  have hkn : (kz (z9 f)).toNat < 16 := by omega
  have hrf : (r9 f).f = (kz (z9 f)).toNat := fork_is _ hkn
  have hf : 7 ≤ (r9 f).f := by rw [hrf]; omega
  have hsb : ((r9 f).w 22).toNat ≤ 15000 := sb_le ⟨_, hkn⟩
  have hc : cold16 (r9 f) = true := cold_t _ hkn
  have h1t := Int.tmod_lt_of_pos f (b := 9) (by omega)
  have h2t := Int.lt_tmod_of_pos f (b := 9) (by omega)
  have hin : DoesL Try.prog (takeC 6 (rowOf Try.prog 9)) (rStart F n o f) .normal (stS9 F n o (r9 f) 0) := by
    refine bareS_is knownst (rIn F n o f) (AllT.cons ?_ (AllT.cons rfl (AllT.cons ?_ (AllT.cons rfl AllT.nil))))
    · unfold inI64
      simp only [Bool.and_eq_true, decide_eq_true_eq]
      omega
    · unfold inI64
      simp only [Bool.and_eq_true, decide_eq_true_eq]
      show _ ≤ f.tmod 9 + 9 ∧ f.tmod 9 + 9 ≤ _
      omega
  have hm : mS n ≤ 30 := by unfold mS; split <;> omega
  have I := inv_all F (mS n) (r9 f) o hf hsb (mS n + 1) (by omega)
  have hcur : curS F (mS n) o (mS n + 1) = o := if_neg (Nat.lt_irrefl _)
  have hd := I.hd
  rw [hcur, eqQ_refl] at hd
  have hd' : ((costS F (mS n) (r9 f) o (mS n + 1)).toNat : Int) - (backS F (mS n) (r9 f) o (mS n + 1)).toNat = ((mS n + 1 : Nat) : Int) * (rdN (r9 f) : Nat) := by
    rw [hd]
    simp [dueI]
  have hcl := I.cl
  have hbl := I.bl
  have hrd : rdN (r9 f) = 100 ∨ rdN (r9 f) = 800 := by unfold rdN; cases b9B (r9 f) <;> simp
  have hprod : ((mS n + 1 : Nat) : Int) * (rdN (r9 f) : Nat) = (((mS n + 1) * rdN (r9 f) : Nat) : Int) := by simp
  rw [hprod] at hd'
  have hge : (backS F (mS n) (r9 f) o (mS n + 1)).toNat ≤ (costS F (mS n) (r9 f) o (mS n + 1)).toNat := by omega
  have hsub : (costS F (mS n) (r9 f) o (mS n + 1) - backS F (mS n) (r9 f) o (mS n + 1)).toNat = (mS n + 1) * rdN (r9 f) := by
    rw [BitVec.toNat_sub_of_le (by rw [BitVec.le_def]; exact hge)]
    omega
  have hcnt : (cntS (mS n + 1)).toNat = mS n + 1 := cntS_nat _ (by omega)
  have hmul : ∀ c : Nat, c ≤ 800 → (cntS (mS n + 1) * BitVec.ofNat 64 c).toNat = (mS n + 1) * c := by
    intro c hcc
    have h9 : (mS n + 1) * c ≤ 31 * 800 := Nat.mul_le_mul (by omega) hcc
    rw [BitVec.toNat_mul, hcnt, BitVec.toNat_ofNat, Nat.mod_eq_of_lt (by omega : c < 2 ^ 64)]
    exact Nat.mod_eq_of_lt (by omega)
  have last : ∃ s3, DoesL Try.prog (dropC 7 (rowOf Try.prog 9)) (stS9 F n o (r9 f) (mS n + 1)) .ret s3 ∧ s3.base = 1 ∧ resV Try.prog (fnOf Try.prog 9).results.toList s3.tm s3.hp = some (.one (.bl true)) := by
    have go : ∀ {ds ob : List Bool}, outR 9 (sxs Try.prog Mst 1000000 (dropC 7 (rowOf Try.prog 9)) (rS F n (r9 f) o (curS F (mS n) o (mS n + 1)) (costS F (mS n) (r9 f) o (mS n + 1)) (backS F (mS n) (r9 f) o (mS n + 1)) (cntS (mS n + 1)) (mS n + 1) ds)) = some (.one (.bl true), ob) → AllT ob →
        ∃ s3, DoesL Try.prog (dropC 7 (rowOf Try.prog 9)) (stS9 F n o (r9 f) (mS n + 1)) .ret s3 ∧ s3.base = 1 ∧ resV Try.prog (fnOf Try.prog 9).results.toList s3.tm s3.hp = some (.one (.bl true)) := by
      intro ds ob h hob
      obtain ⟨s3, h1, h2, h3⟩ := outR_is knownst h hob
      exact ⟨s3.bare, h1.bare, h2, h3⟩
    cases hb9 : b9B (r9 f) with
    | true =>
      have e : rdN (r9 f) = 100 := by unfold rdN; rw [hb9]; rfl
      refine go (rOutA F n o (r9 f) _ _ _ _ _) (AllT.cons ?_ (AllT.cons (ble_t hge) (AllT.cons (by rw [hcur]; exact eqQ_refl _) (AllT.cons hb9 AllT.nil))))
      rw [hsub, hmul 100 (by omega), e]
      exact Nat.beq_refl _
    | false =>
      have e : rdN (r9 f) = 800 := by unfold rdN; rw [hb9]; rfl
      refine go (rOutB F n o (r9 f) _ _ _ _ _) (AllT.cons ?_ (AllT.cons (ble_t hge) (AllT.cons (by rw [hcur]; exact eqQ_refl _) (AllT.cons (no_f hb9) AllT.nil))))
      rw [hsub, hmul 800 (by omega), e]
      exact Nat.beq_refl _
  obtain ⟨s3, h3, hb3, hv3⟩ := last
  have hd9 := DoesL.three (N := mS n + 1) (s := stS9 F n o (r9 f)) (Nat.le_of_ble_eq_true len9) at9 hin (fun i hi => round_does F n o (r9 f) hf hsb hc hi) (exit_does F n o (r9 f)) h3
  exact ⟨_, _, runs_of code9 (.inr rfl) (n := 103) (by rw [Nat.eq_of_beq_eq_true tmps9]; rfl) hd9 hv3 hb3⟩
end Go.Proofs.Sx
