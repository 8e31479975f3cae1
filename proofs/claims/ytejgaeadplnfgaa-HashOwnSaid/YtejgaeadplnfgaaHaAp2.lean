/- The law on two sponges: its function returns true. -/
import Derived.Test.YtejgaeadplnfgaaHaAp1
namespace Go.Proofs.Sx
open Go Go.RowKit
set_option linter.unusedVariables false
theorem DoesW.block {w0 : World} {X : List Ent} {id : Nat} {c : Code} {s s' : St} (h : DoesW w0 X (spine c) s .normal s') : DoesW w0 X [.block id c] s .normal s' := by
  intro wc E a w Q hX hR hQ
  refine wp_block (wp_spine c _ a w (h wc E a w _ hX hR fun E1 a1 w1 hE hR1 => ?_))
  exact hQ E1 a1 w1 hE hR1
theorem DoesW.ofSpine {w0 : World} {X : List Ent} {c : Code} {s s' : St} {e : Ex} (h : DoesW w0 X (spine c) s e s') : DoesW w0 X [c] s e s' := by
  intro wc E a w Q hX hR hQ
  refine Code.wp_mono (fun e a w h => ?_) (wp_spine c Q a w (h wc E a w Q hX hR hQ))
  cases e <;> exact h
/-- what was fed of n rows, so many rounds in -/
def msgN (m : Nat) (F : Nat → By) (n : Nat) : Nat → By
  | 0 => []
  | i + 1 => if i < n then msgN m F n i ++ (F i).take m else msgN m F n i
theorem msgN_len (m : Nat) (F : Nat → By) (n : Nat) : ∀ i, (msgN m F n i).length ≤ m * i
  | 0 => Nat.zero_le _
  | i + 1 => by
    have h1 := msgN_len m F n i
    have h2 : ((F i).take m).length ≤ m := take_le m (F i)
    show (if i < n then msgN m F n i ++ (F i).take m else msgN m F n i).length ≤ _
    rw [Nat.mul_succ]
    split
    · rw [List.length_append]; omega
    · omega
noncomputable def apM (n k i : Nat) (A B : By) : St := apS n k i (sW A) (sW B) (sY A) (sY B) A B 6000 6000 []
theorem fW_is (A p : By) : fW (sW A) (sY A ++ piece 200 p) = sW (A ++ p.take 200) := by
  unfold fW
  rw [piece_is, fedW_cat, ← eq_lst (sW_len _)]
theorem fY_is (A p : By) : fedY (sY A ++ piece 200 p) = sY (A ++ p.take 200) := by rw [piece_is, fedY_cat]
section
variable {F G : Nat → By} {n k : Nat} {x0 x1 : Ent} {w0 : World} (hT : TabAt w0 x0 F n) (hU : TabAt w0 x1 G k)
theorem roundO_is {w0 : World} {x : Ent} {F : Nat → By} {n i : Nat} (hT : TabAt w0 x F n) (A : By) (hi : i < n) : AllT (roundO (sY A) (F i) n i) := by
  have hy := sY_len A
  unfold roundO
  refine AllT.cons (fedOk_is (by omega) (by rw [piece_is]; have := take_le 200 (F i); omega)) (AllT.cons (twinOk_is (by have := take_le 200 (F i); omega)) (AllT.cons ?_ (AllT.cons ?_ (AllT.cons (bleT hi) (AllT.cons (bleT hi) AllT.nil)))))
  · rw [twinOk_is (row_le hT hi), Nat.beq_refl]; rfl
  · rw [Nat.zero_add]; exact Nat.beq_refl i
theorem own8 {wS wT : List W} {yS yT x y : By} {bx b2 : Nat} : ∀ (q : Nat) (R : Reg), (apH .dead .dead wS wT yS yT x y bx b2)[q]? = some R → R.isOwn = true ∨ R.live = false := by
  intro q R hq
  match q, hq with
  | 0, hq => cases hq; exact .inr rfl
  | 1, hq => cases hq; exact .inr rfl
  | 2, hq => cases hq; exact .inl rfl
  | 3, hq => cases hq; exact .inl rfl
  | 4, hq => cases hq; exact .inl rfl
  | 5, hq => cases hq; exact .inl rfl
  | 6, hq => cases hq; exact .inl rfl
  | 7, hq => cases hq; exact .inl rfl
  | q + 8, hq => simp [apH] at hq
include hT in
theorem ap_a (i : Nat) (A B : By) (hA : A.length + 200 ≤ 6000) : DoesW w0 [x0, x1] (takeC 2 s9i) (apM n k i A B) .normal (apM n k i (if i < n then A ++ (F i).take 200 else A) B) := by
  have eA := eq_lst (sW_len A)
  have eB := eq_lst (sW_len B)
  by_cases hi : i < n
  · rw [if_pos hi]
    refine DoesW.ghost (s2 := apA n k i (F i) (sW A) (sW B) (sY A) (sY B) A B 6000 6000 []) (fun wc E a w hX hR => tab_look (r := 0) hT hi rfl hX rfl rfl own8 hR) ?_
    have f := a9a (nthW (sW A)) (nthW (sW B)) (sY A) (sY B) A B (F i) n k i
    rw [← eA, ← eB, fW_is, fY_is, tail_is] at f
    have D := sxp_is knowna f (roundO_is hT A hi)
    have K := DoesK.kill D 0
    have hk := a9k (nthW (sW (A ++ (F i).take 200))) (nthW (sW B)) (sY (A ++ (F i).take 200)) (sY B) (A ++ (F i).take 200) B (F i) n k i 6200 6000
    rw [← eq_lst (sW_len (A ++ (F i).take 200)), ← eB] at hk
    have K2 : DoesK Try.prog 2 (takeC 2 s9i) (apA n k i (F i) (sW A) (sW B) (sY A) (sY B) A B 6000 6000 []) .normal _ := DoesK.pack K hk
    have K3 := DoesK.rebd (r := 6) (bd' := 6000) K2 rfl (by rw [List.length_append]; have := take_le 200 (F i); omega)
    exact DoesK.toW K3 (Nat.le_refl _)
  · rw [if_neg hi]
    have f := a9n (nthW (sW A)) (nthW (sW B)) (sY A) (sY B) A B n k i
    rw [← eA, ← eB] at f
    exact DoesK.toW (sxp_is knowna f (AllT.cons (notF (by omega)) AllT.nil)) (Nat.le_refl _)
include hU in
theorem ap_b (i : Nat) (A B : By) (hB : B.length + 200 ≤ 6000) : DoesW w0 [x0, x1] (dropC 2 s9i) (apM n k i A B) .normal (apM n k i A (if i < k then B ++ (G i).take 200 else B)) := by
  have eA := eq_lst (sW_len A)
  have eB := eq_lst (sW_len B)
  by_cases hi : i < k
  · rw [if_pos hi]
    refine DoesW.ghost (s2 := apB n k i (G i) (sW A) (sW B) (sY A) (sY B) A B 6000 6000 []) (fun wc E a w hX hR => tab_look (r := 1) hU hi rfl hX rfl rfl own8 hR) ?_
    have f := a9b (nthW (sW A)) (nthW (sW B)) (sY A) (sY B) A B (G i) n k i
    rw [← eA, ← eB, fW_is, fY_is, tail_is] at f
    have D := sxp_is knowna f (roundO_is hU B hi)
    have K := DoesK.kill D 1
    have hk := a9k (nthW (sW A)) (nthW (sW (B ++ (G i).take 200))) (sY A) (sY (B ++ (G i).take 200)) A (B ++ (G i).take 200) (G i) n k i 6000 6200
    rw [← eq_lst (sW_len (B ++ (G i).take 200)), ← eA] at hk
    have K2 : DoesK Try.prog 2 (dropC 2 s9i) (apB n k i (G i) (sW A) (sW B) (sY A) (sY B) A B 6000 6000 []) .normal _ := DoesK.pack K hk
    have K3 := DoesK.rebd (r := 7) (bd' := 6000) K2 rfl (by rw [List.length_append]; have := take_le 200 (G i); omega)
    exact DoesK.toW K3 (Nat.le_refl _)
  · rw [if_neg hi]
    have f := a9m (nthW (sW A)) (nthW (sW B)) (sY A) (sY B) A B n k i
    rw [← eA, ← eB] at f
    exact DoesK.toW (sxp_is knowna f (AllT.cons (notF (by omega)) AllT.nil)) (Nat.le_refl _)
include hT hU in
theorem ap_round {i : Nat} (h30 : i < 30) (hi : i < n ∨ i < k) : DoesW w0 [x0, x1] [inLoop (nthC (rowOf Try.prog 9) 7)] (apM n k i (msgN 200 F n i) (msgN 200 G k i)) .normal (apM n k (i + 1) (msgN 200 F n (i + 1)) (msgN 200 G k (i + 1))) := by
  have hA := msgN_len 200 F n i
  have hB := msgN_len 200 G k i
  generalize e1 : msgN 200 F n i = A at hA
  generalize e2 : msgN 200 G k i = B at hB
  have e1' : msgN 200 F n (i + 1) = if i < n then A ++ (F i).take 200 else A := by rw [← e1]; rfl
  have e2' : msgN 200 G k (i + 1) = if i < k then B ++ (G i).take 200 else B := by rw [← e2]; rfl
  rw [e1', e2']
  have eA := eq_lst (sW_len A)
  have eB := eq_lst (sW_len B)
  have C1 : DoesK Try.prog 2 (takeC 2 s9) (apM n k i A B) .normal (apM n k i A B) := by
    by_cases hn : i < n
    · have f := a9t (nthW (sW A)) (nthW (sW B)) (sY A) (sY B) A B n k i
      rw [← eA, ← eB] at f
      exact sxp_is knowna f (AllT.cons (bleT hn) (AllT.cons (bleT h30) AllT.nil))
    · have f := a9u (nthW (sW A)) (nthW (sW B)) (sY A) (sY B) A B n k i
      rw [← eA, ← eB] at f
      exact sxp_is knowna f (AllT.cons (bleT (by omega : i + 1 ≤ k)) (AllT.cons (notF (by omega)) (AllT.cons (bleT h30) AllT.nil)))
  have C2 := (ap_a (k := k) (x1 := x1) hT i A B (by omega)).append (ap_b (x0 := x0) (n := n) hU i (if i < n then A ++ (F i).take 200 else A) B (by omega))
  rw [d9i] at C2
  generalize hA' : (if i < n then A ++ (F i).take 200 else A) = A' at C2
  generalize hB' : (if i < k then B ++ (G i).take 200 else B) = B' at C2
  have C2' : DoesW w0 [x0, x1] [nthC s9 2] (apM n k i A B) .normal (apM n k i A' B') := by
    rw [at9s]
    exact DoesW.block C2
  have C3 : DoesK Try.prog 2 (dropC 3 s9) (apM n k i A' B') .normal (apM n k (i + 1) A' B') := by
    have f := a9r (nthW (sW A')) (nthW (sW B')) (sY A') (sY B') A' B' n k i
    rw [← eq_lst (sW_len A'), ← eq_lst (sW_len B')] at f
    exact sxp_is knowna f (AllT.cons (bleT (by omega)) AllT.nil)
  refine DoesW.ofSpine ?_
  show DoesW w0 [x0, x1] s9 _ _ _
  have hpp := parts3 2 s9 (Nat.le_of_ble_eq_true len9s)
  rw [← hpp]
  exact (DoesK.toW C1 (Nat.le_refl _)).append (DoesW.append (l := [nthC s9 2]) C2' (DoesK.toW C3 (Nat.le_refl _)))
include hT hU in
theorem ap_law {v u : Value} (hv : (C.vw 0 0 n).is ⟨[x0]⟩ v) (hu : (C.vw 0 0 k).is ⟨[x1]⟩ u) (hlt : ∀ g, x0.blk = some g → g < w0.heap.size) (hlt' : ∀ g, x1.blk = some g → g < w0.heap.size) (hok : ∀ v, x0 = .sv v → ∃ A L K, v = .slice A L K)
    (hok' : ∀ v, x1 = .sv v → ∃ A L K, v = .slice A L K) : Calls Try.prog 9 #[v, u] w0 fun e w' => e = .returned (.bool true) ∧ Below w0.heap.size w0 w' := by
  let M := if n < k then k else n
  let N := if M < 30 then M else 30
  have hM : n ≤ M ∧ k ≤ M ∧ (M = n ∨ M = k) := by show n ≤ (if n < k then k else n) ∧ k ≤ (if n < k then k else n) ∧ ((if n < k then k else n) = n ∨ (if n < k then k else n) = k); split <;> omega
  have hN : N ≤ M ∧ N ≤ 30 := by show (if M < 30 then M else 30) ≤ M ∧ (if M < 30 then M else 30) ≤ 30; split <;> omega
  have hA := msgN_len 200 F n N
  have hB := msgN_len 200 G k N
  have A : DoesK Try.prog 2 (takeC 7 (rowOf Try.prog 9)) (apIn n k) .normal (apM n k 0 (msgN 200 F n 0) (msgN 200 G k 0)) := by
    have h := sxp_is knowna (a9s n k) (AllT.cons rfl (AllT.cons rfl AllT.nil))
    have h2 := DoesK.nilOwn (tm' := slots [(0, .one (.vw 0 0 n)), (1, .one (.vw 1 0 k)), (5, .one (.pt 2 0)), (6, .one (.pt 4 0)), (7, .one (.dy 6)), (8, .one .nl), (9, .one (.sy 0))]) (bd := 6000) (t := 5) h ⟨by show 2 ≤ 6; omega, by show 2 ≤ 6; omega⟩ fun i v hv => by
      have hv := slots_get _ _ _ hv
      simp only [List.mem_cons, List.not_mem_nil, or_false, Prod.mk.injEq] at hv
      rcases hv with ⟨rfl, rfl⟩ | ⟨rfl, rfl⟩ | ⟨rfl, rfl⟩ | ⟨rfl, rfl⟩ | ⟨rfl, rfl⟩ | ⟨rfl, rfl⟩ | ⟨rfl, rfl⟩
      · exact .inl (by kernel_rfl)
      · exact .inl (by kernel_rfl)
      · exact .inl (by kernel_rfl)
      · exact .inl (by kernel_rfl)
      · exact .inr ⟨by kernel_rfl, rfl⟩
      · exact .inl (by kernel_rfl)
      · exact .inl (by kernel_rfl)
    have h2' := DoesK.nilOwn (tm' := apT n k 0) (bd := 6000) (t := 5) h2 ⟨by show 2 ≤ 7; omega, by show 2 ≤ 7; omega⟩ fun i v hv => by
      have hv := slots_get _ _ _ hv
      simp only [List.mem_cons, List.not_mem_nil, or_false, Prod.mk.injEq] at hv
      rcases hv with ⟨rfl, rfl⟩ | ⟨rfl, rfl⟩ | ⟨rfl, rfl⟩ | ⟨rfl, rfl⟩ | ⟨rfl, rfl⟩ | ⟨rfl, rfl⟩ | ⟨rfl, rfl⟩
      · exact .inl (by kernel_rfl)
      · exact .inl (by kernel_rfl)
      · exact .inl (by kernel_rfl)
      · exact .inl (by kernel_rfl)
      · exact .inl (by kernel_rfl)
      · exact .inr ⟨by kernel_rfl, rfl⟩
      · exact .inl (by kernel_rfl)
    have h3 := DoesK.rebd (r := 3) (bd' := 135) h2' rfl (Nat.zero_le _)
    have e3 : apM n k 0 (msgN 200 F n 0) (msgN 200 G k 0) = apS n k 0 zer25 zer25 [] [] [] [] 6000 6000 [] := by
      show apS n k 0 (sW []) (sW []) (sY []) (sY []) [] [] 6000 6000 [] = _
      rw [sW_nil, sY_nil]
    rw [e3]
    exact DoesK.rebd (r := 5) (bd' := 135) h3 rfl (Nat.zero_le _)
  have R : ∀ i, i < N → DoesW w0 [x0, x1] [inLoop (nthC (rowOf Try.prog 9) 7)] (apM n k i (msgN 200 F n i) (msgN 200 G k i)) .normal (apM n k (i + 1) (msgN 200 F n (i + 1)) (msgN 200 G k (i + 1))) :=
    fun i hi => ap_round hT hU (by omega) (by omega)
  generalize hPA : msgN 200 F n N = PA at hA
  generalize hPB : msgN 200 G k N = PB at hB
  have eA := eq_lst (sW_len PA)
  have eB := eq_lst (sW_len PB)
  have Xx : DoesK Try.prog 2 [inLoop (nthC (rowOf Try.prog 9) 7)] (apM n k N PA PB) (.exit (blkN (nthC (rowOf Try.prog 9) 7))) (apM n k N PA PB) := by
    refine DoesK.ofSpine ?_
    show DoesK Try.prog 2 s9 _ _ _
    have hpp := parts3 2 s9 (Nat.le_of_ble_eq_true len9s)
    rw [← hpp]
    refine DoesK.early _ ?_
    by_cases hn : M < 30
    · have e : N = M := if_pos hn
      have f := a9x (nthW (sW PA)) (nthW (sW PB)) (sY PA) (sY PB) PA PB n k N
      rw [← eA, ← eB] at f
      exact sxp_is knowna f (AllT.cons (notF (by omega)) (AllT.cons (notF (by omega)) (AllT.cons (bleT (by omega)) AllT.nil)))
    · have e : N = 30 := if_neg hn
      have f := a9y (nthW (sW PA)) (nthW (sW PB)) (sY PA) (sY PB) PA PB n k N
      rw [← eA, ← eB] at f
      exact sxp_is knowna f (AllT.cons (notF (by omega)) AllT.nil)
  have Z : DoesK Try.prog 2 (dropC 8 (rowOf Try.prog 9)) (apM n k N PA PB) .ret (apZ (eqB8 (s32 (sW PB) (sY PB)) (k32 PB))) := by
    have f := a9z (nthW (sW PA)) (nthW (sW PB)) (sY PA) (sY PB) PA PB n k N
    rw [← eA, ← eB] at f
    refine sxp_is knowna f (AllT.cons ?_ (AllT.cons (bleT (sY_len _)) (AllT.cons ?_ (AllT.cons ?_ (AllT.cons (bleT (sY_len _)) AllT.nil)))))
    · rw [bleT (show PB.length ≤ 16384 by omega)]; rfl
    · rw [s32_is]; exact eqB8_self _
    · rw [bleT (show PA.length ≤ 16384 by omega)]; rfl
  have all : DoesW w0 [x0, x1] (rowOf Try.prog 9) (apIn n k) .ret (apZ (eqB8 (s32 (sW PB) (sY PB)) (k32 PB))) :=
    DoesW.three (N := N) (s := fun i => apM n k i (msgN 200 F n i) (msgN 200 G k i)) (Nat.le_of_ble_eq_true len9') at9' (A.toW (Nat.le_refl _)) R (by rw [hPA, hPB]; exact Xx.toW (Nat.le_refl _)) (Z.toW (Nat.le_refl _))
  have two : ∀ {r : Nat} {y : Ent}, ([x0, x1] : List Ent)[r]? = some y → y = x0 ∨ y = x1 := by
    intro r y h
    match r, h with
    | 0, h => simp at h; exact .inl h.symm
    | 1, h => simp at h; exact .inr h.symm
    | r + 2, h => simp at h
  have dd : ∀ {r : Nat} {R : Reg}, ([.dead, .dead] : List Reg)[r]? = some R → R = .dead := by
    intro r R h
    match r, h with
    | 0, h => simp at h; exact h.symm
    | 1, h => simp at h; exact h.symm
    | r + 2, h => simp at h
  have hh : HR (fun _ => False) w0 ⟨[x0, x1]⟩ [.dead, .dead] w0 := by
    refine ⟨rfl, fun r R hR => ?_, fun r r' R R' y y' g hR ho => ?_, fun r R y g hR ho => ?_, fun r y g hy hg => ?_, fun r v hv => ?_, rfl, rfl, rfl, Nat.le_refl _, fun _ _ _ => rfl⟩
    · rw [dd hR]; trivial
    · rw [dd hR] at ho; cases ho
    · rw [dd hR] at ho; cases ho
    · rcases two hy with rfl | rfl
      · exact hlt g hg
      · exact hlt' g hg
    · rcases two hv with h | h
      · exact hok v h.symm
      · exact hok' v h.symm
  have hv2 : (C.vw 0 0 n).is ⟨[x0, x1]⟩ v := by
    obtain ⟨A, L, K, A', c, e1, e2⟩ := hv
    exact ⟨A, L, K, A', c, e1, e2⟩
  have hu2 : (C.vw 1 0 k).is ⟨[x0, x1]⟩ u := by
    obtain ⟨A, L, K, A', c, e1, e2⟩ := hu
    exact ⟨A, L, K, A', c, e1, e2⟩
  exact calls_W (vs := [.one (.vw 0 0 n), .one (.vw 1 0 k)]) (us := [v, u]) (hp := [.dead, .dead]) code9' (n := 84) (by rw [Nat.eq_of_beq_eq_true tmps9']; rfl) all (a9v _) (fun E y hy => by
    have h1 : y = .bool (eqB8 _ _) := hy
    rw [h1, s32_is, eqB8_self]) (fun r y hy => hy) hh ⟨hv2, hu2, trivial⟩
end
end Go.Proofs.Sx
