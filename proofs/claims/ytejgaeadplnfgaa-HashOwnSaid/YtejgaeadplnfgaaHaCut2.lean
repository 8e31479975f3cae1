/- The law on pieces: its function returns true. -/
import Derived.Test.YtejgaeadplnfgaaHaCut1
namespace Go.Proofs.Sx
open Go Go.RowKit
set_option linter.unusedVariables false
/-! what a sponge holds -/
def sW (M : By) : List W := kF M 0 (M.length / 136)
def sY (M : By) : By := M.drop (136 * (M.length / 136))
theorem sW_len (M : By) : (sW M).length = 25 := kF_len M 0 _
theorem sW_nil : sW [] = zer25 := by kernel_rfl
theorem sY_nil : sY [] = [] := by kernel_rfl
theorem sY_len (M : By) : (sY M).length < 136 := by unfold sY; rw [List.length_drop]; omega
theorem sum_kec (M : By) : sumK (sW M) (sY M) = kecG M := rfl
theorem cat_drop (M x : By) : sY M ++ x = (M ++ x).drop (136 * (M.length / 136)) := by
  unfold sY
  rw [List.drop_append_of_le_length (by omega)]
theorem kW_cat (M x : By) : ∀ k, kW (sW M) (sY M ++ x) k = kF (M ++ x) 0 (M.length / 136 + k)
  | 0 => kF_ext fun q hq => by
    have h1 : 0 + q < M.length := by omega
    rw [List.getD_eq_getElem?_getD, List.getD_eq_getElem?_getD, List.getElem?_append_left h1]
  | k + 1 => by
    show absK (kW _ _ k) _ = absK (kF (M ++ x) 0 (M.length / 136 + k)) (byteP (M ++ x) (0 + 136 * (M.length / 136 + k)))
    rw [kW_cat M x k]
    refine absK_ext _ fun j _ => ?_
    show BitVec.setWidth 64 _ = BitVec.setWidth 64 _
    rw [cat_drop, List.getD_eq_getElem?_getD, List.getD_eq_getElem?_getD, List.getElem?_drop]
    rw [show 136 * (M.length / 136) + (0 + 136 * k + j) = 0 + 136 * (M.length / 136 + k) + j by omega]
theorem cat_len (M x : By) : (sY M ++ x).length / 136 + M.length / 136 = (M ++ x).length / 136 ∧ 136 * (M.length / 136) + 136 * ((sY M ++ x).length / 136) = 136 * ((M ++ x).length / 136) := by
  unfold sY
  rw [List.length_append, List.length_append, List.length_drop]
  omega
theorem fedW_cat (M x : By) : fedW (sW M) (sY M ++ x) = sW (M ++ x) := by
  unfold fedW
  rw [kW_cat]
  unfold sW
  rw [← (cat_len M x).1, Nat.add_comm]
theorem fedY_cat (M x : By) : fedY (sY M ++ x) = sY (M ++ x) := by
  unfold fedY
  have h := (cat_len M x).2
  rw [cat_drop] at h ⊢
  rw [List.drop_drop, h]
  rfl
/-- what was fed, so many rows in -/
def msg (m : Nat) (F : Nat → By) : Nat → By
  | 0 => []
  | i + 1 => msg m F i ++ (F i).take m
theorem msg_len (m : Nat) (F : Nat → By) : ∀ i, (msg m F i).length ≤ m * i
  | 0 => Nat.zero_le _
  | i + 1 => by
    have h1 := msg_len m F i
    have h2 : ((F i).take m).length ≤ m := by rw [List.length_take]; exact Nat.min_le_left _ _
    show (msg m F i ++ (F i).take m).length ≤ _
    rw [List.length_append, Nat.mul_succ]
    omega
theorem piece_is (m : Nat) (p : By) : piece m p = p.take m := by unfold piece; rw [List.take_take, Nat.min_self]
theorem tail_is (m : Nat) (al p : By) : tail_ m al p = al ++ p.take m := by unfold tail_; rw [List.drop_zero, List.take_of_length_le (Nat.le_refl _)]
theorem whole_is (al : By) : whole_ al = al := by unfold whole_; simp
theorem s32_is (M : By) : s32 (sW M) (sY M) = k32 M := rfl
theorem take_le (m : Nat) (p : By) : (p.take m).length ≤ m := by rw [List.length_take]; exact Nat.min_le_left _ _
theorem bleT {a b : Nat} (h : a ≤ b) : Nat.ble a b = true := Nat.ble_eq_true_of_le h
theorem notT {b : Bool} (h : b = true) : (!(!b)) = true := by rw [h]; rfl
theorem notF {a b : Nat} (h : b ≤ a) : (!(Nat.blt a b)) = true := by
  cases hq : Nat.blt a b with
  | false => rfl
  | true => have := Nat.le_of_ble_eq_true hq; omega
theorem fedOk_is {y p : By} (h1 : y.length ≤ 135) (h2 : p.length ≤ 3000) : fedOk y p = true := by unfold fedOk; rw [bleT h1, bleT h2]; rfl
theorem twinOk_is {p : By} (h : p.length ≤ 9223372036854775807) : twinOk p = true := by unfold twinOk; rw [bleT h]; rfl

/-- A nil slice in a slot, as a slice of one's own. -/
theorem DoesK.nilOwn {P : Program} {k : Nat} {l : List Code} {s : St} {e : Ex} {tm tm' : T} {hp : List Reg} {c : Bool} {n b bd : Nat} {ob ds : List Bool} {t : TypeId} (h : DoesK P k l s e ⟨tm, hp, c, n, b, ob, ds⟩) (hk : s.hp.length ≤ hp.length ∧ k ≤ hp.length)
    (hs : ∀ i v, tm'.get i = some v → tm.get i = some v ∨ (tm.get i = some (.one .nl) ∧ v = .one (.dy hp.length))) : DoesK P k l s e ⟨tm', hp ++ [.dyn t [] bd], true, n, b, ob, ds⟩ := by
  intro B w0 wc E a w Q hR hQ
  refine h B w0 wc E a w Q hR fun E1 a1 w1 hE hR1 => ?_
  have hle := E1.le_push (.sv (.slice none 0 0))
  have hl1 := hR1.hr.len
  simp only at hl1
  have at1 : (E1.reg ++ [Ent.sv (.slice none 0 0)])[hp.length]? = some (.sv (.slice none 0 0)) := by rw [hl1]; simp
  have self : ∀ D, w1.grownBy w1 D := fun D => ⟨rfl, rfl, rfl, Nat.le_refl _, fun _ _ _ => rfl⟩
  have h2 := hR1.hr.add (hp1 := hp) rfl (fun q R hq => .inr hq) none (fun g e => by cases e) (self _) (.sv (.slice none 0 0)) (.inl rfl) (fun g e => by cases e) (fun v e => by cases e; exact ⟨_, _, _, rfl⟩) (.dyn t [] bd) (nil_own at1)
  refine hQ ⟨E1.reg ++ [.sv (.slice none 0 0)]⟩ a1 w1 (Env.leK_trans hE hle.toK) ⟨⟨hR1.tr.defers, hR1.tr.size, fun i v hv => ?_⟩, h2, fun h => by cases h⟩
  rcases hs i v hv with h3 | ⟨h3, rfl⟩
  · obtain ⟨u, h4, h5⟩ := hR1.tr.at_ i v h3
    exact ⟨u, h4, V.is_mono hle h5⟩
  · obtain ⟨u, h4, h5⟩ := hR1.tr.at_ i _ h3
    have : u = .slice none 0 0 := h5
    subst this
    exact ⟨_, h4, at1⟩

section
variable {F : Nat → By} {n : Nat} {x0 : Ent} {w0 : World} (hT : TabAt w0 x0 F n)
include hT
theorem row_le {i : Nat} (hi : i < n) : (F i).length ≤ 9223372036854775807 := by
  obtain ⟨A, K, _, h⟩ := hT
  obtain ⟨ad, a, len, cap, z, _, _, hr, hF⟩ := h i hi
  obtain ⟨l1, l2, _⟩ := row_at hr
  rw [hF, l1]
  exact l2
noncomputable def cuI (F : Nat → By) (n i : Nat) : St := cuS n (sW (msg 300 F i)) (sY (msg 300 F i)) (msg 300 F i) 12000 i []
theorem cut_round {i : Nat} (hi : i < n) (h40 : i < 40) : DoesW w0 [x0] [inLoop (nthC (rowOf Try.prog 8) 7)] (cuI F n i) .normal (cuI F n (i + 1)) := by
  have hml := msg_len 300 F i
  have hml' := msg_len 300 F (i + 1)
  have eW := eq_lst (sW_len (msg 300 F i))
  have eM : msg 300 F (i + 1) = msg 300 F i ++ (F i).take 300 := rfl
  have hy := sY_len (msg 300 F i)
  have eF1 : fW (sW (msg 300 F i)) (sY (msg 300 F i) ++ piece 300 (F i)) = sW (msg 300 F (i + 1)) := by
    unfold fW
    rw [piece_is, fedW_cat, ← eM, ← eq_lst (sW_len _)]
  have eF2 : fedY (sY (msg 300 F i) ++ piece 300 (F i)) = sY (msg 300 F (i + 1)) := by rw [piece_is, fedY_cat, ← eM]
  have eF3 : tail_ 300 (msg 300 F i) (F i) = msg 300 F (i + 1) := by rw [tail_is, ← eM]
  have obO : AllT (cuO (sW (msg 300 F i)) (sY (msg 300 F i)) (msg 300 F i) (F i) n i) := by
    have q1 : fedOk (sY (msg 300 F i)) (piece 300 (F i)) = true := fedOk_is (by omega) (by rw [piece_is]; have := take_le 300 (F i); omega)
    have q2 : twinOk ((F i).take 300) = true := twinOk_is (by have := take_le 300 (F i); omega)
    unfold cuO
    rw [eF2, eF3, whole_is]
    refine AllT.cons ?_ (AllT.cons (bleT (sY_len _)) (AllT.cons q1 (AllT.cons q2 (AllT.cons q1 (AllT.cons q2 (AllT.cons ?_ (AllT.cons ?_ (AllT.cons (bleT hi) (AllT.cons (bleT h40) (AllT.cons (bleT hi) AllT.nil))))))))))
    · rw [bleT (show (msg 300 F (i + 1)).length ≤ 16384 by omega)]; rfl
    · rw [twinOk_is (row_le hT hi), Nat.beq_refl]; rfl
    · rw [Nat.zero_add]; exact Nat.beq_refl i
  have qq : cuQ (sW (msg 300 F i)) (sY (msg 300 F i)) (msg 300 F i) (F i) = true := by
    unfold cuQ
    rw [eF1, eF2, eF3, whole_is, s32_is]
    exact notT (eqB8_self _)
  have qi : Nat.ble (i + 1) 9223372036854775807 = true := bleT (by omega)
  refine DoesW.ghost (s2 := cuG n (sW (msg 300 F i)) (sY (msg 300 F i)) (msg 300 F i) (F i) 12000 i i []) (fun wc E a w hX hR => tab_look (r := 0) hT hi rfl hX rfl rfl (fun q R hq => ?_) hR) ?_
  · match q, hq with
    | 0, hq => cases hq; exact .inr rfl
    | 1, hq => cases hq; exact .inl rfl
    | 2, hq => cases hq; exact .inl rfl
    | 3, hq => cases hq; exact .inl rfl
    | 4, hq => cases hq; exact .inl rfl
    | 5, hq => cases hq; exact .inl rfl
    | q + 6, hq => simp [cuH] at hq
  · have D : DoesK Try.prog 1 [inLoop (nthC (rowOf Try.prog 8) 7)] (cuG n (sW (msg 300 F i)) (sY (msg 300 F i)) (msg 300 F i) (F i) 12000 i i []) .normal (cuG n (sW (msg 300 F (i + 1))) (sY (msg 300 F (i + 1))) (msg 300 F (i + 1)) (F i) 12300 i (i + 1) []) := by
      cases he : Nat.beq (i % 2) 0 with
      | true =>
        have f := c8e (nthW (sW (msg 300 F i))) (sY (msg 300 F i)) (msg 300 F i) (F i) n i
        rw [← eW, eF1, eF2, eF3] at f
        refine sxp_is knownc f (AllT.cons qi (AllT.cons (notT (eqB8_self _)) (AllT.cons (bleT (sY_len _)) (AllT.cons (bleT (sY_len _)) (AllT.cons he (AllT.cons rfl (AllT.cons qq ?_)))))))
        exact obO
      | false =>
        have f := c8o (nthW (sW (msg 300 F i))) (sY (msg 300 F i)) (msg 300 F i) (F i) n i
        rw [← eW, eF1, eF2, eF3] at f
        refine sxp_is knownc f (AllT.cons qi (AllT.cons (by rw [he]; rfl) (AllT.cons rfl (AllT.cons qq ?_))))
        exact obO
    have K := DoesK.kill D 0
    have eW' := eq_lst (sW_len (msg 300 F (i + 1)))
    have hk := c8k (nthW (sW (msg 300 F (i + 1)))) (sY (msg 300 F (i + 1))) (msg 300 F (i + 1)) (F i) n (i + 1) 12300
    rw [← eW'] at hk
    have K2 : DoesK Try.prog 1 [inLoop (nthC (rowOf Try.prog 8) 7)] (cuG n (sW (msg 300 F i)) (sY (msg 300 F i)) (msg 300 F i) (F i) 12000 i i []) .normal (cuS n (sW (msg 300 F (i + 1))) (sY (msg 300 F (i + 1))) (msg 300 F (i + 1)) 12300 (i + 1) []) := DoesK.pack K hk
    have K3 := DoesK.rebd (r := 5) (bd' := 12000) K2 rfl (by omega)
    exact DoesK.toW K3 (Nat.le_refl _)
theorem cut_law {v : Value} (hv : (C.vw 0 0 n).is ⟨[x0]⟩ v) (hlt : ∀ g, x0.blk = some g → g < w0.heap.size) (hok : ∀ v, x0 = .sv v → ∃ A L K, v = .slice A L K) : Calls Try.prog 8 #[v] w0 fun e w' => e = .returned (.bool true) ∧ Below w0.heap.size w0 w' := by
  let N := if n < 40 then n else 40
  have hN : N ≤ n ∧ N ≤ 40 := by show (if n < 40 then n else 40) ≤ n ∧ (if n < 40 then n else 40) ≤ 40; split <;> omega
  have hml := msg_len 300 F N
  have eW := eq_lst (sW_len (msg 300 F N))
  have A : DoesK Try.prog 1 (takeC 7 (rowOf Try.prog 8)) (cuIn n) .normal (cuI F n 0) := by
    have h := sxp_is knownc (c8a n) (AllT.cons rfl (AllT.cons rfl AllT.nil))
    have h2 := DoesK.nilOwn (tm' := cuT n 0) (bd := 12000) (t := 5) h ⟨by show 1 ≤ 5; omega, by show 1 ≤ 5; omega⟩ fun i v hv => by
      have hv := slots_get _ _ _ hv
      simp only [List.mem_cons, List.not_mem_nil, or_false, Prod.mk.injEq] at hv
      rcases hv with ⟨rfl, rfl⟩ | ⟨rfl, rfl⟩ | ⟨rfl, rfl⟩ | ⟨rfl, rfl⟩ | ⟨rfl, rfl⟩
      · exact .inl (by kernel_rfl)
      · exact .inl (by kernel_rfl)
      · exact .inl (by kernel_rfl)
      · exact .inr ⟨by kernel_rfl, rfl⟩
      · exact .inl (by kernel_rfl)
    have h3 := DoesK.rebd (r := 2) (bd' := 135) h2 rfl (Nat.zero_le _)
    have e3 : cuI F n 0 = cuS n zer25 [] [] 12000 0 [] := by
      show cuS n (sW []) (sY []) [] 12000 0 [] = _
      rw [sW_nil, sY_nil]
    rw [e3]
    exact DoesK.rebd (r := 4) (bd' := 135) h3 rfl (Nat.zero_le _)
  have R : ∀ i, i < N → DoesW w0 [x0] [inLoop (nthC (rowOf Try.prog 8) 7)] (cuI F n i) .normal (cuI F n (i + 1)) := fun i hi => cut_round hT (by omega) (by omega)
  have Xx : DoesK Try.prog 1 [inLoop (nthC (rowOf Try.prog 8) 7)] (cuI F n N) (.exit (blkN (nthC (rowOf Try.prog 8) 7))) (cuI F n N) := by
    by_cases hn : n < 40
    · have e : N = n := if_pos hn
      have f := c8x (nthW (sW (msg 300 F N))) (sY (msg 300 F N)) (msg 300 F N) n N
      rw [← eW] at f
      exact sxp_is knownc f (AllT.cons (notF (by omega)) AllT.nil)
    · have e : N = 40 := if_neg hn
      by_cases hn' : n = 40
      · have f := c8x (nthW (sW (msg 300 F N))) (sY (msg 300 F N)) (msg 300 F N) n N
        rw [← eW] at f
        exact sxp_is knownc f (AllT.cons (notF (by omega)) AllT.nil)
      · have f := c8y (nthW (sW (msg 300 F N))) (sY (msg 300 F N)) (msg 300 F N) n N
        rw [← eW] at f
        exact sxp_is knownc f (AllT.cons (notF (by omega)) (AllT.cons (bleT (by omega)) AllT.nil))
  have hy := sY_len (msg 300 F N)
  have Z : DoesK Try.prog 1 (dropC 8 (rowOf Try.prog 8)) (cuI F n N) .ret (cuZ (eqB8 (s32 (sW (msg 300 F N)) (sY (msg 300 F N))) (s32 (sW (msg 300 F N)) (sY (msg 300 F N))))) := by
    have f := c8z (nthW (sW (msg 300 F N))) (sY (msg 300 F N)) (msg 300 F N) n N
    rw [← eW] at f
    refine sxp_is knownc f (AllT.cons (bleT hy) (AllT.cons (bleT hy) (AllT.cons ?_ (AllT.cons ?_ (AllT.cons (bleT hy) AllT.nil)))))
    · rw [s32_is]; exact eqB8_self _
    · rw [bleT (show (msg 300 F N).length ≤ 16384 by omega)]; rfl
  have all : DoesW w0 [x0] (rowOf Try.prog 8) (cuIn n) .ret (cuZ (eqB8 (s32 (sW (msg 300 F N)) (sY (msg 300 F N))) (s32 (sW (msg 300 F N)) (sY (msg 300 F N))))) :=
    DoesW.three (N := N) (s := cuI F n) (Nat.le_of_ble_eq_true len8) at8 (A.toW (Nat.le_refl _)) R (Xx.toW (Nat.le_refl _)) (Z.toW (Nat.le_refl _))
  have one : ∀ {r : Nat} {y : Ent}, ([x0] : List Ent)[r]? = some y → r = 0 ∧ y = x0 := by
    intro r y h
    cases r with
    | zero => simp at h; exact ⟨rfl, h.symm⟩
    | succ r => simp at h
  have hh : HR (fun _ => False) w0 ⟨[x0]⟩ [.dead] w0 := by
    refine ⟨rfl, fun r R hR => ?_, fun r r' R R' y y' g hR ho => ?_, fun r R y g hR ho => ?_, fun r y g hy hg => ?_, fun r v hv => ?_, rfl, rfl, rfl, Nat.le_refl _, fun _ _ _ => rfl⟩
    · cases r with
      | zero => simp at hR; subst hR; trivial
      | succ r => simp at hR
    · cases r with
      | zero => simp at hR; subst hR; cases ho
      | succ r => simp at hR
    · cases r with
      | zero => simp at hR; subst hR; cases ho
      | succ r => simp at hR
    · obtain ⟨_, rfl⟩ := one hy
      exact hlt g hg
    · exact hok v (one hv).2.symm
  exact calls_W (vs := [.one (.vw 0 0 n)]) (us := [v]) (hp := [.dead]) code8 (n := 77) (by rw [Nat.eq_of_beq_eq_true tmps8]; rfl) all (c8v _) (fun E u hu => by
    have h1 : u = .bool (eqB8 _ _) := hu
    rw [h1, eqB8_self]) (fun r y hy => hy) hh ⟨hv, trivial⟩
end
end Go.Proofs.Sx
