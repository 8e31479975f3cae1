/- Keccak-256, by the program: a new sponge, its sum, and the hash of bytes. -/
import Derived.Test.YtejgaeadplnfgaaHaKc1
namespace Go.Proofs.Sx
open Go
set_option linter.unusedVariables false
/-! a new sponge -/
noncomputable def newV : Option (V × List Reg) :=
  match callF (sx Try.prog M0 1000000) Try.prog M0 [] [] [] 21 [] with
  | some (v, hp, _, [], _) => some (v, hp)
  | _ => none
theorem f21 : newV = some (.one (.pt 0 0), [.own 61 (toC zer25 ++ [.nl])]) := by kernel_rfl
/-- An empty slice that is nil is a slice of one's own. -/
theorem nil_own {w : World} {E : Env} {r : Nat} {t : TypeId} {bd : Nat} (h : E.reg[r]? = some (.sv (.slice none 0 0))) : RegIs E w r (.dyn t [] bd) :=
  ⟨_, h, ⟨rfl, .inl ⟨rfl, rfl⟩⟩, Nat.zero_le _⟩
theorem all2_snoc {E E' : Env} {c c' : C} (hc : ∀ v, c.is E v → c'.is E' v) (hE : E.le E') : ∀ {cs : List C} {vs : List Value}, All2 (C.is E) (cs ++ [c]) vs → All2 (C.is E') (cs ++ [c']) vs
  | [], [v], h => ⟨hc v h.1, trivial⟩
  | x :: cs, v :: vs, h => ⟨C.is_mono hE h.1, all2_snoc hc hE h.2⟩
theorem runs21 : Runs Try.prog 21 [] [] (.one (.pt 0 0)) [.own 61 (toC zer25 ++ [.dy 1]), .dyn 5 [] 0] true := by
  have hf := f21
  unfold newV at hf
  split at hf
  · rename_i v hp c ds hc
    cases hf
    have h0 := runs_of_call fol known_none hc AllT.nil
    intro B w0 E us w hvs hh
    refine Calls.mono (h0 B w0 E us w hvs hh) fun e w1 ⟨E1, u, hE, he, hu, hh1, _⟩ => ?_
    have hle := E1.le_push (.sv (.slice none 0 0))
    have hl1 : E1.reg.length = 1 := hh1.len.symm
    have at1 : (E1.reg ++ [Ent.sv (.slice none 0 0)])[1]? = some (.sv (.slice none 0 0)) := by rw [← hl1]; simp
    have self : ∀ D, w1.grownBy w1 D := fun D => ⟨rfl, rfl, rfl, Nat.le_refl _, fun _ _ _ => rfl⟩
    have h2 := hh1.add (hp1 := [.own 61 (toC zer25 ++ [.nl])]) rfl (fun q R hq => .inr hq) none (fun g e => by cases e) (self _) (.sv (.slice none 0 0)) (.inl rfl) (fun g e => by cases e) (fun v e => by cases e; exact ⟨_, _, _, rfl⟩) (.dyn 5 [] 0) (nil_own at1)
    obtain ⟨g, vs, hg, hvs1, hheap⟩ := hh1.at_ 0 _ rfl
    have hg' : (E1.reg ++ [Ent.sv (.slice none 0 0)])[0]? = some (.at_ g 0) := hle _ _ hg
    have h3 := h2.upd (r := 0) (R := .own 61 (toC zer25 ++ [.nl])) (R' := .own 61 (toC zer25 ++ [.dy 1])) rfl rfl rfl hg' (self _) ⟨g, vs, hg', all2_snoc (fun v hv => by
      have : v = .slice none 0 0 := hv
      subst this
      exact at1) hle hvs1, hheap⟩
    exact ⟨_, u, Env.le_trans hE hle, he, V.is_mono hle hu, h3, fun h => by cases h⟩
  · cases hf
noncomputable def newL : Tab := fun vs hp =>
  match vs, hp with
  | [], [] => some (.one (.pt 0 0), [.own 61 (toC zer25 ++ [.dy 1]), .dyn 5 [] 0], true, none)
  | _, _ => none
theorem knewL : Tells Try.prog 21 newL := by
  intro vs hp v hp' chg ob h _
  unfold newL at h
  split at h
  · cases h; exact runs21
  · cases h
noncomputable def newT : Tab := locT (fun _ _ => some []) newL
theorem knewT : Tells Try.prog 21 newT := locT_tells knewL
noncomputable def Mn : Kn := addK (addK M0 32 absT) 21 newT
theorem knownn : Known Try.prog Mn := known_add (known_add known_none kabsT) knewT

/-! the sum -/
def lastJ (x : By) (j : Nat) : BitVec 8 := bif Nat.beq j x.length then 1#8 else (bif Nat.blt j x.length then x.getD j 0#8 else 0#8)
def lastK (x : By) : By := lst8 (fun j => bif Nat.beq j 135 then lastJ x 135 ||| 128#8 else lastJ x j) 0 136
def outJ (st : List W) (o : By) (j : Nat) : By := putB j (BitVec.setWidth 8 (nthW st (j / 8) >>> (j % 8 * 8))) o
def outsK (st : List W) : Nat → By
  | 0 => zer32
  | j + 1 => outJ st (outsK st j) j
def sumK (ws : List W) (x : By) : By := outsK (absK ws (byteO (lastK x))) 32
theorem outsK_len (st : List W) : ∀ j, (outsK st j).length = 32
  | 0 => rfl
  | j + 1 => by simp [outsK, outJ, putB_len, outsK_len st j]
theorem sumK_len (ws : List W) (x : By) : (sumK ws x).length = 32 := outsK_len _ 32
section
variable (x : By) (a st : Nat → W) (o : Nat → BitVec 8) (bd : Nat)
noncomputable def uIn (ws : List W) : St := ⟨tmOf [.one (.pt 0 0)] 0 (T.full 8), [.win (toC ws ++ [.dy 1]), .rd x bd], false, 45, 2, [], []⟩
noncomputable def uS (ws st : List W) (o : By) (j : Nat) : St := ⟨slots [(2, .one (.pt 2 0)), (4, .one (.pt 3 0)), (5, .one (.pt 4 0)), (29, .one (.it j))], [.win (toC ws ++ [.dy 1]), .rd x bd, .own 33 (toC8 zer32), .own 59 (toC st), .own 33 (toC8 o)], true, 45, 2, [], []⟩
def uk : List (Nat × Bool) := [(2, false), (4, false), (5, false), (29, false)]
theorem k24a : sxp Mn (takeC 9 (rowOf Try.prog 24)) 2 [0, 1, 2, 4, 5] uk (uIn x bd (lst a 0 25)) = some (.normal, uS x bd (lst a 0 25) (lst (nthW (absK (lst a 0 25) (byteO (lastK x)))) 0 25) zer32 0, [true, Nat.blt x.length 136, Nat.blt x.length 136, Nat.ble x.length 136]) := by kernel_rfl
theorem k24r : (List.range' 0 32).map (fun j => sxp Mn [inLoop (nthC (rowOf Try.prog 24) 9)] 2 [0, 1, 2, 3, 4] uk (uS x bd (lst a 0 25) (lst st 0 25) (lst8 o 0 32) j)) =
    (List.range' 0 32).map (fun j => some (.normal, uS x bd (lst a 0 25) (lst st 0 25) (outJ (lst st 0 25) (lst8 o 0 32) j) (j + 1), [])) := by kernel_rfl
theorem k24x : sxp Mn [inLoop (nthC (rowOf Try.prog 24) 9)] 2 [0, 1, 2, 3, 4] uk (uS x bd (lst a 0 25) (lst st 0 25) (lst8 o 0 32) 32) = some (.exit (blkN (nthC (rowOf Try.prog 24) 9)), uS x bd (lst a 0 25) (lst st 0 25) (lst8 o 0 32) 32, []) := by kernel_rfl
noncomputable def uZ (ws : List W) (o : By) : St := ⟨slots [(2, .one (.pt 2 0))], [.win (toC ws ++ [.dy 1]), .rd x bd, .own 33 (toC8 o)], true, 45, 2, [], []⟩
theorem k24z : sxp Mn (dropC 10 (rowOf Try.prog 24)) 2 [0, 1, 2] [(2, false)] (uS x bd (lst a 0 25) (lst st 0 25) (lst8 o 0 32) 32) = some (.ret, uZ x bd (lst a 0 25) (lst8 o 0 32), []) := by kernel_rfl
theorem k24v : resV Try.prog (fnOf Try.prog 24).results.toList (slots [(2, .one (.pt 2 0))]) [.win (toC (lst a 0 25) ++ [.dy 1]), .rd x bd, .own 33 (toC8 (lst8 o 0 32))] = some (.ag (toC8 (lst8 o 0 32))) := by kernel_rfl
end
theorem code24 : hasCode Try.prog 24 = true := by kernel_rfl
theorem tmps24 : Nat.beq (fnOf Try.prog 24).ntmps 45 = true := by kernel_rfl
theorem len24 : Nat.blt 9 (lenL (rowOf Try.prog 24)) = true := by kernel_rfl
theorem at24 : nthC (rowOf Try.prog 24) 9 = .block (blkN (nthC (rowOf Try.prog 24) 9)) (.loop (inLoop (nthC (rowOf Try.prog 24) 9))) := by kernel_rfl
theorem runs24 (ws : List W) (hl : ws.length = 25) (x : By) (bd : Nat) (hx : x.length < 136) : ∃ hp1, Runs Try.prog 24 [.one (.pt 0 0)] [.win (toC ws ++ [.dy 1]), .rd x bd] (.ag (toC8 (sumK ws x))) hp1 true := by
  have eW := eq_lst hl
  have lS := absK_len (byteO (lastK x)) hl
  have eS := eq_lst lS
  have eO := fun j => eq_lst8 (outsK_len (absK ws (byteO (lastK x))) j)
  have A : DoesK Try.prog 2 (takeC 9 (rowOf Try.prog 24)) (uIn x bd ws) .normal (uS x bd ws (absK ws (byteO (lastK x))) (outsK (absK ws (byteO (lastK x))) 0) 0) := by
    have f := k24a x (nthW ws) bd
    simp only [← eW] at f
    rw [← eS] at f
    exact sxp_is knownn f (AllT.cons rfl (AllT.cons (Nat.ble_eq_true_of_le (by omega)) (AllT.cons (Nat.ble_eq_true_of_le (by omega)) (AllT.cons (Nat.ble_eq_true_of_le (by omega)) AllT.nil))))
  have R : ∀ j, j < 32 → DoesK Try.prog 2 [inLoop (nthC (rowOf Try.prog 24) 9)] (uS x bd ws (absK ws (byteO (lastK x))) (outsK (absK ws (byteO (lastK x))) j) j) .normal (uS x bd ws (absK ws (byteO (lastK x))) (outsK (absK ws (byteO (lastK x))) (j + 1)) (j + 1)) := by
    intro j hj
    have f := map_at (k24r x (nthW ws) (nthW (absK ws (byteO (lastK x)))) (nthB8 (outsK (absK ws (byteO (lastK x))) j)) bd) (a := j) (by simp; omega)
    simp only [← eW, ← eS, ← eO] at f
    exact sxp_is knownn f AllT.nil
  have X : DoesK Try.prog 2 [inLoop (nthC (rowOf Try.prog 24) 9)] (uS x bd ws (absK ws (byteO (lastK x))) (outsK (absK ws (byteO (lastK x))) 32) 32) (.exit (blkN (nthC (rowOf Try.prog 24) 9))) (uS x bd ws (absK ws (byteO (lastK x))) (outsK (absK ws (byteO (lastK x))) 32) 32) := by
    have f := k24x x (nthW ws) (nthW (absK ws (byteO (lastK x)))) (nthB8 (outsK (absK ws (byteO (lastK x))) 32)) bd
    simp only [← eW, ← eS, ← eO] at f
    exact sxp_is knownn f AllT.nil
  have Z : DoesK Try.prog 2 (dropC 10 (rowOf Try.prog 24)) (uS x bd ws (absK ws (byteO (lastK x))) (outsK (absK ws (byteO (lastK x))) 32) 32) .ret (uZ x bd ws (sumK ws x)) := by
    have f := k24z x (nthW ws) (nthW (absK ws (byteO (lastK x)))) (nthB8 (outsK (absK ws (byteO (lastK x))) 32)) bd
    simp only [← eW, ← eS, ← eO] at f
    exact sxp_is knownn f AllT.nil
  have all : DoesK Try.prog 2 (rowOf Try.prog 24) (uIn x bd ws) .ret (uZ x bd ws (sumK ws x)) :=
    DoesK.three (N := 32) (s := fun j => uS x bd ws (absK ws (byteO (lastK x))) (outsK (absK ws (byteO (lastK x))) j) j) (Nat.le_of_ble_eq_true len24) at24 A R X Z
  have hres := k24v x (nthW ws) (nthB8 (sumK ws x)) bd
  simp only [← eW, ← eq_lst8 (sumK_len ws x)] at hres
  exact ⟨_, runsK_of (vs := [.one (.pt 0 0)]) (hp := [.win (toC ws ++ [C.dy 1]), .rd x bd]) code24 (.inr rfl) (n := 45) (by rw [Nat.eq_of_beq_eq_true tmps24]; rfl) all hres⟩
noncomputable def sumL : Tab := fun vs hp =>
  match vs, hp with
  | [.one (.pt 0 0)], [.win cs, .rd x _] => match splitW 25 cs with
    | some (ws, [.dy 1]) => some (.ag (toC8 (lst8 (nthB8 (sumK ws x)) 0 32)), hp, true, some (Nat.blt x.length 136))
    | _ => none
  | _, _ => none
theorem ksumL : ∀ vs hp v hp' chg ob, sumL vs hp = some (v, hp', chg, ob) → (∀ x, ob = some x → x = true) → ∃ hp1, Runs Try.prog 24 vs hp v hp1 true := by
  intro vs hp v hp' chg ob h hob
  unfold sumL at h
  split at h
  · split at h
    · rename_i x bd ws hs
      obtain ⟨rfl, hl⟩ := splitW_is hs
      cases h
      rw [← eq_lst8 (sumK_len ws _)]
      exact runs24 ws hl _ _ (Nat.le_of_ble_eq_true (hob _ rfl))
    · cases h
  · cases h
/-- What a table says comes back, memory left aside. -/
def TellsV (P : Program) (f : FuncId) (m : Tab) : Prop := ∀ vs hp v hp' chg ob, m vs hp = some (v, hp', chg, ob) → (∀ x, ob = some x → x = true) → ∃ hp1 chg1, Runs P f vs hp v hp1 chg1
theorem stillT_tellsV {P : Program} {f : FuncId} {pk : List V → List Reg → Option (List (Nat × Nat × Nat))} {m : Tab} (hm : TellsV P f m) : Tells P f (stillT pk m) := by
  intro vs hp v hp' chg ob h hob
  unfold stillT at h
  split at h
  · cases h
  · rename_i l hl
    split at h
    · cases h
    · rename_i hnd
      split at h
      · cases h
      · rename_i L o hs
        split at h
        · cases h
        · rename_i vs' hv
          split at h
          · cases h
          · rename_i v1 hp1 c1 ob1 h1
            split at h
            · rename_i hno hpl
              cases h
              obtain ⟨rfl, hob1⟩ := andO_is hob
              obtain ⟨hp2, c2, hr⟩ := hm _ _ _ _ _ _ h1 hob1
              exact Runs.still hr (nodupB_is hnd) hs hv hno hpl
            · cases h
noncomputable def sumPk (vs : List V) (hp : List Reg) : Option (List (Nat × Nat × Nat)) :=
  match vs with
  | [.one (.pt r _)] => match regAt r hp with
    | some (.own _ cs) => match tailN cs with
      | some q => some [(r, 2, 0), (q, 5, 0)]
      | none => none
    | _ => none
  | _ => none
noncomputable def sumT : Tab := stillT sumPk sumL
theorem ksumT : Tells Try.prog 24 sumT := stillT_tellsV fun vs hp v hp' chg ob h hob => let ⟨hp1, h1⟩ := ksumL vs hp v hp' chg ob h hob; ⟨hp1, true, h1⟩
end Go.Proofs.Sx
