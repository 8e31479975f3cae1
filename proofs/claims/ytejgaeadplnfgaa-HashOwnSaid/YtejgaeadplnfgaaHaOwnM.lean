/- What is lent: a list of bytes more, with marks behind it. -/
import Derived.Test.YtejgaeadplnfgaaHaWr
import Derived.Test.YtejgaeadplnfgaaHaRipM
import Derived.Test.YtejgaeadplnfgaaSxChainH
import Derived.Test.YtejgaeadplnfgaaHaLaw
import Derived.Test.YtejgaeadplnfgaaHaLoc
import Derived.Test.YtejgaeadplnfgaaHaAp2
import Derived.Test.YtejgaeadplnfgaaHaCut2
namespace Go.Proofs.Sx
open Go
set_option linter.unusedVariables false
def dys : Nat → Nat → List C
  | _, 0 => []
  | r, n + 1 => .dy r :: dys (r + 1) n
def deads : Nat → List Reg
  | 0 => []
  | n + 1 => .dead :: deads n
def fullB (x : By) : By := (x.drop 0).take x.length ++ [77#8, 78#8, 79#8, 80#8, 81#8]
def copyB (x : By) : By := ((fullB x).drop 0).take (fullB x).length
def K25 (k : Nat) : Nat := 4 + 2 * k
noncomputable def L25 (x : By) (k : Nat) : List Reg := [.own 49 [.dy 1, .dy 2], .dc 32 (dys 4 k), .dc 32 (dys (4 + k) k), .rd x 3000] ++ deads (2 * k)
noncomputable def in25 (x : By) (k : Nat) : St := ⟨tmOf [.one (.pt 0 0), .one (.dy 3)] 0 (T.full 8), L25 x k, false, 37, K25 k, [], []⟩
noncomputable def h25 (x : By) (k : Nat) : List Reg := [.own 49 [.dy (K25 k + 1), .dy 2], .dead, .dc 32 (dys (4 + k) k), .rd x 3000] ++ deads (2 * k) ++ [.dyn 5 (fullB x) 3005, .dc 32 (dys 4 k ++ [.dy (K25 k)])]
noncomputable def hd25 (x : By) (k : Nat) (c : Nat) (R2 : Reg) : List Reg := [.own 49 [.dy (K25 k + 1), .dy c], .dead, R2, .rd x 3000] ++ deads (2 * k) ++ [.dyn 5 (fullB x) 3005, .dc 32 (dys 4 k ++ [.dy (K25 k)])]
noncomputable def hps25 (x : By) (k : Nat) : Nat → List Reg
  | 0 => h25 x k
  | 1 => h25 x k ++ [.own 5 []]
  | 2 => h25 x k ++ [.dead, .dyn 5 (copyB x) 3005]
  | 3 => h25 x k ++ [.dead, .dyn 5 (copyB x) 3005, .own 32 [.dy (K25 k + 3)]]
  | 4 => hd25 x k 2 .dead ++ [.dead, .dyn 5 (copyB x) 3005, .own 32 [.dy (K25 k + 3)], .dc 32 (dys (4 + k) k ++ [.dy (K25 k + 3)])]
  | _ => hd25 x k (K25 k + 5) .dead ++ [.dead, .dyn 5 (copyB x) 3005, .own 32 [.dy (K25 k + 3)], .dc 32 (dys (4 + k) k ++ [.dy (K25 k + 3)])]
def b25 (k : Nat) : List (Nat × V) := [(0, .one (.pt 0 0)), (1, .one (.dy 3)), (5, .one (.dy (K25 k)))]
noncomputable def v25 (k : Nat) : Nat → V
  | 3 => .one (.pt 0 1)
  | 4 => .one (.dy 2)
  | 5 => .one (.sl (K25 k + 2) 0 0 0)
  | 6 => .one (.dy (K25 k))
  | 7 => .one (.dy (K25 k + 3))
  | 8 => .one (.sl (K25 k + 4) 0 1 1)
  | 9 => .one (.dy (K25 k + 5))
  | 11 => .one (.pt 0 1)
  | 12 => .raw undef
  | _ => .one (.pt 0 0)
noncomputable def l25 (k : Nat) : Nat → List (Nat × V)
  | 2 => [(22, v25 k 1)]
  | 3 => [(23, v25 k 2)]
  | 4 => [(24, v25 k 3)]
  | 7 => [(26, v25 k 5), (27, v25 k 6)]
  | 8 => [(28, v25 k 7)]
  | 9 => [(25, v25 k 4), (29, v25 k 8)]
  | 10 => [(21, v25 k 0)]
  | 11 => [(31, v25 k 10)]
  | 12 => [(32, v25 k 11), (30, v25 k 9)]
  | _ => b25 k
def d25 (j : Nat) : Option Nat := match j with
  | 12 => none
  | j => some (21 + j)
def g25 : Nat → Nat
  | 0 => 5
  | 1 => 7
  | 2 => 8
  | 3 => 9
  | _ => 12
def hi25 : Nat → Nat
  | 4 => 3
  | _ => 5
noncomputable def ops25 : Array Oper := opsArr (nthC (rowOf Try.prog 25) 3)
noncomputable def op25 (j : Nat) : Oper := (ops25[j]?).getD default
noncomputable def stp25 (k : Nat) (hp : List Reg) (j : Nat) : Option (V × List Reg × Bool × List Bool × List Bool) :=
  stepOp (sx Try.prog M0 1000000) Try.prog M0 (slots (l25 k j)) hp (K25 k) [] [] (op25 j).op
section
variable (x : By)
theorem s25a : (List.range' 0 4).map (fun k => sxp M0 (takeC 3 (rowOf Try.prog 25)) (K25 k) (List.range' 0 (K25 k) ++ [K25 k + 3, K25 k + 5]) [(0, false), (1, false), (5, false)] (in25 x k)) =
    (List.range' 0 4).map (fun k => some (.normal, ⟨slots (b25 k), h25 x k, true, 37, K25 k, [], []⟩, [])) := by kernel_rfl
theorem s25q : (List.range' 0 4).map (fun k => [0, 1, 2, 3, 6, 10, 11].map fun j => (List.range' 0 6).map fun i => stp25 k (hps25 x k i) j) =
    (List.range' 0 4).map (fun k => [0, 1, 2, 3, 6, 10, 11].map fun j => (List.range' 0 6).map fun i => some (v25 k j, hps25 x k i, false, [], [])) := by kernel_rfl
theorem s25r : (List.range' 0 4).map (fun k => (List.range' 0 4).map fun i => stp25 k (hps25 x k i) 4) =
    (List.range' 0 4).map (fun k => (List.range' 0 4).map fun i => some (v25 k 4, hps25 x k i, false, [], [])) := by kernel_rfl
noncomputable def fstO (r : Option (V × List Reg × Bool × List Bool × List Bool)) : Option (V × List Reg × List Bool) :=
  match r with
  | some (v, hp, _, ob, _) => some (v, hp, ob)
  | none => none
theorem s25g : (List.range' 0 4).map (fun k => (List.range' 0 5).map fun q => fstO (stp25 k (hps25 x k q) (g25 q))) =
    (List.range' 0 4).map (fun k => (List.range' 0 5).map fun q => some (v25 k (g25 q), hps25 x k (q + 1), [])) := by kernel_rfl
noncomputable def z25 (k : Nat) : List Reg := [.own 49 [.dy (K25 k + 1), .dy (K25 k + 3)], .dead, .dead, .rd x 3000] ++ deads (2 * k) ++ [.dyn 5 (fullB x) 3005, .dc 32 (dys 4 k ++ [.dy (K25 k)]), .dyn 5 (copyB x) 3005, .dc 32 (dys (4 + k) k ++ [.dy (K25 k + 2)])]
theorem s25z : (List.range' 0 4).map (fun k => sxp M0 (dropC 4 (rowOf Try.prog 25)) (K25 k) (List.range' 0 (K25 k) ++ [K25 k, K25 k + 1, K25 k + 3, K25 k + 5]) [(4, false)] ⟨slots (b25 k), hps25 x k 5, true, 37, K25 k, [], []⟩) =
    (List.range' 0 4).map (fun k => some (.ret, ⟨slots [(4, .one (.vw (K25 k) 0 x.length))], z25 x k, true, 37, K25 k, [], []⟩, [Nat.ble x.length (fullB x).length])) := by kernel_rfl
theorem s25v : (List.range' 0 4).map (fun k => resV Try.prog (fnOf Try.prog 25).results.toList (slots [(4, .one (.vw (K25 k) 0 x.length))]) (z25 x k)) = (List.range' 0 4).map (fun k => some (.one (.vw (K25 k) 0 x.length))) := by kernel_rfl
end
theorem shape25 : nthC (rowOf Try.prog 25) 3 = .region (regId (nthC (rowOf Try.prog 25) 3)) ops25 true := by kernel_rfl
theorem size25 : ops25.size = 13 := by kernel_rfl
theorem down25 : (List.range' 0 13).all (fun d => downB ops25 d) = true := by kernel_rfl
def dstB (o : Oper) (d : Option Nat) : Bool := match o.guard, o.dst, d with
  | none, some e, some f => Nat.beq e f
  | none, none, none => true
  | _, _, _ => false
theorem dst25 : (List.range' 0 13).all (fun j => dstB (op25 j) (d25 j)) = true := by kernel_rfl
def edges25 : List (Nat × Nat) := [(2, 1), (3, 2), (4, 3), (7, 5), (7, 6), (8, 7), (9, 4), (9, 8), (10, 0), (11, 10), (12, 11), (12, 9)]
theorem edge25 : edges25.all (fun p => edgeB ops25 p.1 p.2) = true := by kernel_rfl
theorem len25 : Nat.blt 3 (lenL (rowOf Try.prog 25)) = true := by kernel_rfl
theorem code25 : hasCode Try.prog 25 = true := by kernel_rfl
theorem tmps25 : Nat.beq (fnOf Try.prog 25).ntmps 37 = true := by kernel_rfl
end Go.Proofs.Sx
/- What is lent: a list of bytes more: what the call does. -/
namespace Go.Proofs.Sx
open Go
set_option linter.unusedVariables false
theorem op25_at {j : Nat} (h : j < 13) : ops25[j]? = some (op25 j) := by
  unfold op25
  have h1 : j < ops25.size := by rw [size25]; exact h
  rw [Array.getElem?_eq_getElem h1]
  rfl
theorem dstB_is {o : Oper} {d : Option Nat} (h : dstB o d = true) : o.guard = none ∧ o.dst = d := by
  unfold dstB at h
  split at h
  · rename_i e f h1 h2
    exact ⟨h1, by rw [h2, Nat.eq_of_beq_eq_true h]⟩
  · rename_i h1 h2
    exact ⟨h1, h2⟩
  · cases h
theorem ed25 {i d : Nat} (h : (i, d) ∈ edges25) : edgeB ops25 i d = true := List.all_eq_true.1 edge25 (i, d) h
theorem d25_is {j e : Nat} (h : d25 j = some e) : e = 21 + j ∧ j ≠ 12 := by
  unfold d25 at h
  split at h
  · cases h
  · rename_i hj
    cases h
    exact ⟨rfl, hj⟩
section
variable (x : By) {k : Nat} (hk : k < 4)
include hk
theorem mem4 : k ∈ List.range' 0 4 := by simp; omega
theorem steps_q {j i : Nat} (hj : j ∈ [0, 1, 2, 3, 6, 10, 11]) (hi : i < 6) : Steps (sx Try.prog M0 1000000) Try.prog M0 (l25 k j) (hps25 x k i) (hps25 x k i) (v25 k j) (op25 j).op :=
  ⟨K25 k, false, [], [], [], AllT.nil, map_at (map_at (map_at (s25q x) (mem4 hk)) hj) (a := i) (by simp; omega)⟩
theorem steps_r {i : Nat} (hi : i < 4) : Steps (sx Try.prog M0 1000000) Try.prog M0 (l25 k 4) (hps25 x k i) (hps25 x k i) (v25 k 4) (op25 4).op :=
  ⟨K25 k, false, [], [], [], AllT.nil, map_at (map_at (s25r x) (mem4 hk)) (a := i) (by simp; omega)⟩
theorem steps_g {q : Nat} (hq : q < 5) : Steps (sx Try.prog M0 1000000) Try.prog M0 (l25 k (g25 q)) (hps25 x k q) (hps25 x k (q + 1)) (v25 k (g25 q)) (op25 (g25 q)).op := by
  have h := map_at (map_at (s25g x) (mem4 hk)) (a := q) (by simp; omega)
  unfold fstO at h
  split at h
  · rename_i v hp c ob ds hs
    cases h
    exact ⟨K25 k, c, [], [], ds, AllT.nil, hs⟩
  · cases h
theorem region25 (chg : Bool) (ob ds : List Bool) : Does Try.prog (nthC (rowOf Try.prog 25) 3) ⟨slots (b25 k), h25 x k, chg, 37, K25 k, ob, ds⟩ .normal ⟨slots (b25 k), hps25 x k 5, true, 37, K25 k, [], []⟩ := by
  rw [shape25]
  have dst : ∀ {j : Nat}, j < 13 → (op25 j).guard = none ∧ (op25 j).dst = d25 j := fun {j} h => dstB_is (List.all_eq_true.1 dst25 j (by simp; omega))
  refine region_chainH (m := 5) (g := g25) (hi := hi25) (hps := hps25 x k) (l := l25 k) (val := v25 k) (d := d25) fol (sx_sound fol known_none 1000000) known_none size25 ?_ ?_ ?_ ?_ (fun i hi => List.all_eq_true.1 down25 i (by simp; omega)) ?_ ?_ ?_ ?_ (fun p hp => .inl hp)
  · intro q hq
    have : ∀ q : Fin 5, g25 q.1 < 13 := by decide
    exact this ⟨q, hq⟩
  · intro q q' hq hq' h
    have : ∀ q q' : Fin 5, g25 q.1 = g25 q'.1 → q = q' := by decide
    simpa using this ⟨q, hq⟩ ⟨q', hq'⟩ h
  · intro j hj
    obtain ⟨e1, e2⟩ := dst hj
    refine ⟨_, op25_at hj, e1, e2, ?_⟩
    clear e1 e2
    have chain : ∀ q, q < 5 → j = g25 q → (q = 0 ∨ edgeB ops25 (g25 q) (g25 (q - 1)) = true) → ((∃ k', k' < 5 ∧ j = g25 k' ∧ (k' = 0 ∨ edgeB ops25 (g25 k') (g25 (k' - 1)) = true) ∧ Steps (sx Try.prog M0 1000000) Try.prog M0 (l25 k j) (hps25 x k k') (hps25 x k (k' + 1)) (v25 k j) (op25 j).op) ∨
       ((∀ k', k' < 5 → j ≠ g25 k') ∧ (5 ≤ hi25 j ∨ (hi25 j < 5 ∧ edgeB ops25 (g25 (hi25 j)) j = true)) ∧ ∀ i, i ≤ hi25 j → i ≤ 5 → Steps (sx Try.prog M0 1000000) Try.prog M0 (l25 k j) (hps25 x k i) (hps25 x k i) (v25 k j) (op25 j).op)) := by
      intro q hq e he
      refine .inl ⟨q, hq, e, he, ?_⟩
      rw [e]
      exact steps_g x hk hq
    by_cases c5 : j = 5
    · exact chain 0 (by decide) c5 (.inl rfl)
    by_cases c7 : j = 7
    · exact chain 1 (by decide) c7 (.inr (ed25 (by decide)))
    by_cases c8 : j = 8
    · exact chain 2 (by decide) c8 (.inr (ed25 (by decide)))
    by_cases c9 : j = 9
    · exact chain 3 (by decide) c9 (.inr (ed25 (by decide)))
    by_cases c12 : j = 12
    · exact chain 4 (by decide) c12 (.inr (ed25 (by decide)))
    have hno : ∀ q, q < 5 → j ≠ g25 q := by
      intro q hq e
      have : ∀ q : Fin 5, g25 q.1 = 5 ∨ g25 q.1 = 7 ∨ g25 q.1 = 8 ∨ g25 q.1 = 9 ∨ g25 q.1 = 12 := by decide
      have := this ⟨q, hq⟩
      simp only at this
      omega
    by_cases c4 : j = 4
    · subst c4
      exact .inr ⟨hno, .inr ⟨by decide, ed25 (by decide)⟩, fun i hi _ => steps_r x hk (by have : hi25 4 = 3 := rfl; omega)⟩
    · have hj' : j ∈ [0, 1, 2, 3, 6, 10, 11] := by
        have : ∀ j : Fin 13, j.1 ≠ 4 → j.1 ≠ 5 → j.1 ≠ 7 → j.1 ≠ 8 → j.1 ≠ 9 → j.1 ≠ 12 → j.1 ∈ [0, 1, 2, 3, 6, 10, 11] := by decide
        exact this ⟨j, hj⟩ c4 c5 c7 c8 c9 c12
      have hh : hi25 j = 5 := by
        have : ∀ j : Fin 13, j.1 ≠ 4 → hi25 j.1 = 5 := by decide
        exact this ⟨j, hj⟩ c4
      exact .inr ⟨hno, .inl (by omega), fun i _ hi => steps_q x hk hj' (by omega)⟩
  · intro j hj p hp
    have from_ : ∀ (i : Nat), i < 13 → i ≠ 12 → (j, i) ∈ edges25 → p = (21 + i, v25 k i) → p ∈ b25 k ∨ ∃ i e, i < 13 ∧ edgeB ops25 j i = true ∧ d25 i = some e ∧ p = (e, v25 k i) := by
      intro i hi hn he hp
      refine .inr ⟨i, 21 + i, hi, ed25 he, ?_, hp⟩
      unfold d25
      split
      · exact absurd rfl hn
      · rfl
    match j, hp with
    | 0, hp => exact .inl hp
    | 1, hp => exact .inl hp
    | 2, hp =>
      have hp' : p ∈ [(22, v25 k 1)] := hp
      simp only [List.mem_cons, List.not_mem_nil, or_false] at hp'
      exact from_ 1 (by decide) (by decide) (by decide) hp'
    | 3, hp =>
      have hp' : p ∈ [(23, v25 k 2)] := hp
      simp only [List.mem_cons, List.not_mem_nil, or_false] at hp'
      exact from_ 2 (by decide) (by decide) (by decide) hp'
    | 4, hp =>
      have hp' : p ∈ [(24, v25 k 3)] := hp
      simp only [List.mem_cons, List.not_mem_nil, or_false] at hp'
      exact from_ 3 (by decide) (by decide) (by decide) hp'
    | 5, hp => exact .inl hp
    | 6, hp => exact .inl hp
    | 7, hp =>
      have hp' : p ∈ [(26, v25 k 5), (27, v25 k 6)] := hp
      simp only [List.mem_cons, List.not_mem_nil, or_false] at hp'
      rcases hp' with h | h
      · exact from_ 5 (by decide) (by decide) (by decide) h
      · exact from_ 6 (by decide) (by decide) (by decide) h
    | 8, hp =>
      have hp' : p ∈ [(28, v25 k 7)] := hp
      simp only [List.mem_cons, List.not_mem_nil, or_false] at hp'
      exact from_ 7 (by decide) (by decide) (by decide) hp'
    | 9, hp =>
      have hp' : p ∈ [(25, v25 k 4), (29, v25 k 8)] := hp
      simp only [List.mem_cons, List.not_mem_nil, or_false] at hp'
      rcases hp' with h | h
      · exact from_ 4 (by decide) (by decide) (by decide) h
      · exact from_ 8 (by decide) (by decide) (by decide) h
    | 10, hp =>
      have hp' : p ∈ [(21, v25 k 0)] := hp
      simp only [List.mem_cons, List.not_mem_nil, or_false] at hp'
      exact from_ 0 (by decide) (by decide) (by decide) hp'
    | 11, hp =>
      have hp' : p ∈ [(31, v25 k 10)] := hp
      simp only [List.mem_cons, List.not_mem_nil, or_false] at hp'
      exact from_ 10 (by decide) (by decide) (by decide) hp'
    | 12, hp =>
      have hp' : p ∈ [(32, v25 k 11), (30, v25 k 9)] := hp
      simp only [List.mem_cons, List.not_mem_nil, or_false] at hp'
      rcases hp' with h | h
      · exact from_ 11 (by decide) (by decide) (by decide) h
      · exact from_ 9 (by decide) (by decide) (by decide) h
    | j + 13, hp => omega
  · intro i j e hi hj h1 h2
    have h3 := d25_is h1
    have h4 := d25_is h2
    omega
  · intro j e hj h
    have := d25_is h
    omega
  · intro p hp j hj h
    have h1 := d25_is h
    simp only [b25, List.mem_cons, List.not_mem_nil, or_false] at hp
    rcases hp with rfl | rfl | rfl <;> simp only at h1 <;> omega
  · intro p hp
    simp only [b25, List.mem_cons, List.not_mem_nil, or_false] at hp ⊢
    rcases hp with rfl | rfl | rfl <;> kernel_rfl
theorem runs25 : Runs Try.prog 25 [.one (.pt 0 0), .one (.dy 3)] (L25 x k) (.one (.vw (K25 k) 0 x.length)) (z25 x k) true := by
  have hm := mem4 hk
  have A := sxp_is known_none (map_at (s25a x) hm) AllT.nil
  have Rg := DoesL.toK (k := K25 k) (Does.toL (region25 x hk true [] []))
  have hfl : Nat.ble x.length (fullB x).length = true := Nat.ble_eq_true_of_le (by simp [fullB])
  have Z := sxp_is known_none (map_at (s25z x) hm) (AllT.cons hfl AllT.nil)
  have all : DoesK Try.prog (K25 k) (rowOf Try.prog 25) (in25 x k) .ret ⟨slots [(4, .one (.vw (K25 k) 0 x.length))], z25 x k, true, 37, K25 k, [], []⟩ := by
    have hpp := parts3 3 (rowOf Try.prog 25) (Nat.le_of_ble_eq_true len25)
    rw [← hpp]
    exact DoesK.append A (DoesK.append (l := [nthC (rowOf Try.prog 25) 3]) Rg Z)
  have hv := map_at (s25v x) hm
  have hn : 37 = lenV' [V.one (.pt 0 0), V.one (.dy 3)] + ((fnOf Try.prog 25).ntmps - lenV' [V.one (.pt 0 0), V.one (.dy 3)]) := by rw [Nat.eq_of_beq_eq_true tmps25]; rfl
  have hk' : k = 0 ∨ k = 1 ∨ k = 2 ∨ k = 3 := by omega
  rcases hk' with rfl | rfl | rfl | rfl
  · exact runsK_of (vs := [.one (.pt 0 0), .one (.dy 3)]) (hp := L25 x 0) code25 (.inr rfl) (n := 37) hn all hv
  · exact runsK_of (vs := [.one (.pt 0 0), .one (.dy 3)]) (hp := L25 x 1) code25 (.inr rfl) (n := 37) hn all hv
  · exact runsK_of (vs := [.one (.pt 0 0), .one (.dy 3)]) (hp := L25 x 2) code25 (.inr rfl) (n := 37) hn all hv
  · exact runsK_of (vs := [.one (.pt 0 0), .one (.dy 3)]) (hp := L25 x 3) code25 (.inr rfl) (n := 37) hn all hv
end
def eqDys : List C → Nat → Bool
  | [], _ => true
  | .dy r :: l, q => match Nat.beq r q with
    | true => eqDys l (q + 1)
    | false => false
  | _, _ => false
theorem eqDys_is : ∀ {l : List C} {q : Nat}, eqDys l q = true → l = dys q (lenC l)
  | [], _, _ => rfl
  | c :: l, q, h => by
    cases c with
    | dy r =>
      simp only [eqDys] at h
      split at h
      · rename_i hb
        rw [Nat.eq_of_beq_eq_true hb]
        simp only [lenC, dys]
        rw [← eqDys_is h]
      · cases h
    | _ => cases h
def eqDead : List Reg → Bool
  | [] => true
  | .dead :: l => eqDead l
  | _ => false
theorem eqDead_is : ∀ {l : List Reg}, eqDead l = true → l = deads (regLen l)
  | [], _ => rfl
  | R :: l, h => by
    cases R with
    | dead =>
      simp only [eqDead] at h
      simp only [regLen, deads]
      rw [← eqDead_is h]
    | _ => cases h
noncomputable def lendL : Tab := fun vs hp =>
  match vs, hp with
  | [.one (.pt 0 0), .one (.dy 3)], .own 49 [.dy 1, .dy 2] :: .dc 32 A :: .dc 32 B :: .rd x 3000 :: rest =>
    match eqDys A 4, eqDys B (4 + lenC A), Nat.beq (lenC B) (lenC A), eqDead rest, Nat.beq (regLen rest) (2 * lenC A), Nat.blt (lenC A) 4 with
    | true, true, true, true, true, true => some (.one (.vw (K25 (lenC A)) 0 x.length), z25 x (lenC A), true, none)
    | _, _, _, _, _, _ => none
  | _, _ => none
theorem klendL : Tells Try.prog 25 lendL := by
  intro vs hp v hp' chg ob h _
  unfold lendL at h
  split at h
  · rename_i A B x rest
    split at h
    · rename_i h1 h2 h3 h4 h5 h6
      cases h
      have e1 := eqDys_is h1
      have e2 := eqDys_is h2
      have e3 := Nat.eq_of_beq_eq_true h3
      have e4 := eqDead_is h4
      have e5 := Nat.eq_of_beq_eq_true h5
      have hk : lenC A < 4 := Nat.le_of_ble_eq_true h6
      have := runs25 x hk
      rw [e3] at e2
      rw [e5] at e4
      have eL : Reg.own 49 [.dy 1, .dy 2] :: Reg.dc 32 A :: Reg.dc 32 B :: Reg.rd x 3000 :: rest = L25 x (lenC A) := by
        show _ = [Reg.own 49 [.dy 1, .dy 2], .dc 32 (dys 4 (lenC A)), .dc 32 (dys (4 + lenC A) (lenC A)), .rd x 3000] ++ deads (2 * lenC A)
        rw [← e1, ← e2, ← e4]
        rfl
      rw [eL]
      exact this
    · cases h
  · cases h
def dysOf : List C → Option (List Nat)
  | [] => some []
  | .dy r :: l => match dysOf l with
    | some q => some (r :: q)
    | none => none
  | _ => none
def modes (m : Nat) : List Nat → List (Nat × Nat × Nat)
  | [] => []
  | r :: l => (r, m, 0) :: modes m l
def catT : List (Nat × Nat × Nat) → List (Nat × Nat × Nat) → List (Nat × Nat × Nat)
  | [], l => l
  | x :: l, l' => x :: catT l l'
noncomputable def lendPk (vs : List V) (hp : List Reg) : Option (List (Nat × Nat × Nat)) :=
  match vs with
  | [.one (.pt r _), .one (.dy q)] => match regAt r hp with
    | some (.own _ [.dy a, .dy b]) => match regAt a hp, regAt b hp with
      | some (.dc _ A), some (.dc _ B) => match dysOf A, dysOf B with
        | some A, some B => some ((r, 0, 0) :: (a, 0, 0) :: (b, 0, 0) :: (q, 1, 3000) :: catT (modes 3 A) (modes 3 B))
        | _, _ => none
      | _, _ => none
    | _ => none
  | _ => none
noncomputable def lendT : Tab := locT lendPk lendL
theorem klendT : Tells Try.prog 25 lendT := locT_tells klendL
end Go.Proofs.Sx
/- SHA-256 and RIPEMD-160 of bytes that have room behind them. -/
namespace Go.Proofs.Sx
open Go
set_option linter.unusedVariables false
section
variable (b x : By) (n : Nat) (low : Bool)
def padW (b : By) (n : Nat) : By := (b.drop 0).take n ++ [128#8]
noncomputable def pvIn (nt : Nat) : St := ⟨tmOf [.one (.vw 0 0 n), .one (.bl low)] 0 (T.full 8), [.rd b 3000], false, nt, 1, [], []⟩
noncomputable def pvS1 (nt : Nat) (bd : Nat) (ds : List Bool) : St := ⟨slots [(0, .one (.vw 0 0 n)), (1, .one (.bl low)), (5, .one (.dy 1))], [.rd b 3000, .dyn 5 x bd], true, nt, 1, [], ds⟩
def pvk1 : List (Nat × Bool) := [(0, false), (1, false), (5, false)]
noncomputable def pvS2 (nt s6 s7 bd : Nat) (v : C) : St := ⟨slots [(1, .one (.bl low)), (5, .one (.dy 1)), (6, .one (.w64 (BitVec.ofNat 64 n * 8#64))), (s7, .one v)], [.rd b 3000, .dyn 5 x bd], true, nt, 1, [], []⟩
theorem pv35a : sxp M0 (takeC 2 (rowOf Try.prog 35)) 1 [0, 3] pvk1 (pvIn b n low 46) = some (.normal, pvS1 b (padW b n) n low 46 3001 [], []) := by kernel_rfl
theorem pv35r : sxp M0 [inLoop (nthC (rowOf Try.prog 35) 2)] 1 [0, 3] pvk1 (pvS1 b x n low 46 3100 [true]) = some (.normal, pvS1 b (x ++ [0#8]) n low 46 3101 [], [ne56 x, true]) := by kernel_rfl
theorem pv35x : sxp M0 [inLoop (nthC (rowOf Try.prog 35) 2)] 1 [0, 1] pvk1 (pvS1 b x n low 46 3100 [false]) = some (.exit 0, pvS1 b x n low 46 3100 [], [!(ne56 x), true]) := by kernel_rfl
theorem pv35b : sxp M0 (takeC 2 (dropC 3 (rowOf Try.prog 35))) 1 [0, 1] (pk2 23) (pvS1 b x n low 46 3100 []) = some (.normal, pvS2 b x n low 46 6 23 3100 (.it 0), []) := by kernel_rfl
end
theorem padW_is (b : By) : padW b b.length = pad0 b := rfl
section
variable {f nt s7 : Nat} {id5 : By → Bool → Nat} (b : By) (low : Bool) (hb : b.length ≤ 3000)
    (hc : hasCode Try.prog f = true) (ht : Nat.beq (fnOf Try.prog f).ntmps nt = true) (hl : Nat.blt 2 (lenL (rowOf Try.prog f)) = true) (hl5 : Nat.blt 2 (lenL (dropC 3 (rowOf Try.prog f))) = true)
    (at2 : nthC (rowOf Try.prog f) 2 = .block 0 (.loop (inLoop (nthC (rowOf Try.prog f) 2)))) (at5 : nthC (dropC 3 (rowOf Try.prog f)) 2 = .block (id5 b low) (.loop (inLoop (nthC (rowOf Try.prog f) 5))))
    (d6 : dropC 3 (dropC 3 (rowOf Try.prog f)) = dropC 6 (rowOf Try.prog f)) (hn : 2 ≤ nt) {ixa ixr : List Nat}
    (ha : sxp M0 (takeC 2 (rowOf Try.prog f)) 1 ixa pvk1 (pvIn b b.length low nt) = some (.normal, pvS1 b (pad0 b) b.length low nt 3001 [], []))
    (hr : ∀ x, sxp M0 [inLoop (nthC (rowOf Try.prog f) 2)] 1 [0, 3] pvk1 (pvS1 b x b.length low nt 3100 [true]) = some (.normal, pvS1 b (x ++ [0#8]) b.length low nt 3101 [], [ne56 x, true]))
    (hx : ∀ x, sxp M0 [inLoop (nthC (rowOf Try.prog f) 2)] 1 [0, 1] pvk1 (pvS1 b x b.length low nt 3100 [false]) = some (.exit 0, pvS1 b x b.length low nt 3100 [], [!(ne56 x), true]))
    (h2 : ∀ x, sxp M0 (takeC 2 (dropC 3 (rowOf Try.prog f))) 1 [0, 1] (pk2 s7) (pvS1 b x b.length low nt 3100 []) = some (.normal, pS2 b x low nt 6 s7 3100 (.it 0), []))
    (hy : ∀ x, ∀ i, i < 8 → sxp M0 [inLoop (nthC (rowOf Try.prog f) 5)] 1 [0, 3] (pk2 s7) (pS2 b x low nt 6 s7 3200 (.it i)) = some (.normal, pS2 b (x ++ [lenAt b low i]) low nt 6 s7 3201 (.it (i + 1)), []))
    (he : ∀ x, sxp M0 [inLoop (nthC (rowOf Try.prog f) 5)] 1 [0, 1] (pk2 s7) (pS2 b x low nt 6 s7 3200 (.it 8)) = some (.exit (id5 b low), pS2 b x low nt 6 s7 3200 (.it 8), []))
    (hz : ∀ x, sxp M0 (dropC 6 (rowOf Try.prog f)) 1 [0, 1] [(4, false)] (pS2 b x low nt 6 s7 3200 (.it 8)) = some (.ret, pS3 b x nt, []))
    (hv : resV Try.prog (fnOf Try.prog f).results.toList (slots [(4, .one (.dy 1))]) [.rd b 3000, .dyn 5 (padL b low) 3200] = some (.one (.dy 1)))
include hb hc ht hl hl5 at2 at5 d6 hn ha hr hx h2 hy he hz hv
theorem padv_runs : Runs Try.prog f [.one (.vw 0 0 b.length), .one (.bl low)] [.rd b 3000] (.one (.dy 1)) [.rd b 3000, .dyn 5 (padL b low) 3200] true := by
  have hzn := zerosN_lt b
  have re1 : ∀ {l : List Code} {s : St} {e : Ex} {y : By} {bd : Nat}, y.length ≤ 3100 → DoesK Try.prog 1 l s e (pvS1 b y b.length low nt bd []) → DoesK Try.prog 1 l s e (pvS1 b y b.length low nt 3100 []) :=
    fun hy h => DoesK.rebd (r := 1) h rfl hy
  have re2 : ∀ {l : List Code} {s : St} {e : Ex} {y : By} {bd : Nat} {v : C}, y.length ≤ 3200 → DoesK Try.prog 1 l s e (pS2 b y low nt 6 s7 bd v) → DoesK Try.prog 1 l s e (pS2 b y low nt 6 s7 3200 v) :=
    fun hy h => DoesK.rebd (r := 1) h rfl hy
  have A : DoesK Try.prog 1 (takeC 2 (rowOf Try.prog f)) (pvIn b b.length low nt) .normal (pvS1 b (padZ b 0) b.length low nt 3100 []) := by
    have := sxp_is known_none ha AllT.nil
    have e0 : padZ b 0 = pad0 b := by simp [padZ]
    rw [e0]
    exact re1 (by rw [pad0_len]; omega) this
  have L1 : ∀ i, i < zerosN b → DoesK Try.prog 1 [inLoop (nthC (rowOf Try.prog f) 2)] (pvS1 b (padZ b i) b.length low nt 3100 []) .normal (pvS1 b (padZ b (i + 1)) b.length low nt 3100 []) := by
    intro i hi
    have hne : ne56 (padZ b i) = true := by
      unfold ne56
      rw [padZ_len]
      have := zerosN_not b hi
      cases hq : Nat.beq ((b.length + 1 + i) % 64) 56 with
      | false => rfl
      | true => exact absurd (Nat.eq_of_beq_eq_true hq) this
    have h := sxp_is known_none (hr (padZ b i)) (AllT.cons hne (AllT.cons rfl AllT.nil))
    rw [← padZ_succ]
    exact re1 (by rw [List.length_append, padZ_len, List.length_singleton]; omega) h
  have X1 : DoesK Try.prog 1 [inLoop (nthC (rowOf Try.prog f) 2)] (pvS1 b (padZ b (zerosN b)) b.length low nt 3100 []) (.exit 0) (pvS1 b (padZ b (zerosN b)) b.length low nt 3100 []) := by
    refine sxp_is known_none (hx (padZ b (zerosN b))) (AllT.cons ?_ (AllT.cons rfl AllT.nil))
    unfold ne56
    rw [padZ_len, zerosN_mod]
    rfl
  have Bm : DoesK Try.prog 1 (takeC 2 (dropC 3 (rowOf Try.prog f))) (pvS1 b (padZ b (zerosN b)) b.length low nt 3100 []) .normal (pS2 b (padZ b (zerosN b) ++ lens b low 0) low nt 6 s7 3200 (.it 0)) := by
    have h := sxp_is known_none (h2 (padZ b (zerosN b))) AllT.nil
    have e0 : padZ b (zerosN b) ++ lens b low 0 = padZ b (zerosN b) := by simp [lens]
    rw [e0]
    exact re2 (by rw [padZ_len]; omega) h
  have L2 : ∀ i, i < 8 → DoesK Try.prog 1 [inLoop (nthC (rowOf Try.prog f) 5)] (pS2 b (padZ b (zerosN b) ++ lens b low i) low nt 6 s7 3200 (.it i)) .normal (pS2 b (padZ b (zerosN b) ++ lens b low (i + 1)) low nt 6 s7 3200 (.it (i + 1))) := by
    intro i hi
    have h := sxp_is known_none (hy (padZ b (zerosN b) ++ lens b low i) i hi) AllT.nil
    have e : padZ b (zerosN b) ++ lens b low (i + 1) = padZ b (zerosN b) ++ lens b low i ++ [lenAt b low i] := by simp [lens]
    rw [e]
    exact re2 (by simp only [List.length_append, padZ_len, lens_len, List.length_singleton]; omega) h
  have X2 := sxp_is known_none (he (padZ b (zerosN b) ++ lens b low 8)) AllT.nil
  have Z := sxp_is known_none (hz (padZ b (zerosN b) ++ lens b low 8)) AllT.nil
  have tail : DoesK Try.prog 1 (dropC 3 (rowOf Try.prog f)) (pvS1 b (padZ b (zerosN b)) b.length low nt 3100 []) .ret (pS3 b (padL b low) nt) :=
    DoesK.three (N := 8) (s := fun i => pS2 b (padZ b (zerosN b) ++ lens b low i) low nt 6 s7 3200 (.it i)) (Nat.le_of_ble_eq_true hl5) at5 Bm L2 X2 (by rw [d6]; exact Z)
  have all : DoesK Try.prog 1 (rowOf Try.prog f) (pvIn b b.length low nt) .ret (pS3 b (padL b low) nt) :=
    DoesK.three (N := zerosN b) (s := fun i => pvS1 b (padZ b i) b.length low nt 3100 []) (Nat.le_of_ble_eq_true hl) at2 A L1 X1 tail
  exact runsK_of (vs := [.one (.vw 0 0 b.length), .one (.bl low)]) (hp := [.rd b 3000]) hc (.inr rfl) (n := nt) (by rw [Nat.eq_of_beq_eq_true ht]; simp only [lenV']; omega) all hv
end
theorem runs35v (b : By) (low : Bool) (hb : b.length ≤ 3000) : Runs Try.prog 35 [.one (.vw 0 0 b.length), .one (.bl low)] [.rd b 3000] (.one (.dy 1)) [.rd b 3000, .dyn 5 (padL b low) 3200] true :=
  padv_runs (s7 := 23) (id5 := fun _ _ => blkN (nthC (rowOf Try.prog 35) 5)) b low hb code35 tmps35 len35 len35' at35 at35' d35 (by decide) (pv35a b b.length low) (fun x => pv35r b x b.length low) (fun x => pv35x b x b.length low) (fun x => pv35b b x b.length low) (fun x i hi => y35 b x low i hi) (fun x => e35 b x low) (fun x => p35z b x low) (v35 b _)
/-- the padding of bytes cut whole out of region 0 -/
noncomputable def padVL : Tab := fun vs hp =>
  match vs, hp with
  | [.one (.vw 0 0 n), .one (.bl low)], [.rd b 3000] => some (.one (.dy 1), [.rd b 3000, .dyn 5 (padL b low) 3200], true, some (Nat.ble b.length 3000 && Nat.beq n b.length))
  | _, _ => none
theorem kpadVL : Tells Try.prog 35 padVL := by
  intro vs hp v hp' chg ob h hob
  unfold padVL at h
  split at h
  · rename_i n low b
    cases h
    have := hob _ rfl
    rw [Bool.and_eq_true] at this
    have e := Nat.eq_of_beq_eq_true this.2
    subst e
    exact runs35v b low (Nat.le_of_ble_eq_true this.1)
  · cases h
noncomputable def vwPk (bd : Nat) (vs : List V) (hp : List Reg) : Option (List (Nat × Nat × Nat)) :=
  match vs with
  | .one (.vw r _ _) :: _ => some [(r, 1, bd)]
  | _ => none
noncomputable def padVT : Tab := locT (vwPk 3000) padVL
theorem kpadVT : Tells Try.prog 35 padVT := locT_tells kpadVL
noncomputable def M8v : Kn := addK (addK M7 35 padVT) 36 shaWM
theorem known8v : Known Try.prog M8v := known_add (known_add known7 kpadVT) kshaW
noncomputable def Mpv : Kn := addK (addK (addK (addK M0 35 padVT) 41 (lineM false)) 42 (lineM true)) 43 goesM
theorem knownpv : Known Try.prog Mpv := known_add (known_add (known_add (known_add known_none kpadVT) (kline f41)) (kline f42)) kgoes
section
variable (b p : By) (n : Nat)
noncomputable def shInV : St := ⟨tmOf [.one (.vw 0 0 n)] 0 (T.full 8), [.rd b 3000], false, 143, 1, [], []⟩
theorem h17av : sxp M8v (takeC 4 (rowOf Try.prog 17)) 1 [0, 1, 2, 3, 4] shk (shInV b n) = some (.normal, shS b (padL b false) (.dy 4) h0L [], [Nat.ble b.length 3000 && true && (Nat.ble b.length 3000 && Nat.beq n b.length)]) := by kernel_rfl
noncomputable def rInV : St := ⟨tmOf [.one (.vw 0 0 n)] 0 (T.full 8), [.rd b 3000], false, 110, 1, [], []⟩
theorem h19av : sxp Mpv (takeC 4 (rowOf Try.prog 19)) 1 [0, 1, 2, 3, 4, 5] rk (rInV b n) = some (.normal, rS b (padL b true) (.dy 5) h0R [], [Nat.ble b.length 3000 && true && (Nat.ble b.length 3000 && Nat.beq n b.length)]) := by kernel_rfl
end
theorem okV {b : By} (hb : b.length ≤ 3000) : (Nat.ble b.length 3000 && true && (Nat.ble b.length 3000 && Nat.beq b.length b.length)) = true := by
  rw [Nat.ble_eq_true_of_le hb, Nat.beq_refl]; rfl
theorem runs17v (b : By) (hb : b.length ≤ 3000) : ∃ hp1, Runs Try.prog 17 [.one (.vw 0 0 b.length)] [.rd b 3000] (.ag (toC8 (shaB (padL b false)))) hp1 true := by
  have hm := padL_mod b false
  have hle := padL_le b false hb
  generalize hp : padL b false = p at hm hle
  have A : DoesK Try.prog 1 (takeC 4 (rowOf Try.prog 17)) (shInV b b.length) .normal (shS b p (.vw 4 (64 * 0) (p.length - 64 * 0)) (hashS p 0) []) := by
    have h := sxp_is known8v (h17av b b.length) (AllT.cons (okV hb) AllT.nil)
    rw [hp] at h
    refine DoesK.view (r := 4) (x := p) h rfl fun i v hv => ?_
    have hv := slots_get _ _ _ hv
    simp only [List.mem_cons, List.not_mem_nil, or_false, Prod.mk.injEq] at hv
    rcases hv with ⟨rfl, rfl⟩ | ⟨rfl, rfl⟩ | ⟨rfl, rfl⟩ | ⟨rfl, rfl⟩
    · exact .inl (by kernel_rfl)
    · exact .inl (by kernel_rfl)
    · exact .inl (by kernel_rfl)
    · exact .inr ⟨by kernel_rfl, rfl⟩
  have R1 : ∀ k, k < p.length / 64 → DoesK Try.prog 1 [inLoop (nthC (rowOf Try.prog 17) 4)] (shS b p (.vw 4 (64 * k) (p.length - 64 * k)) (hashS p k) []) .normal (shS b p (.vw 4 (64 * (k + 1)) (p.length - 64 * (k + 1))) (hashS p (k + 1)) []) := by
    intro k hk
    have h := body_does b p (64 * k) (p.length - 64 * k) (by omega) (hashS p k) (hashS_len p k)
    rw [show 64 * (k + 1) = 64 * k + 64 by omega, show p.length - (64 * k + 64) = p.length - 64 * k - 64 by omega]
    exact h
  have eF := eq_lst32 (hashS_len p (p.length / 64))
  have X1 : DoesK Try.prog 1 [inLoop (nthC (rowOf Try.prog 17) 4)] (shS b p (.vw 4 (64 * (p.length / 64)) (p.length - 64 * (p.length / 64))) (hashS p (p.length / 64)) []) (.exit (blkN (nthC (rowOf Try.prog 17) 4))) (shS b p (.vw 4 (64 * (p.length / 64)) (p.length - 64 * (p.length / 64))) (hashS p (p.length / 64)) []) := by
    have f := h17x b p (nth32 (hashS p (p.length / 64))) (64 * (p.length / 64)) (p.length - 64 * (p.length / 64))
    simp only [← eF] at f
    have h0 : p.length - 64 * (p.length / 64) = 0 := by omega
    have hx : DoesK Try.prog 1 s17 (shS b p (.vw 4 (64 * (p.length / 64)) (p.length - 64 * (p.length / 64))) (hashS p (p.length / 64)) []) (.exit (blkN (nthC (rowOf Try.prog 17) 4))) (shS b p (.vw 4 (64 * (p.length / 64)) (p.length - 64 * (p.length / 64))) (hashS p (p.length / 64)) []) := by
      have hpz := parts3 2 s17 (Nat.le_of_ble_eq_true len17s)
      have h2 := sxp_is known8 f (AllT.cons (by rw [h0]; rfl) AllT.nil)
      rw [← hpz]
      intro B w0 wc E a w Q hR hQ
      have key : ∀ (l l' : List Code) (a : Act) (w : World), wpL Try.prog l (fun e a w => e ≠ .normal ∧ Q e a w) a w → wpL Try.prog (l ++ l') Q a w := by
        intro l l'
        induction l with
        | nil => intro a w h; exact absurd rfl h.1
        | cons c cs ih =>
          intro a w h
          refine Code.wp_mono (fun e a w h => ?_) h
          cases e with
          | normal => exact ih a w h
          | _ => exact h.2
      exact key _ _ a w (h2 B w0 wc E a w _ hR fun E1 a1 w1 hE hR1 => ⟨by simp [Ex.to], hQ E1 a1 w1 hE hR1⟩)
    intro B w0 wc E a w Q hR hQ
    refine Code.wp_mono (fun e a w h => ?_) (wp_spine (inLoop (nthC (rowOf Try.prog 17) 4)) Q a w (hx B w0 wc E a w Q hR hQ))
    cases e <;> exact h
  have O0 : DoesK Try.prog 1 (takeC 2 (dropC 5 (rowOf Try.prog 17))) (shS b p (.vw 4 (64 * (p.length / 64)) (p.length - 64 * (p.length / 64))) (hashS p (p.length / 64)) []) .normal (shO b (hashS p (p.length / 64)) (outsS (hashS p (p.length / 64)) 0) 0) := by
    have f := h17g b p (nth32 (hashS p (p.length / 64))) (64 * (p.length / 64)) (p.length - 64 * (p.length / 64))
    simp only [← eF] at f
    exact sxp_is known8 f AllT.nil
  have O1 : ∀ j, j < 32 → DoesK Try.prog 1 [inLoop (nthC (rowOf Try.prog 17) 7)] (shO b (hashS p (p.length / 64)) (outsS (hashS p (p.length / 64)) j) j) .normal (shO b (hashS p (p.length / 64)) (outsS (hashS p (p.length / 64)) (j + 1)) (j + 1)) := by
    intro j hj
    have f := map_at (h17o b (nth32 (hashS p (p.length / 64))) (nthB8 (outsS (hashS p (p.length / 64)) j))) (a := j) (by simp; omega)
    simp only [← eF, ← eq_lst8 (outsS_len _ j)] at f
    exact sxp_is known8 f AllT.nil
  have O2 : DoesK Try.prog 1 [inLoop (nthC (rowOf Try.prog 17) 7)] (shO b (hashS p (p.length / 64)) (outsS (hashS p (p.length / 64)) 32) 32) (.exit (blkN (nthC (rowOf Try.prog 17) 7))) (shO b (hashS p (p.length / 64)) (outsS (hashS p (p.length / 64)) 32) 32) := by
    have f := h17p b (nth32 (hashS p (p.length / 64))) (nthB8 (outsS (hashS p (p.length / 64)) 32))
    simp only [← eF, ← eq_lst8 (outsS_len _ 32)] at f
    exact sxp_is known8 f AllT.nil
  have O3 : DoesK Try.prog 1 (dropC 8 (rowOf Try.prog 17)) (shO b (hashS p (p.length / 64)) (outsS (hashS p (p.length / 64)) 32) 32) .ret (shZ b (shaB p)) := by
    have f := h17q b (nth32 (hashS p (p.length / 64))) (nthB8 (outsS (hashS p (p.length / 64)) 32))
    simp only [← eF, ← eq_lst8 (outsS_len _ 32)] at f
    exact sxp_is known8 f AllT.nil
  have tail : DoesK Try.prog 1 (dropC 5 (rowOf Try.prog 17)) (shS b p (.vw 4 (64 * (p.length / 64)) (p.length - 64 * (p.length / 64))) (hashS p (p.length / 64)) []) .ret (shZ b (shaB p)) :=
    DoesK.three (N := 32) (s := fun j => shO b (hashS p (p.length / 64)) (outsS (hashS p (p.length / 64)) j) j) (Nat.le_of_ble_eq_true len17') at17' O0 O1 O2 (by rw [d17]; exact O3)
  have all : DoesK Try.prog 1 (rowOf Try.prog 17) (shInV b b.length) .ret (shZ b (shaB p)) :=
    DoesK.three (N := p.length / 64) (s := fun k => shS b p (.vw 4 (64 * k) (p.length - 64 * k)) (hashS p k) []) (Nat.le_of_ble_eq_true len17) at17 A R1 X1 tail
  have hv := h17v b (nthB8 (shaB p))
  simp only [← eq_lst8 (show (shaB p).length = 32 from outsS_len _ 32)] at hv
  exact ⟨_, runsK_of (vs := [.one (.vw 0 0 b.length)]) (hp := [.rd b 3000]) code17 (.inr rfl) (n := 143) (by rw [Nat.eq_of_beq_eq_true tmps17]; rfl) all hv⟩
theorem runs19v (b : By) (hb : b.length ≤ 3000) : ∃ hp1, Runs Try.prog 19 [.one (.vw 0 0 b.length)] [.rd b 3000] (.ag (toC8 (ripH (padL b true)))) hp1 true := by
  have hm := padL_mod b true
  have hle := padL_le b true hb
  generalize hp : padL b true = p at hm hle
  have A : DoesK Try.prog 1 (takeC 4 (rowOf Try.prog 19)) (rInV b b.length) .normal (rS b p (.vw 5 (64 * 0) (p.length - 64 * 0)) (hashR p 0) []) := by
    have h := sxp_is knownpv (h19av b b.length) (AllT.cons (okV hb) AllT.nil)
    rw [hp] at h
    refine DoesK.view (r := 5) (x := p) h rfl fun i v hv => ?_
    have hv := slots_get _ _ _ hv
    simp only [List.mem_cons, List.not_mem_nil, or_false, Prod.mk.injEq] at hv
    rcases hv with ⟨rfl, rfl⟩ | ⟨rfl, rfl⟩ | ⟨rfl, rfl⟩ | ⟨rfl, rfl⟩ | ⟨rfl, rfl⟩
    · exact .inl (by kernel_rfl)
    · exact .inl (by kernel_rfl)
    · exact .inl (by kernel_rfl)
    · exact .inl (by kernel_rfl)
    · exact .inr ⟨by kernel_rfl, rfl⟩
  have R1 : ∀ k, k < p.length / 64 → DoesK Try.prog 1 [inLoop (nthC (rowOf Try.prog 19) 4)] (rS b p (.vw 5 (64 * k) (p.length - 64 * k)) (hashR p k) []) .normal (rS b p (.vw 5 (64 * (k + 1)) (p.length - 64 * (k + 1))) (hashR p (k + 1)) []) := by
    intro k hk
    have h := rip_body b p (64 * k) (p.length - 64 * k) (by omega) (hashR p k) (hashR_len p k)
    rw [show 64 * (k + 1) = 64 * k + 64 by omega, show p.length - (64 * k + 64) = p.length - 64 * k - 64 by omega]
    exact h
  have eF := eq_lst32 (hashR_len p (p.length / 64))
  have X1 : DoesK Try.prog 1 [inLoop (nthC (rowOf Try.prog 19) 4)] (rS b p (.vw 5 (64 * (p.length / 64)) (p.length - 64 * (p.length / 64))) (hashR p (p.length / 64)) []) (.exit (blkN (nthC (rowOf Try.prog 19) 4))) (rS b p (.vw 5 (64 * (p.length / 64)) (p.length - 64 * (p.length / 64))) (hashR p (p.length / 64)) []) := by
    have f := h19x b p (nth32 (hashR p (p.length / 64))) (64 * (p.length / 64)) (p.length - 64 * (p.length / 64))
    simp only [← eF] at f
    have h0 : p.length - 64 * (p.length / 64) = 0 := by omega
    refine DoesK.ofSpine ?_
    show DoesK Try.prog 1 rip4 _ _ _
    have hpz := parts3 2 rip4 (Nat.le_of_ble_eq_true len19s)
    rw [← hpz]
    exact DoesK.early _ (sxp_is knownp f (AllT.cons (by rw [h0]; rfl) AllT.nil))
  have O0 : DoesK Try.prog 1 (takeC 2 (dropC 5 (rowOf Try.prog 19))) (rS b p (.vw 5 (64 * (p.length / 64)) (p.length - 64 * (p.length / 64))) (hashR p (p.length / 64)) []) .normal (rO b (hashR p (p.length / 64)) (outsR (hashR p (p.length / 64)) 0) 0) := by
    have f := h19g b p (nth32 (hashR p (p.length / 64))) (64 * (p.length / 64)) (p.length - 64 * (p.length / 64))
    simp only [← eF] at f
    exact sxp_is knownp f AllT.nil
  have O1 : ∀ j, j < 20 → DoesK Try.prog 1 [inLoop (nthC (rowOf Try.prog 19) 7)] (rO b (hashR p (p.length / 64)) (outsR (hashR p (p.length / 64)) j) j) .normal (rO b (hashR p (p.length / 64)) (outsR (hashR p (p.length / 64)) (j + 1)) (j + 1)) := by
    intro j hj
    have f := map_at (h19o b (nth32 (hashR p (p.length / 64))) (nthB8 (outsR (hashR p (p.length / 64)) j))) (a := j) (by simp; omega)
    simp only [← eF, ← eq_lst8 (outsR_len _ j)] at f
    exact sxp_is knownp f AllT.nil
  have O2 : DoesK Try.prog 1 [inLoop (nthC (rowOf Try.prog 19) 7)] (rO b (hashR p (p.length / 64)) (outsR (hashR p (p.length / 64)) 20) 20) (.exit (blkN (nthC (rowOf Try.prog 19) 7))) (rO b (hashR p (p.length / 64)) (outsR (hashR p (p.length / 64)) 20) 20) := by
    have f := h19p b (nth32 (hashR p (p.length / 64))) (nthB8 (outsR (hashR p (p.length / 64)) 20))
    simp only [← eF, ← eq_lst8 (outsR_len _ 20)] at f
    exact sxp_is knownp f AllT.nil
  have O3 : DoesK Try.prog 1 (dropC 8 (rowOf Try.prog 19)) (rO b (hashR p (p.length / 64)) (outsR (hashR p (p.length / 64)) 20) 20) .ret (rZ b 110 (ripH p)) := by
    have f := h19q b (nth32 (hashR p (p.length / 64))) (nthB8 (outsR (hashR p (p.length / 64)) 20))
    simp only [← eF, ← eq_lst8 (outsR_len _ 20)] at f
    exact sxp_is knownp f AllT.nil
  have tail : DoesK Try.prog 1 (dropC 5 (rowOf Try.prog 19)) (rS b p (.vw 5 (64 * (p.length / 64)) (p.length - 64 * (p.length / 64))) (hashR p (p.length / 64)) []) .ret (rZ b 110 (ripH p)) :=
    DoesK.three (N := 20) (s := fun j => rO b (hashR p (p.length / 64)) (outsR (hashR p (p.length / 64)) j) j) (Nat.le_of_ble_eq_true len19') at19' O0 O1 O2 (by rw [d19]; exact O3)
  have all : DoesK Try.prog 1 (rowOf Try.prog 19) (rInV b b.length) .ret (rZ b 110 (ripH p)) :=
    DoesK.three (N := p.length / 64) (s := fun k => rS b p (.vw 5 (64 * k) (p.length - 64 * k)) (hashR p k) []) (Nat.le_of_ble_eq_true len19) at19 A R1 X1 tail
  have hv := h19v b (nthB8 (ripH p))
  simp only [← eq_lst8 (show (ripH p).length = 20 from outsR_len _ 20)] at hv
  exact ⟨_, runsK_of (vs := [.one (.vw 0 0 b.length)]) (hp := [.rd b 3000]) code19' (.inr rfl) (n := 110) (by rw [Nat.eq_of_beq_eq_true tmps19']; rfl) all hv⟩
theorem Runs.readW {P : Program} {f : FuncId} {vs : List V} {v : V} {b : By} {bd bd' r i n : Nat} {hp1 : List Reg} {chg : Bool} (h : Runs P f (.one (.vw 0 0 n) :: vs) [.rd ((b.drop i).take n) bd] v hp1 chg) (hv : plainV vs = true) (hr : v.plain = true) {hp : List Reg} {R : Reg} (hat : hp[r]? = some R) (hb : R.bytes = some (b, bd')) (hle : n ≤ bd) :
    Runs P f (.one (.vw r i n) :: vs) hp v hp false := by
  intro B w0 E us w hvs hh
  cases us with
  | nil => exact hvs.elim
  | cons u us =>
    obtain ⟨hu, hvs⟩ := hvs
    obtain ⟨A, L, K, A', c, h1, rfl, h3, h4, h5, h6⟩ := hu
    obtain ⟨A2, K2, g1, g2, g3, g4, g5⟩ := (hh.at_ r R hat).bytes hb
    rw [h1] at g1
    injection g1 with e1
    injection e1 with e1
    injection e1 with e1 e2 e3
    subst e1 e2 e3
    have hlen : ((b.drop i).take n).length = n := by rw [List.length_take, List.length_drop]; omega
    have hreg : RegIs ⟨[.sv (.slice A' n c)]⟩ w 0 (.rd ((b.drop i).take n) bd) := by
      refine ⟨A', c, by rw [hlen]; rfl, by rw [hlen]; exact hle, by rw [hlen]; exact h5, h6, fun j y hj => ?_⟩
      have hjn : j < n := by
        rcases Nat.lt_or_ge j n with h | h
        · exact h
        · rw [List.getElem?_eq_none (by rw [hlen]; exact h)] at hj; cases hj
      obtain ⟨ad, ha, ha'⟩ := h3 (by omega)
      rw [List.getElem?_take_of_lt hjn, List.getElem?_drop] at hj
      obtain ⟨ad2, ha2, hcell⟩ := g5 (i + j) y hj
      rw [ha] at ha2
      cases ha2
      exact ⟨ad.add i, ha', by rw [add_add]; exact hcell⟩
    have hblk : ∀ g, (Value.slice A' n c).ownBlock = some g → 0 < n → g < w.heap.size := by
      intro g hg hn
      obtain ⟨ad, ha, ha'⟩ := h3 hn
      refine hh.lt r _ g h1 ?_
      subst ha ha'
      have e : (ad.add i).block = ad.block := by unfold Addr.add; split <;> rfl
      simpa [Ent.blk, Value.ownBlock, e] using hg
    by_cases hn : 0 < n
    · refine Calls.mono (h (fun _ => False) w ⟨[.sv (.slice A' n c)]⟩ _ w ⟨⟨A', n, c, A', c, by rw [show (([.sv (.slice A' n c)] : List Ent)[0]? = some (.sv (.slice A' n c))) from rfl], rfl, fun h => ?_, by omega, h5, h6⟩, plainV_is hv hvs⟩ (HR.alone hreg fun g hg => hblk g hg hn)) fun e w1 ⟨E1, x, _, he, hx, hh1, _⟩ => ?_
      · obtain ⟨ad, _, ha'⟩ := h3 h
        subst ha'
        exact ⟨_, rfl, by simp [Addr.add]⟩
      · have hg := hh1.grew
        refine ⟨E, x, E.le_refl, he, V.plain_is hr hx, hh.grow hg, fun _ => ⟨hg, fun q y g hq hy _ => ?_⟩⟩
        rw [hh.len] at hq
        rw [List.getElem?_eq_none hq] at hy
        cases hy
    · have h0 : n = 0 := by omega
      subst h0
      refine Calls.mono (h (fun _ => False) w ⟨[.sv (.slice none 0 0)]⟩ (.slice A' 0 c :: us) w ⟨⟨none, 0, 0, A', c, rfl, rfl, fun h => absurd h (by omega), by omega, h5, h6⟩, plainV_is hv hvs⟩ (HR.alone ⟨none, 0, by simp, by simp, by simp, by simp [maxLen], fun j y hj => by simp at hj⟩ fun g hg => by cases hg)) fun e w1 ⟨E1, x, _, he, hx, hh1, _⟩ => ?_
      have hg := hh1.grew
      refine ⟨E, x, E.le_refl, he, V.plain_is hr hx, hh.grow hg, fun _ => ⟨hg, fun q y g hq hy _ => ?_⟩⟩
      rw [hh.len] at hq
      rw [List.getElem?_eq_none hq] at hy
      cases hy
/-- A hash of bytes cut out of a region. -/
noncomputable def cutM (g : By → By) (n : Nat) : Tab := fun vs hp =>
  match vs with
  | [.one (.vw r i m)] => match regAt r hp with
    | some R => match R.bytes with
      | some (b, _) => some (.ag (toC8 (lst8 (nthB8 (g ((b.drop i).take m))) 0 n)), hp, false, some (Nat.ble m 3000 && Nat.ble (i + m) b.length))
      | none => none
    | none => none
  | _ => none
theorem kcut {f : FuncId} {g : By → By} {n : Nat} (hn : ∀ b, (g b).length = n) (hf : ∀ b : By, b.length ≤ 3000 → ∃ hp1, Runs Try.prog f [.one (.vw 0 0 b.length)] [.rd b 3000] (.ag (toC8 (g b))) hp1 true) : Tells Try.prog f (cutM g n) := by
  intro vs hp v hp' chg ob h hob
  unfold cutM at h
  split at h
  · rename_i r i m
    split at h
    · rename_i R hR
      split at h
      · rename_i b bd hb
        cases h
        rw [regAt_eq] at hR
        have := hob _ rfl
        rw [Bool.and_eq_true] at this
        have h1 := Nat.le_of_ble_eq_true this.1
        have h2 := Nat.le_of_ble_eq_true this.2
        have hlen : ((b.drop i).take m).length = m := by rw [List.length_take, List.length_drop]; omega
        obtain ⟨hp1, hr⟩ := hf ((b.drop i).take m) (by omega)
        rw [hlen] at hr
        rw [← eq_lst8 (hn _)]
        exact Runs.readW (vs := []) hr rfl (by simp only [V.plain, toC8_plain]) hR hb h1
      · cases h
    · cases h
  · cases h
noncomputable def shaVT : Tab := cutM shaG 32
noncomputable def ripVT : Tab := cutM ripG' 20
theorem kshaVT : Tells Try.prog 17 shaVT := kcut shaG_len runs17v
theorem kripVT : Tells Try.prog 19 ripVT := kcut ripG_len runs19v
end Go.Proofs.Sx
/- A sponge is fed bytes that have room behind them. -/
namespace Go.Proofs.Sx
open Go
set_option linter.unusedVariables false
/-! a sponge is fed -/
section
variable (b x m : By) (a : Nat → W) (i n : Nat)
noncomputable def wvIn (c : C) (y p : By) (ws : List W) : St := ⟨tmOf [.one (.pt 0 0), .one c] 0 (T.full 8), [.own 61 (toC ws ++ [.dy 1]), .dyn 5 y 135, .rd p 3005], false, 37, 3, [], []⟩
noncomputable def wvS (p m : By) (ws : List W) (ds : List Bool) : St := ⟨slots [(0, .one (.pt 0 0))], [.own 61 (toC ws ++ [.dy 3]), .dead, .rd p 3005, .dyn 5 m 3140], true, 37, 3, [], ds⟩
def wvk : List (Nat × Bool) := [(0, false)]
theorem kv23a : sxp Mn (takeC 1 (rowOf Try.prog 23)) 3 [0, 1, 2, 3] wvk (wvIn (.vw 2 i n) x b (lst a 0 25)) = some (.normal, wvS b (x ++ (b.drop i).take n) (lst a 0 25) [], []) := by kernel_rfl
theorem kv23r : sxp Mn [inLoop (nthC (rowOf Try.prog 23) 1)] 3 [0, 1, 2, 4] wvk (wvS b m (lst a 0 25) [true]) = some (.normal, wvS b ((m.drop (0 + 136)).take (m.length - 136)) (lst (nthW (absK (lst a 0 25) (byteP m 0))) 0 25) [], [Nat.ble 136 m.length, true, Nat.ble 136 m.length, Nat.ble 136 m.length]) := by kernel_rfl
theorem kv23x : sxp Mn [inLoop (nthC (rowOf Try.prog 23) 1)] 3 [0, 1, 2, 3] wvk (wvS b m (lst a 0 25) [false]) = some (.exit (blkN (nthC (rowOf Try.prog 23) 1)), wvS b m (lst a 0 25) [], [!(Nat.ble 136 m.length)]) := by kernel_rfl
end
theorem runs23v (ws : List W) (hl : ws.length = 25) (y p : By) (i n : Nat) (hy : y.length ≤ 135) (hp : p.length ≤ 3005) :
    Runs Try.prog 23 [.one (.pt 0 0), .one (.vw 2 i n)] [.own 61 (toC ws ++ [.dy 1]), .dyn 5 y 135, .rd p 3005] .un
      [.own 61 (toC (kW ws (y ++ (p.drop i).take n) ((y ++ (p.drop i).take n).length / 136)) ++ [.dy 3]), .dead, .rd p 3005, .dyn 5 ((y ++ (p.drop i).take n).drop (136 * ((y ++ (p.drop i).take n).length / 136))) 135] true := by
  have A : DoesK Try.prog 3 (takeC 1 (rowOf Try.prog 23)) (wvIn (.vw 2 i n) y p ws) .normal (wvS p (y ++ (p.drop i).take n) ws []) := by
    have f := kv23a p y (nthW ws) i n
    simp only [← eq_lst hl] at f
    exact sxp_is knownn f AllT.nil
  generalize hm : y ++ (p.drop i).take n = m at A
  have eK := fun k => eq_lst (kW_len hl m k)
  have A' : DoesK Try.prog 3 (takeC 1 (rowOf Try.prog 23)) (wvIn (.vw 2 i n) y p ws) .normal (wvS p (m.drop (136 * 0)) (kW ws m 0) []) := by
    rw [show m.drop (136 * 0) = m by simp]
    exact A
  have R : ∀ k, k < m.length / 136 → DoesK Try.prog 3 [inLoop (nthC (rowOf Try.prog 23) 1)] (wvS p (m.drop (136 * k)) (kW ws m k) []) .normal (wvS p (m.drop (136 * (k + 1))) (kW ws m (k + 1)) []) := by
    intro k hk
    have hdl : (m.drop (136 * k)).length = m.length - 136 * k := List.length_drop
    have f := kv23r p (m.drop (136 * k)) (nthW (kW ws m k))
    simp only [← eK] at f
    rw [← eq_lst (absK_len _ (kW_len hl m k))] at f
    have e1 : absK (kW ws m k) (byteP (m.drop (136 * k)) 0) = kW ws m (k + 1) := by
      show _ = absK (kW ws m k) (byteP m (0 + 136 * k))
      refine absK_ext _ fun j _ => ?_
      show BitVec.setWidth 64 _ = BitVec.setWidth 64 _
      rw [List.getD_eq_getElem?_getD, List.getD_eq_getElem?_getD, List.getElem?_drop]
      simp only [Nat.zero_add]
    have e2 : ((m.drop (136 * k)).drop (0 + 136)).take ((m.drop (136 * k)).length - 136) = m.drop (136 * (k + 1)) := by
      rw [List.drop_drop, hdl, List.take_of_length_le (by rw [List.length_drop]; omega)]
      congr 1
    rw [e1, e2] at f
    have h1 : Nat.ble 136 (m.drop (136 * k)).length = true := Nat.ble_eq_true_of_le (by omega)
    exact sxp_is knownn f (AllT.cons h1 (AllT.cons rfl (AllT.cons h1 (AllT.cons h1 AllT.nil))))
  have X : DoesK Try.prog 3 [inLoop (nthC (rowOf Try.prog 23) 1)] (wvS p (m.drop (136 * (m.length / 136))) (kW ws m (m.length / 136)) []) (.exit (blkN (nthC (rowOf Try.prog 23) 1))) (wvS p (m.drop (136 * (m.length / 136))) (kW ws m (m.length / 136)) []) := by
    have hdl : (m.drop (136 * (m.length / 136))).length = m.length - 136 * (m.length / 136) := List.length_drop
    have f := kv23x p (m.drop (136 * (m.length / 136))) (nthW (kW ws m (m.length / 136)))
    simp only [← eK] at f
    refine sxp_is knownn f (AllT.cons ?_ AllT.nil)
    cases hq : Nat.ble 136 (m.drop (136 * (m.length / 136))).length with
    | false => rfl
    | true => have := Nat.le_of_ble_eq_true hq; omega
  have all : DoesK Try.prog 3 (rowOf Try.prog 23) (wvIn (.vw 2 i n) y p ws) .normal (wvS p (m.drop (136 * (m.length / 136))) (kW ws m (m.length / 136)) []) :=
    DoesK.three (N := m.length / 136) (s := fun k => wvS p (m.drop (136 * k)) (kW ws m k) []) (Nat.le_of_ble_eq_true len23) at23 A' R X (by rw [drop23]; exact DoesK.same _)
  have all2 := DoesK.rebd (r := 3) (bd' := 135) all rfl (by rw [List.length_drop]; omega)
  exact runsK_of (vs := [.one (.pt 0 0), .one (.vw 2 i n)]) (hp := [.own 61 (toC ws ++ [C.dy 1]), .dyn 5 y 135, .rd p 3005]) code23 (.inl rfl) (n := 37) (by rw [Nat.eq_of_beq_eq_true tmps23]; rfl) all2 (by rw [res23]; rfl)
noncomputable def feedVv (ws : List W) (m p : By) : V × List Reg × Bool × Option Bool :=
  (.un, [.own 61 (toC (lst (nthW (fedW ws m)) 0 25) ++ [.dy 3]), .dead, .rd p 3005, .dyn 5 (fedY m) 135], true, none)
noncomputable def feedLv : Tab := fun vs hp =>
  match vs, hp with
  | [.one (.pt 0 0), .one c], [.own 61 cs, .dyn 5 y 135, .rd p 3005] => match splitW 25 cs, c with
    | some (ws, [.dy 1]), .vw 2 i n => some (feedVv ws (y ++ (p.drop i).take n) p)
    | some (ws, [.dy 1]), .dy 2 => some (feedVv ws (y ++ p) p)
    | _, _ => none
  | _, _ => none
theorem kfeedLv : Tells Try.prog 23 feedLv := by
  intro vs hp v hp' chg ob h _
  have go : ∀ (ws : List W) (y p : By) (i n : Nat), ws.length = 25 → Runs Try.prog 23 [.one (.pt 0 0), .one (.vw 2 i n)] [.own 61 (toC ws ++ [.dy 1]), .dyn 5 y 135, .rd p 3005] .un [.own 61 (toC (fedW ws (y ++ (p.drop i).take n)) ++ [.dy 3]), .dead, .rd p 3005, .dyn 5 (fedY (y ++ (p.drop i).take n)) 135] true := by
    intro ws y p i n hl
    by_cases hy : y.length ≤ 135
    · by_cases hp : p.length ≤ 3005
      · exact runs23v ws hl y p i n hy hp
      · exact fun B w0 E us w hvs hh => absurd (let ⟨_, _, _, h2, _⟩ := hh.at_ 2 _ rfl; h2) hp
    · exact fun B w0 E us w hvs hh => absurd (let ⟨_, _, _, h2⟩ := hh.at_ 1 _ rfl; h2) hy
  unfold feedLv at h
  split at h
  · rename_i c cs y p
    split at h
    · rename_i ws i n hs
      obtain ⟨rfl, hl⟩ := splitW_is hs
      cases h
      rw [← eq_lst (show (fedW ws _).length = 25 from kW_len hl _ _)]
      exact go ws y p i n hl
    · rename_i ws hs
      obtain ⟨rfl, hl⟩ := splitW_is hs
      cases h
      rw [← eq_lst (show (fedW ws _).length = 25 from kW_len hl _ _)]
      have := go ws y p 0 p.length hl
      rw [show (p.drop 0).take p.length = p by simp] at this
      exact Runs.whole2 (R := .rd p 3005) rfl rfl this
    · cases h
  · cases h
noncomputable def feedPkv (vs : List V) (hp : List Reg) : Option (List (Nat × Nat × Nat)) :=
  match vs with
  | [.one (.pt r _), .one c] => match regAt r hp with
    | some (.own _ cs) => match tailN cs, c with
      | some q, .dy q2 => some [(r, 0, 0), (q, 4, 135), (q2, 1, 3005)]
      | some q, .vw q2 _ _ => some [(r, 0, 0), (q, 4, 135), (q2, 1, 3005)]
      | _, _ => none
    | _ => none
  | _ => none
noncomputable def feedTv : Tab := locT feedPkv feedLv
theorem kfeedTv : Tells Try.prog 23 feedTv := locT_tells kfeedLv

end Go.Proofs.Sx
/- What is lent is looked at, and written over: the pieces. -/
namespace Go.Proofs.Sx
open Go
set_option linter.unusedVariables false
noncomputable def s26 : List Code := spine (inLoop (nthC (rowOf Try.prog 26) 3))
noncomputable def s26i : List Code := spine (inBlk (nthC s26 2))
section
variable (c0 c1 c2 c3 d0 d1 d2 d3 : By) (k : Nat)
noncomputable def bkH : List Reg := [.own 49 [.dy 1, .dy 2], .dc 32 [.dy 3, .dy 4, .dy 5, .dy 6], .dc 32 [.dy 7, .dy 8, .dy 9, .dy 10], .dyn 5 c0 3005, .dyn 5 c1 3005, .dyn 5 c2 3005, .dyn 5 c3 3005, .dyn 5 d0 3005, .dyn 5 d1 3005, .dyn 5 d2 3005, .dyn 5 d3 3005]
def bkIx : List Nat := [0, 1, 2, 3, 4, 5, 6, 7, 8, 9, 10]
noncomputable def bkIn : St := ⟨tmOf [.one (.pt 0 0)] 0 (T.full 8), bkH c0 c1 c2 c3 d0 d1 d2 d3, false, 57, 11, [], []⟩
noncomputable def bkS (i : Nat) : St := ⟨slots [(0, .one (.pt 0 0)), (3, .one (.bl true)), (4, .one (.it i))], bkH c0 c1 c2 c3 d0 d1 d2 d3, true, 57, 11, [], []⟩
noncomputable def bkI (i k : Nat) (ds : List Bool) : St := ⟨slots [(0, .one (.pt 0 0)), (3, .one (.bl true)), (4, .one (.it i)), (5, .one (.sy k))], bkH c0 c1 c2 c3 d0 d1 d2 d3, true, 57, 11, [], ds⟩
def bkk : List (Nat × Bool) := [(0, false), (3, false), (4, false)]
def bkk2 : List (Nat × Bool) := [(0, false), (3, false), (4, false), (5, true)]
theorem k26a : sxp M0 (takeC 3 (rowOf Try.prog 26)) 11 bkIx bkk (bkIn c0 c1 c2 c3 d0 d1 d2 d3) = some (.normal, bkS c0 c1 c2 c3 d0 d1 d2 d3 0, []) := by kernel_rfl
theorem k26c : (List.range' 0 4).map (fun i => sxp M0 (takeC 2 s26) 11 bkIx bkk (bkS c0 c1 c2 c3 d0 d1 d2 d3 i)) = (List.range' 0 4).map (fun i => some (.normal, bkS c0 c1 c2 c3 d0 d1 d2 d3 i, [])) := by kernel_rfl
theorem k26x : sxp M0 (takeC 2 s26) 11 bkIx bkk (bkS c0 c1 c2 c3 d0 d1 d2 d3 4) = some (.exit (blkN (nthC (rowOf Try.prog 26) 3)), bkS c0 c1 c2 c3 d0 d1 d2 d3 4, []) := by kernel_rfl
def sameS (a b : By) : Bool := (a.drop 0).take a.length == (b.drop 0).take b.length
def pick4 (a b c d : By) : Nat → By
  | 0 => a
  | 1 => b
  | 2 => c
  | _ => d
theorem k26b : (List.range' 0 4).map (fun i => sxp M0 (takeC 2 s26i) 11 bkIx bkk2 (bkS c0 c1 c2 c3 d0 d1 d2 d3 i)) = (List.range' 0 4).map (fun i => some (.normal, bkI c0 c1 c2 c3 d0 d1 d2 d3 i 0 [], [sameS (pick4 c0 c1 c2 c3 i) (pick4 d0 d1 d2 d3 i), Nat.blt 0 (pick4 d0 d1 d2 d3 i).length, true, Nat.blt 0 (pick4 c0 c1 c2 c3 i).length, true])) := by kernel_rfl
def put4 (a b c d : By) (k : Nat) (i j : Nat) : By := match Nat.beq i j with
  | true => (pick4 a b c d j).set (0 + k) 90#8
  | false => pick4 a b c d j
theorem k26r : (List.range' 0 4).map (fun i => sxp M0 [inLoop (nthC s26i 2)] 11 bkIx bkk2 (bkI c0 c1 c2 c3 d0 d1 d2 d3 i k [true])) = (List.range' 0 4).map (fun i => some (.normal, bkI (put4 c0 c1 c2 c3 k i 0) (put4 c0 c1 c2 c3 k i 1) (put4 c0 c1 c2 c3 k i 2) (put4 c0 c1 c2 c3 k i 3) d0 d1 d2 d3 i (k + 1) [], [Nat.ble (k + 1) 9223372036854775807, Nat.blt k (pick4 c0 c1 c2 c3 i).length, true, Nat.blt k (pick4 c0 c1 c2 c3 i).length, true])) := by kernel_rfl
theorem k26y : (List.range' 0 4).map (fun i => sxp M0 [inLoop (nthC s26i 2)] 11 bkIx bkk (bkI c0 c1 c2 c3 d0 d1 d2 d3 i k [false])) = (List.range' 0 4).map (fun i => some (.exit (blkN (nthC s26i 2)), bkS c0 c1 c2 c3 d0 d1 d2 d3 i, [!(Nat.blt k (pick4 c0 c1 c2 c3 i).length), true])) := by kernel_rfl
theorem k26d : (List.range' 0 4).map (fun i => sxp M0 (dropC 3 s26) 11 bkIx bkk (bkS c0 c1 c2 c3 d0 d1 d2 d3 i)) = (List.range' 0 4).map (fun i => some (.normal, bkS c0 c1 c2 c3 d0 d1 d2 d3 (i + 1), [])) := by kernel_rfl
noncomputable def bkZ : St := ⟨slots [(2, .one (.bl true))], bkH c0 c1 c2 c3 d0 d1 d2 d3, true, 57, 11, [], []⟩
theorem k26z : sxp M0 (dropC 4 (rowOf Try.prog 26)) 11 bkIx [(2, false)] (bkS c0 c1 c2 c3 d0 d1 d2 d3 4) = some (.ret, bkZ c0 c1 c2 c3 d0 d1 d2 d3, []) := by kernel_rfl
theorem k26v : resV Try.prog (fnOf Try.prog 26).results.toList (slots [(2, .one (.bl true))]) (bkH c0 c1 c2 c3 d0 d1 d2 d3) = some (.one (.bl true)) := by kernel_rfl
end
theorem code26 : hasCode Try.prog 26 = true := by kernel_rfl
theorem tmps26 : Nat.beq (fnOf Try.prog 26).ntmps 57 = true := by kernel_rfl
theorem len26 : Nat.blt 3 (lenL (rowOf Try.prog 26)) = true := by kernel_rfl
theorem len26s : Nat.blt 2 (lenL s26) = true := by kernel_rfl
theorem len26i : Nat.blt 2 (lenL s26i) = true := by kernel_rfl
theorem at26 : nthC (rowOf Try.prog 26) 3 = .block (blkN (nthC (rowOf Try.prog 26) 3)) (.loop (inLoop (nthC (rowOf Try.prog 26) 3))) := by kernel_rfl
theorem at26s : nthC s26 2 = .block (blkN (nthC s26 2)) (inBlk (nthC s26 2)) := by kernel_rfl
theorem at26i : nthC s26i 2 = .block (blkN (nthC s26i 2)) (.loop (inLoop (nthC s26i 2))) := by kernel_rfl
theorem d26i : dropC 3 s26i = [] := by kernel_rfl
end Go.Proofs.Sx
/- What is lent is looked at, and written over. -/
namespace Go.Proofs.Sx
open Go
set_option linter.unusedVariables false
def setN (x : By) : Nat → By
  | 0 => x
  | k + 1 => (setN x k).set (0 + k) 90#8
theorem setN_len (x : By) : ∀ k, (setN x k).length = x.length
  | 0 => rfl
  | k + 1 => by rw [setN, List.length_set, setN_len x k]
def wrO (i k : Nat) (c : Nat → By) (j : Nat) : By := match Nat.beq i j with
  | true => setN (c j) k
  | false => c j
def doneO (c : Nat → By) (i j : Nat) : By := match Nat.blt j i with
  | true => setN (c j) (c j).length
  | false => c j
theorem doneO_self (c : Nat → By) (i : Nat) : doneO c i i = c i := by
  unfold doneO
  cases h : Nat.blt i i with
  | true => have := Nat.le_of_ble_eq_true h; omega
  | false => rfl
theorem doneO_zero (c : Nat → By) (j : Nat) : doneO c 0 j = c j := by
  unfold doneO
  cases h : Nat.blt j 0 with
  | true => have := Nat.le_of_ble_eq_true h; omega
  | false => rfl
theorem wrO_zero (i : Nat) (c : Nat → By) (j : Nat) : wrO i 0 c j = c j := by
  unfold wrO
  split <;> rfl
theorem wrO_done (c : Nat → By) (i j : Nat) : wrO i (c i).length (doneO c i) j = doneO c (i + 1) j := by
  unfold wrO
  split
  · rename_i h
    have e := Nat.eq_of_beq_eq_true h
    subst e
    rw [doneO_self]
    unfold doneO
    rw [show Nat.blt i (i + 1) = true from Nat.ble_eq_true_of_le (Nat.le_refl _)]
  · rename_i h
    have hne : i ≠ j := fun e => by rw [e, Nat.beq_refl] at h; cases h
    unfold doneO
    cases h1 : Nat.blt j i with
    | true =>
      have := Nat.le_of_ble_eq_true h1
      rw [show Nat.blt j (i + 1) = true from Nat.ble_eq_true_of_le (by omega)]
    | false =>
      cases h2 : Nat.blt j (i + 1) with
      | false => rfl
      | true =>
        have := Nat.le_of_ble_eq_true h2
        rw [show Nat.blt j i = true from Nat.ble_eq_true_of_le (by omega)] at h1
        cases h1
theorem pick4_is (c : Nat → By) {j : Nat} (h : j < 4) : pick4 (c 0) (c 1) (c 2) (c 3) j = c j := by
  match j, h with
  | 0, _ => rfl
  | 1, _ => rfl
  | 2, _ => rfl
  | 3, _ => rfl
theorem put4_is (c : Nat → By) (i k : Nat) {j : Nat} (h : j < 4) : put4 (wrO i k c 0) (wrO i k c 1) (wrO i k c 2) (wrO i k c 3) k i j = wrO i (k + 1) c j := by
  unfold put4
  rw [pick4_is (wrO i k c) h]
  unfold wrO
  cases hb : Nat.beq i j <;> rfl
noncomputable def bS (c d : Nat → By) (i : Nat) : St := bkS (c 0) (c 1) (c 2) (c 3) (d 0) (d 1) (d 2) (d 3) i
noncomputable def bI (c d : Nat → By) (i k : Nat) : St := bkI (c 0) (c 1) (c 2) (c 3) (d 0) (d 1) (d 2) (d 3) i k []
theorem bS_ext {c c' d : Nat → By} (h : ∀ j, c j = c' j) (i : Nat) : bS c d i = bS c' d i := by unfold bS; rw [h 0, h 1, h 2, h 3]
section
variable {c d : Nat → By}
theorem back_block {i : Nat} (hi : i < 4) (hs : sameS (c i) (d i) = true) (h0 : 0 < (c i).length) (h1 : (c i).length ≤ 3005) (h2 : 0 < (d i).length) : DoesK Try.prog 11 s26i (bS c d i) .normal (bS (wrO i (c i).length c) d i) := by
  have hm : i ∈ List.range' 0 4 := by simp; omega
  have A : DoesK Try.prog 11 (takeC 2 s26i) (bS c d i) .normal (bI (wrO i 0 c) d i 0) := by
    have f := map_at (k26b (c 0) (c 1) (c 2) (c 3) (d 0) (d 1) (d 2) (d 3)) hm
    rw [pick4_is c hi, pick4_is d hi] at f
    have D := sxp_is known_none f (AllT.cons hs (AllT.cons (bleT h2) (AllT.cons rfl (AllT.cons (bleT h0) (AllT.cons rfl AllT.nil)))))
    unfold bI
    rw [wrO_zero, wrO_zero, wrO_zero, wrO_zero]
    exact D
  have len : ∀ k, (wrO i k c i).length = (c i).length := by
    intro k
    unfold wrO
    rw [Nat.beq_refl]
    exact setN_len _ _
  have R : ∀ k, k < (c i).length → DoesK Try.prog 11 [inLoop (nthC s26i 2)] (bI (wrO i k c) d i k) .normal (bI (wrO i (k + 1) c) d i (k + 1)) := by
    intro k hk
    have f := map_at (k26r (wrO i k c 0) (wrO i k c 1) (wrO i k c 2) (wrO i k c 3) (d 0) (d 1) (d 2) (d 3) k) hm
    rw [pick4_is (wrO i k c) hi, len, put4_is c i k (show 0 < 4 by decide), put4_is c i k (show 1 < 4 by decide), put4_is c i k (show 2 < 4 by decide), put4_is c i k (show 3 < 4 by decide)] at f
    exact sxp_is known_none f (AllT.cons (Nat.ble_eq_true_of_le (by omega)) (AllT.cons (bleT hk) (AllT.cons rfl (AllT.cons (bleT hk) (AllT.cons rfl AllT.nil)))))
  have X : DoesK Try.prog 11 [inLoop (nthC s26i 2)] (bI (wrO i (c i).length c) d i (c i).length) (.exit (blkN (nthC s26i 2))) (bS (wrO i (c i).length c) d i) := by
    have f := map_at (k26y (wrO i (c i).length c 0) (wrO i (c i).length c 1) (wrO i (c i).length c 2) (wrO i (c i).length c 3) (d 0) (d 1) (d 2) (d 3) (c i).length) hm
    rw [pick4_is (wrO i (c i).length c) hi, len] at f
    exact sxp_is known_none f (AllT.cons (notF (Nat.le_refl _)) (AllT.cons rfl AllT.nil))
  exact DoesK.three (N := (c i).length) (s := fun k => bI (wrO i k c) d i k) (Nat.le_of_ble_eq_true len26i) at26i A R X (by rw [d26i]; exact DoesK.same _)
theorem back_round {i : Nat} (hi : i < 4) (hs : sameS (c i) (d i) = true) (h0 : 0 < (c i).length) (h1 : (c i).length ≤ 3005) (h2 : 0 < (d i).length) : DoesK Try.prog 11 [inLoop (nthC (rowOf Try.prog 26) 3)] (bS (doneO c i) d i) .normal (bS (doneO c (i + 1)) d (i + 1)) := by
  have hm : i ∈ List.range' 0 4 := by simp; omega
  have C1 : DoesK Try.prog 11 (takeC 2 s26) (bS (doneO c i) d i) .normal (bS (doneO c i) d i) := sxp_is known_none (map_at (k26c _ _ _ _ _ _ _ _) hm) AllT.nil
  have C2 : DoesK Try.prog 11 [nthC s26 2] (bS (doneO c i) d i) .normal (bS (doneO c (i + 1)) d i) := by
    have e := doneO_self c i
    have D := back_block (c := doneO c i) (d := d) hi (by rw [e]; exact hs) (by rw [e]; exact h0) (by rw [e]; exact h1) h2
    rw [e] at D
    rw [bS_ext (c := wrO i (c i).length (doneO c i)) (wrO_done c i)] at D
    rw [at26s]
    exact DoesK.block D
  have C3 : DoesK Try.prog 11 (dropC 3 s26) (bS (doneO c (i + 1)) d i) .normal (bS (doneO c (i + 1)) d (i + 1)) := sxp_is known_none (map_at (k26d _ _ _ _ _ _ _ _) hm) AllT.nil
  refine DoesK.ofSpine ?_
  show DoesK Try.prog 11 s26 _ _ _
  have hpp := parts3 2 s26 (Nat.le_of_ble_eq_true len26s)
  rw [← hpp]
  exact C1.append (DoesK.append (l := [nthC s26 2]) C2 C3)
theorem runs26 (h : ∀ i, i < 4 → sameS (c i) (d i) = true ∧ 0 < (c i).length ∧ (c i).length ≤ 3005 ∧ 0 < (d i).length) :
    Runs Try.prog 26 [.one (.pt 0 0)] (bkH (c 0) (c 1) (c 2) (c 3) (d 0) (d 1) (d 2) (d 3)) (.one (.bl true)) (bkH (doneO c 4 0) (doneO c 4 1) (doneO c 4 2) (doneO c 4 3) (d 0) (d 1) (d 2) (d 3)) true := by
  have A : DoesK Try.prog 11 (takeC 3 (rowOf Try.prog 26)) (bkIn (c 0) (c 1) (c 2) (c 3) (d 0) (d 1) (d 2) (d 3)) .normal (bS (doneO c 0) d 0) := by
    rw [bS_ext (doneO_zero c)]
    exact sxp_is known_none (k26a _ _ _ _ _ _ _ _) AllT.nil
  have X : DoesK Try.prog 11 [inLoop (nthC (rowOf Try.prog 26) 3)] (bS (doneO c 4) d 4) (.exit (blkN (nthC (rowOf Try.prog 26) 3))) (bS (doneO c 4) d 4) := by
    refine DoesK.ofSpine ?_
    show DoesK Try.prog 11 s26 _ _ _
    have hpp := parts3 2 s26 (Nat.le_of_ble_eq_true len26s)
    rw [← hpp]
    exact DoesK.early _ (sxp_is known_none (k26x _ _ _ _ _ _ _ _) AllT.nil)
  have Z : DoesK Try.prog 11 (dropC 4 (rowOf Try.prog 26)) (bS (doneO c 4) d 4) .ret (bkZ (doneO c 4 0) (doneO c 4 1) (doneO c 4 2) (doneO c 4 3) (d 0) (d 1) (d 2) (d 3)) := sxp_is known_none (k26z _ _ _ _ _ _ _ _) AllT.nil
  have all : DoesK Try.prog 11 (rowOf Try.prog 26) (bkIn (c 0) (c 1) (c 2) (c 3) (d 0) (d 1) (d 2) (d 3)) .ret (bkZ (doneO c 4 0) (doneO c 4 1) (doneO c 4 2) (doneO c 4 3) (d 0) (d 1) (d 2) (d 3)) :=
    DoesK.three (N := 4) (s := fun i => bS (doneO c i) d i) (Nat.le_of_ble_eq_true len26) at26 A (fun i hi => back_round hi (h i hi).1 (h i hi).2.1 (h i hi).2.2.1 (h i hi).2.2.2) X Z
  exact runsK_of (vs := [.one (.pt 0 0)]) (hp := bkH (c 0) (c 1) (c 2) (c 3) (d 0) (d 1) (d 2) (d 3)) code26 (.inr rfl) (n := 57) (by rw [Nat.eq_of_beq_eq_true tmps26]; rfl) all (k26v _ _ _ _ _ _ _ _)
end
end Go.Proofs.Sx
/- The law on what is handed in: tables. -/
namespace Go.Proofs.Sx
open Go
set_option linter.unusedVariables false
/-! looked at, and written over -/
def overB (c : By) : By := setN c c.length
def okL (c d : By) : Bool := sameS c d && (Nat.blt 0 c.length && (Nat.ble c.length 3005 && Nat.blt 0 d.length))
noncomputable def backL : Tab := fun vs hp =>
  match vs, hp with
  | [.one (.pt 0 0)], [.own 49 [.dy 1, .dy 2], .dc 32 [.dy 3, .dy 4, .dy 5, .dy 6], .dc 32 [.dy 7, .dy 8, .dy 9, .dy 10], .dyn 5 c0 3005, .dyn 5 c1 3005, .dyn 5 c2 3005, .dyn 5 c3 3005, .dyn 5 d0 3005, .dyn 5 d1 3005, .dyn 5 d2 3005, .dyn 5 d3 3005] =>
    some (.one (.bl true), bkH (overB c0) (overB c1) (overB c2) (overB c3) d0 d1 d2 d3, true, some (okL c0 d0 && (okL c1 d1 && (okL c2 d2 && okL c3 d3))))
  | _, _ => none
theorem okL_is {c d : By} (h : okL c d = true) : sameS c d = true ∧ 0 < c.length ∧ c.length ≤ 3005 ∧ 0 < d.length := by
  unfold okL at h
  rw [Bool.and_eq_true, Bool.and_eq_true, Bool.and_eq_true] at h
  exact ⟨h.1, Nat.le_of_ble_eq_true h.2.1, Nat.le_of_ble_eq_true h.2.2.1, Nat.le_of_ble_eq_true h.2.2.2⟩
theorem kbackL : Tells Try.prog 26 backL := by
  intro vs hp v hp' chg ob h hob
  unfold backL at h
  split at h
  · rename_i c0 c1 c2 c3 d0 d1 d2 d3
    cases h
    have h := hob _ rfl
    rw [Bool.and_eq_true, Bool.and_eq_true, Bool.and_eq_true] at h
    exact runs26 (c := pick4 c0 c1 c2 c3) (d := pick4 d0 d1 d2 d3) fun i hi => by
      match i, hi with
      | 0, _ => exact okL_is h.1
      | 1, _ => exact okL_is h.2.1
      | 2, _ => exact okL_is h.2.2.1
      | 3, _ => exact okL_is h.2.2.2
  · cases h
noncomputable def backPk (vs : List V) (hp : List Reg) : Option (List (Nat × Nat × Nat)) :=
  match vs with
  | [.one (.pt r _)] => match regAt r hp with
    | some (.own _ [.dy a, .dy b]) => match regAt a hp, regAt b hp with
      | some (.dc _ A), some (.dc _ B) => match dysOf A, dysOf B with
        | some A, some B => some ((r, 0, 0) :: (a, 0, 0) :: (b, 0, 0) :: catT (modes 0 A) (modes 0 B))
        | _, _ => none
      | _, _ => none
    | _ => none
  | _ => none
noncomputable def backT : Tab := locT backPk backL
theorem kbackT : Tells Try.prog 26 backT := locT_tells kbackL
noncomputable def Mo : Kn := addK (addK (addK (addK (addK (addK (addK (addK (addK (addK (addK M0 21 newT) 15 fewT) 25 lendT) 14 kecT) 17 shaVT) 19 ripVT) 23 feedTv) 26 backT) 24 sumT) 16 refT) 13 trueM
theorem knowno : Known Try.prog Mo := known_add (known_add (known_add (known_add (known_add (known_add (known_add (known_add (known_add (known_add (known_add known_none knewT) kfewT) klendT) kkecT) kshaVT) kripVT) kfeedTv) kbackT) ksumT) krefT) (ktrue runs13)
/-- nil slices in a place of one's own, as slices of one's own -/
theorem DoesK.nilTwo {P : Program} {k : Nat} {l : List Code} {s : St} {e : Ex} {tm : T} {R0 : Reg} {c : Bool} {n b : Nat} {ob ds : List Bool} (h : DoesK P k l s e ⟨tm, [R0, .own 49 [.nl, .nl]], c, n, b, ob, ds⟩) (hk : s.hp.length ≤ 2 ∧ k ≤ 2) :
    DoesK P k l s e ⟨tm, [R0, .own 49 [.dy 2, .dy 3], .dc 32 [], .dc 32 []], true, n, b, ob, ds⟩ := by
  intro B w0 wc E a w Q hR hQ
  refine h B w0 wc E a w Q hR fun E1 a1 w1 hE hR1 => ?_
  have hle := E1.le_push (.sv (.slice none 0 0))
  have hle2 := (⟨E1.reg ++ [.sv (.slice none 0 0)]⟩ : Env).le_push (.sv (.slice none 0 0))
  have hl1 : E1.reg.length = 2 := hR1.hr.len.symm
  have self : ∀ D, w1.grownBy w1 D := fun D => ⟨rfl, rfl, rfl, Nat.le_refl _, fun _ _ _ => rfl⟩
  have nilDc : ∀ {E : Env} {q : Nat}, E.reg[q]? = some (.sv (.slice none 0 0)) → RegIs E w1 q (.dc 32 []) := fun hq => ⟨_, [], hq, trivial, ⟨rfl, .inl ⟨rfl, rfl⟩⟩⟩
  have at1 : (E1.reg ++ [Ent.sv (.slice none 0 0)])[2]? = some (.sv (.slice none 0 0)) := by rw [← hl1]; simp
  have at2 : ((E1.reg ++ [Ent.sv (.slice none 0 0)]) ++ [Ent.sv (.slice none 0 0)])[3]? = some (.sv (.slice none 0 0)) := by
    rw [List.getElem?_append_right (by rw [List.length_append, hl1]; exact Nat.le_refl _), List.length_append, hl1]
    rfl
  have at1' : ((E1.reg ++ [Ent.sv (.slice none 0 0)]) ++ [Ent.sv (.slice none 0 0)])[2]? = some (.sv (.slice none 0 0)) := hle2 _ _ at1
  have h2 := hR1.hr.add (hp1 := [R0, .own 49 [.nl, .nl]]) rfl (fun q R hq => .inr hq) none (fun g e => by cases e) (self _) (.sv (.slice none 0 0)) (.inl rfl) (fun g e => by cases e) (fun v e => by cases e; exact ⟨_, _, _, rfl⟩) (.dc 32 []) (nilDc at1)
  have h3 := h2.add (hp1 := [R0, .own 49 [.nl, .nl], .dc 32 []]) rfl (fun q R hq => .inr hq) none (fun g e => by cases e) (self _) (.sv (.slice none 0 0)) (.inl rfl) (fun g e => by cases e) (fun v e => by cases e; exact ⟨_, _, _, rfl⟩) (.dc 32 []) (nilDc at2)
  obtain ⟨g, vs, hg, hvs1, hheap⟩ := hR1.hr.at_ 1 _ rfl
  have hg' := hle2 _ _ (hle _ _ hg)
  have hvs2 : All2 (C.is ⟨(E1.reg ++ [Ent.sv (.slice none 0 0)]) ++ [Ent.sv (.slice none 0 0)]⟩) [.dy 2, .dy 3] vs := by
    match vs, hvs1 with
    | [u, v], ⟨h1, h2, _⟩ =>
      have e1 : u = .slice none 0 0 := h1
      have e2 : v = .slice none 0 0 := h2
      subst e1 e2
      exact ⟨at1', at2, trivial⟩
  have h4 := h3.upd (r := 1) (R := .own 49 [.nl, .nl]) (R' := .own 49 [.dy 2, .dy 3]) rfl rfl rfl hg' (self _) ⟨g, vs, hg', hvs2, hheap⟩
  exact hQ ⟨(E1.reg ++ [.sv (.slice none 0 0)]) ++ [.sv (.slice none 0 0)]⟩ a1 w1 (Env.leK_trans hE (Env.le_trans hle hle2).toK) ⟨⟨hR1.tr.defers, hR1.tr.size, fun i v hv => let ⟨u, h5, h6⟩ := hR1.tr.at_ i v hv; ⟨u, h5, V.is_mono (Env.le_trans hle hle2) h6⟩⟩, h4, fun h => by cases h⟩
section
variable (b : By) (n : Nat)
noncomputable def owIn : St := ⟨tmOf [.one (.vw 0 0 n)] 0 (T.full 8), [.rd b 9223372036854775807], false, 44, 1, [], []⟩
noncomputable def owN : St := ⟨slots [(0, .one (.vw 0 0 n)), (3, .one (.pt 1 0))], [.rd b 9223372036854775807, .own 49 [.nl, .nl]], true, 44, 1, [], []⟩
noncomputable def owS (ds : List Bool) : St := ⟨slots [(0, .one (.vw 0 0 n)), (3, .one (.pt 1 0))], [.rd b 9223372036854775807, .own 49 [.dy 2, .dy 3], .dc 32 [], .dc 32 []], true, 44, 1, [], ds⟩
theorem o10a : sxp Mo (takeC 2 (rowOf Try.prog 10)) 1 [0, 1] [(0, false), (3, false)] (owIn b n) = some (.normal, owN b n, []) := by kernel_rfl
def owX (b : By) : By := b.take 3000
def owM (b : By) : By := [] ++ ((fullB (owX b)).drop 0).take (owX b).length
def owFew (b : By) (n : Nat) : Bool := twinOk b && Nat.beq n b.length
def owLend (b : By) : Bool := Nat.ble (owX b).length 3000 && true
def owCut (b : By) : Bool := Nat.ble (owX b).length 3000 && Nat.ble (0 + (owX b).length) (fullB (owX b)).length
def owBack (b : By) : Bool := okL (fullB (owX b)) (copyB (owX b))
def owFeed (b : By) : Bool := Nat.ble (fullB (owX b)).length 3005 && true
def owKec (b : By) : Bool := Nat.ble (fullB (owX b)).length 16384 && true && Nat.ble (0 + (owX b).length) (fullB (owX b)).length
def owO (b : By) (n : Nat) : List Bool :=
  [eqB8 (s32 (fW zer25 (owM b)) (fedY (owM b))) (k32 (owX b)), Nat.ble (owX b).length 16384 && true, owFew b n, Nat.blt (fedY (owM b)).length 136, owBack b && (owBack b && (owBack b && owBack b)),
    owFeed b, owLend b, owFew b n, owCut b, owLend b, owFew b n, owCut b, owLend b, owFew b n, owKec b, owLend b, owFew b n, true]
noncomputable def owZ : St := ⟨slots [(2, .one (.bl true))], [.rd b 9223372036854775807], true, 44, 1, [], []⟩
theorem o10z : sxp Mo (dropC 2 (rowOf Try.prog 10)) 1 [0] [(2, false)] (owS b n [true]) = some (.ret, owZ b, owO b n) := by kernel_rfl
theorem o10v : resV Try.prog (fnOf Try.prog 10).results.toList (slots [(2, .one (.bl true))]) [.rd b 9223372036854775807] = some (.one (.bl true)) := by kernel_rfl
end
end Go.Proofs.Sx
/- The law on what is handed in: its function returns true. -/
namespace Go.Proofs.Sx
open Go
set_option linter.unusedVariables false
theorem code10 : hasCode Try.prog 10 = true := by kernel_rfl
theorem tmps10 : Nat.beq (fnOf Try.prog 10).ntmps 44 = true := by kernel_rfl
theorem len10 : Nat.blt 1 (lenL (rowOf Try.prog 10)) = true := by kernel_rfl
theorem parts10 : takeC 2 (rowOf Try.prog 10) ++ dropC 2 (rowOf Try.prog 10) = rowOf Try.prog 10 := by kernel_rfl
theorem owX_le (b : By) : (owX b).length ≤ 3000 := take_le 3000 b
theorem fullB_is (x : By) : fullB x = x ++ [77#8, 78#8, 79#8, 80#8, 81#8] := by
  unfold fullB
  rw [List.drop_zero, List.take_of_length_le (Nat.le_refl _)]
theorem fullB_len (x : By) : (fullB x).length = x.length + 5 := by rw [fullB_is, List.length_append]; rfl
theorem copyB_is (x : By) : copyB x = fullB x := by
  unfold copyB
  rw [List.drop_zero, List.take_of_length_le (Nat.le_refl _)]
theorem owM_is (b : By) : owM b = owX b := by
  unfold owM
  rw [fullB_is, List.nil_append, List.drop_zero, List.take_append_of_le_length (Nat.le_refl _), List.take_of_length_le (Nat.le_refl _)]
theorem owBack_is (b : By) : owBack b = true := by
  unfold owBack okL
  have h := owX_le b
  rw [copyB_is, bleT (show (fullB (owX b)).length ≤ 3005 by rw [fullB_len]; omega)]
  rw [show Nat.blt 0 (fullB (owX b)).length = true from bleT (by rw [fullB_len]; omega)]
  rw [show sameS (fullB (owX b)) (fullB (owX b)) = true by unfold sameS; simp]
  rfl
theorem owO_is (b : By) (hb : b.length ≤ 9223372036854775807) : AllT (owO b b.length) := by
  have h := owX_le b
  have few : owFew b b.length = true := by unfold owFew; rw [twinOk_is hb, Nat.beq_refl]; rfl
  have lend : owLend b = true := by unfold owLend; rw [bleT h]; rfl
  have cut : owCut b = true := by unfold owCut; rw [bleT h, bleT (show 0 + (owX b).length ≤ (fullB (owX b)).length by rw [fullB_len]; omega)]; rfl
  have kec : owKec b = true := by
    unfold owKec
    rw [bleT (show (fullB (owX b)).length ≤ 16384 by rw [fullB_len]; omega), bleT (show 0 + (owX b).length ≤ (fullB (owX b)).length by rw [fullB_len]; omega)]
    rfl
  have feed : owFeed b = true := by unfold owFeed; rw [bleT (show (fullB (owX b)).length ≤ 3005 by rw [fullB_len]; omega)]; rfl
  have e1 : fedW (sW []) (sY [] ++ owX b) = sW ([] ++ owX b) := fedW_cat [] (owX b)
  have e2 : fedY (sY [] ++ owX b) = sY ([] ++ owX b) := fedY_cat [] (owX b)
  rw [sW_nil, sY_nil, List.nil_append] at e1
  rw [sY_nil, List.nil_append] at e2
  have e3 : fW zer25 (owX b) = sW (owX b) := by
    unfold fW
    rw [e1, ← eq_lst (sW_len _)]
  unfold owO
  rw [owM_is, e2, e3]
  refine AllT.cons (by rw [s32_is]; exact eqB8_self _) (AllT.cons (by rw [bleT (show (owX b).length ≤ 16384 by omega)]; rfl) (AllT.cons few (AllT.cons (bleT (sY_len _)) (AllT.cons (by rw [owBack_is]; rfl)
    (AllT.cons feed (AllT.cons lend (AllT.cons few (AllT.cons cut (AllT.cons lend (AllT.cons few (AllT.cons cut (AllT.cons lend (AllT.cons few (AllT.cons kec (AllT.cons lend (AllT.cons few (AllT.cons rfl AllT.nil)))))))))))))))))
theorem runs10 : ∀ b : By, b.length ≤ maxLen → ∃ bd hp1 chg, b.length ≤ bd ∧ Runs Try.prog 10 [.one (.vw 0 0 b.length)] [.rd b bd] (.one (.bl true)) hp1 chg := by
  intro b hb
  have hb' : b.length ≤ 9223372036854775807 := hb
  have A := DoesK.nilTwo (sxp_is knowno (o10a b b.length) AllT.nil) ⟨by show 1 ≤ 2; omega, by omega⟩
  have Z := sxp_is knowno (o10z b b.length) (owO_is b hb')
  have all : DoesK Try.prog 1 (rowOf Try.prog 10) (owIn b b.length) .ret (owZ b) := by
    have hpp := parts10
    rw [← hpp]
    exact DoesK.append A Z
  exact ⟨_, _, _, hb', runsK_of (vs := [.one (.vw 0 0 b.length)]) (hp := [.rd b 9223372036854775807]) code10 (.inr rfl) (n := 44) (by rw [Nat.eq_of_beq_eq_true tmps10]; rfl) all (o10v b)⟩
end Go.Proofs.Sx
