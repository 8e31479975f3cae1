/- Keccak-256, by the program: the hash of bytes. -/
import Derived.Test.YtejgaeadplnfgaaHaKc2
namespace Go.Proofs.Sx
open Go
set_option linter.unusedVariables false
noncomputable def Mg : Kn := addK Mn 24 sumT
theorem knowng : Known Try.prog Mg := known_add knownn ksumT
section
variable (b : By) (a : Nat → W) (o : Nat → BitVec 8) (i n : Nat)
noncomputable def keIn : St := ⟨tmOf [.one (.vw 0 i n)] 0 (T.full 8), [.rd b 16384], false, 27, 1, [], []⟩
noncomputable def keS (ws : List W) (ds : List Bool) : St := ⟨slots [(0, .one (.vw 0 i n)), (2, .one (.pt 1 0)), (3, .one (.pt 2 0))], [.rd b 16384, .own 33 (toC8 zer32), .own 61 (toC ws ++ [.dy 3]), .dyn 5 [] 0], true, 27, 1, [], ds⟩
def kek : List (Nat × Bool) := [(0, false), (2, false), (3, false)]
theorem k14a : sxp Mg (takeC 2 (rowOf Try.prog 14)) 1 [0, 1, 2, 3] kek (keIn b i n) = some (.normal, keS b i n zer25 [], [true]) := by kernel_rfl
theorem k14r : sxp Mg [inLoop (nthC (rowOf Try.prog 14) 2)] 1 [0, 1, 2, 3] kek (keS b i n (lst a 0 25) [true]) = some (.normal, keS b (i + 136) (n - 136) (lst (nthW (absK (lst a 0 25) (byteP b i))) 0 25) [], [Nat.ble 136 n, true, Nat.ble 136 n, Nat.ble 136 n]) := by kernel_rfl
theorem k14x : sxp Mg [inLoop (nthC (rowOf Try.prog 14) 2)] 1 [0, 1, 2, 3] kek (keS b i n (lst a 0 25) [false]) = some (.exit (blkN (nthC (rowOf Try.prog 14) 2)), keS b i n (lst a 0 25) [], [!(Nat.ble 136 n)]) := by kernel_rfl
noncomputable def keZ (o : By) : St := ⟨slots [(2, .one (.pt 1 0))], [.rd b 16384, .own 33 (toC8 o)], true, 27, 1, [], []⟩
theorem k14z : sxp Mg (dropC 3 (rowOf Try.prog 14)) 1 [0, 1] [(2, false)] (keS b i n (lst a 0 25) []) = some (.ret, keZ b (lst8 (nthB8 (sumK (lst a 0 25) ([] ++ (b.drop i).take n))) 0 32), [Nat.blt ([] ++ (b.drop i).take n).length 136]) := by kernel_rfl
theorem k14v : resV Try.prog (fnOf Try.prog 14).results.toList (slots [(2, .one (.pt 1 0))]) [.rd b 16384, .own 33 (toC8 (lst8 o 0 32))] = some (.ag (toC8 (lst8 o 0 32))) := by kernel_rfl
end
theorem code14 : hasCode Try.prog 14 = true := by kernel_rfl
theorem tmps14 : Nat.beq (fnOf Try.prog 14).ntmps 27 = true := by kernel_rfl
theorem len14 : Nat.blt 2 (lenL (rowOf Try.prog 14)) = true := by kernel_rfl
theorem at14 : nthC (rowOf Try.prog 14) 2 = .block (blkN (nthC (rowOf Try.prog 14) 2)) (.loop (inLoop (nthC (rowOf Try.prog 14) 2))) := by kernel_rfl
/-- so many blocks taken in -/
def kF (b : By) (i : Nat) : Nat → List W
  | 0 => zer25
  | k + 1 => absK (kF b i k) (byteP b (i + 136 * k))
theorem kF_len (b : By) (i : Nat) : ∀ k, (kF b i k).length = 25
  | 0 => rfl
  | k + 1 => absK_len _ (kF_len b i k)
def kecG (m : By) : By := sumK (kF m 0 (m.length / 136)) (m.drop (136 * (m.length / 136)))
theorem kecG_len (m : By) : (kecG m).length = 32 := sumK_len _ _
theorem kF_ext {b c : By} {i j : Nat} : ∀ {k : Nat}, (∀ q, q < 136 * k → b.getD (i + q) 0#8 = c.getD (j + q) 0#8) → kF b i k = kF c j k
  | 0, _ => rfl
  | k + 1, h => by
    show absK _ _ = absK _ _
    rw [kF_ext (k := k) fun q hq => h q (by omega)]
    refine absK_ext _ fun q hq => ?_
    show BitVec.setWidth 64 _ = BitVec.setWidth 64 _
    rw [show i + 136 * k + q = i + (136 * k + q) by omega, show j + 136 * k + q = j + (136 * k + q) by omega, h _ (by omega)]
theorem getD_cut (b : By) {i n q : Nat} (h : q < n) (hb : i + n ≤ b.length) : b.getD (i + q) 0#8 = ((b.drop i).take n).getD (0 + q) 0#8 := by
  have h1 : i + q < b.length := by omega
  have h2 : 0 + q < ((b.drop i).take n).length := by rw [List.length_take, List.length_drop]; omega
  rw [List.getD_eq_getElem?_getD, List.getD_eq_getElem?_getD, List.getElem?_eq_getElem h1, List.getElem?_eq_getElem h2, List.getElem_take, List.getElem_drop]
  simp only [Nat.zero_add]
theorem runs14 (b : By) (i n : Nat) (hb : i + n ≤ b.length) : ∃ hp1, Runs Try.prog 14 [.one (.vw 0 i n)] [.rd b 16384] (.ag (toC8 (kecG ((b.drop i).take n)))) hp1 true := by
  have eS := fun k => eq_lst (kF_len b i k)
  have A : DoesK Try.prog 1 (takeC 2 (rowOf Try.prog 14)) (keIn b i n) .normal (keS b (i + 136 * 0) (n - 136 * 0) (kF b i 0) []) := sxp_is knowng (k14a b i n) (AllT.cons rfl AllT.nil)
  have R : ∀ k, k < n / 136 → DoesK Try.prog 1 [inLoop (nthC (rowOf Try.prog 14) 2)] (keS b (i + 136 * k) (n - 136 * k) (kF b i k) []) .normal (keS b (i + 136 * (k + 1)) (n - 136 * (k + 1)) (kF b i (k + 1)) []) := by
    intro k hk
    have f := k14r b (nthW (kF b i k)) (i + 136 * k) (n - 136 * k)
    simp only [← eS] at f
    rw [← eq_lst (absK_len _ (kF_len b i k))] at f
    have h1 : Nat.ble 136 (n - 136 * k) = true := Nat.ble_eq_true_of_le (by omega)
    have g := sxp_is knowng f (AllT.cons h1 (AllT.cons rfl (AllT.cons h1 (AllT.cons h1 AllT.nil))))
    rw [show i + 136 * (k + 1) = i + 136 * k + 136 by omega, show n - 136 * (k + 1) = n - 136 * k - 136 by omega]
    exact g
  have X : DoesK Try.prog 1 [inLoop (nthC (rowOf Try.prog 14) 2)] (keS b (i + 136 * (n / 136)) (n - 136 * (n / 136)) (kF b i (n / 136)) []) (.exit (blkN (nthC (rowOf Try.prog 14) 2))) (keS b (i + 136 * (n / 136)) (n - 136 * (n / 136)) (kF b i (n / 136)) []) := by
    have f := k14x b (nthW (kF b i (n / 136))) (i + 136 * (n / 136)) (n - 136 * (n / 136))
    simp only [← eS] at f
    refine sxp_is knowng f (AllT.cons ?_ AllT.nil)
    cases hq : Nat.ble 136 (n - 136 * (n / 136)) with
    | false => rfl
    | true => have := Nat.le_of_ble_eq_true hq; omega
  have hlen : ((b.drop i).take n).length = n := by rw [List.length_take, List.length_drop]; omega
  have eF : kF b i (n / 136) = kF ((b.drop i).take n) 0 (n / 136) := kF_ext fun q hq => getD_cut b (by omega) hb
  have eR : ([] : By) ++ (b.drop (i + 136 * (n / 136))).take (n - 136 * (n / 136)) = ((b.drop i).take n).drop (136 * (n / 136)) := by
    rw [List.nil_append, List.drop_take, List.drop_drop]
  have eG : sumK (kF b i (n / 136)) ([] ++ (b.drop (i + 136 * (n / 136))).take (n - 136 * (n / 136))) = kecG ((b.drop i).take n) := by
    unfold kecG
    rw [hlen, eF, eR]
  have Z : DoesK Try.prog 1 (dropC 3 (rowOf Try.prog 14)) (keS b (i + 136 * (n / 136)) (n - 136 * (n / 136)) (kF b i (n / 136)) []) .ret (keZ b (kecG ((b.drop i).take n))) := by
    have f := k14z b (nthW (kF b i (n / 136))) (i + 136 * (n / 136)) (n - 136 * (n / 136))
    simp only [← eS] at f
    rw [eG, ← eq_lst8 (kecG_len _)] at f
    refine sxp_is knowng f (AllT.cons (Nat.ble_eq_true_of_le ?_) AllT.nil)
    rw [List.nil_append, List.length_take]
    omega
  have all : DoesK Try.prog 1 (rowOf Try.prog 14) (keIn b i n) .ret (keZ b (kecG ((b.drop i).take n))) :=
    DoesK.three (N := n / 136) (s := fun k => keS b (i + 136 * k) (n - 136 * k) (kF b i k) []) (Nat.le_of_ble_eq_true len14) at14 A R X Z
  have hv := k14v b (nthB8 (kecG ((b.drop i).take n)))
  simp only [← eq_lst8 (kecG_len _)] at hv
  exact ⟨_, runsK_of (vs := [.one (.vw 0 i n)]) (hp := [.rd b 16384]) code14 (.inr rfl) (n := 27) (by rw [Nat.eq_of_beq_eq_true tmps14]; rfl) all hv⟩
/-- A slice of a region, as a view of it. -/
theorem Runs.whole {P : Program} {f : FuncId} {vs : List V} {hp hp1 : List Reg} {v : V} {chg : Bool} {r bd : Nat} {R : Reg} {b : By} (hat : hp[r]? = some R) (hb : R.bytes = some (b, bd)) (h : Runs P f (.one (.vw r 0 b.length) :: vs) hp v hp1 chg) : Runs P f (.one (.dy r) :: vs) hp v hp1 chg := by
  intro B w0 E us w hvs hh
  cases us with
  | nil => exact hvs.elim
  | cons u us =>
    obtain ⟨hu, hvs⟩ := hvs
    obtain ⟨A, K, g1, g2, g3, g4, g5⟩ := (hh.at_ r R hat).bytes hb
    have hu' : E.reg[r]? = some (.sv u) := hu
    rw [g1] at hu'
    cases hu'
    refine h B w0 E _ w ⟨⟨A, b.length, K, A, K, g1, rfl, fun hpos => ?_, by omega, g3, g4⟩, hvs⟩ hh
    obtain ⟨ad, e1, _⟩ := g5 0 b[0] (List.getElem?_eq_getElem hpos)
    exact ⟨ad, e1, by rw [e1]; simp [Addr.add]⟩
noncomputable def kecL : Tab := fun vs hp =>
  match vs, hp with
  | [.one (.dy 0)], [.rd b 16384] => some (.ag (toC8 (lst8 (nthB8 (kecG b)) 0 32)), hp, true, none)
  | [.one (.vw 0 i n)], [.rd b 16384] => some (.ag (toC8 (lst8 (nthB8 (kecG ((b.drop i).take n))) 0 32)), hp, true, some (Nat.ble (i + n) b.length))
  | _, _ => none
theorem kkecL : TellsV Try.prog 14 kecL := by
  intro vs hp v hp' chg ob h hob
  unfold kecL at h
  split at h
  · rename_i b
    cases h
    obtain ⟨hp1, hr⟩ := runs14 b 0 b.length (by omega)
    rw [← eq_lst8 (kecG_len _)]
    have e : (b.drop 0).take b.length = b := by simp
    rw [e] at hr
    exact ⟨hp1, true, Runs.whole (R := .rd b 16384) rfl rfl hr⟩
  · rename_i i n b
    cases h
    obtain ⟨hp1, hr⟩ := runs14 b i n (Nat.le_of_ble_eq_true (hob _ rfl))
    rw [← eq_lst8 (kecG_len _)]
    exact ⟨hp1, true, hr⟩
  · cases h
/-- the bytes that come first among what is handed over -/
noncomputable def rdPk (bd : Nat) (vs : List V) (hp : List Reg) : Option (List (Nat × Nat × Nat)) :=
  match vs with
  | .one (.dy r) :: _ => some [(r, 1, bd)]
  | .one (.vw r _ _) :: _ => some [(r, 1, bd)]
  | _ => none
noncomputable def kecT : Tab := stillT (rdPk 16384) kecL
theorem kkecT : Tells Try.prog 14 kecT := stillT_tellsV kkecL
end Go.Proofs.Sx
