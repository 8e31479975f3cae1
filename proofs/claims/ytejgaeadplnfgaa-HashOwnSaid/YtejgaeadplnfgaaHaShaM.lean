/- SHA-256: the words' turns, the constants, the words of a block. -/
import Derived.Test.YtejgaeadplnfgaaHaPadM
namespace Go.Proofs.Sx
open Go
abbrev D := BitVec 32
def toC32 : List D → List C
  | [] => []
  | x :: l => .w32 x :: toC32 l
def nth32 : List D → Nat → D
  | x :: _, 0 => x
  | _ :: l, n + 1 => nth32 l n
  | [], _ => 0
def put32 : Nat → D → List D → List D
  | 0, x, _ :: l => x :: l
  | n + 1, x, y :: l => y :: put32 n x l
  | _, _, [] => []
def lst32 (f : Nat → D) : Nat → Nat → List D
  | _, 0 => []
  | i, n + 1 => f i :: lst32 f (i + 1) n
theorem put32_len : ∀ (n : Nat) (x : D) (l : List D), (put32 n x l).length = l.length
  | 0, _, _ :: _ => rfl
  | n + 1, x, _ :: l => by simp [put32, put32_len n x l]
  | 0, _, [] => rfl
  | _ + 1, _, [] => rfl
theorem lst32_nth : ∀ (ws : List D) (f : Nat → D) (i : Nat), (∀ j, f (i + j) = nth32 ws j) → lst32 f i ws.length = ws
  | [], _, _, _ => rfl
  | w :: ws, f, i, h => by
    have h0 := h 0
    simp only [Nat.add_zero, nth32] at h0
    simp only [List.length_cons, lst32, h0]
    rw [lst32_nth ws f (i + 1) fun j => by have := h (j + 1); simpa [nth32, Nat.add_assoc, Nat.add_comm 1] using this]
theorem eq_lst32 {ws : List D} {n : Nat} (h : ws.length = n) : ws = lst32 (nth32 ws) 0 n := by
  rw [← h, lst32_nth ws (nth32 ws) 0 fun j => by rw [Nat.zero_add]]
theorem toC32_plain : ∀ ws : List D, plains (toC32 ws) = true
  | [] => rfl
  | _ :: ws => toC32_plain ws
def ror (x : D) (n : Nat) : D := x >>> n ||| x <<< (32 - n)

theorem f37 (x : D) : (List.range' 1 31).map (fun n => bareV (call0 M1 37 [.one (.w32 x), .one (.it n)] [])) = (List.range' 1 31).map (fun n => some (.one (.w32 (rotl32 x (32 - n))))) := by kernel_rfl
theorem ror_rotl (x : D) {n : Nat} (h1 : 1 ≤ n) (h2 : n ≤ 31) : rotl32 x (32 - n) = ror x n := by
  unfold rotl32 ror
  rw [show 32 - (32 - n) = n by omega, BitVec.or_comm]
theorem runs37 (x : D) (n : Nat) (h1 : 1 ≤ n) (h2 : n ≤ 31) (hp : List Reg) : Runs Try.prog 37 [.one (.w32 x), .one (.it n)] hp (.one (.w32 (ror x n))) hp false := by
  have hf := map_at (f37 x) (a := n) (by simp; omega)
  rw [← ror_rotl x h1 h2]
  exact runs_of_bare known1 hf rfl rfl hp
theorem runs40 (x : D) (n : Nat) (h1 : 1 ≤ n) (h2 : n ≤ 31) (hp : List Reg) : Runs Try.prog 40 [.one (.w32 x), .one (.it n)] hp (.one (.w32 (ror x n))) hp false := by
  have hf := map_at (f40s x) (a := n) (by simp; omega)
  exact (runs_of_call fol known_none hf AllT.nil).plain rfl rfl hp
noncomputable def rorM (vs : List V) (hp : List Reg) : Option (V × List Reg × Bool × Option Bool) :=
  match vs with
  | [.one (.w32 x), .one (.it n)] => match Nat.ble 1 n, Nat.ble n 31 with
    | true, true => some (.one (.w32 (ror x n)), hp, false, none)
    | _, _ => none
  | _ => none
theorem kror {f : FuncId} (hf : ∀ (x : D) (n : Nat), 1 ≤ n → n ≤ 31 → ∀ hp : List Reg, Runs Try.prog f [.one (.w32 x), .one (.it n)] hp (.one (.w32 (ror x n))) hp false) :
    ∀ vs hp v hp' chg ob, rorM vs hp = some (v, hp', chg, ob) → (∀ x, ob = some x → x = true) → Runs Try.prog f vs hp v hp' chg := by
  intro vs hp v hp' chg ob h _
  unfold rorM at h
  split at h
  · split at h
    · rename_i h1 h2
      cases h
      exact hf _ _ (Nat.le_of_ble_eq_true h1) (Nat.le_of_ble_eq_true h2) hp
    · cases h
  · cases h
def kL : List D := [1116352408#32, 1899447441#32, 3049323471#32, 3921009573#32, 961987163#32, 1508970993#32, 2453635748#32, 2870763221#32, 3624381080#32, 310598401#32, 607225278#32, 1426881987#32, 1925078388#32, 2162078206#32, 2614888103#32, 3248222580#32, 3835390401#32, 4022224774#32, 264347078#32, 604807628#32, 770255983#32, 1249150122#32, 1555081692#32, 1996064986#32, 2554220882#32, 2821834349#32, 2952996808#32, 3210313671#32, 3336571891#32, 3584528711#32, 113926993#32, 338241895#32, 666307205#32, 773529912#32, 1294757372#32, 1396182291#32, 1695183700#32, 1986661051#32, 2177026350#32, 2456956037#32, 2730485921#32, 2820302411#32, 3259730800#32, 3345764771#32, 3516065817#32, 3600352804#32, 4094571909#32, 275423344#32, 430227734#32, 506948616#32, 659060556#32, 883997877#32, 958139571#32, 1322822218#32, 1537002063#32, 1747873779#32, 1955562222#32, 2024104815#32, 2227730452#32, 2361852424#32, 2428436474#32, 2756734187#32, 3204031479#32, 3329325298#32]
theorem f34 : bareV (call0 M0 34 [] []) = some (.ag (toC32 kL)) := by kernel_rfl
theorem f38 : bareV (call0 M0 38 [] []) = some (.ag (toC32 kL)) := by kernel_rfl
noncomputable def kM (vs : List V) (hp : List Reg) : Option (V × List Reg × Bool × Option Bool) :=
  match vs with
  | [] => some (.ag (toC32 kL), hp, false, none)
  | _ => none
theorem kk {f : FuncId} (hf : bareV (call0 M0 f [] []) = some (.ag (toC32 kL))) : ∀ vs hp v hp' chg ob, kM vs hp = some (v, hp', chg, ob) → (∀ x, ob = some x → x = true) → Runs Try.prog f vs hp v hp' chg := by
  intro vs hp v hp' chg ob h _
  unfold kM at h
  split at h
  · cases h
    exact runs_of_bare known_none hf rfl (by simp only [V.plain, toC32_plain]) hp
  · cases h
noncomputable def M7 : Kn := addK (addK (addK (addK M0 37 rorM) 40 rorM) 34 kM) 38 kM
theorem known7 : Known Try.prog M7 := known_add (known_add (known_add (known_add known_none (kror runs37)) (kror runs40)) (kk f34)) (kk f38)

/-! the words of a block -/
def zer64 : List D := [0#32, 0#32, 0#32, 0#32, 0#32, 0#32, 0#32, 0#32, 0#32, 0#32, 0#32, 0#32, 0#32, 0#32, 0#32, 0#32, 0#32, 0#32, 0#32, 0#32, 0#32, 0#32, 0#32, 0#32, 0#32, 0#32, 0#32, 0#32, 0#32, 0#32, 0#32, 0#32, 0#32, 0#32, 0#32, 0#32, 0#32, 0#32, 0#32, 0#32, 0#32, 0#32, 0#32, 0#32, 0#32, 0#32, 0#32, 0#32, 0#32, 0#32, 0#32, 0#32, 0#32, 0#32, 0#32, 0#32, 0#32, 0#32, 0#32, 0#32, 0#32, 0#32, 0#32, 0#32]
section
variable (x : By) (f : Nat → D)
def by32 (x : By) (i : Nat) : D := BitVec.setWidth 32 (x.getD i 0#8)
def stepA (x : By) (w : List D) (i : Nat) : List D := put32 (i / 4) (nth32 w (i / 4) ||| by32 x i <<< (24 - i % 4 * 8)) w
def sig0 (x : D) : D := ror x 7 ^^^ ror x 18 ^^^ x >>> 3
def sig1 (x : D) : D := ror x 17 ^^^ ror x 19 ^^^ x >>> 10
def stepW (w : List D) (t : Nat) : List D := put32 t (nth32 w (t - 16) + sig0 (nth32 w (t - 15)) + nth32 w (t - 7) + sig1 (nth32 w (t - 2))) w
noncomputable def wIn : St := ⟨tmOf [.one (.vl 0 0 64)] 0 (T.full 8), [.rd x 64], false, 72, 1, [], []⟩
noncomputable def wA (w : List D) (i : Nat) : St := ⟨slots [(2, .one (.pt 1 0)), (3, .one (.pt 2 0)), (9, .one (.vl 0 0 64)), (10, .one (.it 64)), (11, .one (.it i))], [.rd x 64, .own 64 (toC32 zer64), .own 64 (toC32 w)], true, 72, 1, [], []⟩
def wk : List (Nat × Bool) := [(2, false), (3, false), (9, false), (10, false), (11, false)]
theorem w36a : sxp M7 (takeC 3 (rowOf Try.prog 36)) 1 [0, 1, 2] wk (wIn x) = some (.normal, wA x zer64 0, []) := by kernel_rfl
theorem w36r : (List.range' 0 64).map (fun i => sxp M7 [inLoop (nthC (rowOf Try.prog 36) 3)] 1 [0, 1, 2] wk (wA x (lst32 f 0 64) i)) = (List.range' 0 64).map (fun i => some (.normal, wA x (stepA x (lst32 f 0 64) i) (i + 1), [true])) := by kernel_rfl
end
end Go.Proofs.Sx
/- SHA-256: the words of a block, by the program's function. -/
namespace Go.Proofs.Sx
open Go
section
variable (x : By) (f : Nat → D) (w : List D)
noncomputable def wB (w : List D) (t : Nat) : St := ⟨slots [(2, .one (.pt 1 0)), (3, .one (.pt 2 0)), (6, .one (.it t))], [.rd x 64, .own 64 (toC32 zer64), .own 64 (toC32 w)], true, 72, 1, [], []⟩
def wk2 : List (Nat × Bool) := [(2, false), (3, false), (6, false)]
theorem w36x : sxp M7 [inLoop (nthC (rowOf Try.prog 36) 3)] 1 [0, 1, 2] wk (wA x (lst32 f 0 64) 64) = some (.exit (blkN (nthC (rowOf Try.prog 36) 3)), wA x (lst32 f 0 64) 64, []) := by kernel_rfl
theorem w36b : sxp M7 (takeC 1 (dropC 4 (rowOf Try.prog 36))) 1 [0, 1, 2] wk2 (wA x (lst32 f 0 64) 64) = some (.normal, wB x (lst32 f 0 64) 16, []) := by kernel_rfl
theorem w36s : (List.range' 16 48).map (fun t => sxp M7 [inLoop (nthC (rowOf Try.prog 36) 5)] 1 [0, 1, 2] wk2 (wB x (lst32 f 0 64) t)) = (List.range' 16 48).map (fun t => some (.normal, wB x (stepW (lst32 f 0 64) t) (t + 1), [])) := by kernel_rfl
theorem w36y : sxp M7 [inLoop (nthC (rowOf Try.prog 36) 5)] 1 [0, 1, 2] wk2 (wB x (lst32 f 0 64) 64) = some (.exit (blkN (nthC (rowOf Try.prog 36) 5)), wB x (lst32 f 0 64) 64, []) := by kernel_rfl
noncomputable def wZ (w : List D) : St := ⟨slots [(2, .one (.pt 1 0))], [.rd x 64, .own 64 (toC32 w)], true, 72, 1, [], []⟩
theorem w36z : sxp M7 (dropC 6 (rowOf Try.prog 36)) 1 [0, 1] [(2, false)] (wB x (lst32 f 0 64) 64) = some (.ret, wZ x (lst32 f 0 64), []) := by kernel_rfl
theorem w36v : resV Try.prog (fnOf Try.prog 36).results.toList (slots [(2, .one (.pt 1 0))]) [.rd x 64, .own 64 (toC32 (lst32 f 0 64))] = some (.ag (toC32 (lst32 f 0 64))) := by kernel_rfl
theorem code36 : hasCode Try.prog 36 = true := by kernel_rfl
theorem tmps36 : Nat.beq (fnOf Try.prog 36).ntmps 72 = true := by kernel_rfl
theorem len36 : Nat.blt 3 (lenL (rowOf Try.prog 36)) = true := by kernel_rfl
theorem len36' : Nat.blt 1 (lenL (dropC 4 (rowOf Try.prog 36))) = true := by kernel_rfl
theorem at36 : nthC (rowOf Try.prog 36) 3 = .block (blkN (nthC (rowOf Try.prog 36) 3)) (.loop (inLoop (nthC (rowOf Try.prog 36) 3))) := by kernel_rfl
theorem at36' : nthC (dropC 4 (rowOf Try.prog 36)) 1 = .block (blkN (nthC (rowOf Try.prog 36) 5)) (.loop (inLoop (nthC (rowOf Try.prog 36) 5))) := by kernel_rfl
theorem d36 : dropC 2 (dropC 4 (rowOf Try.prog 36)) = dropC 6 (rowOf Try.prog 36) := by kernel_rfl
/-- the words, so many bytes in -/
def wsA (x : By) : Nat → List D
  | 0 => zer64
  | i + 1 => stepA x (wsA x i) i
def wsB (w : List D) : Nat → List D
  | 0 => w
  | i + 1 => stepW (wsB w i) (16 + i)
def shaW (x : By) : List D := wsB (wsA x 64) 48
theorem wsA_len : ∀ i, (wsA x i).length = 64
  | 0 => rfl
  | i + 1 => by simp [wsA, stepA, put32_len, wsA_len i]
theorem wsB_len {w : List D} (h : w.length = 64) : ∀ i, (wsB w i).length = 64
  | 0 => h
  | i + 1 => by simp [wsB, stepW, put32_len, wsB_len h i]
theorem shaW_len : (shaW x).length = 64 := wsB_len (wsA_len x 64) 48
theorem runs36 : Runs Try.prog 36 [.one (.vl 0 0 64)] [.rd x 64] (.ag (toC32 (shaW x))) [.rd x 64, .own 64 (toC32 (shaW x))] true := by
  have L := fun (ws : List D) (h : ws.length = 64) => eq_lst32 h
  have A : DoesK Try.prog 1 (takeC 3 (rowOf Try.prog 36)) (wIn x) .normal (wA x (wsA x 0) 0) := sxp_is known7 (w36a x) AllT.nil
  have R1 : ∀ i, i < 64 → DoesK Try.prog 1 [inLoop (nthC (rowOf Try.prog 36) 3)] (wA x (wsA x i) i) .normal (wA x (wsA x (i + 1)) (i + 1)) := by
    intro i hi
    have h := map_at (w36r x (nth32 (wsA x i))) (a := i) (by simp; omega)
    simp only [← L _ (wsA_len x i)] at h
    exact sxp_is known7 h (AllT.cons rfl AllT.nil)
  have X1 : DoesK Try.prog 1 [inLoop (nthC (rowOf Try.prog 36) 3)] (wA x (wsA x 64) 64) (.exit (blkN (nthC (rowOf Try.prog 36) 3))) (wA x (wsA x 64) 64) := by
    have h := w36x x (nth32 (wsA x 64))
    simp only [← L _ (wsA_len x 64)] at h
    exact sxp_is known7 h AllT.nil
  have Bm : DoesK Try.prog 1 (takeC 1 (dropC 4 (rowOf Try.prog 36))) (wA x (wsA x 64) 64) .normal (wB x (wsB (wsA x 64) 0) (16 + 0)) := by
    have h := w36b x (nth32 (wsA x 64))
    simp only [← L _ (wsA_len x 64)] at h
    exact sxp_is known7 h AllT.nil
  have R2 : ∀ i, i < 48 → DoesK Try.prog 1 [inLoop (nthC (rowOf Try.prog 36) 5)] (wB x (wsB (wsA x 64) i) (16 + i)) .normal (wB x (wsB (wsA x 64) (i + 1)) (16 + (i + 1))) := by
    intro i hi
    have h := map_at (w36s x (nth32 (wsB (wsA x 64) i))) (a := 16 + i) (by simp; omega)
    simp only [← L _ (wsB_len (wsA_len x 64) i)] at h
    exact sxp_is known7 h AllT.nil
  have X2 : DoesK Try.prog 1 [inLoop (nthC (rowOf Try.prog 36) 5)] (wB x (wsB (wsA x 64) 48) (16 + 48)) (.exit (blkN (nthC (rowOf Try.prog 36) 5))) (wB x (shaW x) 64) := by
    have h := w36y x (nth32 (shaW x))
    simp only [← L _ (shaW_len x)] at h
    exact sxp_is known7 h AllT.nil
  have Z : DoesK Try.prog 1 (dropC 6 (rowOf Try.prog 36)) (wB x (shaW x) 64) .ret (wZ x (shaW x)) := by
    have h := w36z x (nth32 (shaW x))
    simp only [← L _ (shaW_len x)] at h
    exact sxp_is known7 h AllT.nil
  have tail : DoesK Try.prog 1 (dropC 4 (rowOf Try.prog 36)) (wA x (wsA x 64) 64) .ret (wZ x (shaW x)) :=
    DoesK.three (N := 48) (s := fun i => wB x (wsB (wsA x 64) i) (16 + i)) (Nat.le_of_ble_eq_true len36') at36' Bm R2 X2 (by rw [d36]; exact Z)
  have all : DoesK Try.prog 1 (rowOf Try.prog 36) (wIn x) .ret (wZ x (shaW x)) :=
    DoesK.three (N := 64) (s := fun i => wA x (wsA x i) i) (Nat.le_of_ble_eq_true len36) at36 A R1 X1 tail
  have hv := w36v x (nth32 (shaW x))
  simp only [← L _ (shaW_len x)] at hv
  exact runsK_of (hp := [.rd x 64]) code36 (.inr rfl) (n := 72) (by rw [Nat.eq_of_beq_eq_true tmps36]; rfl) all hv
end
/-- A view that is read, wherever it lies. -/
theorem Runs.readV {P : Program} {f : FuncId} {vs : List V} {v : V} {b : By} {bd bd' r i n : Nat} {hp1 : List Reg} {chg : Bool} (h : Runs P f (.one (.vl 0 0 n) :: vs) [.rd ((b.drop i).take n) bd] v hp1 chg) (hv : plainV vs = true) (hr : v.plain = true) {hp : List Reg} {R : Reg} (hat : hp[r]? = some R) (hb : R.bytes = some (b, bd')) (hle : n ≤ bd) :
    Runs P f (.one (.vl r i n) :: vs) hp v hp false := by
  intro B w0 E us w hvs hh
  cases us with
  | nil => exact hvs.elim
  | cons u us =>
    obtain ⟨hu, hvs⟩ := hvs
    obtain ⟨A, L, K, A', c, h1, rfl, h3, h4, h5, h6⟩ := hu
    obtain ⟨A2, K2, g1, g2, g3, g4, g5⟩ := (hh.at_ r R hat).bytes hb
    rw [h1] at g1
    injection g1 with e1
    injection e1 with e1
    injection e1 with e1 e2 e3
    subst e1 e2 e3
    have hlen : ((b.drop i).take n).length = n := by rw [List.length_take, List.length_drop]; omega
    have hreg : RegIs ⟨[.sv (.slice A' n c)]⟩ w 0 (.rd ((b.drop i).take n) bd) := by
      refine ⟨A', c, by rw [hlen]; rfl, by rw [hlen]; exact hle, by rw [hlen]; exact h5, h6, fun j y hj => ?_⟩
      have hjn : j < n := by
        rcases Nat.lt_or_ge j n with h | h
        · exact h
        · rw [List.getElem?_eq_none (by rw [hlen]; exact h)] at hj; cases hj
      obtain ⟨ad, ha, ha'⟩ := h3 (by omega)
      rw [List.getElem?_take_of_lt hjn, List.getElem?_drop] at hj
      obtain ⟨ad2, ha2, hcell⟩ := g5 (i + j) y hj
      rw [ha] at ha2
      cases ha2
      exact ⟨ad.add i, ha', by rw [add_add]; exact hcell⟩
    have hblk : ∀ g, (Value.slice A' n c).ownBlock = some g → 0 < n → g < w.heap.size := by
      intro g hg hn
      obtain ⟨ad, ha, ha'⟩ := h3 hn
      refine hh.lt r _ g h1 ?_
      subst ha ha'
      have e : (ad.add i).block = ad.block := by unfold Addr.add; split <;> rfl
      simpa [Ent.blk, Value.ownBlock, e] using hg
    by_cases hn : 0 < n
    · refine Calls.mono (h (fun _ => False) w ⟨[.sv (.slice A' n c)]⟩ _ w ⟨⟨A', n, c, A', c, by rw [show (([.sv (.slice A' n c)] : List Ent)[0]? = some (.sv (.slice A' n c))) from rfl], rfl, fun h => ?_, by omega, h5, h6⟩, plainV_is hv hvs⟩ (HR.alone hreg fun g hg => hblk g hg hn)) fun e w1 ⟨E1, x, _, he, hx, hh1, _⟩ => ?_
      · obtain ⟨ad, _, ha'⟩ := h3 h
        subst ha'
        exact ⟨_, rfl, by simp [Addr.add]⟩
      · have hg := hh1.grew
        refine ⟨E, x, E.le_refl, he, V.plain_is hr hx, hh.grow hg, fun _ => ⟨hg, fun q y g hq hy _ => ?_⟩⟩
        rw [hh.len] at hq
        rw [List.getElem?_eq_none hq] at hy
        cases hy
    · have h0 : n = 0 := by omega
      subst h0
      refine Calls.mono (h (fun _ => False) w ⟨[.sv (.slice none 0 0)]⟩ (.slice A' 0 c :: us) w ⟨⟨none, 0, 0, A', c, rfl, rfl, fun h => absurd h (by omega), by omega, h5, h6⟩, plainV_is hv hvs⟩ (HR.alone ⟨none, 0, by simp, by simp, by simp, by simp [maxLen], fun j y hj => by simp at hj⟩ fun g hg => by cases hg)) fun e w1 ⟨E1, x, _, he, hx, hh1, _⟩ => ?_
      have hg := hh1.grew
      refine ⟨E, x, E.le_refl, he, V.plain_is hr hx, hh.grow hg, fun _ => ⟨hg, fun q y g hq hy _ => ?_⟩⟩
      rw [hh.len] at hq
      rw [List.getElem?_eq_none hq] at hy
      cases hy
noncomputable def shaWM (vs : List V) (hp : List Reg) : Option (V × List Reg × Bool × Option Bool) :=
  match vs with
  | [.one (.vl r i 64)] => match regAt r hp with
    | some R => match R.bytes with
      | some (b, _) => some (.ag (toC32 (lst32 (nth32 (shaW ((b.drop i).take 64))) 0 64)), hp, false, none)
      | none => none
    | none => none
  | _ => none
theorem kshaW : ∀ vs hp v hp' chg ob, shaWM vs hp = some (v, hp', chg, ob) → (∀ x, ob = some x → x = true) → Runs Try.prog 36 vs hp v hp' chg := by
  intro vs hp v hp' chg ob h _
  unfold shaWM at h
  split at h
  · split at h
    · rename_i R hR
      split at h
      · rename_i b bd hb
        cases h
        rw [regAt_eq] at hR
        rw [← eq_lst32 (shaW_len _)]
        exact Runs.readV (runs36 _) rfl (by simp only [V.plain, toC32_plain]) hR hb (by decide)
      · cases h
    · cases h
  · cases h
end Go.Proofs.Sx
/- SHA-256, by the program: what its pieces do. -/
namespace Go.Proofs.Sx
open Go
noncomputable def M8 : Kn := addK (addK M7 35 padM) 36 shaWM
theorem known8 : Known Try.prog M8 := known_add (known_add known7 (kpad runs35)) kshaW

def inBlk : Code → Code
  | .block _ b => b
  | c => c
/-- the loop over the blocks, and its inner block -/
noncomputable def s17 : List Code := spine (inLoop (nthC (rowOf Try.prog 17) 4))
noncomputable def s17i : List Code := spine (inBlk (nthC s17 2))
def h0L : List D := [1779033703#32, 3144134277#32, 1013904242#32, 2773480762#32, 1359893119#32, 2600822924#32, 528734635#32, 1541459225#32]
def toC8 : By → List C
  | [] => []
  | x :: l => .w8 x :: toC8 l
def zer32 : By := [0#8, 0#8, 0#8, 0#8, 0#8, 0#8, 0#8, 0#8, 0#8, 0#8, 0#8, 0#8, 0#8, 0#8, 0#8, 0#8, 0#8, 0#8, 0#8, 0#8, 0#8, 0#8, 0#8, 0#8, 0#8, 0#8, 0#8, 0#8, 0#8, 0#8, 0#8, 0#8]
def t1S (s : List D) (k w : D) : D := nth32 s 7 + (ror (nth32 s 4) 6 ^^^ ror (nth32 s 4) 11 ^^^ ror (nth32 s 4) 25) + ((nth32 s 4 &&& nth32 s 5) ^^^ (~~~(nth32 s 4) &&& nth32 s 6)) + k + w
def t2S (s : List D) : D := (ror (nth32 s 0) 2 ^^^ ror (nth32 s 0) 13 ^^^ ror (nth32 s 0) 22) + ((nth32 s 0 &&& nth32 s 1) ^^^ (nth32 s 0 &&& nth32 s 2) ^^^ (nth32 s 1 &&& nth32 s 2))
def roundS (s : List D) (k w : D) : List D := [t1S s k w + t2S s, nth32 s 0, nth32 s 1, nth32 s 2, nth32 s 3 + t1S s k w, nth32 s 4, nth32 s 5, nth32 s 6]
section
variable (b p : By) (h s g : Nat → D) (i n : Nat)
noncomputable def shIn : St := ⟨tmOf [.one (.dy 0)] 0 (T.full 8), [.rd b 3000], false, 143, 1, [], []⟩
def shHp (p : By) (h : List D) : List Reg := [.rd b 3000, .own 33 (toC8 zer32), .own 63 (toC32 h), .own 64 (toC32 kL), .dyn 5 p 3200]
noncomputable def shS (v : C) (h : List D) (ds : List Bool) : St := ⟨slots [(2, .one (.pt 1 0)), (3, .one (.pt 2 0)), (4, .one (.pt 3 0)), (5, .one v)], shHp b p h, true, 143, 1, [], ds⟩
def shk : List (Nat × Bool) := [(2, false), (3, false), (4, false), (5, false)]
theorem h17a : sxp M8 (takeC 4 (rowOf Try.prog 17)) 1 [0, 1, 2, 3, 4] shk (shIn b) = some (.normal, shS b (padL b false) (.dy 4) h0L [], [Nat.ble b.length 3000]) := by kernel_rfl
theorem h17c : sxp M8 (takeC 2 s17) 1 [0, 1, 2, 3, 4] shk (shS b p (.vw 4 i n) (lst32 h 0 8) [true]) = some (.normal, shS b p (.vw 4 i n) (lst32 h 0 8) [], [Nat.blt 0 n]) := by kernel_rfl
theorem h17x : sxp M8 (takeC 2 s17) 1 [0, 1, 2, 3, 4] shk (shS b p (.vw 4 i n) (lst32 h 0 8) [false]) = some (.exit (blkN (nthC (rowOf Try.prog 17) 4)), shS b p (.vw 4 i n) (lst32 h 0 8) [], [!(Nat.blt 0 n)]) := by kernel_rfl
/-- in a block: the rounds -/
noncomputable def shR (c : Nat) (ws h s : List D) (j : Nat) : St := ⟨slots [(2, .one (.pt 1 0)), (3, .one (.pt 2 0)), (4, .one (.pt 3 0)), (5, .one (.vw 4 i n)), (6, .one (.pt 5 0)), (26, .ag (toC32 ws)), (c, .one (.it j))], shHp b p h ++ [.own 63 (toC32 s)], true, 143, 1, [], []⟩
def shk2 (c : Nat) : List (Nat × Bool) := [(2, false), (3, false), (4, false), (5, false), (6, false), (26, false), (c, false)]
def wsOf (p : By) (i : Nat) : List D := lst32 (nth32 (shaW ((p.drop i).take 64))) 0 64
theorem h17b : sxp M8 (takeC 2 s17i) 1 [0, 1, 2, 3, 4, 5] (shk2 27) (shS b p (.vw 4 i n) (lst32 h 0 8) []) = some (.normal, shR b p i n 27 (wsOf p i) (lst32 h 0 8) (lst32 h 0 8) 0, [Nat.ble 64 n]) := by kernel_rfl
theorem h17r : (List.range' 0 64).map (fun j => sxp M8 [inLoop (nthC s17i 2)] 1 [0, 1, 2, 3, 4, 5] (shk2 27) (shR b p i n 27 (lst32 g 0 64) (lst32 h 0 8) (lst32 s 0 8) j)) =
    (List.range' 0 64).map (fun j => some (.normal, shR b p i n 27 (lst32 g 0 64) (lst32 h 0 8) (roundS (lst32 s 0 8) (nth32 kL j) (nth32 (lst32 g 0 64) j)) (j + 1), [])) := by kernel_rfl
end
end Go.Proofs.Sx
/- SHA-256, by the program: what its last pieces do. -/
namespace Go.Proofs.Sx
open Go
def putB : Nat → BitVec 8 → By → By
  | 0, x, _ :: l => x :: l
  | n + 1, x, y :: l => y :: putB n x l
  | _, _, [] => []
def lst8 (f : Nat → BitVec 8) : Nat → Nat → By
  | _, 0 => []
  | i, n + 1 => f i :: lst8 f (i + 1) n
def nthB8 : By → Nat → BitVec 8
  | x :: _, 0 => x
  | _ :: l, n + 1 => nthB8 l n
  | [], _ => 0
theorem putB_len : ∀ (n : Nat) (x : BitVec 8) (l : By), (putB n x l).length = l.length
  | 0, _, _ :: _ => rfl
  | n + 1, x, _ :: l => by simp [putB, putB_len n x l]
  | 0, _, [] => rfl
  | _ + 1, _, [] => rfl
theorem lst8_nth : ∀ (ws : By) (f : Nat → BitVec 8) (i : Nat), (∀ j, f (i + j) = nthB8 ws j) → lst8 f i ws.length = ws
  | [], _, _, _ => rfl
  | w :: ws, f, i, h => by
    have h0 := h 0
    simp only [Nat.add_zero, nthB8] at h0
    simp only [List.length_cons, lst8, h0]
    rw [lst8_nth ws f (i + 1) fun j => by have := h (j + 1); simpa [nthB8, Nat.add_assoc, Nat.add_comm 1] using this]
theorem eq_lst8 {ws : By} {n : Nat} (h : ws.length = n) : ws = lst8 (nthB8 ws) 0 n := by
  rw [← h, lst8_nth ws (nthB8 ws) 0 fun j => by rw [Nat.zero_add]]
theorem toC8_plain : ∀ ws : By, plains (toC8 ws) = true
  | [] => rfl
  | _ :: ws => toC8_plain ws
/-- a word more -/
def addH (h s : List D) (j : Nat) : List D := put32 j (nth32 h j + nth32 s j) h
def outS (h : List D) (o : By) (i : Nat) : By := putB i (BitVec.setWidth 8 (nth32 h (i / 4) >>> (24 - i % 4 * 8))) o
section
variable (b p : By) (h s g : Nat → D) (o : Nat → BitVec 8) (i n : Nat)
theorem h17y : sxp M8 [inLoop (nthC s17i 2)] 1 [0, 1, 2, 3, 4, 5] (shk2 27) (shR b p i n 27 (lst32 g 0 64) (lst32 h 0 8) (lst32 s 0 8) 64) =
    some (.exit (blkN (nthC s17i 2)), shR b p i n 27 (lst32 g 0 64) (lst32 h 0 8) (lst32 s 0 8) 64, []) := by kernel_rfl
theorem h17d : sxp M8 (takeC 1 (dropC 3 s17i)) 1 [0, 1, 2, 3, 4, 5] (shk2 114) (shR b p i n 27 (lst32 g 0 64) (lst32 h 0 8) (lst32 s 0 8) 64) =
    some (.normal, shR b p i n 114 (lst32 g 0 64) (lst32 h 0 8) (lst32 s 0 8) 0, []) := by kernel_rfl
theorem h17s : (List.range' 0 8).map (fun j => sxp M8 [inLoop (nthC s17i 4)] 1 [0, 1, 2, 3, 4, 5] (shk2 114) (shR b p i n 114 (lst32 g 0 64) (lst32 h 0 8) (lst32 s 0 8) j)) =
    (List.range' 0 8).map (fun j => some (.normal, shR b p i n 114 (lst32 g 0 64) (addH (lst32 h 0 8) (lst32 s 0 8) j) (lst32 s 0 8) (j + 1), [])) := by kernel_rfl
theorem h17z : sxp M8 [inLoop (nthC s17i 4)] 1 [0, 1, 2, 3, 4] shk (shR b p i n 114 (lst32 g 0 64) (lst32 h 0 8) (lst32 s 0 8) 8) =
    some (.exit (blkN (nthC s17i 4)), shS b p (.vw 4 i n) (lst32 h 0 8) [], []) := by kernel_rfl
theorem h17e : dropC 5 s17i = [] := by kernel_rfl
theorem h17f : sxp M8 (dropC 3 s17) 1 [0, 1, 2, 3, 4] shk (shS b p (.vw 4 i n) (lst32 h 0 8) []) = some (.normal, shS b p (.vw 4 (i + 64) (n - 64)) (lst32 h 0 8) [], [Nat.ble 64 n]) := by kernel_rfl
noncomputable def shO (h : List D) (o : By) (j : Nat) : St := ⟨slots [(2, .one (.pt 1 0)), (3, .one (.pt 2 0)), (12, .one (.pt 3 0)), (126, .one (.it j))], [.rd b 3000, .own 33 (toC8 zer32), .own 63 (toC32 h), .own 33 (toC8 o)], true, 143, 1, [], []⟩
def shk3 : List (Nat × Bool) := [(2, false), (3, false), (12, false), (126, false)]
theorem h17g : sxp M8 (takeC 2 (dropC 5 (rowOf Try.prog 17))) 1 [0, 1, 2, 5] shk3 (shS b p (.vw 4 i n) (lst32 h 0 8) []) = some (.normal, shO b (lst32 h 0 8) zer32 0, []) := by kernel_rfl
theorem h17o : (List.range' 0 32).map (fun j => sxp M8 [inLoop (nthC (rowOf Try.prog 17) 7)] 1 [0, 1, 2, 3] shk3 (shO b (lst32 h 0 8) (lst8 o 0 32) j)) =
    (List.range' 0 32).map (fun j => some (.normal, shO b (lst32 h 0 8) (outS (lst32 h 0 8) (lst8 o 0 32) j) (j + 1), [])) := by kernel_rfl
theorem h17p : sxp M8 [inLoop (nthC (rowOf Try.prog 17) 7)] 1 [0, 1, 2, 3] shk3 (shO b (lst32 h 0 8) (lst8 o 0 32) 32) = some (.exit (blkN (nthC (rowOf Try.prog 17) 7)), shO b (lst32 h 0 8) (lst8 o 0 32) 32, []) := by kernel_rfl
noncomputable def shZ (o : By) : St := ⟨slots [(2, .one (.pt 1 0))], [.rd b 3000, .own 33 (toC8 o)], true, 143, 1, [], []⟩
theorem h17q : sxp M8 (dropC 8 (rowOf Try.prog 17)) 1 [0, 1] [(2, false)] (shO b (lst32 h 0 8) (lst8 o 0 32) 32) = some (.ret, shZ b (lst8 o 0 32), []) := by kernel_rfl
theorem h17v : resV Try.prog (fnOf Try.prog 17).results.toList (slots [(2, .one (.pt 1 0))]) [.rd b 3000, .own 33 (toC8 (lst8 o 0 32))] = some (.ag (toC8 (lst8 o 0 32))) := by kernel_rfl
end
theorem code17 : hasCode Try.prog 17 = true := by kernel_rfl
theorem tmps17 : Nat.beq (fnOf Try.prog 17).ntmps 143 = true := by kernel_rfl
theorem len17 : Nat.blt 4 (lenL (rowOf Try.prog 17)) = true := by kernel_rfl
theorem len17' : Nat.blt 2 (lenL (dropC 5 (rowOf Try.prog 17))) = true := by kernel_rfl
theorem len17s : Nat.blt 2 (lenL s17) = true := by kernel_rfl
theorem len17i : Nat.blt 2 (lenL s17i) = true := by kernel_rfl
theorem len17j : Nat.blt 1 (lenL (dropC 3 s17i)) = true := by kernel_rfl
theorem at17 : nthC (rowOf Try.prog 17) 4 = .block (blkN (nthC (rowOf Try.prog 17) 4)) (.loop (inLoop (nthC (rowOf Try.prog 17) 4))) := by kernel_rfl
theorem at17' : nthC (dropC 5 (rowOf Try.prog 17)) 2 = .block (blkN (nthC (rowOf Try.prog 17) 7)) (.loop (inLoop (nthC (rowOf Try.prog 17) 7))) := by kernel_rfl
theorem at17s : nthC s17 2 = .block (blkN (nthC s17 2)) (inBlk (nthC s17 2)) := by kernel_rfl
theorem at17i : nthC s17i 2 = .block (blkN (nthC s17i 2)) (.loop (inLoop (nthC s17i 2))) := by kernel_rfl
theorem at17j : nthC (dropC 3 s17i) 1 = .block (blkN (nthC s17i 4)) (.loop (inLoop (nthC s17i 4))) := by kernel_rfl
theorem d17 : dropC 3 (dropC 5 (rowOf Try.prog 17)) = dropC 8 (rowOf Try.prog 17) := by kernel_rfl
theorem d17i : dropC 2 (dropC 3 s17i) = [] := by kernel_rfl
end Go.Proofs.Sx
/- SHA-256, by the program: what it hands back. -/
namespace Go.Proofs.Sx
open Go
theorem DoesK.block {P : Program} {k id : Nat} {c : Code} {s s' : St} (h : DoesK P k (spine c) s .normal s') : DoesK P k [.block id c] s .normal s' := by
  intro B w0 wc E a w Q hR hQ
  refine wp_block (wp_spine c _ a w (h B w0 wc E a w _ hR fun E1 a1 w1 hE hR1 => ?_))
  exact hQ E1 a1 w1 hE hR1
/-- Bytes of one's own, as a view. -/
theorem DoesK.view {P : Program} {k : Nat} {l : List Code} {s : St} {e : Ex} {tm tm' : T} {hp : List Reg} {c : Bool} {n b r bd : Nat} {ob ds : List Bool} {t : TypeId} {x : By} (h : DoesK P k l s e ⟨tm, hp, c, n, b, ob, ds⟩) (hr : hp[r]? = some (.dyn t x bd))
    (hs : ∀ i v, tm'.get i = some v → tm.get i = some v ∨ (tm.get i = some (.one (.dy r)) ∧ v = .one (.vw r 0 x.length))) : DoesK P k l s e ⟨tm', hp, c, n, b, ob, ds⟩ :=
  fun B w0 wc E a w Q hR hQ => h B w0 wc E a w Q hR fun E1 a1 w1 hE hR1 => by
    refine hQ E1 a1 w1 hE ⟨⟨hR1.tr.defers, hR1.tr.size, fun i v hv => ?_⟩, hR1.hr, hR1.ch⟩
    rcases hs i v hv with h1 | ⟨h1, rfl⟩
    · exact hR1.tr.at_ i v h1
    · obtain ⟨u, h2, h3⟩ := hR1.tr.at_ i _ h1
      obtain ⟨A, K, g1, g2, g3, g4, g5⟩ := (hR1.hr.at_ r _ hr).bytes rfl
      have h3' : E1.reg[r]? = some (.sv u) := h3
      rw [g1] at h3'
      cases h3'
      refine ⟨_, h2, A, x.length, K, A, K, g1, rfl, fun hpos => ?_, by omega, g3, g4⟩
      obtain ⟨ad, e1, _⟩ := g5 0 x[0] (List.getElem?_eq_getElem hpos)
      exact ⟨ad, e1, by rw [e1]; simp [Addr.add]⟩

def roundsS (ws s : List D) : Nat → List D
  | 0 => s
  | j + 1 => roundS (roundsS ws s j) (nth32 kL j) (nth32 ws j)
def addsH (h s : List D) : Nat → List D
  | 0 => h
  | j + 1 => addH (addsH h s j) s j
def blockH (p : By) (i : Nat) (h : List D) : List D := addsH h (roundsS (wsOf p i) h 64) 8
def hashS (p : By) : Nat → List D
  | 0 => h0L
  | k + 1 => blockH p (64 * k) (hashS p k)
def outsS (h : List D) : Nat → By
  | 0 => zer32
  | j + 1 => outS h (outsS h j) j
def shaB (p : By) : By := outsS (hashS p (p.length / 64)) 32
theorem roundsS_len {ws s : List D} (h : s.length = 8) : ∀ j, (roundsS ws s j).length = 8
  | 0 => h
  | _ + 1 => rfl
theorem addsH_len {h s : List D} (hl : h.length = 8) : ∀ j, (addsH h s j).length = 8
  | 0 => hl
  | j + 1 => by simp [addsH, addH, put32_len, addsH_len hl j]
theorem hashS_len (p : By) : ∀ k, (hashS p k).length = 8
  | 0 => rfl
  | k + 1 => addsH_len (hashS_len p k) 8
theorem outsS_len (h : List D) : ∀ j, (outsS h j).length = 32
  | 0 => rfl
  | j + 1 => by simp [outsS, outS, putB_len, outsS_len h j]
theorem wsOf_len (p : By) (i : Nat) : (wsOf p i).length = 64 := by
  unfold wsOf
  rw [← eq_lst32 (shaW_len _)]
  exact shaW_len _
theorem padL_len (b : By) (low : Bool) : (padL b low).length = b.length + 1 + zerosN b + 8 := by simp [padL, padZ_len, lens_len]
theorem padL_mod (b : By) (low : Bool) : (padL b low).length % 64 = 0 := by
  have := zerosN_mod b
  rw [padL_len]
  omega
theorem padL_le (b : By) (low : Bool) (h : b.length ≤ 3000) : (padL b low).length ≤ 3200 := by
  have := zerosN_lt b
  rw [padL_len]
  omega

section
variable (b p : By)
theorem block_does (i n : Nat) (hn : 64 ≤ n) (h : List D) (hl : h.length = 8) : DoesK Try.prog 1 [nthC s17 2] (shS b p (.vw 4 i n) h []) .normal (shS b p (.vw 4 i n) (blockH p i h) []) := by
  have eH := eq_lst32 hl
  have eW := eq_lst32 (wsOf_len p i)
  have rl := fun j => roundsS_len (ws := wsOf p i) hl j
  have al := fun j => addsH_len (s := roundsS (wsOf p i) h 64) hl j
  have A : DoesK Try.prog 1 (takeC 2 s17i) (shS b p (.vw 4 i n) h []) .normal (shR b p i n 27 (wsOf p i) h (roundsS (wsOf p i) h 0) 0) := by
    have f := h17b b p (nth32 h) i n
    simp only [← eH] at f
    exact sxp_is known8 f (AllT.cons (Nat.ble_eq_true_of_le hn) AllT.nil)
  have R1 : ∀ j, j < 64 → DoesK Try.prog 1 [inLoop (nthC s17i 2)] (shR b p i n 27 (wsOf p i) h (roundsS (wsOf p i) h j) j) .normal (shR b p i n 27 (wsOf p i) h (roundsS (wsOf p i) h (j + 1)) (j + 1)) := by
    intro j hj
    have f := map_at (h17r b p (nth32 h) (nth32 (roundsS (wsOf p i) h j)) (nth32 (wsOf p i)) i n) (a := j) (by simp; omega)
    simp only [← eH, ← eW, ← eq_lst32 (rl j)] at f
    exact sxp_is known8 f AllT.nil
  have X1 : DoesK Try.prog 1 [inLoop (nthC s17i 2)] (shR b p i n 27 (wsOf p i) h (roundsS (wsOf p i) h 64) 64) (.exit (blkN (nthC s17i 2))) (shR b p i n 27 (wsOf p i) h (roundsS (wsOf p i) h 64) 64) := by
    have f := h17y b p (nth32 h) (nth32 (roundsS (wsOf p i) h 64)) (nth32 (wsOf p i)) i n
    simp only [← eH, ← eW, ← eq_lst32 (rl 64)] at f
    exact sxp_is known8 f AllT.nil
  have Bm : DoesK Try.prog 1 (takeC 1 (dropC 3 s17i)) (shR b p i n 27 (wsOf p i) h (roundsS (wsOf p i) h 64) 64) .normal (shR b p i n 114 (wsOf p i) (addsH h (roundsS (wsOf p i) h 64) 0) (roundsS (wsOf p i) h 64) 0) := by
    have f := h17d b p (nth32 h) (nth32 (roundsS (wsOf p i) h 64)) (nth32 (wsOf p i)) i n
    simp only [← eH, ← eW, ← eq_lst32 (rl 64)] at f
    exact sxp_is known8 f AllT.nil
  have R2 : ∀ j, j < 8 → DoesK Try.prog 1 [inLoop (nthC s17i 4)] (shR b p i n 114 (wsOf p i) (addsH h (roundsS (wsOf p i) h 64) j) (roundsS (wsOf p i) h 64) j) .normal (shR b p i n 114 (wsOf p i) (addsH h (roundsS (wsOf p i) h 64) (j + 1)) (roundsS (wsOf p i) h 64) (j + 1)) := by
    intro j hj
    have f := map_at (h17s b p (nth32 (addsH h (roundsS (wsOf p i) h 64) j)) (nth32 (roundsS (wsOf p i) h 64)) (nth32 (wsOf p i)) i n) (a := j) (by simp; omega)
    simp only [← eq_lst32 (al j), ← eW, ← eq_lst32 (rl 64)] at f
    exact sxp_is known8 f AllT.nil
  have X2 : DoesK Try.prog 1 [inLoop (nthC s17i 4)] (shR b p i n 114 (wsOf p i) (addsH h (roundsS (wsOf p i) h 64) 8) (roundsS (wsOf p i) h 64) 8) (.exit (blkN (nthC s17i 4))) (shS b p (.vw 4 i n) (blockH p i h) []) := by
    have f := h17z b p (nth32 (addsH h (roundsS (wsOf p i) h 64) 8)) (nth32 (roundsS (wsOf p i) h 64)) (nth32 (wsOf p i)) i n
    simp only [← eq_lst32 (al 8), ← eW, ← eq_lst32 (rl 64)] at f
    exact sxp_is known8 f AllT.nil
  have tail : DoesK Try.prog 1 (dropC 3 s17i) (shR b p i n 27 (wsOf p i) h (roundsS (wsOf p i) h 64) 64) .normal (shS b p (.vw 4 i n) (blockH p i h) []) :=
    DoesK.three (N := 8) (s := fun j => shR b p i n 114 (wsOf p i) (addsH h (roundsS (wsOf p i) h 64) j) (roundsS (wsOf p i) h 64) j) (Nat.le_of_ble_eq_true len17j) at17j Bm R2 X2 (by
      rw [d17i]
      exact fun B w0 wc E a w Q hR hQ => hQ E a w (Env.leK_refl _ _) hR)
  have all : DoesK Try.prog 1 s17i (shS b p (.vw 4 i n) h []) .normal (shS b p (.vw 4 i n) (blockH p i h) []) :=
    DoesK.three (N := 64) (s := fun j => shR b p i n 27 (wsOf p i) h (roundsS (wsOf p i) h j) j) (Nat.le_of_ble_eq_true len17i) at17i A R1 X1 tail
  rw [at17s]
  exact DoesK.block all
theorem body_does (i n : Nat) (hn : 64 ≤ n) (h : List D) (hl : h.length = 8) : DoesK Try.prog 1 [inLoop (nthC (rowOf Try.prog 17) 4)] (shS b p (.vw 4 i n) h []) .normal (shS b p (.vw 4 (i + 64) (n - 64)) (blockH p i h) []) := by
  have eH := eq_lst32 hl
  have eB := eq_lst32 (show (blockH p i h).length = 8 from addsH_len hl 8)
  have C1 : DoesK Try.prog 1 (takeC 2 s17) (shS b p (.vw 4 i n) h []) .normal (shS b p (.vw 4 i n) h []) := by
    have f := h17c b p (nth32 h) i n
    simp only [← eH] at f
    exact sxp_is known8 f (AllT.cons (Nat.ble_eq_true_of_le (by omega : 0 + 1 ≤ n)) AllT.nil)
  have C3 : DoesK Try.prog 1 (dropC 3 s17) (shS b p (.vw 4 i n) (blockH p i h) []) .normal (shS b p (.vw 4 (i + 64) (n - 64)) (blockH p i h) []) := by
    have f := h17f b p (nth32 (blockH p i h)) i n
    simp only [← eB] at f
    exact sxp_is known8 f (AllT.cons (Nat.ble_eq_true_of_le hn) AllT.nil)
  have all : DoesK Try.prog 1 s17 (shS b p (.vw 4 i n) h []) .normal (shS b p (.vw 4 (i + 64) (n - 64)) (blockH p i h) []) := by
    have hp := parts3 2 s17 (Nat.le_of_ble_eq_true len17s)
    rw [← hp]
    exact C1.append (DoesK.append (l := [nthC s17 2]) (block_does b p i n hn h hl) C3)
  intro B w0 wc E a w Q hR hQ
  refine Code.wp_mono (fun e a w h => ?_) (wp_spine (inLoop (nthC (rowOf Try.prog 17) 4)) Q a w (all B w0 wc E a w Q hR hQ))
  cases e <;> exact h
end
theorem runs17 (b : By) (hb : b.length ≤ 3000) : ∃ hp1, Runs Try.prog 17 [.one (.dy 0)] [.rd b 3000] (.ag (toC8 (shaB (padL b false)))) hp1 true := by
  have hm := padL_mod b false
  have hle := padL_le b false hb
  generalize hp : padL b false = p at hm hle
  have A : DoesK Try.prog 1 (takeC 4 (rowOf Try.prog 17)) (shIn b) .normal (shS b p (.vw 4 (64 * 0) (p.length - 64 * 0)) (hashS p 0) []) := by
    have h := sxp_is known8 (h17a b) (AllT.cons (Nat.ble_eq_true_of_le hb) AllT.nil)
    rw [hp] at h
    refine DoesK.view (r := 4) (x := p) h rfl fun i v hv => ?_
    have hv := slots_get _ _ _ hv
    simp only [List.mem_cons, List.not_mem_nil, or_false, Prod.mk.injEq] at hv
    rcases hv with ⟨rfl, rfl⟩ | ⟨rfl, rfl⟩ | ⟨rfl, rfl⟩ | ⟨rfl, rfl⟩
    · exact .inl (by kernel_rfl)
    · exact .inl (by kernel_rfl)
    · exact .inl (by kernel_rfl)
    · exact .inr ⟨by kernel_rfl, rfl⟩
  have R1 : ∀ k, k < p.length / 64 → DoesK Try.prog 1 [inLoop (nthC (rowOf Try.prog 17) 4)] (shS b p (.vw 4 (64 * k) (p.length - 64 * k)) (hashS p k) []) .normal (shS b p (.vw 4 (64 * (k + 1)) (p.length - 64 * (k + 1))) (hashS p (k + 1)) []) := by
    intro k hk
    have h := body_does b p (64 * k) (p.length - 64 * k) (by omega) (hashS p k) (hashS_len p k)
    rw [show 64 * (k + 1) = 64 * k + 64 by omega, show p.length - (64 * k + 64) = p.length - 64 * k - 64 by omega]
    exact h
  have eF := eq_lst32 (hashS_len p (p.length / 64))
  have X1 : DoesK Try.prog 1 [inLoop (nthC (rowOf Try.prog 17) 4)] (shS b p (.vw 4 (64 * (p.length / 64)) (p.length - 64 * (p.length / 64))) (hashS p (p.length / 64)) []) (.exit (blkN (nthC (rowOf Try.prog 17) 4))) (shS b p (.vw 4 (64 * (p.length / 64)) (p.length - 64 * (p.length / 64))) (hashS p (p.length / 64)) []) := by
    have f := h17x b p (nth32 (hashS p (p.length / 64))) (64 * (p.length / 64)) (p.length - 64 * (p.length / 64))
    simp only [← eF] at f
    have h0 : p.length - 64 * (p.length / 64) = 0 := by omega
    have hx : DoesK Try.prog 1 s17 (shS b p (.vw 4 (64 * (p.length / 64)) (p.length - 64 * (p.length / 64))) (hashS p (p.length / 64)) []) (.exit (blkN (nthC (rowOf Try.prog 17) 4))) (shS b p (.vw 4 (64 * (p.length / 64)) (p.length - 64 * (p.length / 64))) (hashS p (p.length / 64)) []) := by
      have hpz := parts3 2 s17 (Nat.le_of_ble_eq_true len17s)
      have h2 := sxp_is known8 f (AllT.cons (by rw [h0]; rfl) AllT.nil)
      rw [← hpz]
      intro B w0 wc E a w Q hR hQ
      have key : ∀ (l l' : List Code) (a : Act) (w : World), wpL Try.prog l (fun e a w => e ≠ .normal ∧ Q e a w) a w → wpL Try.prog (l ++ l') Q a w := by
        intro l l'
        induction l with
        | nil => intro a w h; exact absurd rfl h.1
        | cons c cs ih =>
          intro a w h
          refine Code.wp_mono (fun e a w h => ?_) h
          cases e with
          | normal => exact ih a w h
          | _ => exact h.2
      exact key _ _ a w (h2 B w0 wc E a w _ hR fun E1 a1 w1 hE hR1 => ⟨by simp [Ex.to], hQ E1 a1 w1 hE hR1⟩)
    intro B w0 wc E a w Q hR hQ
    refine Code.wp_mono (fun e a w h => ?_) (wp_spine (inLoop (nthC (rowOf Try.prog 17) 4)) Q a w (hx B w0 wc E a w Q hR hQ))
    cases e <;> exact h
  have O0 : DoesK Try.prog 1 (takeC 2 (dropC 5 (rowOf Try.prog 17))) (shS b p (.vw 4 (64 * (p.length / 64)) (p.length - 64 * (p.length / 64))) (hashS p (p.length / 64)) []) .normal (shO b (hashS p (p.length / 64)) (outsS (hashS p (p.length / 64)) 0) 0) := by
    have f := h17g b p (nth32 (hashS p (p.length / 64))) (64 * (p.length / 64)) (p.length - 64 * (p.length / 64))
    simp only [← eF] at f
    exact sxp_is known8 f AllT.nil
  have O1 : ∀ j, j < 32 → DoesK Try.prog 1 [inLoop (nthC (rowOf Try.prog 17) 7)] (shO b (hashS p (p.length / 64)) (outsS (hashS p (p.length / 64)) j) j) .normal (shO b (hashS p (p.length / 64)) (outsS (hashS p (p.length / 64)) (j + 1)) (j + 1)) := by
    intro j hj
    have f := map_at (h17o b (nth32 (hashS p (p.length / 64))) (nthB8 (outsS (hashS p (p.length / 64)) j))) (a := j) (by simp; omega)
    simp only [← eF, ← eq_lst8 (outsS_len _ j)] at f
    exact sxp_is known8 f AllT.nil
  have O2 : DoesK Try.prog 1 [inLoop (nthC (rowOf Try.prog 17) 7)] (shO b (hashS p (p.length / 64)) (outsS (hashS p (p.length / 64)) 32) 32) (.exit (blkN (nthC (rowOf Try.prog 17) 7))) (shO b (hashS p (p.length / 64)) (outsS (hashS p (p.length / 64)) 32) 32) := by
    have f := h17p b (nth32 (hashS p (p.length / 64))) (nthB8 (outsS (hashS p (p.length / 64)) 32))
    simp only [← eF, ← eq_lst8 (outsS_len _ 32)] at f
    exact sxp_is known8 f AllT.nil
  have O3 : DoesK Try.prog 1 (dropC 8 (rowOf Try.prog 17)) (shO b (hashS p (p.length / 64)) (outsS (hashS p (p.length / 64)) 32) 32) .ret (shZ b (shaB p)) := by
    have f := h17q b (nth32 (hashS p (p.length / 64))) (nthB8 (outsS (hashS p (p.length / 64)) 32))
    simp only [← eF, ← eq_lst8 (outsS_len _ 32)] at f
    exact sxp_is known8 f AllT.nil
  have tail : DoesK Try.prog 1 (dropC 5 (rowOf Try.prog 17)) (shS b p (.vw 4 (64 * (p.length / 64)) (p.length - 64 * (p.length / 64))) (hashS p (p.length / 64)) []) .ret (shZ b (shaB p)) :=
    DoesK.three (N := 32) (s := fun j => shO b (hashS p (p.length / 64)) (outsS (hashS p (p.length / 64)) j) j) (Nat.le_of_ble_eq_true len17') at17' O0 O1 O2 (by rw [d17]; exact O3)
  have all : DoesK Try.prog 1 (rowOf Try.prog 17) (shIn b) .ret (shZ b (shaB p)) :=
    DoesK.three (N := p.length / 64) (s := fun k => shS b p (.vw 4 (64 * k) (p.length - 64 * k)) (hashS p k) []) (Nat.le_of_ble_eq_true len17) at17 A R1 X1 tail
  have hv := h17v b (nthB8 (shaB p))
  simp only [← eq_lst8 (show (shaB p).length = 32 from outsS_len _ 32)] at hv
  exact ⟨_, runsK_of (hp := [.rd b 3000]) code17 (.inr rfl) (n := 143) (by rw [Nat.eq_of_beq_eq_true tmps17]; rfl) all hv⟩
end Go.Proofs.Sx
/- SHA-256, by the reference: what its pieces do. -/
namespace Go.Proofs.Sx
open Go
noncomputable def M9 : Kn := addK M7 39 padM
theorem known9 : Known Try.prog M9 := known_add known7 (kpad runs39)
noncomputable def s18 : List Code := spine (inLoop (nthC (rowOf Try.prog 18) 5))
noncomputable def s18i : List Code := spine (inBlk (nthC s18 2))
noncomputable def s18w : List Code := spine (inLoop (nthC s18i 2))
noncomputable def s18v : List Code := spine (inBlk (nthC s18w 2))
def stepR (β : Nat → D) (w : List D) (q : Nat) : List D := put32 (q / 4) (nth32 w (q / 4) <<< 8 ||| β q) w
def stepR2 (w : List D) (t : Nat) : List D := put32 t (sig1 (nth32 w (t - 2)) + nth32 w (t - 7) + sig0 (nth32 w (t - 15)) + nth32 w (t - 16)) w
def bAt (p : By) (i q : Nat) : D := BitVec.setWidth 32 (p.getD (0 + (i + 4 * (q / 4) + q % 4)) 0#8)
section
variable (b p : By) (h s g : Nat → D) (o : Nat → BitVec 8) (i : Nat)
noncomputable def reIn : St := ⟨tmOf [.one (.dy 0)] 0 (T.full 8), [.rd b 3000], false, 209, 1, [], []⟩
noncomputable def reS (h : List D) (ds : List Bool) : St := ⟨slots [(2, .one (.pt 1 0)), (3, .one (.pt 2 0)), (4, .one (.pt 3 0)), (5, .one (.dy 4)), (6, .one (.sy i))], shHp b p h, true, 209, 1, [], ds⟩
def rek : List (Nat × Bool) := [(2, false), (3, false), (4, false), (5, false), (6, true)]
theorem h18a : sxp M9 (takeC 5 (rowOf Try.prog 18)) 1 [0, 1, 2, 3, 4] rek (reIn b) = some (.normal, reS b (padL b false) 0 h0L [], [Nat.ble b.length 3000]) := by kernel_rfl
theorem h18c : sxp M9 (takeC 2 s18) 1 [0, 1, 2, 3, 4] rek (reS b p i (lst32 h 0 8) [true]) = some (.normal, reS b p i (lst32 h 0 8) [], [Nat.blt i p.length]) := by kernel_rfl
theorem h18x : sxp M9 (takeC 2 s18) 1 [0, 1, 2, 3, 4] rek (reS b p i (lst32 h 0 8) [false]) = some (.exit (blkN (nthC (rowOf Try.prog 18) 5)), reS b p i (lst32 h 0 8) [], [!(Nat.blt i p.length)]) := by kernel_rfl
/-- the words -/
noncomputable def reW (w h : List D) (l : List (Nat × V)) : St := ⟨slots ([(2, .one (.pt 1 0)), (3, .one (.pt 2 0)), (4, .one (.pt 3 0)), (5, .one (.dy 4)), (6, .one (.sy i)), (7, .one (.pt 5 0))] ++ l), shHp b p h ++ [.own 64 (toC32 w)], true, 209, 1, [], []⟩
def rekW (l : List Nat) : List (Nat × Bool) := [(2, false), (3, false), (4, false), (5, false), (6, true), (7, false)] ++ l.map fun i => (i, false)
theorem h18b : sxp M9 (takeC 2 s18i) 1 [0, 1, 2, 3, 4, 5] (rekW [8]) (reS b p i (lst32 h 0 8) []) = some (.normal, reW b p i zer64 (lst32 h 0 8) [(8, .one (.it 0))], []) := by kernel_rfl
theorem h18w : (List.range' 0 16).map (fun t => sxp M9 (takeC 2 s18w ++ takeC 1 s18v) 1 [0, 1, 2, 3, 4, 5] (rekW [8, 9]) (reW b p i (lst32 g 0 64) (lst32 h 0 8) [(8, .one (.it t))])) =
    (List.range' 0 16).map (fun t => some (.normal, reW b p i (lst32 g 0 64) (lst32 h 0 8) [(8, .one (.it t)), (9, .one (.it 0))], [])) := by kernel_rfl
theorem h18k : (List.range' 0 64).map (fun q => sxp M9 [inLoop (nthC s18v 1)] 1 [0, 1, 2, 3, 4, 5] (rekW [8, 9]) (reW b p i (lst32 g 0 64) (lst32 h 0 8) [(8, .one (.it (q / 4))), (9, .one (.it (q % 4)))])) =
    (List.range' 0 64).map (fun q => some (.normal, reW b p i (stepR (bAt p i) (lst32 g 0 64) q) (lst32 h 0 8) [(8, .one (.it (q / 4))), (9, .one (.it (q % 4 + 1)))], [Nat.blt (i + 4 * (q / 4) + q % 4) p.length, Nat.ble (i + 4 * (q / 4) + q % 4) 9223372036854775807, Nat.ble (i + 4 * (q / 4)) 9223372036854775807])) := by kernel_rfl
theorem h18l : (List.range' 0 16).map (fun t => sxp M9 [inLoop (nthC s18v 1)] 1 [0, 1, 2, 3, 4, 5] (rekW [8]) (reW b p i (lst32 g 0 64) (lst32 h 0 8) [(8, .one (.it t)), (9, .one (.it 4))])) =
    (List.range' 0 16).map (fun t => some (.exit (blkN (nthC s18v 1)), reW b p i (lst32 g 0 64) (lst32 h 0 8) [(8, .one (.it t))], [])) := by kernel_rfl
theorem h18m : (List.range' 0 16).map (fun t => sxp M9 (dropC 3 s18w) 1 [0, 1, 2, 3, 4, 5] (rekW [8]) (reW b p i (lst32 g 0 64) (lst32 h 0 8) [(8, .one (.it t))])) =
    (List.range' 0 16).map (fun t => some (.normal, reW b p i (lst32 g 0 64) (lst32 h 0 8) [(8, .one (.it (t + 1)))], [])) := by kernel_rfl
theorem h18n : sxp M9 (takeC 2 s18w) 1 [0, 1, 2, 3, 4, 5] (rekW [8]) (reW b p i (lst32 g 0 64) (lst32 h 0 8) [(8, .one (.it 16))]) = some (.exit (blkN (nthC s18i 2)), reW b p i (lst32 g 0 64) (lst32 h 0 8) [(8, .one (.it 16))], []) := by kernel_rfl
/-- the other words -/
theorem h18d : sxp M9 (takeC 1 (dropC 3 s18i)) 1 [0, 1, 2, 3, 4, 5] (rekW [10]) (reW b p i (lst32 g 0 64) (lst32 h 0 8) [(8, .one (.it 16))]) = some (.normal, reW b p i (lst32 g 0 64) (lst32 h 0 8) [(10, .one (.it 16))], []) := by kernel_rfl
theorem h18e : (List.range' 16 48).map (fun t => sxp M9 [inLoop (nthC s18i 4)] 1 [0, 1, 2, 3, 4, 5] (rekW [10]) (reW b p i (lst32 g 0 64) (lst32 h 0 8) [(10, .one (.it t))])) =
    (List.range' 16 48).map (fun t => some (.normal, reW b p i (stepR2 (lst32 g 0 64) t) (lst32 h 0 8) [(10, .one (.it (t + 1)))], [])) := by kernel_rfl
theorem h18f : sxp M9 [inLoop (nthC s18i 4)] 1 [0, 1, 2, 3, 4, 5] (rekW []) (reW b p i (lst32 g 0 64) (lst32 h 0 8) [(10, .one (.it 64))]) = some (.exit (blkN (nthC s18i 4)), reW b p i (lst32 g 0 64) (lst32 h 0 8) [], []) := by kernel_rfl
end
end Go.Proofs.Sx
/- SHA-256, by the reference: what its last pieces do. -/
namespace Go.Proofs.Sx
open Go
section
variable (b p : By) (h s g : Nat → D) (o : Nat → BitVec 8) (i : Nat)
/-- the rounds: v lies behind the words -/
noncomputable def reV (w h v : List D) (l : List (Nat × V)) : St := ⟨slots ([(2, .one (.pt 1 0)), (3, .one (.pt 2 0)), (4, .one (.pt 3 0)), (5, .one (.dy 4)), (6, .one (.sy i)), (7, .one (.pt 5 0)), (13, .one (.pt 6 0))] ++ l), shHp b p h ++ [.own 64 (toC32 w), .own 63 (toC32 v)], true, 209, 1, [], []⟩
def rekV (l : List Nat) : List (Nat × Bool) := [(2, false), (3, false), (4, false), (5, false), (6, true), (7, false), (13, false)] ++ l.map fun i => (i, false)
theorem h18g : sxp M9 (takeC 2 (dropC 5 s18i)) 1 [0, 1, 2, 3, 4, 5, 6] (rekV [14]) (reW b p i (lst32 g 0 64) (lst32 h 0 8) []) = some (.normal, reV b p i (lst32 g 0 64) (lst32 h 0 8) (lst32 h 0 8) [(14, .one (.it 0))], []) := by kernel_rfl
theorem h18r : (List.range' 0 64).map (fun j => sxp M9 [inLoop (nthC s18i 7)] 1 [0, 1, 2, 3, 4, 5, 6] (rekV [14]) (reV b p i (lst32 g 0 64) (lst32 h 0 8) (lst32 s 0 8) [(14, .one (.it j))])) =
    (List.range' 0 64).map (fun j => some (.normal, reV b p i (lst32 g 0 64) (lst32 h 0 8) (roundS (lst32 s 0 8) (nth32 kL j) (nth32 (lst32 g 0 64) j)) [(14, .one (.it (j + 1)))], [])) := by kernel_rfl
theorem h18s : sxp M9 [inLoop (nthC s18i 7)] 1 [0, 1, 2, 3, 4, 5, 6] (rekV []) (reV b p i (lst32 g 0 64) (lst32 h 0 8) (lst32 s 0 8) [(14, .one (.it 64))]) = some (.exit (blkN (nthC s18i 7)), reV b p i (lst32 g 0 64) (lst32 h 0 8) (lst32 s 0 8) [], []) := by kernel_rfl
theorem h18t : sxp M9 (takeC 1 (dropC 8 s18i)) 1 [0, 1, 2, 3, 4, 5, 6] (rekV [19]) (reV b p i (lst32 g 0 64) (lst32 h 0 8) (lst32 s 0 8) []) = some (.normal, reV b p i (lst32 g 0 64) (lst32 h 0 8) (lst32 s 0 8) [(19, .one (.it 0))], []) := by kernel_rfl
theorem h18u : (List.range' 0 8).map (fun j => sxp M9 [inLoop (nthC s18i 9)] 1 [0, 1, 2, 3, 4, 5, 6] (rekV [19]) (reV b p i (lst32 g 0 64) (lst32 h 0 8) (lst32 s 0 8) [(19, .one (.it j))])) =
    (List.range' 0 8).map (fun j => some (.normal, reV b p i (lst32 g 0 64) (addH (lst32 h 0 8) (lst32 s 0 8) j) (lst32 s 0 8) [(19, .one (.it (j + 1)))], [])) := by kernel_rfl
theorem h18v : sxp M9 [inLoop (nthC s18i 9)] 1 [0, 1, 2, 3, 4] rek (reV b p i (lst32 g 0 64) (lst32 h 0 8) (lst32 s 0 8) [(19, .one (.it 8))]) = some (.exit (blkN (nthC s18i 9)), reS b p i (lst32 h 0 8) [], []) := by kernel_rfl
theorem h18y : sxp M9 (dropC 3 s18) 1 [0, 1, 2, 3, 4] rek (reS b p i (lst32 h 0 8) []) = some (.normal, reS b p (i + 64) (lst32 h 0 8) [], [Nat.ble (i + 64) 9223372036854775807]) := by kernel_rfl
noncomputable def reO (h : List D) (o : By) (j : Nat) : St := ⟨slots [(2, .one (.pt 1 0)), (3, .one (.pt 2 0)), (20, .one (.pt 3 0)), (21, .one (.it j))], [.rd b 3000, .own 33 (toC8 zer32), .own 63 (toC32 h), .own 33 (toC8 o)], true, 209, 1, [], []⟩
def rek3 : List (Nat × Bool) := [(2, false), (3, false), (20, false), (21, false)]
theorem h18o : sxp M9 (takeC 2 (dropC 6 (rowOf Try.prog 18))) 1 [0, 1, 2, 5] rek3 (reS b p i (lst32 h 0 8) []) = some (.normal, reO b (lst32 h 0 8) zer32 0, []) := by kernel_rfl
theorem h18p : (List.range' 0 32).map (fun j => sxp M9 [inLoop (nthC (rowOf Try.prog 18) 8)] 1 [0, 1, 2, 3] rek3 (reO b (lst32 h 0 8) (lst8 o 0 32) j)) =
    (List.range' 0 32).map (fun j => some (.normal, reO b (lst32 h 0 8) (outS (lst32 h 0 8) (lst8 o 0 32) j) (j + 1), [])) := by kernel_rfl
theorem h18q : sxp M9 [inLoop (nthC (rowOf Try.prog 18) 8)] 1 [0, 1, 2, 3] rek3 (reO b (lst32 h 0 8) (lst8 o 0 32) 32) = some (.exit (blkN (nthC (rowOf Try.prog 18) 8)), reO b (lst32 h 0 8) (lst8 o 0 32) 32, []) := by kernel_rfl
noncomputable def reZ (o : By) : St := ⟨slots [(2, .one (.pt 1 0))], [.rd b 3000, .own 33 (toC8 o)], true, 209, 1, [], []⟩
theorem h18z : sxp M9 (dropC 9 (rowOf Try.prog 18)) 1 [0, 1] [(2, false)] (reO b (lst32 h 0 8) (lst8 o 0 32) 32) = some (.ret, reZ b (lst8 o 0 32), []) := by kernel_rfl
theorem h18res : resV Try.prog (fnOf Try.prog 18).results.toList (slots [(2, .one (.pt 1 0))]) [.rd b 3000, .own 33 (toC8 (lst8 o 0 32))] = some (.ag (toC8 (lst8 o 0 32))) := by kernel_rfl
end
theorem code18 : hasCode Try.prog 18 = true := by kernel_rfl
theorem tmps18 : Nat.beq (fnOf Try.prog 18).ntmps 209 = true := by kernel_rfl
theorem len18 : Nat.blt 5 (lenL (rowOf Try.prog 18)) = true := by kernel_rfl
theorem len18' : Nat.blt 2 (lenL (dropC 6 (rowOf Try.prog 18))) = true := by kernel_rfl
theorem len18s : Nat.blt 2 (lenL s18) = true := by kernel_rfl
theorem len18i : Nat.blt 2 (lenL s18i) = true := by kernel_rfl
theorem len18j : Nat.blt 1 (lenL (dropC 3 s18i)) = true := by kernel_rfl
theorem len18k : Nat.blt 2 (lenL (dropC 5 s18i)) = true := by kernel_rfl
theorem len18l : Nat.blt 1 (lenL (dropC 8 s18i)) = true := by kernel_rfl
theorem len18w : Nat.blt 2 (lenL s18w) = true := by kernel_rfl
theorem len18v : Nat.blt 1 (lenL s18v) = true := by kernel_rfl
theorem at18 : nthC (rowOf Try.prog 18) 5 = .block (blkN (nthC (rowOf Try.prog 18) 5)) (.loop (inLoop (nthC (rowOf Try.prog 18) 5))) := by kernel_rfl
theorem at18' : nthC (dropC 6 (rowOf Try.prog 18)) 2 = .block (blkN (nthC (rowOf Try.prog 18) 8)) (.loop (inLoop (nthC (rowOf Try.prog 18) 8))) := by kernel_rfl
theorem at18s : nthC s18 2 = .block (blkN (nthC s18 2)) (inBlk (nthC s18 2)) := by kernel_rfl
theorem at18i : nthC s18i 2 = .block (blkN (nthC s18i 2)) (.loop (inLoop (nthC s18i 2))) := by kernel_rfl
theorem at18j : nthC (dropC 3 s18i) 1 = .block (blkN (nthC s18i 4)) (.loop (inLoop (nthC s18i 4))) := by kernel_rfl
theorem at18k : nthC (dropC 5 s18i) 2 = .block (blkN (nthC s18i 7)) (.loop (inLoop (nthC s18i 7))) := by kernel_rfl
theorem at18l : nthC (dropC 8 s18i) 1 = .block (blkN (nthC s18i 9)) (.loop (inLoop (nthC s18i 9))) := by kernel_rfl
theorem at18w : nthC s18w 2 = .block (blkN (nthC s18w 2)) (inBlk (nthC s18w 2)) := by kernel_rfl
theorem at18v : nthC s18v 1 = .block (blkN (nthC s18v 1)) (.loop (inLoop (nthC s18v 1))) := by kernel_rfl
theorem d18 : dropC 3 (dropC 6 (rowOf Try.prog 18)) = dropC 9 (rowOf Try.prog 18) := by kernel_rfl
theorem d18i : dropC 2 (dropC 3 s18i) = dropC 5 s18i := by kernel_rfl
theorem d18k : dropC 3 (dropC 5 s18i) = dropC 8 s18i := by kernel_rfl
theorem d18l : dropC 2 (dropC 8 s18i) = [] := by kernel_rfl
theorem d18v : dropC 2 s18v = [] := by kernel_rfl
theorem s18v_is : takeC 1 s18v ++ [nthC s18v 1] = s18v := by kernel_rfl
end Go.Proofs.Sx
/- SHA-256: the reference's words of a block are the program's. -/
namespace Go.Proofs.Sx
open Go
def ggA (β : Nat → D) : Nat → List D
  | 0 => zer64
  | i + 1 => put32 (i / 4) (nth32 (ggA β i) (i / 4) ||| β i <<< (24 - i % 4 * 8)) (ggA β i)
def gR (β : Nat → D) : Nat → List D
  | 0 => zer64
  | q + 1 => stepR β (gR β q) q
def gE (w : List D) : Nat → List D
  | 0 => w
  | j + 1 => stepR2 (gE w j) (16 + j)
theorem gR_len (β : Nat → D) : ∀ q, (gR β q).length = 64
  | 0 => rfl
  | q + 1 => by simp [gR, stepR, put32_len, gR_len β q]
theorem gE_len {w : List D} (h : w.length = 64) : ∀ j, (gE w j).length = 64
  | 0 => h
  | j + 1 => by simp [gE, stepR2, put32_len, gE_len h j]
theorem wsA_ggA (x : By) : ∀ i, wsA x i = ggA (by32 x) i
  | 0 => rfl
  | i + 1 => by
    show stepA x (wsA x i) i = _
    rw [wsA_ggA x i]
    rfl
theorem ggA_ext {β γ : Nat → D} : ∀ {n : Nat}, (∀ i, i < n → β i = γ i) → ggA β n = ggA γ n
  | 0, _ => rfl
  | n + 1, h => by
    show put32 _ _ _ = put32 _ _ _
    rw [ggA_ext (n := n) fun i hi => h i (by omega), h n (by omega)]
def wP (β : Nat → D) (t : Nat) : D := 0#32 ||| β (4 * t) <<< 24 ||| β (4 * t + 1) <<< 16 ||| β (4 * t + 2) <<< 8 ||| β (4 * t + 3) <<< 0
def wR (β : Nat → D) (t : Nat) : D := (((0#32 <<< 8 ||| β (4 * t)) <<< 8 ||| β (4 * t + 1)) <<< 8 ||| β (4 * t + 2)) <<< 8 ||| β (4 * t + 3)
def z48 : List D := [0#32, 0#32, 0#32, 0#32, 0#32, 0#32, 0#32, 0#32, 0#32, 0#32, 0#32, 0#32, 0#32, 0#32, 0#32, 0#32, 0#32, 0#32, 0#32, 0#32, 0#32, 0#32, 0#32, 0#32, 0#32, 0#32, 0#32, 0#32, 0#32, 0#32, 0#32, 0#32, 0#32, 0#32, 0#32, 0#32, 0#32, 0#32, 0#32, 0#32, 0#32, 0#32, 0#32, 0#32, 0#32, 0#32, 0#32, 0#32]
theorem ggA_is (β : Nat → D) : ggA β 64 = [wP β 0, wP β 1, wP β 2, wP β 3, wP β 4, wP β 5, wP β 6, wP β 7, wP β 8, wP β 9, wP β 10, wP β 11, wP β 12, wP β 13, wP β 14, wP β 15] ++ z48 := by kernel_rfl
theorem gR_is (β : Nat → D) : gR β 64 = [wR β 0, wR β 1, wR β 2, wR β 3, wR β 4, wR β 5, wR β 6, wR β 7, wR β 8, wR β 9, wR β 10, wR β 11, wR β 12, wR β 13, wR β 14, wR β 15] ++ z48 := by kernel_rfl
theorem wP_wR (β : Nat → D) (t : Nat) : wR β t = wP β t := by
  unfold wR wP
  generalize β (4 * t) = a
  generalize β (4 * t + 1) = b
  generalize β (4 * t + 2) = c
  generalize β (4 * t + 3) = d
  have h0 : (0#32 : D) <<< 8 = 0#32 := rfl
  simp only [h0, BitVec.shiftLeft_or_distrib, ← BitVec.shiftLeft_add, BitVec.shiftLeft_zero, BitVec.zero_or, Nat.reduceAdd]
theorem gR_ggA (β : Nat → D) : gR β 64 = ggA β 64 := by
  rw [gR_is, ggA_is]
  simp only [wP_wR]
theorem stepR2_B (w : List D) (t : Nat) : stepR2 w t = stepW w t := by
  unfold stepR2 stepW
  congr 1
  generalize sig1 _ = a
  generalize sig0 _ = b
  generalize nth32 w (t - 7) = c
  generalize nth32 w (t - 16) = d
  bv_omega
theorem gE_B (w : List D) : ∀ j, gE w j = wsB w j
  | 0 => rfl
  | j + 1 => by
    show stepR2 (gE w j) (16 + j) = stepW (wsB w j) (16 + j)
    rw [gE_B w j, stepR2_B]
theorem words_eq (p : By) {i : Nat} (h : i + 64 ≤ p.length) : gE (gR (bAt p i) 64) 48 = wsOf p i := by
  unfold wsOf
  rw [← eq_lst32 (shaW_len _)]
  unfold shaW
  have key : ggA (bAt p i) 64 = ggA (by32 ((p.drop i).take 64)) 64 := by
    refine ggA_ext fun j hj => ?_
    have e : 0 + (i + 4 * (j / 4) + j % 4) = i + j := by omega
    have h1 : i + j < p.length := by omega
    have h2 : j < ((p.drop i).take 64).length := by rw [List.length_take, List.length_drop]; omega
    have e2 : p.getD (0 + (i + 4 * (j / 4) + j % 4)) 0#8 = ((p.drop i).take 64).getD j 0#8 := by
      rw [e, List.getD_eq_getElem?_getD, List.getD_eq_getElem?_getD, List.getElem?_eq_getElem h1, List.getElem?_eq_getElem h2, List.getElem_take, List.getElem_drop]
    show BitVec.setWidth 32 _ = BitVec.setWidth 32 _
    rw [e2]
  rw [gE_B, gR_ggA, key, wsA_ggA]
section
variable (b p : By) (h g : Nat → D) (i : Nat)
theorem h18w1 : (List.range' 0 16).map (fun t => sxp M9 (takeC 2 s18w) 1 [0, 1, 2, 3, 4, 5] (rekW [8]) (reW b p i (lst32 g 0 64) (lst32 h 0 8) [(8, .one (.it t))])) =
    (List.range' 0 16).map (fun t => some (.normal, reW b p i (lst32 g 0 64) (lst32 h 0 8) [(8, .one (.it t))], [])) := by kernel_rfl
theorem h18w2 : (List.range' 0 16).map (fun t => sxp M9 (takeC 1 s18v) 1 [0, 1, 2, 3, 4, 5] (rekW [8, 9]) (reW b p i (lst32 g 0 64) (lst32 h 0 8) [(8, .one (.it t))])) =
    (List.range' 0 16).map (fun t => some (.normal, reW b p i (lst32 g 0 64) (lst32 h 0 8) [(8, .one (.it t)), (9, .one (.it 0))], [])) := by kernel_rfl
end
end Go.Proofs.Sx
/- SHA-256, by the reference: what it hands back: the same as the program. -/
namespace Go.Proofs.Sx
open Go
theorem DoesK.ofSpine {P : Program} {k : Nat} {c : Code} {s s' : St} {e : Ex} (h : DoesK P k (spine c) s e s') : DoesK P k [c] s e s' := by
  intro B w0 wc E a w Q hR hQ
  refine Code.wp_mono (fun e a w h => ?_) (wp_spine c Q a w (h B w0 wc E a w Q hR hQ))
  cases e <;> exact h
theorem DoesK.early {P : Program} {k id : Nat} {l : List Code} {s s' : St} (l' : List Code) (h : DoesK P k l s (.exit id) s') : DoesK P k (l ++ l') s (.exit id) s' := by
  intro B w0 wc E a w Q hR hQ
  have key : ∀ (l l' : List Code) (a : Act) (w : World), wpL P l (fun e a w => e ≠ .normal ∧ Q e a w) a w → wpL P (l ++ l') Q a w := by
    intro l l'
    induction l with
    | nil => intro a w h; exact absurd rfl h.1
    | cons c cs ih =>
      intro a w h
      refine Code.wp_mono (fun e a w h => ?_) h
      cases e with
      | normal => exact ih a w h
      | _ => exact h.2
  exact key _ _ a w (h B w0 wc E a w _ hR fun E1 a1 w1 hE hR1 => ⟨by simp [Ex.to], hQ E1 a1 w1 hE hR1⟩)
theorem DoesK.same {P : Program} {k : Nat} (s : St) : DoesK P k [] s .normal s := fun _ _ _ E a w _ hR hQ => hQ E a w (Env.leK_refl _ _) hR

section
variable (b p : By) (i : Nat) (hi : i + 64 ≤ p.length) (hp : p.length ≤ 3200)
include hi hp
theorem ref_word (h : List D) (hl : h.length = 8) (t : Nat) (ht : t < 16) : DoesK Try.prog 1 s18v (reW b p i (gR (bAt p i) (4 * t)) h [(8, .one (.it t))]) .normal (reW b p i (gR (bAt p i) (4 * (t + 1))) h [(8, .one (.it t))]) := by
  have eH := eq_lst32 hl
  have eG := fun q => eq_lst32 (gR_len (bAt p i) q)
  have A : DoesK Try.prog 1 (takeC 1 s18v) (reW b p i (gR (bAt p i) (4 * t)) h [(8, .one (.it t))]) .normal (reW b p i (gR (bAt p i) (4 * t + 0)) h [(8, .one (.it t)), (9, .one (.it 0))]) := by
    have f := map_at (h18w2 b p (nth32 h) (nth32 (gR (bAt p i) (4 * t))) i) (a := t) (by simp; omega)
    simp only [← eH, ← eG] at f
    exact sxp_is known9 f AllT.nil
  have R : ∀ k, k < 4 → DoesK Try.prog 1 [inLoop (nthC s18v 1)] (reW b p i (gR (bAt p i) (4 * t + k)) h [(8, .one (.it t)), (9, .one (.it k))]) .normal (reW b p i (gR (bAt p i) (4 * t + (k + 1))) h [(8, .one (.it t)), (9, .one (.it (k + 1)))]) := by
    intro k hk
    have f := map_at (h18k b p (nth32 h) (nth32 (gR (bAt p i) (4 * t + k))) i) (a := 4 * t + k) (by simp; omega)
    simp only [← eH, ← eG] at f
    have e1 : (4 * t + k) / 4 = t := by omega
    have e2 : (4 * t + k) % 4 = k := by omega
    rw [e1, e2] at f
    exact sxp_is known9 f (AllT.cons (Nat.ble_eq_true_of_le (by omega : i + 4 * t + k + 1 ≤ p.length)) (AllT.cons (Nat.ble_eq_true_of_le (by omega)) (AllT.cons (Nat.ble_eq_true_of_le (by omega)) AllT.nil)))
  have X : DoesK Try.prog 1 [inLoop (nthC s18v 1)] (reW b p i (gR (bAt p i) (4 * t + 4)) h [(8, .one (.it t)), (9, .one (.it 4))]) (.exit (blkN (nthC s18v 1))) (reW b p i (gR (bAt p i) (4 * (t + 1))) h [(8, .one (.it t))]) := by
    have f := map_at (h18l b p (nth32 h) (nth32 (gR (bAt p i) (4 * t + 4))) i) (a := t) (by simp; omega)
    simp only [← eH, ← eG] at f
    exact sxp_is known9 f AllT.nil
  exact DoesK.three (N := 4) (s := fun k => reW b p i (gR (bAt p i) (4 * t + k)) h [(8, .one (.it t)), (9, .one (.it k))]) (Nat.le_of_ble_eq_true len18v) at18v A R X (by rw [d18v]; exact DoesK.same _)
theorem ref_block (h : List D) (hl : h.length = 8) : DoesK Try.prog 1 [nthC s18 2] (reS b p i h []) .normal (reS b p i (blockH p i h) []) := by
  have eH := eq_lst32 hl
  have eG := fun q => eq_lst32 (gR_len (bAt p i) q)
  have lE := gE_len (gR_len (bAt p i) 64)
  have eE := fun q => eq_lst32 (lE q)
  have eW := eq_lst32 (wsOf_len p i)
  have we := words_eq p hi
  have rl := fun j => roundsS_len (ws := wsOf p i) hl j
  have al := fun j => addsH_len (s := roundsS (wsOf p i) h 64) hl j
  -- the last words
  have A5 : DoesK Try.prog 1 (takeC 1 (dropC 8 s18i)) (reV b p i (wsOf p i) h (roundsS (wsOf p i) h 64) []) .normal (reV b p i (wsOf p i) (addsH h (roundsS (wsOf p i) h 64) 0) (roundsS (wsOf p i) h 64) [(19, .one (.it 0))]) := by
    have f := h18t b p (nth32 h) (nth32 (roundsS (wsOf p i) h 64)) (nth32 (wsOf p i)) i
    simp only [← eH, ← eW, ← eq_lst32 (rl 64)] at f
    exact sxp_is known9 f AllT.nil
  have R5 : ∀ j, j < 8 → DoesK Try.prog 1 [inLoop (nthC s18i 9)] (reV b p i (wsOf p i) (addsH h (roundsS (wsOf p i) h 64) j) (roundsS (wsOf p i) h 64) [(19, .one (.it j))]) .normal (reV b p i (wsOf p i) (addsH h (roundsS (wsOf p i) h 64) (j + 1)) (roundsS (wsOf p i) h 64) [(19, .one (.it (j + 1)))]) := by
    intro j hj
    have f := map_at (h18u b p (nth32 (addsH h (roundsS (wsOf p i) h 64) j)) (nth32 (roundsS (wsOf p i) h 64)) (nth32 (wsOf p i)) i) (a := j) (by simp; omega)
    simp only [← eq_lst32 (al j), ← eW, ← eq_lst32 (rl 64)] at f
    exact sxp_is known9 f AllT.nil
  have X5 : DoesK Try.prog 1 [inLoop (nthC s18i 9)] (reV b p i (wsOf p i) (addsH h (roundsS (wsOf p i) h 64) 8) (roundsS (wsOf p i) h 64) [(19, .one (.it 8))]) (.exit (blkN (nthC s18i 9))) (reS b p i (blockH p i h) []) := by
    have f := h18v b p (nth32 (addsH h (roundsS (wsOf p i) h 64) 8)) (nth32 (roundsS (wsOf p i) h 64)) (nth32 (wsOf p i)) i
    simp only [← eq_lst32 (al 8), ← eW, ← eq_lst32 (rl 64)] at f
    exact sxp_is known9 f AllT.nil
  have T5 : DoesK Try.prog 1 (dropC 8 s18i) (reV b p i (wsOf p i) h (roundsS (wsOf p i) h 64) []) .normal (reS b p i (blockH p i h) []) :=
    DoesK.three (N := 8) (s := fun j => reV b p i (wsOf p i) (addsH h (roundsS (wsOf p i) h 64) j) (roundsS (wsOf p i) h 64) [(19, .one (.it j))]) (Nat.le_of_ble_eq_true len18l) at18l A5 R5 X5 (by rw [d18l]; exact DoesK.same _)
  -- the rounds
  have A4 : DoesK Try.prog 1 (takeC 2 (dropC 5 s18i)) (reW b p i (wsOf p i) h []) .normal (reV b p i (wsOf p i) h (roundsS (wsOf p i) h 0) [(14, .one (.it 0))]) := by
    have f := h18g b p (nth32 h) (nth32 (wsOf p i)) i
    simp only [← eH, ← eW] at f
    exact sxp_is known9 f AllT.nil
  have R4 : ∀ j, j < 64 → DoesK Try.prog 1 [inLoop (nthC s18i 7)] (reV b p i (wsOf p i) h (roundsS (wsOf p i) h j) [(14, .one (.it j))]) .normal (reV b p i (wsOf p i) h (roundsS (wsOf p i) h (j + 1)) [(14, .one (.it (j + 1)))]) := by
    intro j hj
    have f := map_at (h18r b p (nth32 h) (nth32 (roundsS (wsOf p i) h j)) (nth32 (wsOf p i)) i) (a := j) (by simp; omega)
    simp only [← eH, ← eW, ← eq_lst32 (rl j)] at f
    exact sxp_is known9 f AllT.nil
  have X4 : DoesK Try.prog 1 [inLoop (nthC s18i 7)] (reV b p i (wsOf p i) h (roundsS (wsOf p i) h 64) [(14, .one (.it 64))]) (.exit (blkN (nthC s18i 7))) (reV b p i (wsOf p i) h (roundsS (wsOf p i) h 64) []) := by
    have f := h18s b p (nth32 h) (nth32 (roundsS (wsOf p i) h 64)) (nth32 (wsOf p i)) i
    simp only [← eH, ← eW, ← eq_lst32 (rl 64)] at f
    exact sxp_is known9 f AllT.nil
  have T4 : DoesK Try.prog 1 (dropC 5 s18i) (reW b p i (wsOf p i) h []) .normal (reS b p i (blockH p i h) []) :=
    DoesK.three (N := 64) (s := fun j => reV b p i (wsOf p i) h (roundsS (wsOf p i) h j) [(14, .one (.it j))]) (Nat.le_of_ble_eq_true len18k) at18k A4 R4 X4 (by rw [d18k]; exact T5)
  -- the other words
  have A3 : DoesK Try.prog 1 (takeC 1 (dropC 3 s18i)) (reW b p i (gR (bAt p i) 64) h [(8, .one (.it 16))]) .normal (reW b p i (gE (gR (bAt p i) 64) 0) h [(10, .one (.it (16 + 0)))]) := by
    have f := h18d b p (nth32 h) (nth32 (gR (bAt p i) 64)) i
    simp only [← eH, ← eG] at f
    exact sxp_is known9 f AllT.nil
  have R3 : ∀ j, j < 48 → DoesK Try.prog 1 [inLoop (nthC s18i 4)] (reW b p i (gE (gR (bAt p i) 64) j) h [(10, .one (.it (16 + j)))]) .normal (reW b p i (gE (gR (bAt p i) 64) (j + 1)) h [(10, .one (.it (16 + (j + 1))))]) := by
    intro j hj
    have f := map_at (h18e b p (nth32 h) (nth32 (gE (gR (bAt p i) 64) j)) i) (a := 16 + j) (by simp; omega)
    simp only [← eH, ← eE] at f
    exact sxp_is known9 f AllT.nil
  have X3 : DoesK Try.prog 1 [inLoop (nthC s18i 4)] (reW b p i (gE (gR (bAt p i) 64) 48) h [(10, .one (.it (16 + 48)))]) (.exit (blkN (nthC s18i 4))) (reW b p i (wsOf p i) h []) := by
    have f := h18f b p (nth32 h) (nth32 (gE (gR (bAt p i) 64) 48)) i
    simp only [← eH, ← eE] at f
    rw [we] at f ⊢
    exact sxp_is known9 f AllT.nil
  have T3 : DoesK Try.prog 1 (dropC 3 s18i) (reW b p i (gR (bAt p i) 64) h [(8, .one (.it 16))]) .normal (reS b p i (blockH p i h) []) :=
    DoesK.three (N := 48) (s := fun j => reW b p i (gE (gR (bAt p i) 64) j) h [(10, .one (.it (16 + j)))]) (Nat.le_of_ble_eq_true len18j) at18j A3 R3 X3 (by rw [d18i]; exact T4)
  -- the first words
  have A2 : DoesK Try.prog 1 (takeC 2 s18i) (reS b p i h []) .normal (reW b p i (gR (bAt p i) (4 * 0)) h [(8, .one (.it 0))]) := by
    have f := h18b b p (nth32 h) i
    simp only [← eH] at f
    exact sxp_is known9 f AllT.nil
  have R2 : ∀ t, t < 16 → DoesK Try.prog 1 [inLoop (nthC s18i 2)] (reW b p i (gR (bAt p i) (4 * t)) h [(8, .one (.it t))]) .normal (reW b p i (gR (bAt p i) (4 * (t + 1))) h [(8, .one (.it (t + 1)))]) := by
    intro t ht
    have C1 : DoesK Try.prog 1 (takeC 2 s18w) (reW b p i (gR (bAt p i) (4 * t)) h [(8, .one (.it t))]) .normal (reW b p i (gR (bAt p i) (4 * t)) h [(8, .one (.it t))]) := by
      have f := map_at (h18w1 b p (nth32 h) (nth32 (gR (bAt p i) (4 * t))) i) (a := t) (by simp; omega)
      simp only [← eH, ← eG] at f
      exact sxp_is known9 f AllT.nil
    have C2 : DoesK Try.prog 1 [nthC s18w 2] (reW b p i (gR (bAt p i) (4 * t)) h [(8, .one (.it t))]) .normal (reW b p i (gR (bAt p i) (4 * (t + 1))) h [(8, .one (.it t))]) := by
      rw [at18w]
      exact DoesK.block (ref_word b p i hi hp h hl t ht)
    have C3 : DoesK Try.prog 1 (dropC 3 s18w) (reW b p i (gR (bAt p i) (4 * (t + 1))) h [(8, .one (.it t))]) .normal (reW b p i (gR (bAt p i) (4 * (t + 1))) h [(8, .one (.it (t + 1)))]) := by
      have f := map_at (h18m b p (nth32 h) (nth32 (gR (bAt p i) (4 * (t + 1)))) i) (a := t) (by simp; omega)
      simp only [← eH, ← eG] at f
      exact sxp_is known9 f AllT.nil
    refine DoesK.ofSpine ?_
    show DoesK Try.prog 1 s18w _ _ _
    have hp := parts3 2 s18w (Nat.le_of_ble_eq_true len18w)
    rw [← hp]
    exact C1.append (DoesK.append (l := [nthC s18w 2]) C2 C3)
  have X2 : DoesK Try.prog 1 [inLoop (nthC s18i 2)] (reW b p i (gR (bAt p i) (4 * 16)) h [(8, .one (.it 16))]) (.exit (blkN (nthC s18i 2))) (reW b p i (gR (bAt p i) 64) h [(8, .one (.it 16))]) := by
    have f := h18n b p (nth32 h) (nth32 (gR (bAt p i) 64)) i
    simp only [← eH, ← eG] at f
    refine DoesK.ofSpine ?_
    show DoesK Try.prog 1 s18w _ _ _
    have hp := parts3 2 s18w (Nat.le_of_ble_eq_true len18w)
    rw [← hp]
    exact DoesK.early _ (sxp_is known9 f AllT.nil)
  have all : DoesK Try.prog 1 s18i (reS b p i h []) .normal (reS b p i (blockH p i h) []) :=
    DoesK.three (N := 16) (s := fun t => reW b p i (gR (bAt p i) (4 * t)) h [(8, .one (.it t))]) (Nat.le_of_ble_eq_true len18i) at18i A2 R2 X2 T3
  rw [at18s]
  exact DoesK.block all
theorem ref_body (h : List D) (hl : h.length = 8) : DoesK Try.prog 1 [inLoop (nthC (rowOf Try.prog 18) 5)] (reS b p i h []) .normal (reS b p (i + 64) (blockH p i h) []) := by
  have eH := eq_lst32 hl
  have eB := eq_lst32 (show (blockH p i h).length = 8 from addsH_len hl 8)
  have C1 : DoesK Try.prog 1 (takeC 2 s18) (reS b p i h []) .normal (reS b p i h []) := by
    have f := h18c b p (nth32 h) i
    simp only [← eH] at f
    exact sxp_is known9 f (AllT.cons (Nat.ble_eq_true_of_le (by omega : i + 1 ≤ p.length)) AllT.nil)
  have C3 : DoesK Try.prog 1 (dropC 3 s18) (reS b p i (blockH p i h) []) .normal (reS b p (i + 64) (blockH p i h) []) := by
    have f := h18y b p (nth32 (blockH p i h)) i
    simp only [← eB] at f
    exact sxp_is known9 f (AllT.cons (Nat.ble_eq_true_of_le (by omega)) AllT.nil)
  refine DoesK.ofSpine ?_
  show DoesK Try.prog 1 s18 _ _ _
  have hpp := parts3 2 s18 (Nat.le_of_ble_eq_true len18s)
  rw [← hpp]
  exact C1.append (DoesK.append (l := [nthC s18 2]) (ref_block b p i hi hp h hl) C3)
end
theorem runs18 (b : By) (hb : b.length ≤ 3000) : ∃ hp1, Runs Try.prog 18 [.one (.dy 0)] [.rd b 3000] (.ag (toC8 (shaB (padL b false)))) hp1 true := by
  have hm := padL_mod b false
  have hle := padL_le b false hb
  generalize hp : padL b false = p at hm hle
  have A : DoesK Try.prog 1 (takeC 5 (rowOf Try.prog 18)) (reIn b) .normal (reS b p (64 * 0) (hashS p 0) []) := by
    have h := sxp_is known9 (h18a b) (AllT.cons (Nat.ble_eq_true_of_le hb) AllT.nil)
    rw [hp] at h
    exact h
  have R1 : ∀ k, k < p.length / 64 → DoesK Try.prog 1 [inLoop (nthC (rowOf Try.prog 18) 5)] (reS b p (64 * k) (hashS p k) []) .normal (reS b p (64 * (k + 1)) (hashS p (k + 1)) []) := by
    intro k hk
    exact ref_body b p (64 * k) (by omega) hle (hashS p k) (hashS_len p k)
  have eF := eq_lst32 (hashS_len p (p.length / 64))
  have X1 : DoesK Try.prog 1 [inLoop (nthC (rowOf Try.prog 18) 5)] (reS b p (64 * (p.length / 64)) (hashS p (p.length / 64)) []) (.exit (blkN (nthC (rowOf Try.prog 18) 5))) (reS b p (64 * (p.length / 64)) (hashS p (p.length / 64)) []) := by
    have f := h18x b p (nth32 (hashS p (p.length / 64))) (64 * (p.length / 64))
    simp only [← eF] at f
    have h0 : Nat.blt (64 * (p.length / 64)) p.length = false := by
      rw [show 64 * (p.length / 64) = p.length by omega]
      unfold Nat.blt
      cases hq : Nat.ble (p.length + 1) p.length with
      | false => rfl
      | true => have := Nat.le_of_ble_eq_true hq; omega
    refine DoesK.ofSpine ?_
    show DoesK Try.prog 1 s18 _ _ _
    have hpz := parts3 2 s18 (Nat.le_of_ble_eq_true len18s)
    rw [← hpz]
    exact DoesK.early _ (sxp_is known9 f (AllT.cons (by rw [h0]; rfl) AllT.nil))
  have O0 : DoesK Try.prog 1 (takeC 2 (dropC 6 (rowOf Try.prog 18))) (reS b p (64 * (p.length / 64)) (hashS p (p.length / 64)) []) .normal (reO b (hashS p (p.length / 64)) (outsS (hashS p (p.length / 64)) 0) 0) := by
    have f := h18o b p (nth32 (hashS p (p.length / 64))) (64 * (p.length / 64))
    simp only [← eF] at f
    exact sxp_is known9 f AllT.nil
  have O1 : ∀ j, j < 32 → DoesK Try.prog 1 [inLoop (nthC (rowOf Try.prog 18) 8)] (reO b (hashS p (p.length / 64)) (outsS (hashS p (p.length / 64)) j) j) .normal (reO b (hashS p (p.length / 64)) (outsS (hashS p (p.length / 64)) (j + 1)) (j + 1)) := by
    intro j hj
    have f := map_at (h18p b (nth32 (hashS p (p.length / 64))) (nthB8 (outsS (hashS p (p.length / 64)) j))) (a := j) (by simp; omega)
    simp only [← eF, ← eq_lst8 (outsS_len _ j)] at f
    exact sxp_is known9 f AllT.nil
  have O2 : DoesK Try.prog 1 [inLoop (nthC (rowOf Try.prog 18) 8)] (reO b (hashS p (p.length / 64)) (outsS (hashS p (p.length / 64)) 32) 32) (.exit (blkN (nthC (rowOf Try.prog 18) 8))) (reO b (hashS p (p.length / 64)) (outsS (hashS p (p.length / 64)) 32) 32) := by
    have f := h18q b (nth32 (hashS p (p.length / 64))) (nthB8 (outsS (hashS p (p.length / 64)) 32))
    simp only [← eF, ← eq_lst8 (outsS_len _ 32)] at f
    exact sxp_is known9 f AllT.nil
  have O3 : DoesK Try.prog 1 (dropC 9 (rowOf Try.prog 18)) (reO b (hashS p (p.length / 64)) (outsS (hashS p (p.length / 64)) 32) 32) .ret (reZ b (shaB p)) := by
    have f := h18z b (nth32 (hashS p (p.length / 64))) (nthB8 (outsS (hashS p (p.length / 64)) 32))
    simp only [← eF, ← eq_lst8 (outsS_len _ 32)] at f
    exact sxp_is known9 f AllT.nil
  have tail : DoesK Try.prog 1 (dropC 6 (rowOf Try.prog 18)) (reS b p (64 * (p.length / 64)) (hashS p (p.length / 64)) []) .ret (reZ b (shaB p)) :=
    DoesK.three (N := 32) (s := fun j => reO b (hashS p (p.length / 64)) (outsS (hashS p (p.length / 64)) j) j) (Nat.le_of_ble_eq_true len18') at18' O0 O1 O2 (by rw [d18]; exact O3)
  have all : DoesK Try.prog 1 (rowOf Try.prog 18) (reIn b) .ret (reZ b (shaB p)) :=
    DoesK.three (N := p.length / 64) (s := fun k => reS b p (64 * k) (hashS p k) []) (Nat.le_of_ble_eq_true len18) at18 A R1 X1 tail
  have hv := h18res b (nthB8 (shaB p))
  simp only [← eq_lst8 (show (shaB p).length = 32 from outsS_len _ 32)] at hv
  exact ⟨_, runsK_of (hp := [.rd b 3000]) code18 (.inr rfl) (n := 209) (by rw [Nat.eq_of_beq_eq_true tmps18]; rfl) all hv⟩
end Go.Proofs.Sx
