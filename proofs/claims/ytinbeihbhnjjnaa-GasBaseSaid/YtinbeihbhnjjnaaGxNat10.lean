/- The reference's Grow: what it hands back. -/
import Derived.Test.YtinbeihbhnjjnaaGxNat9
import Derived.Test.YtinbeihbhnjjnaaGxGrow2
namespace Go.Proofs.Sx
open Go
set_option linter.unusedVariables false
theorem trim_le (l : L32) : (trimL l).length ≤ l.length := (trim_split l).1
theorem addS_len : ∀ (n : Nat) (a b : L32) (c : BitVec 64), (addS a b c n).length = n
  | 0, _, _, _ => by unfold addS; rfl
  | n + 1, [], [], c => by simp [addS, addS_len n]
  | n + 1, x :: a, [], c => by simp [addS, addS_len n]
  | n + 1, [], y :: b, c => by simp [addS, addS_len n]
  | n + 1, x :: a, y :: b, c => by simp [addS, addS_len n]
theorem maxN_le {a b m : Nat} (ha : a ≤ m) (hb : b ≤ m) : maxN a b ≤ m := by
  unfold maxN
  cases Nat.blt a b with
  | true => exact hb
  | false => exact ha
theorem addL_len {a b : L32} {m : Nat} (ha : a.length ≤ m) (hb : b.length ≤ m) : (addL a b).length ≤ m + 1 := by
  unfold addL
  rw [addS_len, lenD_eq, lenD_eq]
  have := maxN_le ha hb
  omega
theorem shrL_len (s : Nat) : ∀ l : L32, (shrL s l).length = l.length
  | [] => rfl
  | [x] => rfl
  | x :: y :: l => by
    show (shrL s (y :: l)).length + 1 = _
    rw [shrL_len s (y :: l)]
    rfl
def nL (a : Q) : L32 := trimL (limbsE (a 0) (a 1) (a 2) (a 3))
theorem nL_le (a : Q) : (nL a).length ≤ 8 := trim_le _
theorem ofL_le (x : W) : (ofL x).length ≤ 2 := trim_le _
def sL (a n : Q) : L32 := trimL (addL (nL a) (nL n))
theorem sL_le (a n : Q) : (sL a n).length ≤ 9 := Nat.le_trans (trim_le _) (addL_len (nL_le a) (nL_le n))
def tL (a n : Q) : L32 := trimL (addL (sL a n) (ofL 31#64))
theorem tL_le (a n : Q) : (tL a n).length ≤ 10 := Nat.le_trans (trim_le _) (addL_len (sL_le a n) (Nat.le_trans (ofL_le _) (by omega)))
def wL (a n : Q) : L32 := trimL (shrL 5 (tL a n))
theorem wL_le (a n : Q) : (wL a n).length ≤ 10 := Nat.le_trans (trim_le _) (by rw [shrL_len]; exact tL_le a n)
theorem trim_trim : ∀ l : L32, trimL (trimL l) = trimL l
  | [] => rfl
  | x :: l => by
    have e : ∀ (x : BitVec 32) (l : L32), trimL (x :: l) = match zero32 x && allZ l with
      | true => []
      | false => x :: trimL l := fun _ _ => rfl
    rw [e x l]
    cases hb : zero32 x && allZ l with
    | true => rfl
    | false =>
      show trimL (x :: trimL l) = x :: trimL l
      rw [e]
      have hz : (zero32 x && allZ (trimL l)) = false := by
        cases hq : zero32 x && allZ (trimL l) with
        | false => rfl
        | true =>
          rw [Bool.and_eq_true] at hq
          have h2 := allZ_nat hq.2
          rw [trim_nat] at h2
          have key : ∀ l : L32, natL l = 0 → allZ l = true := by
            intro l
            induction l with
            | nil => intro _; rfl
            | cons y l ih =>
              intro h
              have h' : y.toNat + 4294967296 * natL l = 0 := h
              have h2 : y.toNat = 0 := by omega
              have h3 : natL l = 0 := by omega
              unfold allZ
              rw [ih h3]
              unfold zero32
              rw [h2]
              rfl
          rw [hq.1, key l h2] at hb
          cases hb
      rw [hz]
      show x :: trimL (trimL l) = x :: trimL l
      rw [trim_trim l]
/-! what memory costs -/
theorem mulR_len (x : BitVec 32) : ∀ (b c : L32) (k : BitVec 64), (mulR x b c k).length = c.length
  | [], [], _ => rfl
  | [], _ :: c, _ => rfl
  | _ :: b, [], _ => rfl
  | y :: b, z :: c, k => by simp [mulR, mulR_len x b c]
theorem mulA_len : ∀ (a b c : L32), (mulA a b c).length ≤ c.length
  | [], _, _ => Nat.le_refl _
  | x :: a, b, c => by
    unfold mulA
    have h := mulR_len x b c 0#64
    split
    · rename_i h1 t he
      rw [he] at h
      have := mulA_len a b t
      simp at h ⊢
      omega
    · exact Nat.zero_le _
theorem zerosD_len : ∀ n, (zerosD n).length = n
  | 0 => rfl
  | n + 1 => by simp [zerosD, zerosD_len n]
theorem cN_le (x : W) : (cN x).length ≤ 4 := by
  unfold cN mulL
  refine Nat.le_trans (trim_le _) (Nat.le_trans (mulA_len _ _ _) ?_)
  rw [zerosD_len, lenD_eq]
  have := ofL_le x
  omega
theorem bleN {a b : Nat} (h : a ≤ b) : Nat.ble a b = true := Nat.ble_eq_true_of_le h
theorem runs42 (x : W) (hp : List Reg) : Runs Try.prog 42 [.one (.w64 x)] hp (.one (.w64 (cG x))) hp false := by
  refine runs_out knownb (b42 x) (AllT.cons (bleN ?_) (AllT.cons (bleN ?_) (AllT.cons ?_ AllT.nil))) rfl rfl hp
  · exact Nat.le_trans (trim_le _) (by rw [shrL_len]; have := cN_le x; omega)
  · have := cN_le x; omega
  · rw [bleN (ofL_le x)]; rfl
noncomputable def cM : Tab := fun vs hp =>
  match vs with
  | [.one (.w64 x)] => some (.one (.w64 (cG x)), hp, false, none)
  | _ => none
theorem kcM : Tells 42 cM := by
  intro vs hp v hp' chg ob h _
  unfold cM at h
  split at h
  · cases h; exact runs42 _ _
  · cases h
noncomputable def Mb2 : Kn := addK Mb 42 cM
theorem knownb2 : Known Try.prog Mb2 := known_add knownb kcM
/-! the region -/
noncomputable def ops12 : Array Oper := opsArr (nthC (rowOf Try.prog 12) 3)
noncomputable def op12 (j : Nat) : Oper := (ops12[j]?).getD default
theorem shape12 : nthC (rowOf Try.prog 12) 3 = .region (regId (nthC (rowOf Try.prog 12) 3)) ops12 true := by kernel_rfl
theorem size12 : ops12.size = 9 := by kernel_rfl
theorem down12 : (List.range' 0 9).all (fun i => downB ops12 i) = true := by kernel_rfl
def d12 : Nat → Nat
  | 8 => 9
  | j => 15 + j
def dstN (o : Oper) (d : Nat) : Bool := match o.guard, o.dst with
  | none, some e => Nat.beq e d
  | _, _ => false
theorem dst12 : (List.range' 0 9).all (fun j => dstN (op12 j) (d12 j)) = true := by kernel_rfl
def e12 : List (Nat × Nat) := [(1, 0), (3, 2), (4, 1), (4, 3), (6, 4), (6, 5), (7, 6), (8, 7)]
theorem edge12 : e12.all (fun e => edgeB ops12 e.1 e.2) = true := by kernel_rfl
theorem ed12 {i d : Nat} (h : (i, d) ∈ e12) : edgeB ops12 i d = true := List.all_eq_true.1 edge12 (i, d) h
theorem op12_at {j : Nat} (h : j < 9) : ops12[j]? = some (op12 j) := by
  unfold op12
  have h1 : j < ops12.size := by rw [size12]; exact h
  rw [Array.getElem?_eq_getElem h1]
  rfl
theorem dstN_is {o : Oper} {d : Nat} (h : dstN o d = true) : o.guard = none ∧ o.dst = some d := by
  unfold dstN at h
  split at h
  · rename_i e h1 h2
    exact ⟨h1, by rw [h2, Nat.eq_of_beq_eq_true h]⟩
  · cases h
theorem call12_1 : callB (op12 1) = some (38, [.tmp 15]) := by kernel_rfl
theorem call12_3 : callB (op12 3) = some (38, [.tmp 17]) := by kernel_rfl
theorem call12_4 : callB (op12 4) = some (37, [.tmp 16, .tmp 18]) := by kernel_rfl
theorem call12_5 : callB (op12 5) = some (39, [.const (.int .u64 31)]) := by kernel_rfl
theorem call12_6 : callB (op12 6) = some (37, [.tmp 19, .tmp 20]) := by kernel_rfl
theorem call12_7 : callB (op12 7) = some (36, [.tmp 21, .const (.int .i64 5)]) := by kernel_rfl
theorem fn36 : fnB 36 = true := by kernel_rfl
theorem fn37 : fnB 37 = true := by kernel_rfl
theorem fn38 : fnB 38 = true := by kernel_rfl
theorem fn39 : fnB 39 = true := by kernel_rfl
section
variable (s : W) (a n : Q)
noncomputable def hp12 : List Reg := [.own 24 (w4 a), .own 24 (w4 n)]
def b12 : List (Nat × V) := [(0, .one (.w64 s)), (4, .one (.pt 0 0)), (5, .one (.pt 1 0))]
theorem st12_0 : stepOp (sx Try.prog M0 1000000) Try.prog M0 (slots [(4, .one (.pt 0 0))]) (hp12 a n) (hp12 a n).length [] [] (op12 0).op = some (.ag (w4 a), hp12 a n, false, [], []) := by kernel_rfl
theorem st12_2 : stepOp (sx Try.prog M0 1000000) Try.prog M0 (slots [(5, .one (.pt 1 0))]) (hp12 a n) (hp12 a n).length [] [] (op12 2).op = some (.ag (w4 n), hp12 a n, false, [], []) := by kernel_rfl
theorem st12_8 (u : Value) : stepOp (sx Try.prog M0 1000000) Try.prog M0 (slots [(22, .raw u)]) (hp12 a n) (hp12 a n).length [] [] (op12 8).op = some (.raw u, hp12 a n, false, [], []) := by kernel_rfl
def kd12 : Nat → Kd
  | 0 => .val (.ag (w4 a))
  | 1 => .nat (nL a)
  | 2 => .val (.ag (w4 n))
  | 3 => .nat (nL n)
  | 4 => .nat (sL a n)
  | 5 => .nat (ofL 31#64)
  | 6 => .nat (tL a n)
  | _ => .nat (wL a n)
theorem tr1 {E : Env} {a : Act} {n : Nat} {i : Nat} {x : V} (hdf : a.defers = []) (hts : a.tmps.size = n) (h : SlotIs E a i x) : TR E (slots [(i, x)]) n a := tr_of hdf hts fun p hp => by
  rcases List.mem_cons.1 hp with rfl | hp
  · exact h
  · cases hp
theorem tr2 {E : Env} {a : Act} {n : Nat} {i j : Nat} {x y : V} (hdf : a.defers = []) (hts : a.tmps.size = n) (h : SlotIs E a i x) (h' : SlotIs E a j y) : TR E (slots [(i, x), (j, y)]) n a := tr_of hdf hts fun p hp => by
  rcases List.mem_cons.1 hp with rfl | hp
  · exact h
  · rcases List.mem_cons.1 hp with rfl | hp
    · exact h'
    · cases hp
theorem step12 {j : Nat} (hj : j < 9) : StepN (hp12 a n) 43 (b12 s) (fun i => i < 9 ∧ edgeB ops12 j i = true) (kd12 a n) d12 (kd12 a n j) (op12 j) := by
  intro B w0 wS E ac w K Q hh hS hts hdf hbs hpre next
  match j, hj with
  | 0, _ =>
    exact step_val known_none (st12_0 a n) AllT.nil rfl (tr1 hdf hts (hbs (4, .one (.pt 0 0)) (by simp [b12]))) hh next
  | 1, _ =>
    obtain ⟨u, h1, h2⟩ := hpre 0 ⟨by decide, ed12 (by decide)⟩
    refine step_call call12_1 fn38 (l := [(15, .ag (w4 a))]) (vs := [.ag (w4 a)]) rfl (tr1 hdf hts ⟨u, h1, h2⟩) (fun us hus => ?_) hS next
    match us, hus with
    | [v], ⟨h3, _⟩ => exact n_calls w (V.plain_is (E := E) rfl h3)
  | 2, _ =>
    exact step_val known_none (st12_2 a n) AllT.nil rfl (tr1 hdf hts (hbs (5, .one (.pt 1 0)) (by simp [b12]))) hh next
  | 3, _ =>
    obtain ⟨u, h1, h2⟩ := hpre 2 ⟨by decide, ed12 (by decide)⟩
    refine step_call call12_3 fn38 (l := [(17, .ag (w4 n))]) (vs := [.ag (w4 n)]) rfl (tr1 hdf hts ⟨u, h1, h2⟩) (fun us hus => ?_) hS next
    match us, hus with
    | [v], ⟨h3, _⟩ => exact n_calls w (V.plain_is (E := E) rfl h3)
  | 4, _ =>
    obtain ⟨u, h1, h2, _⟩ := hpre 1 ⟨by decide, ed12 (by decide)⟩
    obtain ⟨u', h1', h2', _⟩ := hpre 3 ⟨by decide, ed12 (by decide)⟩
    refine step_call call12_4 fn37 (l := [(16, .raw u), (18, .raw u')]) (vs := [.raw u, .raw u']) rfl (tr2 (E := E) hdf hts ⟨u, h1, rfl⟩ ⟨u', h1', rfl⟩) (fun us hus => ?_) hS next
    match us, hus with
    | [v, v'], ⟨h3, h4, _⟩ =>
      cases h3
      cases h4
      exact add_calls h2 h2' (Nat.le_trans (nL_le a) (by omega)) (nL_le n)
  | 5, _ =>
    refine step_call call12_5 fn39 (l := []) (vs := [.one (.w64 31#64)]) rfl (E := E) (tr_of hdf hts fun p hp => by cases hp) (fun us hus => ?_) hS next
    match us, hus with
    | [v], ⟨h3, _⟩ =>
      cases h3
      exact of_calls w 31#64
  | 6, _ =>
    obtain ⟨u, h1, h2, _⟩ := hpre 4 ⟨by decide, ed12 (by decide)⟩
    obtain ⟨u', h1', h2', _⟩ := hpre 5 ⟨by decide, ed12 (by decide)⟩
    refine step_call call12_6 fn37 (l := [(19, .raw u), (20, .raw u')]) (vs := [.raw u, .raw u']) rfl (tr2 (E := E) hdf hts ⟨u, h1, rfl⟩ ⟨u', h1', rfl⟩) (fun us hus => ?_) hS next
    match us, hus with
    | [v, v'], ⟨h3, h4, _⟩ =>
      cases h3
      cases h4
      exact add_calls h2 h2' (sL_le a n) (Nat.le_trans (ofL_le _) (by omega))
  | 7, _ =>
    obtain ⟨u, h1, h2, _⟩ := hpre 6 ⟨by decide, ed12 (by decide)⟩
    refine step_call call12_7 fn36 (l := [(21, .raw u)]) (vs := [.raw u, .one (.it 5)]) rfl (tr1 (E := E) hdf hts ⟨u, h1, rfl⟩) (fun us hus => ?_) hS next
    match us, hus with
    | [v, v'], ⟨h3, h4, _⟩ =>
      cases h3
      obtain ⟨h4', _⟩ := h4
      have h5 : v' = .int .i64 ((5 : Nat) : Int) := h4'
      subst h5
      exact shr_calls h2 (tL_le a n) (by simp [shs])
  | 8, _ =>
    obtain ⟨u, h1, h2, h2f⟩ := hpre 7 ⟨by decide, ed12 (by decide)⟩
    refine step_val (wS := wS) known_none (st12_8 a n u) AllT.nil rfl (tr1 hdf hts ⟨u, h1, rfl⟩) hh fun u' w' hg hu' => ?_
    have e : u' = u := hu'
    subst e
    exact next u' w' hg ⟨h2.grow hg, h2f⟩
theorem region12 (chg : Bool) (base : Nat) (ob ds : List Bool) : Does Try.prog (nthC (rowOf Try.prog 12) 3) ⟨slots (b12 s), hp12 a n, chg, 43, base, ob, ds⟩ .normal ⟨slots ((9, .one (.dy 2)) :: b12 s), hp12 a n ++ [.nt (wL a n)], true, 43, base, [], []⟩ := by
  rw [shape12]
  refine region_nats (N := 9) (last := 8) (kd := kd12 a n) (d := d12) size12 (fun j hj => ?_) (fun i hi => List.all_eq_true.1 down12 i (by simp; omega)) ?_ ?_ ?_ ?_ (by decide) rfl
  · obtain ⟨h1, h2⟩ := dstN_is (List.all_eq_true.1 dst12 j (by simp; omega))
    exact ⟨op12 j, op12_at hj, h1, h2, step12 s a n hj⟩
  · intro i j hi hj h
    have : ∀ i j : Fin 9, d12 i.1 = d12 j.1 → i = j := by decide
    simpa using this ⟨i, hi⟩ ⟨j, hj⟩ h
  · intro j hj
    have : ∀ j : Fin 9, d12 j.1 < 43 := by decide
    exact this ⟨j, hj⟩
  · intro p hp j hj h
    have key : ∀ j : Fin 9, d12 j.1 ≠ 0 ∧ d12 j.1 ≠ 4 ∧ d12 j.1 ≠ 5 := by decide
    have := key ⟨j, hj⟩
    simp only [b12, List.mem_cons, List.not_mem_nil, or_false] at hp
    rcases hp with rfl | rfl | rfl <;> simp only at h this <;> omega
  · intro p hp
    simp only [b12, List.mem_cons, List.not_mem_nil, or_false] at hp ⊢
    rcases hp with rfl | rfl | rfl <;> kernel_rfl
end
end Go.Proofs.Sx
