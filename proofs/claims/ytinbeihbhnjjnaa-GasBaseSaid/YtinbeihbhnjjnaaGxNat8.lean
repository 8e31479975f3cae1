/- Numbers in limbs: tables, and what memory costs. -/
import Derived.Test.YtinbeihbhnjjnaaGxNat7
namespace Go.Proofs.Sx
open Go
set_option linter.unusedVariables false
theorem nat_at {f : FuncId} {vs : List V} {hp : List Reg} {l : L32} (h : ∀ (B : Nat → Prop) (w0 : World) (E : Env) (us : List Value) (w : World), All2 (V.is E) vs us → HR B w0 E hp w → Calls Try.prog f us.toArray w (NatPost w l)) : Runs Try.prog f vs hp (.one (.dy hp.length)) (hp ++ [.nt l]) false := by
  intro B w0 E us w hus hh
  refine Calls.mono (h B w0 E us w hus hh) fun e w1 ⟨u, he, hg, hs, hf⟩ => ?_
  have h1 := hh.grow hg
  have hlast : (E.reg ++ [Ent.sv u])[hp.length]? = some (.sv u) := by rw [hh.len]; simp
  have h2 := h1.addR (.sv u) (fun g hb => ⟨.inr (Nat.le_trans hh.size (hf g hb)), hs.lt hb, fun r y hy hyb => by
    have := hh.lt r y g hy hyb
    have := hf g hb
    omega⟩) (fun v hv => by
      cases hv
      rcases hs with ⟨e, _⟩ | ⟨g, o, K, e, _⟩
      · exact ⟨_, _, _, e⟩
      · exact ⟨_, _, _, e⟩) (.nt l) ⟨u, hlast, hs⟩
  refine ⟨_, u, E.le_push _, he, hlast, h2, fun _ => ⟨hg, fun r x g hr hx hb => ?_⟩⟩
  rcases last_or hx with ⟨_, rfl⟩ | ⟨h3, _⟩
  · exact hf g hb
  · rw [hh.len] at hr; omega
theorem val_at {f : FuncId} {vs : List V} {hp : List Reg} {v : V} (h : ∀ (B : Nat → Prop) (w0 : World) (E : Env) (us : List Value) (w : World), All2 (V.is E) vs us → HR B w0 E hp w → Calls Try.prog f us.toArray w (ValPost w v)) : Runs Try.prog f vs hp v hp false := by
  intro B w0 E us w hus hh
  refine Calls.mono (h B w0 E us w hus hh) fun e w1 ⟨u, he, hg, hv⟩ => ?_
  refine ⟨E, u, E.le_refl, he, hv E, hh.grow hg, fun _ => ⟨hg, fun r x g hr hx _ => ?_⟩⟩
  rw [hh.len] at hr
  rw [List.getElem?_eq_none hr] at hx
  cases hx
theorem shows_at {B : Nat → Prop} {w0 w : World} {E : Env} {hp : List Reg} (hh : HR B w0 E hp w) {r : Nat} {l : L32} (hr : hp[r]? = some (.nt l)) {u : Value} (hu : (V.one (.dy r)).is E u) : Shows w u l := by
  obtain ⟨v, h1, h2⟩ := hh.at_ r _ hr
  have hu' : E.reg[r]? = some (.sv u) := hu
  rw [h1] at hu'
  cases hu'
  exact h2
abbrev Tab := List V → List Reg → Option (V × List Reg × Bool × Option Bool)
def Tells (f : FuncId) (m : Tab) : Prop := ∀ vs hp v hp' chg ob, m vs hp = some (v, hp', chg, ob) → (∀ x, ob = some x → x = true) → Runs Try.prog f vs hp v hp' chg
noncomputable def pushN (hp : List Reg) (l : L32) (ob : Option Bool) : Option (V × List Reg × Bool × Option Bool) :=
  regPushK hp (.nt l) fun hp' => forceN (regLen hp) fun q => some (.one (.dy q), hp', false, ob)
theorem pushN_eq (hp : List Reg) (l : L32) (ob : Option Bool) : pushN hp l ob = some (.one (.dy hp.length), hp ++ [.nt l], false, ob) := by
  unfold pushN
  rw [regPushK_eq, forceN_eq, regLen_eq]
theorem lenD_eq : ∀ l : L32, lenD l = l.length
  | [] => rfl
  | _ :: l => by simp [lenD, lenD_eq l]
noncomputable def two2 (g : L32 → L32 → L32) (m n : Nat) : Tab := fun vs hp =>
  match vs with
  | [.one (.dy r), .one (.dy q)] => match regAt r hp, regAt q hp with
    | some (.nt a), some (.nt b) => pushN hp (g a b) (some (Nat.ble a.length m && Nat.ble b.length n))
    | _, _ => none
  | _ => none
theorem ktwo {f : FuncId} {g : L32 → L32 → L32} {m n : Nat} (hf : ∀ {w : World} {v v' : Value} {l l' : L32}, Shows w v l → Shows w v' l' → l.length ≤ m → l'.length ≤ n → Calls Try.prog f #[v, v'] w (NatPost w (g l l'))) : Tells f (two2 g m n) := by
  intro vs hp v hp' chg ob h hob
  unfold two2 at h
  split at h
  · rename_i r q
    split at h
    · rename_i a b ha hb
      rw [pushN_eq] at h
      cases h
      rw [regAt_eq] at ha hb
      have hob := hob _ rfl
      rw [Bool.and_eq_true] at hob
      refine nat_at fun B w0 E us w hus hh => ?_
      match us, hus with
      | [u, u'], ⟨h1, h2, _⟩ => exact hf (shows_at hh ha h1) (shows_at hh hb h2) (Nat.le_of_ble_eq_true hob.1) (Nat.le_of_ble_eq_true hob.2)
    · cases h
  · cases h
noncomputable def addM : Tab := two2 (fun a b => trimL (addL a b)) 9 8
noncomputable def mulM : Tab := two2 (fun a b => trimL (mulL a b)) 2 2
theorem kaddM : Tells 37 addM := ktwo add_calls
theorem kmulM : Tells 61 mulM := ktwo mul_calls
def ofL (x : BitVec 64) : L32 := trimL [x.setWidth 32, (x >>> 32).setWidth 32]
noncomputable def natOfM : Tab := fun vs hp =>
  match vs with
  | [.one (.w64 x)] => pushN hp (ofL x) none
  | _ => none
theorem kNatOfM : Tells 39 natOfM := by
  intro vs hp v hp' chg ob h _
  unfold natOfM at h
  split at h
  · rename_i x
    rw [pushN_eq] at h
    cases h
    refine nat_at fun B w0 E us w hus hh => ?_
    match us, hus with
    | [u], ⟨h1, _⟩ =>
      have h1' : u = .int .u64 (x.toNat : Int) := h1
      subst h1'
      exact of_calls w x
  · cases h
noncomputable def nM : Tab := fun vs hp =>
  match vs with
  | [.ag [.w64 x, .w64 y, .w64 z, .w64 t]] => pushN hp (trimL (limbsE x y z t)) none
  | _ => none
theorem knM : Tells 38 nM := by
  intro vs hp v hp' chg ob h _
  unfold nM at h
  split at h
  · rename_i x y z t
    rw [pushN_eq] at h
    cases h
    refine nat_at fun B w0 E us w hus hh => ?_
    match us, hus with
    | [u], ⟨h1, _⟩ => exact n_calls w (V.plain_is (E := E) rfl h1)
  · cases h
noncomputable def shrM : Tab := fun vs hp =>
  match vs with
  | [.one (.dy r), .one (.it s)] => match regAt r hp, (match s with
      | 5 => true
      | 9 => true
      | _ => false) with
    | some (.nt a), true => pushN hp (trimL (shrL s a)) (some (Nat.ble a.length 10))
    | _, _ => none
  | _ => none
theorem kshrM : Tells 36 shrM := by
  intro vs hp v hp' chg ob h hob
  unfold shrM at h
  split at h
  · rename_i r s
    split at h
    · rename_i a ha hs
      rw [pushN_eq] at h
      cases h
      rw [regAt_eq] at ha
      have hle := Nat.le_of_ble_eq_true (hob _ rfl)
      refine nat_at fun B w0 E us w hus hh => ?_
      match us, hus with
      | [u, u'], ⟨h1, h2, _⟩ =>
        obtain ⟨h2', _⟩ := h2
        have h2'' : u' = .int .i64 (s : Int) := h2'
        subst h2''
        refine shr_calls (shows_at hh ha h1) hle ?_
        split at hs
        · simp [shs]
        · simp [shs]
        · cases hs
    · cases h
  · cases h
noncomputable def wM : Tab := fun vs hp =>
  match vs with
  | [.one (.dy r)] => match regAt r hp with
    | some (.nt a) => some (.ag (wordsC a), hp, false, some (Nat.ble a.length 10))
    | _ => none
  | _ => none
theorem kwM : Tells 41 wM := by
  intro vs hp v hp' chg ob h hob
  unfold wM at h
  split at h
  · rename_i r
    split at h
    · rename_i a ha
      cases h
      rw [regAt_eq] at ha
      have hle := Nat.le_of_ble_eq_true (hob _ rfl)
      refine val_at fun B w0 E us w hus hh => ?_
      match us, hus with
      | [u], ⟨h1, _⟩ => exact w_calls (shows_at hh ha h1) hle
    · cases h
  · cases h
noncomputable def cmpM : Tab := fun vs hp =>
  match vs with
  | [.one (.dy r), .one (.dy q)] => match regAt r hp, regAt q hp with
    | some (.nt a), some (.nt b) => some (.one (.zi (cmpZ (natL a) (natL b))), hp, false, some ((trimL a == a && Nat.ble a.length 10) && (Nat.beq b.length 2 && Nat.ble 4294967296 (natL b))))
    | _, _ => none
  | _ => none
theorem cmpC_is {x y : Nat} {E : Env} {u : Value} (h : (V.one (cmpC x y)).is E u) : (V.one (.zi (cmpZ x y))).is E u := by
  unfold cmpC at h
  show u = .int .i64 (cmpZ x y)
  unfold cmpZ
  split at h
  · rename_i h1
    rw [if_pos h1]
    exact h.1
  · rename_i h1
    rw [if_neg h1]
    split at h
    · rename_i h2
      rw [if_pos h2]
      exact h.1
    · rename_i h2
      rw [if_neg h2]
      exact h.1
theorem kcmpM : Tells 40 cmpM := by
  intro vs hp v hp' chg ob h hob
  unfold cmpM at h
  split at h
  · rename_i r q
    split at h
    · rename_i a b ha hb
      cases h
      rw [regAt_eq] at ha hb
      have hob := hob _ rfl
      rw [Bool.and_eq_true, Bool.and_eq_true, Bool.and_eq_true] at hob
      refine val_at fun B w0 E us w hus hh => ?_
      match us, hus with
      | [u, u'], ⟨h1, h2, _⟩ =>
        refine Calls.mono (cmp_calls (shows_at hh ha h1) (shows_at hh hb h2) (eq_of_beq hob.1.1) (Nat.le_of_ble_eq_true hob.1.2) (Nat.eq_of_beq_eq_true hob.2.1) (Nat.le_of_ble_eq_true hob.2.2)) fun e w1 ⟨u, h3, h4, h5⟩ => ⟨u, h3, h4, fun E => cmpC_is (h5 E)⟩
    · cases h
  · cases h
noncomputable def Mb : Kn := addK (addK (addK (addK (addK (addK (addK M0 36 shrM) 37 addM) 38 nM) 39 natOfM) 40 cmpM) 41 wM) 61 mulM
theorem knownb : Known Try.prog Mb := known_add (known_add (known_add (known_add (known_add (known_add (known_add known_none kshrM) kaddM) knM) kNatOfM) kcmpM) kwM) kmulM
/-! what memory costs -/
def cN (x : BitVec 64) : L32 := trimL (mulL (ofL x) (ofL x))
def cG (x : BitVec 64) : BitVec 64 := 3#64 * x + wordL (trimL (shrL 9 (cN x))) 0
theorem b42 (x : BitVec 64) : outV (callD Mb 42 [.one (.w64 x)] [] []) = some (.one (.w64 (cG x)), [Nat.ble (trimL (shrL 9 (cN x))).length 10, Nat.ble (cN x).length 10, Nat.ble (ofL x).length 2 && Nat.ble (ofL x).length 2]) := by kernel_rfl
end Go.Proofs.Sx
