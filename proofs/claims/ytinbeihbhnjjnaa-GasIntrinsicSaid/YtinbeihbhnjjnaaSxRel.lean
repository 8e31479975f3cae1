/- How values in letters stand to the machine's values and memory. -/
import Derived.Test.YtinbeihbhnjjnaaSxW
import Derived.Test.YtinbeihbhnjjnaaSxTail
import Derived.Maps.AppendAt
import Derived.Laws.AppendOwnNone
import Derived.Laws.OwnMore
namespace Go.Proofs.Sx
open Go

/-- Where a region lies: a block from a place on; or the slice that shows it. -/
inductive Ent where
  | at_ (g o : Nat)
  | sv (v : Value)

def Ent.blk : Ent → Option Nat
  | .at_ g _ => some g
  | .sv v => v.ownBlock

/-- Where the regions lie. -/
structure Env where
  reg : List Ent

def Env.le (E E' : Env) : Prop := ∀ (r : Nat) (x : Ent), E.reg[r]? = some x → E'.reg[r]? = some x
theorem Env.le_refl (E : Env) : E.le E := fun _ _ h => h
theorem Env.le_trans {E E' E'' : Env} (h : E.le E') (h' : E'.le E'') : E.le E'' := fun r x hx => h' r x (h r x hx)

def B8 (x : BitVec 8) : Value := .int .u8 (x.toNat : Int)

def All2 {α β : Type} (R : α → β → Prop) : List α → List β → Prop
  | [], [] => True
  | a :: as, b :: bs => R a b ∧ All2 R as bs
  | _, _ => False

theorem All2.length {α β : Type} {R : α → β → Prop} : ∀ {as : List α} {bs : List β}, All2 R as bs → as.length = bs.length
  | [], [], _ => rfl
  | _ :: _, _ :: _, h => by simp [All2.length h.2]

theorem All2.mono {α β : Type} {R R' : α → β → Prop} (hr : ∀ a b, R a b → R' a b) : ∀ {as : List α} {bs : List β}, All2 R as bs → All2 R' as bs
  | [], [], _ => trivial
  | _ :: _, _ :: _, h => ⟨hr _ _ h.1, All2.mono hr h.2⟩

theorem All2.append {α β : Type} {R : α → β → Prop} : ∀ {as as' : List α} {bs bs' : List β}, All2 R as bs → All2 R as' bs' → All2 R (as ++ as') (bs ++ bs')
  | [], _, [], _, _, h' => h'
  | _ :: _, _, _ :: _, _, h, h' => ⟨h.1, All2.append h.2 h'⟩

def C.is (E : Env) : C → Value → Prop
  | .bl b, v => v = .bool b
  | .sb b, v => v = .bool b
  | .w8 x, v => v = .int .u8 (x.toNat : Int)
  | .w32 x, v => v = .int .u32 (x.toNat : Int)
  | .w64 x, v => v = .int .u64 (x.toNat : Int)
  | .it n, v => v = .int .i64 (n : Int) ∧ n < 9223372036854775808
  | .sy n, v => v = .int .i64 (n : Int) ∧ n < 9223372036854775808
  | .ng n, v => v = .int .i64 (Int.negSucc n) ∧ n < 9223372036854775808
  | .zi z, v => v = .int .i64 z
  | .qv r n, v => ∃ A c, v = .slice A n c ∧ (n < 9223372036854775808 ∧ n ≤ c ∧ c ≤ maxLen) ∧ (0 < n → ∃ g o, E.reg[r]? = some (.at_ g o) ∧ A = some ⟨g, o, none⟩)
  | .qp r j, v => ∃ g o, E.reg[r]? = some (.at_ g o) ∧ v = .pointer (some ⟨g, o + j * 4, none⟩)
  | .ex x, v => v = x ∧ ∃ A L K, x = .slice A L K
  | .pt r off, v => ∃ g o, E.reg[r]? = some (.at_ g o) ∧ v = .pointer (some ⟨g, o + off, none⟩)
  | .pi r j, v => ∃ g o, E.reg[r]? = some (.at_ g o) ∧ v = .pointer (some ⟨g, o + j, none⟩)
  | .sl r off len cap, v => ∃ g o, E.reg[r]? = some (.at_ g o) ∧ v = .slice (some ⟨g, o + off, none⟩) len cap
  | .nl, v => v = .slice none 0 0
  | .st s, v => v = .string ⟨s.toArray⟩
  | .dy r, v => E.reg[r]? = some (.sv v)
  | .vw r i n, v => ∃ A L K A' c, E.reg[r]? = some (.sv (.slice A L K)) ∧ v = .slice A' n c ∧ (0 < n → ∃ ad, A = some ad ∧ A' = some (ad.add i)) ∧ i + n ≤ L ∧ n ≤ c ∧ c ≤ maxLen
  | .vl r i n, v => ∃ A L K A' c, E.reg[r]? = some (.sv (.slice A L K)) ∧ v = .slice A' n c ∧ (0 < n → ∃ ad, A = some ad ∧ A' = some (ad.add i)) ∧ i + n ≤ L ∧ n ≤ c ∧ c ≤ maxLen
  | .pd r p, v => ∃ ad L K, E.reg[r]? = some (.sv (.slice (some ad) L K)) ∧ v = .pointer (some (ad.add p)) ∧ p < L

def Part.is (E : Env) : Bool × List C → Value → Prop
  | (true, cs), v => ∃ vs : List Value, v = .agg vs.toArray ∧ All2 (C.is E) cs vs
  | (false, [c]), v => c.is E v
  | _, _ => False

def V.is (E : Env) : V → Value → Prop
  | .one c, v => c.is E v
  | .ag cs, v => ∃ vs : List Value, v = .agg vs.toArray ∧ All2 (C.is E) cs vs
  | .un, v => v = .tuple #[]
  | .raw u, v => v = u
  | .tp l, v => ∃ vs : List Value, v = .tuple vs.toArray ∧ All2 (Part.is E) l vs

theorem C.is_mono {E E' : Env} (h : E.le E') {c : C} {v : Value} (hc : c.is E v) : c.is E' v := by
  cases c with
  | pt r off => obtain ⟨g, o, h1, h2⟩ := hc; exact ⟨g, o, h _ _ h1, h2⟩
  | pi r off => obtain ⟨g, o, h1, h2⟩ := hc; exact ⟨g, o, h _ _ h1, h2⟩
  | sl r off len cap => obtain ⟨g, o, h1, h2⟩ := hc; exact ⟨g, o, h _ _ h1, h2⟩
  | dy r => exact h _ _ hc
  | vw r i n => obtain ⟨A, L, K, A', c, h1, h2⟩ := hc; exact ⟨A, L, K, A', c, h _ _ h1, h2⟩
  | vl r i n => obtain ⟨A, L, K, A', c, h1, h2⟩ := hc; exact ⟨A, L, K, A', c, h _ _ h1, h2⟩
  | pd r p => obtain ⟨ad, L, K, h1, h2⟩ := hc; exact ⟨ad, L, K, h _ _ h1, h2⟩
  | qv r n => obtain ⟨A, c, h1, h2, h3⟩ := hc; exact ⟨A, c, h1, h2, fun hn => let ⟨g, o, h4, h5⟩ := h3 hn; ⟨g, o, h _ _ h4, h5⟩⟩
  | qp r j => obtain ⟨g, o, h1, h2⟩ := hc; exact ⟨g, o, h _ _ h1, h2⟩
  | _ => exact hc

theorem Part.is_mono {E E' : Env} (h : E.le E') : ∀ {x : Bool × List C} {v : Value}, Part.is E x v → Part.is E' x v
  | (true, cs), v, hx => by obtain ⟨vs, h1, h2⟩ := hx; exact ⟨vs, h1, h2.mono fun _ _ => C.is_mono h⟩
  | (false, [c]), v, hx => C.is_mono (c := c) h hx
  | (false, []), v, hx => hx.elim
  | (false, _ :: _ :: _), v, hx => hx.elim

theorem V.is_mono {E E' : Env} (h : E.le E') {x : V} {v : Value} (hx : x.is E v) : x.is E' v := by
  cases x with
  | one c => exact C.is_mono h hx
  | ag cs => obtain ⟨vs, h1, h2⟩ := hx; exact ⟨vs, h1, h2.mono fun _ _ => C.is_mono h⟩
  | un => exact hx
  | raw u => exact hx
  | tp l => obtain ⟨vs, h1, h2⟩ := hx; exact ⟨vs, h1, h2.mono fun _ _ => Part.is_mono h⟩

/-- A cell in letters that can be stored: what it stands for is one cell. (A slice's own value: where it is a slice.) -/
def SlicesOk (E : Env) : Prop := ∀ (r : Nat) (v : Value), E.reg[r]? = some (.sv v) → ∃ A L K, v = .slice A L K

theorem C.is_one {E : Env} (hE : SlicesOk E) {c : C} {v : Value} (h : c.is E v) : v.oneCell' = true ∧ v.cells = #[v] := by
  cases c with
  | it n => obtain ⟨h, _⟩ := h; subst h; exact ⟨rfl, rfl⟩
  | sy n => obtain ⟨h, _⟩ := h; subst h; exact ⟨rfl, rfl⟩
  | ng n => obtain ⟨h, _⟩ := h; subst h; exact ⟨rfl, rfl⟩
  | pt r off => obtain ⟨g, o, _, h⟩ := h; subst h; exact ⟨rfl, rfl⟩
  | pi r off => obtain ⟨g, o, _, h⟩ := h; subst h; exact ⟨rfl, rfl⟩
  | sl r off len cap => obtain ⟨g, o, _, h⟩ := h; subst h; exact ⟨rfl, rfl⟩
  | dy r => obtain ⟨A, L, K, rfl⟩ := hE r v h; exact ⟨rfl, rfl⟩
  | vw r i n => obtain ⟨A, L, K, A', c, _, h, _⟩ := h; subst h; exact ⟨rfl, rfl⟩
  | vl r i n => obtain ⟨A, L, K, A', c, _, h, _⟩ := h; subst h; exact ⟨rfl, rfl⟩
  | pd r p => obtain ⟨ad, L, K, _, h, _⟩ := h; subst h; exact ⟨rfl, rfl⟩
  | qv r n => obtain ⟨A, c, h, _⟩ := h; subst h; exact ⟨rfl, rfl⟩
  | qp r j => obtain ⟨g, o, _, h⟩ := h; subst h; exact ⟨rfl, rfl⟩
  | ex x => obtain ⟨rfl, A, L, K, rfl⟩ := h; exact ⟨rfl, rfl⟩
  | _ => (have h' := h; simp only [C.is] at h'; subst h'; exact ⟨rfl, rfl⟩)

theorem all2_one {E : Env} (hE : SlicesOk E) : ∀ {cs : List C} {vs : List Value}, All2 (C.is E) cs vs → ∀ v ∈ vs, v.oneCell' = true
  | [], [], _, v, hv => by cases hv
  | _ :: _, _ :: _, h, v, hv => by
    rcases List.mem_cons.1 hv with rfl | hv
    · exact (C.is_one hE h.1).1
    · exact all2_one hE h.2 v hv

theorem V.cells_is {E : Env} (hE : SlicesOk E) {x : V} {v : Value} {cs : List C} (h : x.is E v) (hc : V.cells x = some cs) : ∃ vs : List Value, v.cells = vs.toArray ∧ All2 (C.is E) cs vs := by
  cases x with
  | one c =>
    simp only [V.cells, Option.some.injEq] at hc
    subst hc
    exact ⟨[v], (C.is_one hE h).2, h, trivial⟩
  | ag l =>
    simp only [V.cells, Option.some.injEq] at hc
    subst hc
    obtain ⟨vs, rfl, h2⟩ := h
    exact ⟨vs, rfl, h2⟩
  | un => cases hc
  | raw u => cases hc
  | tp l => cases hc

/-! lists -/
theorem lenC_eq : ∀ cs : List C, lenC cs = cs.length
  | [] => rfl
  | _ :: cs => by simp [lenC, lenC_eq cs]

theorem atN_eq : ∀ (n : Nat) (cs : List C), atN n cs = cs[n]?
  | 0, [] => rfl
  | 0, _ :: _ => rfl
  | _ + 1, [] => rfl
  | n + 1, _ :: cs => by simpa [atN] using atN_eq n cs

theorem regAt_eq : ∀ (n : Nat) (cs : List Reg), regAt n cs = cs[n]?
  | 0, [] => rfl
  | 0, _ :: _ => rfl
  | _ + 1, [] => rfl
  | n + 1, _ :: cs => by simpa [regAt] using regAt_eq n cs

theorem dropN_eq : ∀ (n : Nat) (cs l : List C), dropN n cs = some l → l = cs.drop n ∧ n ≤ cs.length
  | 0, cs, l, h => by simp only [dropN, Option.some.injEq] at h; subst h; simp
  | n + 1, [], l, h => by cases h
  | n + 1, c :: cs, l, h => by
    obtain ⟨h1, h2⟩ := dropN_eq n cs l (by simpa [dropN] using h)
    exact ⟨by simpa using h1, by simpa using h2⟩

theorem takeN_eq : ∀ (n : Nat) (cs l : List C), takeN n cs = some l → l = cs.take n ∧ n ≤ cs.length
  | 0, cs, l, h => by simp only [takeN, Option.some.injEq] at h; subst h; simp
  | n + 1, [], l, h => by cases h
  | n + 1, c :: cs, l, h => by
    simp only [takeN] at h
    cases h' : takeN n cs with
    | none => simp [h'] at h
    | some l' =>
      simp only [h', Option.some.injEq] at h
      subst h
      obtain ⟨h1, h2⟩ := takeN_eq n cs l' h'
      exact ⟨by simp [h1], by simpa using h2⟩

theorem putN_eq : ∀ (cs : List C) (n : Nat) (vs l : List C), putN n vs cs = some l → l = cs.take n ++ vs ++ cs.drop (n + vs.length) ∧ n + vs.length ≤ cs.length
  | cs, 0, [], l, h => by
    rw [putN.eq_1] at h
    cases h
    simp
  | [], 0, v :: vs, l, h => by cases h
  | c :: cs, 0, v :: vs, l, h => by
    simp only [putN] at h
    cases h' : putN 0 vs cs with
    | none => simp [h'] at h
    | some l' =>
      simp only [h', Option.some.injEq] at h
      subst h
      obtain ⟨h1, h2⟩ := putN_eq cs 0 vs l' h'
      exact ⟨by simp [h1], by simp at h2 ⊢; omega⟩
  | [], n + 1, vs, l, h => by cases vs <;> cases h
  | c :: cs, n + 1, vs, l, h => by
    simp only [putN] at h
    cases h' : putN n vs cs with
    | none => simp [h'] at h
    | some l' =>
      simp only [h', Option.some.injEq] at h
      subst h
      obtain ⟨h1, h2⟩ := putN_eq cs n vs l' h'
      refine ⟨?_, by simp at h2 ⊢; omega⟩
      rw [h1]
      have e : n + 1 + vs.length = (n + vs.length) + 1 := by omega
      rw [e]
      simp

theorem All2.get {α β : Type} {R : α → β → Prop} : ∀ {as : List α} {bs : List β}, All2 R as bs → ∀ {n : Nat} {a : α}, as[n]? = some a → ∃ b, bs[n]? = some b ∧ R a b
  | [], [], _, n, a, ha => by simp at ha
  | _ :: _, b :: _, h, 0, a, ha => by
    simp only [List.getElem?_cons_zero, Option.some.injEq] at ha
    subst ha
    exact ⟨b, rfl, h.1⟩
  | _ :: _, _ :: _, h, n + 1, a, ha => by
    simp only [List.getElem?_cons_succ] at ha ⊢
    exact All2.get h.2 ha

theorem All2.drop {α β : Type} {R : α → β → Prop} : ∀ {as : List α} {bs : List β}, All2 R as bs → ∀ n, All2 R (as.drop n) (bs.drop n)
  | [], [], _, n => by simp [All2]
  | _ :: _, _ :: _, h, 0 => h
  | _ :: _, _ :: _, h, n + 1 => by simpa using All2.drop h.2 n

theorem All2.take {α β : Type} {R : α → β → Prop} : ∀ {as : List α} {bs : List β}, All2 R as bs → ∀ n, All2 R (as.take n) (bs.take n)
  | [], [], _, n => by simp [All2]
  | _ :: _, _ :: _, _, 0 => by simp [All2]
  | _ :: _, _ :: _, h, n + 1 => by
    simp only [List.take_succ_cons]
    exact ⟨h.1, All2.take h.2 n⟩

theorem All2.put {α β : Type} {R : α → β → Prop} {as as' : List α} {bs bs' : List β} (h : All2 R as bs) (h' : All2 R as' bs') (n : Nat) :
    All2 R (as.take n ++ as' ++ as.drop (n + as'.length)) (bs.take n ++ bs' ++ bs.drop (n + bs'.length)) := by
  rw [h'.length]
  exact ((h.take n).append h').append (h.drop _)

/-! the tree -/
theorem T.setK_eq' (t : T) : ∀ (R : Type) (i : Nat) (v : V) (k : T → R), T.setK (R := R) t i v k = k (T.setK (R := T) t i v id) := by
  induction t with
  | e => intro R i v k; rfl
  | n l x r ihl ihr =>
    intro R i v k
    cases i with
    | zero => rfl
    | succ j =>
      show cond (Nat.beq (Nat.mod j 2) 0) (T.setK l (Nat.div j 2) v fun l' => k (.n l' x r)) (T.setK r (Nat.div j 2) v fun r' => k (.n l x r')) =
        k (cond (Nat.beq (Nat.mod j 2) 0) (T.setK l (Nat.div j 2) v fun l' => id (T.n l' x r)) (T.setK r (Nat.div j 2) v fun r' => id (T.n l x r')))
      cases Nat.beq (Nat.mod j 2) 0 with
      | true => simp only [cond_true]; rw [ihl R _ v (fun l' => k (.n l' x r)), ihl T _ v (fun l' => id (T.n l' x r))]; rfl
      | false => simp only [cond_false]; rw [ihr R _ v (fun l' => k (.n l x l')), ihr T _ v (fun l' => id (T.n l x l'))]; rfl

/-- The tree with one slot set. -/
noncomputable def T.set (t : T) (i : Nat) (v : V) : T := T.setK (R := T) t i v id
theorem T.setK_eq {R : Type} (t : T) (i : Nat) (v : V) (k : T → R) : t.setK i v k = k (t.set i v) := T.setK_eq' t R i v k

theorem T.set_zero (l : T) (x : Option V) (r : T) (v : V) : (T.n l x r).set 0 v = .n l (some v) r := rfl
theorem T.set_succ (l : T) (x : Option V) (r : T) (j : Nat) (v : V) :
    (T.n l x r).set (j + 1) v = cond (Nat.beq (Nat.mod j 2) 0) (.n (l.set (Nat.div j 2) v) x r) (.n l x (r.set (Nat.div j 2) v)) := by
  show cond (Nat.beq (Nat.mod j 2) 0) (T.setK l (Nat.div j 2) v fun l' => id (T.n l' x r)) (T.setK r (Nat.div j 2) v fun r' => id (T.n l x r')) = _
  rw [T.setK_eq l, T.setK_eq r]
  rfl
theorem T.get_zero (l : T) (x : Option V) (r : T) : (T.n l x r).get 0 = x := rfl
theorem T.get_succ (l : T) (x : Option V) (r : T) (j : Nat) : (T.n l x r).get (j + 1) = cond (Nat.beq (Nat.mod j 2) 0) (l.get (Nat.div j 2)) (r.get (Nat.div j 2)) := rfl

theorem even_iff (i : Nat) : Nat.beq (Nat.mod i 2) 0 = true ↔ i % 2 = 0 := by rw [Nat.beq_eq]; rfl

theorem T.get_set (t : T) : ∀ (i : Nat) (v : V) (j : Nat) (x : V), (t.set i v).get j = some x → (j = i ∧ x = v) ∨ (j ≠ i ∧ t.get j = some x) := by
  induction t with
  | e => intro i v j x h; cases h
  | n l y r ihl ihr =>
    intro i v j x h
    cases i with
    | zero =>
      cases j with
      | zero => exact .inl ⟨rfl, (Option.some.inj h).symm⟩
      | succ j => exact .inr ⟨by omega, h⟩
    | succ i =>
      rw [T.set_succ] at h
      have hi := even_iff i
      have di : Nat.div i 2 = i / 2 := rfl
      cases j with
      | zero =>
        refine .inr ⟨by omega, ?_⟩
        cases hb : Nat.beq (Nat.mod i 2) 0 <;> rw [hb] at h <;> exact h
      | succ j =>
        have hj := even_iff j
        have dj : Nat.div j 2 = j / 2 := rfl
        rw [T.get_succ]
        cases hb : Nat.beq (Nat.mod i 2) 0 with
        | true =>
          rw [hb, cond_true, T.get_succ] at h
          have h6 := hi.1 hb
          cases hc : Nat.beq (Nat.mod j 2) 0 with
          | true =>
            rw [hc, cond_true] at h
            have h7 := hj.1 hc
            rcases ihl _ _ _ _ h with ⟨h3, h4⟩ | ⟨h3, h4⟩
            · exact .inl ⟨by omega, h4⟩
            · exact .inr ⟨by omega, h4⟩
          | false =>
            rw [hc, cond_false] at h
            have h7 : ¬ j % 2 = 0 := fun e => by rw [hj.2 e] at hc; cases hc
            exact .inr ⟨by omega, h⟩
        | false =>
          rw [hb, cond_false, T.get_succ] at h
          have h6 : ¬ i % 2 = 0 := fun e => by rw [hi.2 e] at hb; cases hb
          cases hc : Nat.beq (Nat.mod j 2) 0 with
          | true =>
            rw [hc, cond_true] at h
            have h7 := hj.1 hc
            exact .inr ⟨by omega, h⟩
          | false =>
            rw [hc, cond_false] at h
            have h7 : ¬ j % 2 = 0 := fun e => by rw [hj.2 e] at hc; cases hc
            rcases ihr _ _ _ _ h with ⟨h3, h4⟩ | ⟨h3, h4⟩
            · exact .inl ⟨by omega, h4⟩
            · exact .inr ⟨by omega, h4⟩

theorem T.get_full : ∀ (d j : Nat), (T.full d).get j = none
  | 0, _ => rfl
  | d + 1, 0 => rfl
  | d + 1, j + 1 => by
    show cond (Nat.beq (Nat.mod j 2) 0) ((T.full d).get _) ((T.full d).get _) = none
    rw [T.get_full d]
    cases Nat.beq (Nat.mod j 2) 0 <;> rfl

theorem forceN_eq {R : Type} (n : Nat) (k : Nat → R) : forceN n k = k n := by cases n <;> rfl
theorem forceB_eq {R : Type} (b : Bool) (k : Bool → R) : forceB b k = k b := by cases b <;> rfl
theorem regPushK_eq {R : Type} : ∀ (l : List Reg) (x : Reg) (k : List Reg → R), regPushK l x k = k (l ++ [x])
  | [], _, _ => rfl
  | r :: rs, x, k => by show regPushK rs x _ = _; rw [regPushK_eq rs x]; rfl
theorem regLen_eq : ∀ l : List Reg, regLen l = l.length
  | [] => rfl
  | _ :: l => by simp [regLen, regLen_eq l]
theorem regSet_eq : ∀ (n : Nat) (x : Reg) (l l' : List Reg), regSet n x l = some l' → l' = l.set n x ∧ n < l.length
  | 0, _, [], _, h => by cases h
  | 0, x, r :: rs, l', h => by simp only [regSet, Option.some.injEq] at h; subst h; simp
  | n + 1, _, [], _, h => by cases h
  | n + 1, x, r :: rs, l', h => by
    simp only [regSet] at h
    cases h' : regSet n x rs with
    | none => simp [h'] at h
    | some l =>
      simp only [h', Option.some.injEq] at h
      subst h
      obtain ⟨h1, h2⟩ := regSet_eq n x rs l h'
      exact ⟨by simp [h1], by simpa using h2⟩

/-! slots -/
structure TR (E : Env) (tm : T) (n : Nat) (a : Act) : Prop where
  defers : a.defers = []
  size : a.tmps.size = n
  at_ : ∀ (i : Nat) (x : V), tm.get i = some x → ∃ u, a.tmps[i]? = some u ∧ x.is E u

theorem TR.mono {E E' : Env} {tm : T} {n : Nat} {a : Act} (h : TR E tm n a) (he : E.le E') : TR E' tm n a :=
  ⟨h.defers, h.size, fun i x hx => let ⟨u, h1, h2⟩ := h.at_ i x hx; ⟨u, h1, V.is_mono he h2⟩⟩

theorem TR.put {E : Env} {tm : T} {n : Nat} {a : Act} (h : TR E tm n a) {d : Nat} (hd : Nat.blt d n = true) {x : V} {u : Value} (hx : x.is E u) :
    TR E (tm.set d x) n (a.put (some d) u) := by
  have hd' : d < n := Nat.le_of_ble_eq_true hd
  refine ⟨h.defers, by simp [Act.put, h.size], fun i y hy => ?_⟩
  rcases T.get_set tm d x i y hy with ⟨rfl, rfl⟩ | ⟨hne, hy⟩
  · exact ⟨u, by simp [Act.put, h.size, hd'], hx⟩
  · obtain ⟨u', h1, h2⟩ := h.at_ i y hy
    exact ⟨u', by rw [← h1]; simp [Act.put, Array.getElem?_setIfInBounds_ne (Ne.symm hne)], h2⟩

/-! memory -/
def Reg.isOwn : Reg → Bool
  | .own _ _ => true
  | .dyn _ _ _ => true
  | .nt _ => true
  | .dyc _ _ _ _ => true
  | _ => false

def Reg.live : Reg → Bool
  | .dead => false
  | _ => true

/-- A slice that shows limbs: nil, or a row of memory. -/
def Shows (w : World) (v : Value) (l : List (BitVec 32)) : Prop :=
  (v = .slice none 0 0 ∧ l = []) ∨ ∃ g o K, v = .slice (some ⟨g, o, none⟩) l.length K ∧ l.length ≤ K ∧ K ≤ maxLen ∧ (w.heap[g]?).isSome = true ∧ ∀ (j : Nat) (x : BitVec 32), l[j]? = some x → w.cell? ⟨g, o + j, none⟩ = some (.int .u32 (x.toNat : Int))
theorem Shows.keep {w w' : World} {v : Value} {l : List (BitVec 32)} (h : Shows w v l) (hb : ∀ g, v.ownBlock = some g → w'.heap[g]? = w.heap[g]?) : Shows w' v l := by
  rcases h with h | ⟨g, o, K, rfl, h1, h2, h3, h4⟩
  · exact .inl h
  · refine .inr ⟨g, o, K, rfl, h1, h2, by rw [hb _ rfl]; exact h3, fun j x hj => ?_⟩
    rw [World.cell?_of_block (w := w) (hb g rfl)]
    exact h4 j x hj
theorem Shows.lt {w : World} {v : Value} {l : List (BitVec 32)} (h : Shows w v l) {g : Nat} (hg : v.ownBlock = some g) : g < w.heap.size := by
  rcases h with ⟨rfl, _⟩ | ⟨g', o, K, rfl, _, _, h3, _⟩
  · cases hg
  · cases hg
    cases hq : w.heap[g']? with
    | none => rw [hq] at h3; cases h3
    | some b => exact (Array.getElem?_eq_some_iff.1 hq).1
theorem Shows.grow {w w' : World} {v : Value} {l : List (BitVec 32)} (h : Shows w v l) (hg : w.grownBy w' none) : Shows w' v l :=
  h.keep fun g hb => hg.block g (h.lt hb) (fun e => by cases e)

def RegIs (E : Env) (w : World) (r : Nat) : Reg → Prop
  | .own t cs => ∃ g vs, E.reg[r]? = some (.at_ g 0) ∧ All2 (C.is E) cs vs ∧ w.heap[g]? = some (.cells vs.toArray t (0, 0))
  | .win cs => ∃ g o, E.reg[r]? = some (.at_ g o) ∧ ∀ (j : Nat) (c : C), cs[j]? = some c → ∃ v, c.is E v ∧ w.cell? ⟨g, o + j, none⟩ = some v
  | .dyn t b bd => ∃ v, E.reg[r]? = some (.sv v) ∧ w.ownsRow 0 t 1 v b.length (b.map B8) ∧ b.length ≤ bd
  | .rd b bd => ∃ A K, E.reg[r]? = some (.sv (.slice A b.length K)) ∧ b.length ≤ bd ∧ b.length ≤ K ∧ K ≤ maxLen ∧ (∀ (j : Nat) (x : BitVec 8), b[j]? = some x → ∃ ad, A = some ad ∧ w.cell? (ad.add j) = some (B8 x))
  | .qs f n => n = 0 ∨ ∃ g o, E.reg[r]? = some (.at_ g o) ∧ ∀ (j i : Nat), j < n → i < 4 → w.cell? ⟨g, o + j * 4 + i, none⟩ = some (.int .u64 ((f j i).toNat : Int))
  | .nt l => ∃ v, E.reg[r]? = some (.sv v) ∧ Shows w v l
  | .rw n => n = 0 ∨ ∃ (g o : Nat) (f : Nat → Int), E.reg[r]? = some (.at_ g o) ∧ ∀ j, j < n → w.cell? ⟨g, o + j, none⟩ = some (.int .u8 (f j))
  | .dyc t s n cs => ∃ v xs, E.reg[r]? = some (.sv v) ∧ w.ownsRow 0 t s v n xs ∧ All2 (C.is E) cs xs
  | .dead => True

structure HR (B : Nat → Prop) (w0 : World) (E : Env) (hp : List Reg) (w : World) : Prop where
  len : hp.length = E.reg.length
  at_ : ∀ (r : Nat) (R : Reg), hp[r]? = some R → RegIs E w r R
  sep : ∀ (r r' : Nat) (R R' : Reg) (x x' : Ent) (g : Nat), hp[r]? = some R → R.isOwn = true → hp[r']? = some R' → R'.live = true → r ≠ r' → E.reg[r]? = some x → E.reg[r']? = some x' → x.blk = some g → x'.blk ≠ some g
  mine : ∀ (r : Nat) (R : Reg) (x : Ent) (g : Nat), hp[r]? = some R → R.isOwn = true → E.reg[r]? = some x → x.blk = some g → B g ∨ w0.heap.size ≤ g
  lt : ∀ (r : Nat) (x : Ent) (g : Nat), E.reg[r]? = some x → x.blk = some g → g < w.heap.size
  ok : SlicesOk E
  os : w.os = w0.os
  tape : w.tape = w0.tape
  output : w.output = w0.output
  size : w0.heap.size ≤ w.heap.size
  keep : ∀ b, b < w0.heap.size → ¬ B b → w.heap[b]? = w0.heap[b]?

/-- Memory has grown; nothing that was there has turned. -/
abbrev Grow (w w' : World) : Prop := w.grownBy w' none
theorem Grow.refl (w : World) : Grow w w := ⟨rfl, rfl, rfl, Nat.le_refl _, fun _ _ _ => rfl⟩
theorem Grow.trans {a b c : World} (h : Grow a b) (k : Grow b c) : Grow a c :=
  ⟨k.os.trans h.os, k.tape.trans h.tape, k.output.trans h.output, Nat.le_trans h.size k.size, fun i hi hn => (k.block i (Nat.lt_of_lt_of_le hi h.size) hn).trans (h.block i hi hn)⟩
theorem Grow.drewN (w : World) (k : Nat) : Grow w (w.drewN k) := ⟨rfl, rfl, rfl, Nat.le_refl _, fun _ _ _ => rfl⟩
theorem Grow.drawn (w : World) : Grow w { w with drawn := w.drawn + 1 } := ⟨rfl, rfl, rfl, Nat.le_refl _, fun _ _ _ => rfl⟩
theorem Grow.cell {w w' : World} (h : Grow w w') {a : Addr} {v : Value} (hc : w.cell? a = some v) : w'.cell? a = some v := by
  rw [← hc]
  exact World.cell?_of_block (h.block a.block (World.block_lt_of_cell? w a hc) (by simp))

theorem owns_keep {w w' : World} {base : Nat} {e : TypeId} {size n : Nat} {v : Value} {xs : List Value} (h : w.ownsRow base e size v n xs) (hb : ∀ g, v.ownBlock = some g → w'.heap[g]? = w.heap[g]?) : w'.ownsRow base e size v n xs := by
  refine ⟨h.1, ?_⟩
  rcases h.2 with h2 | ⟨g, cap, cur, rfl, h3, h4, h5⟩
  · exact .inl h2
  · exact .inr ⟨g, cap, cur, rfl, h3, by rw [hb g rfl]; exact h4, h5⟩

theorem RegIs.keep {E E' : Env} {w w' : World} (he : E.le E') {r : Nat} {R : Reg} (h : RegIs E w r R) (hb : ∀ (x : Ent) (g : Nat), E.reg[r]? = some x → x.blk = some g → w'.heap[g]? = w.heap[g]?) : RegIs E' w' r R := by
  cases R with
  | own t cs =>
    obtain ⟨g, vs, h1, h2, h3⟩ := h
    exact ⟨g, vs, he _ _ h1, h2.mono fun _ _ => C.is_mono he, by rw [hb _ g h1 rfl]; exact h3⟩
  | win cs =>
    obtain ⟨g, o, h1, h2⟩ := h
    refine ⟨g, o, he _ _ h1, fun j c hj => ?_⟩
    obtain ⟨v, h3, h4⟩ := h2 j c hj
    exact ⟨v, C.is_mono he h3, by rw [World.cell?_of_block (w := w) (hb _ g h1 rfl)]; exact h4⟩
  | dyn t b bd =>
    obtain ⟨v, h1, h2, h3⟩ := h
    exact ⟨v, he _ _ h1, owns_keep h2 fun g hg => hb _ g h1 hg, h3⟩
  | rd b bd =>
    obtain ⟨A, K, h1, h2, h3, h4, h5⟩ := h
    refine ⟨A, K, he _ _ h1, h2, h3, h4, fun j x hj => ?_⟩
    obtain ⟨ad, rfl, h7⟩ := h5 j x hj
    refine ⟨ad, rfl, ?_⟩
    rw [World.cell?_of_block (w := w) (a := ad.add j) (by
      have e : (ad.add j).block = ad.block := by unfold Addr.add; split <;> rfl
      rw [e]
      exact hb _ ad.block h1 rfl)]
    exact h7
  | qs f n =>
    rcases h with h0 | ⟨g, o, h1, h2⟩
    · exact .inl h0
    · refine .inr ⟨g, o, he _ _ h1, fun j i hj hi => ?_⟩
      rw [World.cell?_of_block (w := w) (hb _ g h1 rfl)]
      exact h2 j i hj hi
  | nt l =>
    obtain ⟨v, h1, h2⟩ := h
    exact ⟨v, he _ _ h1, h2.keep fun g hg => hb _ g h1 hg⟩
  | rw n =>
    rcases h with h0 | ⟨g, o, f, h1, h2⟩
    · exact .inl h0
    · refine .inr ⟨g, o, f, he _ _ h1, fun j hj => ?_⟩
      rw [World.cell?_of_block (w := w) (hb _ g h1 rfl)]
      exact h2 j hj
  | dyc t s n cs =>
    obtain ⟨v, xs, h1, h2, h3⟩ := h
    exact ⟨v, xs, he _ _ h1, owns_keep h2 fun g hg => hb _ g h1 hg, h3.mono fun _ _ => C.is_mono he⟩
  | dead => trivial

/-- A region's cells, wherever they lie. -/
theorem RegIs.cells {E : Env} {w : World} {r : Nat} {R : Reg} (h : RegIs E w r R) {g o : Nat} (hg : E.reg[r]? = some (.at_ g o)) : ∀ (j : Nat) (c : C), R.cells[j]? = some c → ∃ v, c.is E v ∧ w.cell? ⟨g, o + j, none⟩ = some v := by
  cases R with
  | own t cs =>
    obtain ⟨g', vs, h1, h2, h3⟩ := h
    rw [hg] at h1
    cases h1
    intro j c hj
    obtain ⟨v, hv, hc⟩ := h2.get (n := j) (a := c) hj
    exact ⟨v, hc, by rw [Nat.zero_add, cell_of_row w g j _ t _ h3]; simpa using hv⟩
  | win cs =>
    obtain ⟨g', o', h1, h2⟩ := h
    rw [hg] at h1
    cases h1
    exact h2
  | dyn t b bd => intro j c hj; simp [Reg.cells] at hj
  | rd b bd => intro j c hj; simp [Reg.cells] at hj
  | qs f n => intro j c hj; simp [Reg.cells] at hj
  | nt l => intro j c hj; simp [Reg.cells] at hj
  | rw n => intro j c hj; simp [Reg.cells] at hj
  | dyc t s n cs => intro j c hj; simp [Reg.cells] at hj
  | dead => intro j c hj; simp [Reg.cells] at hj

/-- A region's bytes, and the slice that shows them. -/
theorem RegIs.bytes {E : Env} {w : World} {r : Nat} {R : Reg} (h : RegIs E w r R) {b : List (BitVec 8)} {bd : Nat} (hb : R.bytes = some (b, bd)) :
    ∃ A K, E.reg[r]? = some (.sv (.slice A b.length K)) ∧ b.length ≤ bd ∧ b.length ≤ K ∧ K ≤ maxLen ∧ (∀ (j : Nat) (x : BitVec 8), b[j]? = some x → ∃ ad, A = some ad ∧ w.cell? (ad.add j) = some (B8 x)) := by
  cases R with
  | own t cs => cases hb
  | win cs => cases hb
  | qs f n => cases hb
  | nt l => cases hb
  | rw n => cases hb
  | dyc t s n cs => cases hb
  | dead => cases hb
  | rd b' bd' => cases hb; exact h
  | dyn t b' bd' =>
    cases hb
    obtain ⟨v, h1, h2, h3⟩ := h
    have hc := fun (g : Nat) (hg : v.ownBlock = some g) => h2.cells hg
    rcases h2.2 with ⟨rfl, h4⟩ | ⟨g, cap, cur, rfl, _, _, h5, h6, _⟩
    · have hb0 : b = [] := List.eq_nil_of_length_eq_zero h4
      subst hb0
      exact ⟨none, 0, h1, Nat.zero_le _, Nat.le_refl _, by simp [maxLen], fun j x hj => by simp at hj⟩
    · refine ⟨some ⟨g, 0, none⟩, cap, h1, h3, h5, h6, fun j x hj => ⟨_, rfl, ?_⟩⟩
      exact hc g rfl j (B8 x) (by simp [hj])

theorem HR.grow {B : Nat → Prop} {w0 : World} {E : Env} {hp : List Reg} {w w' : World} (h : HR B w0 E hp w) (hg : Grow w w') : HR B w0 E hp w' :=
  ⟨h.len, fun r R hR => (h.at_ r R hR).keep E.le_refl fun x g hx hb => hg.block g (h.lt r x g hx hb) (by simp), h.sep, h.mine, fun r x g hx hb => Nat.lt_of_lt_of_le (h.lt r x g hx hb) hg.size, h.ok,
    hg.os.trans h.os, hg.tape.trans h.tape, hg.output.trans h.output, Nat.le_trans h.size hg.size, fun b hb hB => (hg.block b (Nat.lt_of_lt_of_le hb h.size) (by simp)).trans (h.keep b hb hB)⟩

theorem Env.le_push (E : Env) (x : Ent) : E.le ⟨E.reg ++ [x]⟩ := by
  intro r y hy
  have : r < E.reg.length := by
    rcases Nat.lt_or_ge r E.reg.length with h | h
    · exact h
    · rw [List.getElem?_eq_none h] at hy; cases hy
  show (E.reg ++ [x])[r]? = some y
  rw [List.getElem?_append_left this]
  exact hy

theorem C.all_mono {E E' : Env} (h : E.le E') {cs : List C} {vs : List Value} (ha : All2 (C.is E) cs vs) : All2 (C.is E') cs vs := ha.mono fun _ _ => C.is_mono h

theorem last_or {α : Type} {l : List α} {x y : α} {r : Nat} (h : (l ++ [x])[r]? = some y) : (r = l.length ∧ y = x) ∨ (r < l.length ∧ l[r]? = some y) := by
  rcases Nat.lt_trichotomy r l.length with hr | hr | hr
  · exact .inr ⟨hr, by rwa [List.getElem?_append_left hr] at h⟩
  · subst hr
    simp at h
    exact .inl ⟨rfl, h.symm⟩
  · rw [List.getElem?_eq_none (by simp; omega)] at h
    cases h

/-- One region more: memory may have turned in block D alone, which no live region shows. -/
theorem HR.add {B : Nat → Prop} {w0 : World} {E : Env} {hp hp1 : List Reg} {w w' : World} (h : HR B w0 E hp w) (hlen : hp1.length = hp.length)
    (hsub : ∀ (q : Nat) (R : Reg), hp1[q]? = some R → R = .dead ∨ hp[q]? = some R) (D : Option Nat)
    (hD : ∀ g, D = some g → (B g ∨ w0.heap.size ≤ g) ∧ g < w.heap.size ∧ ∀ (q : Nat) (R : Reg) (x : Ent), hp1[q]? = some R → R.live = true → E.reg[q]? = some x → x.blk ≠ some g)
    (hg : w.grownBy w' D) (x : Ent) (hx : x.blk = none ∨ x.blk = D ∨ x.blk = some w.heap.size) (hxlt : ∀ g, x.blk = some g → g < w'.heap.size) (hxok : ∀ v, x = .sv v → ∃ A L K, v = .slice A L K)
    (R : Reg) (hR : RegIs ⟨E.reg ++ [x]⟩ w' hp.length R) : HR B w0 ⟨E.reg ++ [x]⟩ (hp1 ++ [R]) w' := by
  have he := E.le_push x
  have old : ∀ (r : Nat) (y : Ent), (E.reg ++ [x])[r]? = some y → (r = hp.length ∧ y = x) ∨ (r < hp.length ∧ E.reg[r]? = some y) := by
    intro r y hy
    have := last_or hy
    rwa [← h.len] at this
  have oldR : ∀ (r : Nat) (y : Reg), (hp1 ++ [R])[r]? = some y → (r = hp.length ∧ y = R) ∨ (r < hp.length ∧ hp1[r]? = some y) := by
    intro r y hy
    have := last_or hy
    rwa [hlen] at this
  have fresh : ∀ (r : Nat) (Q : Reg) (y : Ent) (g : Nat), hp1[r]? = some Q → Q.live = true → E.reg[r]? = some y → y.blk = some g → x.blk ≠ some g := by
    intro r Q y g hQ hl hy hyg hxg
    rcases hx with h1 | h1 | h1
    · rw [h1] at hxg; cases hxg
    · rw [h1] at hxg
      exact (hD g hxg).2.2 r Q y hQ hl hy hyg
    · rw [h1] at hxg
      have := h.lt r y g hy hyg
      cases hxg
      omega
  have liveOf : ∀ Q : Reg, Q.isOwn = true → Q.live = true := by intro Q hQ; cases Q <;> first | rfl | cases hQ
  refine ⟨by simp [hlen, h.len], fun r Q hQ => ?_, fun r r' Q Q' y y' g hQ ho hQ' hl hne hy hy' hyg => ?_, fun r Q y g hQ ho hy hyg => ?_, fun r y g hy hyg => ?_, fun r v hv => ?_, hg.os.trans h.os, hg.tape.trans h.tape, hg.output.trans h.output,
    Nat.le_trans h.size hg.size, fun b hb hB => ?_⟩
  · rcases oldR r Q hQ with ⟨rfl, rfl⟩ | ⟨hr, hQ⟩
    · exact hR
    · rcases hsub r Q hQ with rfl | h0
      · trivial
      · cases hl : Q.live with
        | false => cases Q <;> first | trivial | cases hl
        | true =>
          refine (h.at_ r Q h0).keep he fun y g hy hyg => hg.block g (h.lt r y g hy hyg) fun e => ?_
          exact (hD g e.symm).2.2 r Q y hQ hl hy hyg
  · rcases oldR r Q hQ with ⟨rfl, rfl⟩ | ⟨hr, hQ0⟩
    · rcases oldR r' Q' hQ' with ⟨rfl, rfl⟩ | ⟨hr', hQ'⟩
      · exact absurd rfl hne
      · rcases old _ y hy with ⟨_, rfl⟩ | ⟨h9, _⟩
        · rcases old r' y' hy' with ⟨h9, _⟩ | ⟨_, hy'⟩
          · omega
          · intro e
            exact fresh r' Q' y' g hQ' hl hy' e hyg
        · omega
    · rcases old r y hy with ⟨h9, _⟩ | ⟨_, hy0⟩
      · omega
      · rcases oldR r' Q' hQ' with ⟨rfl, rfl⟩ | ⟨hr', hQ'⟩
        · rcases old _ y' hy' with ⟨_, rfl⟩ | ⟨h9, _⟩
          · exact fresh r Q y g hQ0 (liveOf Q ho) hy0 hyg
          · omega
        · rcases old r' y' hy' with ⟨h9, _⟩ | ⟨_, hy'⟩
          · omega
          · rcases hsub r Q hQ0 with rfl | h0
            · cases ho
            · rcases hsub r' Q' hQ' with rfl | h0'
              · cases hl
              · exact h.sep r r' Q Q' y y' g h0 ho h0' hl hne hy0 hy' hyg
  · rcases oldR r Q hQ with ⟨rfl, rfl⟩ | ⟨hr, hQ⟩
    · rcases old _ y hy with ⟨_, rfl⟩ | ⟨h9, _⟩
      · rcases hx with h1 | h1 | h1
        · rw [h1] at hyg; cases hyg
        · rw [h1] at hyg
          exact (hD g hyg).1
        · rw [h1] at hyg
          cases hyg
          exact .inr h.size
      · omega
    · rcases old r y hy with ⟨h9, _⟩ | ⟨_, hy⟩
      · omega
      · rcases hsub r Q hQ with rfl | h0
        · cases ho
        · exact h.mine r Q y g h0 ho hy hyg
  · rcases old r y hy with ⟨rfl, rfl⟩ | ⟨_, hy⟩
    · exact hxlt g hyg
    · exact Nat.lt_of_lt_of_le (h.lt r y g hy hyg) hg.size
  · rcases old r _ hv with ⟨_, h9⟩ | ⟨_, hv⟩
    · exact hxok v h9.symm
    · exact h.ok r v hv
  · have hne : some b ≠ D := by
      intro e
      rcases (hD b e.symm).1 with h9 | h9
      · exact hB h9
      · omega
    rw [hg.block b (Nat.lt_of_lt_of_le hb h.size) hne]
    exact h.keep b hb hB

/-- A region of one's own is written. -/
theorem HR.upd {B : Nat → Prop} {w0 : World} {E : Env} {hp : List Reg} {w w' : World} (h : HR B w0 E hp w) {r : Nat} {R R' : Reg} {x : Ent} (hr : hp[r]? = some R) (ho : R.isOwn = true) (ho' : R'.isOwn = true) (hx : E.reg[r]? = some x)
    (hg : w.grownBy w' x.blk) (hnew : RegIs E w' r R') : HR B w0 E (hp.set r R') w' := by
  have hlt : r < hp.length := (List.getElem?_eq_some_iff.1 hr).1
  have liveOf : ∀ Q : Reg, Q.isOwn = true → Q.live = true := by intro Q hQ; cases Q <;> first | rfl | cases hQ
  have oldR : ∀ (q : Nat) (Q : Reg), (hp.set r R')[q]? = some Q → (q = r ∧ Q = R') ∨ (q ≠ r ∧ hp[q]? = some Q) := by
    intro q Q hQ
    by_cases hq : q = r
    · subst hq
      rw [List.getElem?_set_self hlt] at hQ
      exact .inl ⟨rfl, (Option.some.inj hQ).symm⟩
    · rw [List.getElem?_set_ne (Ne.symm hq)] at hQ
      exact .inr ⟨hq, hQ⟩
  have kind : ∀ (q : Nat) (Q : Reg), (hp.set r R')[q]? = some Q → ∃ Q', hp[q]? = some Q' ∧ (Q.isOwn = true → Q'.isOwn = true) ∧ (Q.live = true → Q'.live = true) := by
    intro q Q hQ
    rcases oldR q Q hQ with ⟨rfl, rfl⟩ | ⟨_, h5⟩
    · exact ⟨R, hr, fun _ => ho, fun _ => liveOf R ho⟩
    · exact ⟨Q, h5, id, id⟩
  refine ⟨by simp [h.len], fun q Q hQ => ?_, fun q q' Q Q' y y' g hQ hoQ hQ' hl hne hy hy' hyg => ?_, fun q Q y g hQ hoQ hy hyg => ?_, fun q y g hy hyg => Nat.lt_of_lt_of_le (h.lt q y g hy hyg) hg.size, h.ok,
    hg.os.trans h.os, hg.tape.trans h.tape, hg.output.trans h.output, Nat.le_trans h.size hg.size, fun b hb hB => ?_⟩
  · rcases oldR q Q hQ with ⟨rfl, rfl⟩ | ⟨hq, hQ⟩
    · exact hnew
    · cases hl : Q.live with
      | false => cases Q <;> first | trivial | cases hl
      | true =>
        refine (h.at_ q Q hQ).keep E.le_refl fun y g hy hyg => hg.block g (h.lt q y g hy hyg) fun e => ?_
        exact h.sep r q R Q x y g hr ho hQ hl (Ne.symm hq) hx hy e.symm hyg
  · obtain ⟨P1, h1, h2, _⟩ := kind q Q hQ
    obtain ⟨P2, h3, _, h4⟩ := kind q' Q' hQ'
    exact h.sep q q' P1 P2 y y' g h1 (h2 hoQ) h3 (h4 hl) hne hy hy' hyg
  · obtain ⟨P1, h1, h2, _⟩ := kind q Q hQ
    exact h.mine q P1 y g h1 (h2 hoQ) hy hyg
  · have hne : some b ≠ x.blk := by
      intro e
      rcases h.mine r R x b hr ho hx e.symm with h5 | h5
      · exact hB h5
      · omega
    rw [hg.block b (Nat.lt_of_lt_of_le hb h.size) hne]
    exact h.keep b hb hB

/-- A new block. -/
theorem HR.push {B : Nat → Prop} {w0 : World} {E : Env} {hp : List Reg} {w : World} (h : HR B w0 E hp w) (t : TypeId) {cs : List C} {vs : List Value} (ha : All2 (C.is E) cs vs) :
    HR B w0 ⟨E.reg ++ [.at_ w.heap.size 0]⟩ (hp ++ [.own t cs]) (w.alloc (.cells vs.toArray t)) := by
  refine h.add rfl (fun q R hq => .inr hq) none (fun g e => by cases e) (World.grownBy_alloc w _ none) (.at_ w.heap.size 0) (.inr (.inr rfl)) (fun g e => ?_) (fun v e => by cases e) _ ⟨w.heap.size, vs, ?_, C.all_mono (E.le_push _) ha, heap_alloc_new w _⟩
  · cases e
    simp
  · show (E.reg ++ [_])[hp.length]? = _
    rw [h.len]
    simp

theorem grown_setRow (w : World) (g : Nat) (cs : Array Value) : w.grownBy (w.setRow g cs) (some g) :=
  ⟨rfl, rfl, rfl, by rw [size_setRow]; exact Nat.le_refl _, fun k _ hk => setRow_other w g k cs (fun e => hk (by rw [e]))⟩

/-- Cells of a block of its own are written. -/
theorem HR.write {B : Nat → Prop} {w0 : World} {E : Env} {hp : List Reg} {w : World} (h : HR B w0 E hp w) {r g : Nat} {t : TypeId} {cs cs' : List C} {vs' : List Value}
    (hr : hp[r]? = some (.own t cs)) (hg : E.reg[r]? = some (.at_ g 0)) (ha : All2 (C.is E) cs' vs') :
    HR B w0 E (hp.set r (.own t cs')) (w.setRow g vs'.toArray) := by
  obtain ⟨g', vs, h1, h2, h3⟩ := h.at_ r _ hr
  rw [hg] at h1
  cases h1
  exact h.upd hr rfl rfl hg (grown_setRow w g _) ⟨g, vs', hg, ha, setRow_heap w g _ _ t _ h3⟩
end Go.Proofs.Sx
