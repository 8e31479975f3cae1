/- The reckoner is sound: what it reckons of a piece of code holds of every run of it, if what it owes holds. -/
import Derived.Test.YtinbeihbhnjjnaaSxEff
import Derived.LoopN
namespace Go.Proofs.Sx
open Go

def AllT (ob : List Bool) : Prop := ∀ b ∈ ob, b = true
theorem AllT.nil : AllT [] := fun b h => by cases h
theorem AllT.tail {b : Bool} {ob : List Bool} (h : AllT (b :: ob)) : AllT ob := fun x hx => h x (List.mem_cons_of_mem _ hx)
theorem AllT.head {b : Bool} {ob : List Bool} (h : AllT (b :: ob)) : b = true := h b (List.mem_cons_self ..)
theorem AllT.cons {b : Bool} {ob : List Bool} (hb : b = true) (h : AllT ob) : AllT (b :: ob) := fun x hx => by
  rcases List.mem_cons.1 hx with rfl | hx
  · exact hb
  · exact h x hx
theorem AllT.push {o : Option Bool} {ob : List Bool} (h : AllT (pushOb o ob)) : AllT ob ∧ ∀ x, o = some x → x = true := by
  cases o with
  | none => exact ⟨h, fun x hx => by cases hx⟩
  | some b => exact ⟨h.tail, fun x hx => by cases hx; exact h.head⟩

section main
variable {P : Program} {M : Kn}

theorem Chg.refl {E : Env} {hp : List Reg} {B : Nat → Prop} {w0 w : World} (h : HR B w0 E hp w) : Chg hp.length w E w :=
  ⟨Grow.refl w, fun r x g hr hx _ => by rw [h.len, ] at hr; rw [List.getElem?_eq_none hr] at hx; cases hx⟩

theorem Chg.trans {base : Nat} {E E1 : Env} {hp : List Reg} {B : Nat → Prop} {w0 wc w w1 : World} (hh : HR B w0 E hp w) (hE : E.le E1) (h : Chg base wc E w) (h1 : Chg hp.length w E1 w1) : Chg base wc E1 w1 := by
  refine ⟨h.1.trans h1.1, fun r x g hr hx hg => ?_⟩
  rcases Nat.lt_or_ge r hp.length with hlt | hge
  · have h2 : r < E.reg.length := by rw [← hh.len]; exact hlt
    have h3 := hE r _ (List.getElem?_eq_getElem h2)
    rw [hx] at h3
    cases h3
    exact h.2 r _ g hr (List.getElem?_eq_getElem h2) hg
  · exact Nat.le_trans h.1.size (h1.2 r x g hge hx hg)

/-- How a state in letters stands to the machine's. -/
structure Rel (B : Nat → Prop) (w0 wc : World) (E : Env) (st : St) (a : Act) (w : World) : Prop where
  tr : TR E st.tm st.n a
  hr : HR B w0 E st.hp w
  ch : st.chg = false → Chg st.base wc E w

def Ex.to : Ex → Exit
  | .normal => .normal
  | .exit id => .exit id
  | .ret => .ret

/-- What a piece of code does to what is owed, and to where the function's own regions begin. -/
structure Good (st st' : St) : Prop where
  ob : AllT st'.ob → AllT st.ob
  base : st'.base = st.base
theorem Good.refl (st : St) : Good st st := ⟨id, rfl⟩
theorem Good.trans {a b c : St} (h : Good a b) (k : Good b c) : Good a c := ⟨fun x => h.ob (k.ob x), k.base.trans h.base⟩

/-- What is to be shown of a reckoner. -/
def Sound (P : Program) (ih : Rec) : Prop :=
  ∀ (c : Code) (st : St) (e : Ex) (st' : St), ih c st = some (e, st') → Good st st' ∧ (AllT st'.ob →
    ∀ (B : Nat → Prop) (w0 wc : World) (E : Env) (a : Act) (w : World) (Q : Exit → Act → World → Prop), Rel B w0 wc E st a w →
    (∀ (E' : Env) (a' : Act) (w' : World), E.le E' → Rel B w0 wc E' st' a' w' → Q e.to a' w') → c.wp P Q a w)

/-- What a call leaves. -/
def After (B : Nat → Prop) (w0 : World) (E : Env) (hp : List Reg) (w : World) (v : V) (hp' : List Reg) (chg : Bool) (e : Ending) (w' : World) : Prop :=
  ∃ (E' : Env) (u : Value), E.le E' ∧ e = .returned u ∧ v.is E' u ∧ HR B w0 E' hp' w' ∧ (chg = false → Chg hp.length w E' w')

/-- What is to be shown of calls that are known. -/
def Known (P : Program) (M : Kn) : Prop :=
  ∀ (f : FuncId) (vs : List V) (hp : List Reg) (v : V) (hp' : List Reg) (chg : Bool) (ob : Option Bool), M f vs hp = some (v, hp', chg, ob) → (∀ x, ob = some x → x = true) →
    ∀ (B : Nat → Prop) (w0 : World) (E : Env) (us : List Value) (w : World), All2 (V.is E) vs us → HR B w0 E hp w → Calls P f us.toArray w (After B w0 E hp w v hp' chg)

theorem lenV'_eq : ∀ vs : List V, lenV' vs = vs.length
  | [] => rfl
  | _ :: vs => by simp [lenV', lenV'_eq vs]

theorem tmOf_tr {E : Env} {n : Nat} {a : Act} : ∀ (vs : List V) (us : List Value) (i : Nat) (t : T), All2 (V.is E) vs us → (∀ j u, us[j]? = some u → a.tmps[i + j]? = some u) → TR E t n a → TR E (tmOf vs i t) n a
  | [], [], _, _, _, _, ht => ht
  | v :: vs, u :: us, i, t, h, hu, ht => by
    simp only [tmOf, T.setK_eq]
    refine tmOf_tr vs us (i + 1) _ h.2 (fun j x hx => ?_) ⟨ht.defers, ht.size, fun j x hx => ?_⟩
    · have := hu (j + 1) x (by simpa using hx)
      rwa [show i + (j + 1) = i + 1 + j by omega] at this
    · rcases T.get_set t i v j x hx with ⟨rfl, rfl⟩ | ⟨_, hx⟩
      · exact ⟨u, by simpa using hu 0 u rfl, h.1⟩
      · exact ht.at_ j x hx

/-- The frame that a call begins with. -/
theorem enter_tr {E : Env} {fn : Func} {vs : List V} {us : List Value} (hv : All2 (V.is E) vs us) :
    TR E (tmOf vs 0 (T.full 8)) (lenV' vs + (fn.ntmps - lenV' vs)) { tmps := us.toArray ++ Array.replicate (fn.ntmps - us.toArray.size) undef, defers := [] } := by
  have hl := hv.length
  have hsz : us.length + (fn.ntmps - us.toArray.size) = lenV' vs + (fn.ntmps - lenV' vs) := by rw [lenV'_eq, hl]; simp
  refine tmOf_tr vs us 0 _ hv (fun j u hu => ?_) ⟨rfl, by rw [← hsz]; simp, fun i x hx => by rw [T.get_full] at hx; cases hx⟩
  have hj : j < us.toArray.size := by
    rcases Nat.lt_or_ge j us.length with h | h
    · simpa using h
    · rw [List.getElem?_eq_none h] at hu; cases hu
  rw [Nat.zero_add]
  show (us.toArray ++ _)[j]? = some u
  rw [Array.getElem?_append_left hj]
  simpa using hu

def resRun (tmps : Array Value) : ResultVar → Sem Value
  | .tmp t => pure (tmps.getD t undef)
  | .cell x t => do loadVar t (← asAddr (tmps.getD x undef))
theorem results_eq (fn : Func) (tmps : Array Value) : results fn tmps = (do let vs ← fn.results.mapM (resRun tmps); pure (if h : vs.size = 1 then vs[0] else .tuple vs) : Sem Value) := by
  unfold results
  congr 1

theorem resV1_is {E : Env} {B : Nat → Prop} {w0 w : World} {rv : ResultVar} {tm : T} {n : Nat} {hp : List Reg} {a : Act} {v : V} (ht : TR E tm n a) (hh : HR B w0 E hp w) (h : resV1 P rv tm hp = some v) :
    ∃ u, v.is E u ∧ (resRun a.tmps rv).run P w = .ok u w := by
  cases rv with
  | tmp t =>
    obtain ⟨u, h1, h2⟩ := ht.at_ _ _ h
    exact ⟨u, h2, by simp [resRun, h1]⟩
  | cell x t =>
    simp only [resV1] at h
    split at h
    · rename_i r off hx
      obtain ⟨u1, h1, h2⟩ := ht.at_ _ _ hx
      obtain ⟨ad, u, h3, h4, h5⟩ := loadV_is hh.at_ h h2
      subst h3
      refine ⟨u, h4, ?_⟩
      simp [resRun, h1, asAddr, h5 w (Grow.refl w)]
    · cases h

theorem resVs_is {E : Env} {B : Nat → Prop} {w0 w : World} {tm : T} {n : Nat} {hp : List Reg} {a : Act} (ht : TR E tm n a) (hh : HR B w0 E hp w) : ∀ {rs : List ResultVar} {l : List (Bool × List C)}, resVs P rs tm hp = some l →
    ∃ us : List Value, All2 (Part.is E) l us ∧ us.length = rs.length ∧ (rs.mapM (resRun a.tmps)).run P w = .ok us w
  | [], l, h => by cases h; exact ⟨[], trivial, rfl, rfl⟩
  | r :: rs, l, h => by
    simp only [resVs] at h
    split at h
    · rename_i v hv
      split at h
      · rename_i p hp1
        split at h
        · rename_i l' hl
          cases h
          obtain ⟨u, h1, h2⟩ := resV1_is ht hh hv
          obtain ⟨us, h3, h4, h5⟩ := resVs_is ht hh hl
          refine ⟨u :: us, ⟨part_is hp1 h1, h3⟩, by simp [h4], ?_⟩
          rw [List.mapM_cons, Sem.run_bind, h2, Result.andThen_ok, Sem.run_bind, h5, Result.andThen_ok]
          rfl
        · cases h
      · cases h
    · cases h

theorem resV_is {E : Env} {B : Nat → Prop} {w0 w : World} {fn : Func} {tm : T} {n : Nat} {hp : List Reg} {a : Act} {v : V} (ht : TR E tm n a) (hh : HR B w0 E hp w) (h : resV P fn.results.toList tm hp = some v) :
    ∃ u, v.is E u ∧ (results fn a.tmps).run P w = .ok u w := by
  unfold resV at h
  split at h
  · rename_i hr
    cases h
    have e : fn.results = #[] := by apply Array.ext'; simpa using hr
    exact ⟨_, rfl, by simp [results, e]⟩
  · rename_i r hr
    have e : fn.results = #[r] := by apply Array.ext'; simpa using hr
    obtain ⟨u, h1, h2⟩ := resV1_is ht hh h
    refine ⟨u, h1, ?_⟩
    rw [results_eq, e, Sem.run_bind, Array.mapM_eq_mapM_toList, Sem.run_map, List.mapM_cons, Sem.run_bind, h2]
    rfl
  · rename_i r r' rs hr
    split at h
    · rename_i l hl
      cases h
      obtain ⟨us, h1, h2, h3⟩ := resVs_is ht hh hl
      refine ⟨.tuple us.toArray, ⟨us, rfl, h1⟩, ?_⟩
      have e : fn.results = (r :: r' :: rs).toArray := by apply Array.ext'; simpa using hr
      rw [results_eq, e, Sem.run_bind, Array.mapM_eq_mapM_toList, Sem.run_map, h3]
      have hne : ¬ us.length = 1 := by rw [h2]; simp
      simp [hne]
    · cases h

theorem callF_is {ih : Rec} (hs : Sound P ih) (hM : Known P M) {hp hp' : List Reg} {f : FuncId} {vs : List V} {v : V} {chg : Bool} {ob ds ob' ds' : List Bool}
    (h : callF ih P M hp ob ds f vs = some (v, hp', chg, ob', ds')) :
    (AllT ob' → AllT ob) ∧ (∃ fn, P.funcs[f]? = some fn ∧ (fn.name == "runtime.NumGoroutine") = false ∧ fn.body.isNone = false) ∧
    (AllT ob' → ∀ (E : Env) (B : Nat → Prop) (w0 w : World) (us : List Value), All2 (V.is E) vs us → HR B w0 E hp w → Calls P f us.toArray w (After B w0 E hp w v hp' chg)) := by
  unfold callF at h
  split at h
  · cases h
  · rename_i fn hf
    split at h
    · cases h
    · rename_i hname
      split at h
      · cases h
      · rename_i c hb
        have hfn : ∃ fn, P.funcs[f]? = some fn ∧ (fn.name == "runtime.NumGoroutine") = false ∧ fn.body.isNone = false := ⟨fn, hf, hname, by rw [hb]; rfl⟩
        split at h
        · rename_i v1 hp1 chg1 o1 hk
          cases h
          exact ⟨fun h => h.push.1, hfn, fun h E B w0 w us hv hh => hM f vs hp v hp' chg o1 hk h.push.2 B w0 E us w hv hh⟩
        · have fin : ∀ (e : Ex) (tm' : T) (n' base' : Nat), (e = .normal ∨ e = .ret) → ih c ⟨tmOf vs 0 (T.full 8), hp, false, lenV' vs + (fn.ntmps - lenV' vs), regLen hp, ob, ds⟩ = some (e, ⟨tm', hp', chg, n', base', ob', ds'⟩) →
              resV P fn.results.toList tm' hp' = some v →
              (AllT ob' → AllT ob) ∧ (∃ fn, P.funcs[f]? = some fn ∧ (fn.name == "runtime.NumGoroutine") = false ∧ fn.body.isNone = false) ∧
              (AllT ob' → ∀ (E : Env) (B : Nat → Prop) (w0 w : World) (us : List Value), All2 (V.is E) vs us → HR B w0 E hp w → Calls P f us.toArray w (After B w0 E hp w v hp' chg)) := by
            intro e tm' n' base' he hrun hres
            obtain ⟨hg, hwp⟩ := hs c _ e _ hrun
            refine ⟨hg.ob, hfn, fun hob E B w0 w us hv hh => ?_⟩
            refine calls_of_wp hf hb ?_
            have hbase : base' = hp.length := hg.base.trans (regLen_eq hp)
            refine hwp hob B w0 w E _ w _ ⟨enter_tr hv, hh, fun _ => by rw [regLen_eq]; exact Chg.refl hh⟩ fun E' a' w' hE hR => ?_
            obtain ⟨u, h1, h2⟩ := resV_is hR.tr hR.hr hres
            have hch : chg = false → Chg hp.length w E' w' := by
              rw [← hbase]
              exact hR.ch
            have hpost : bodyPost P fn (After B w0 E hp w v hp' chg) .ret a' w' := ⟨hR.tr.defers, u, h2, E', u, hE, rfl, h1, hR.hr, hch⟩
            rcases he with rfl | rfl
            · exact hpost
            · exact hpost
          split at h
          · rename_i tm' hp1 chg1 n' base' ob1 ds1 hrun
            split at h
            · rename_i v1 hres
              cases h
              exact fin _ _ _ _ (.inl rfl) hrun hres
            · cases h
          · rename_i tm' hp1 chg1 n' base' ob1 ds1 hrun
            split at h
            · rename_i v1 hres
              cases h
              exact fin _ _ _ _ (.inr rfl) hrun hres
            · cases h
          · cases h

theorem call_run {a : Act} {o : Oper} {c : Call} {f : FuncId} (ho : o.op = .call c) (hc : c.callee = .value (.func f)) {fn : Func} (hf : P.funcs[f]? = some fn)
    (hn : (fn.name == "runtime.NumGoroutine") = false) (hb : fn.body.isNone = false) (w : World) :
    (execOp a.eval o).run P w = .ok (.enter f (c.args.toList.map a.eval).toArray) w := by
  have e : (c.args.toList.map a.eval).toArray = c.args.map a.eval := by apply Array.ext'; simp
  rw [e]
  simp only [execOp, ho, resolve, hc, Act.eval, Deferred.ofValue, Sem.run_bind, Sem.run_pure, Result.andThen_ok, invoke, callFunc, run_program, hf, hn, hb, Bool.false_eq_true, if_false]
  simp

theorem wantB_is {E : Env} {tm : T} {n : Nat} {a : Act} (ht : TR E tm n a) {ops : Array Oper} {o : Oper} {b : Bool} (h : wantB tm ops o.guard = some b) : Region.wanted o (yielded ops a.tmps) = b := by
  unfold wantB at h
  unfold Region.wanted
  split at h
  · rename_i hg
    cases h
    rw [hg]
  · rename_i j want hg
    rw [hg]
    split at h
    · cases h
    · rename_i oj hoj
      split at h
      · cases h
      · rename_i d hd
        have hy : ∀ u, a.tmps[d]? = some u → yielded ops a.tmps j = (match u with | .bool b => some b | _ => none) := by
          intro u hu
          unfold yielded
          rw [hoj]
          simp only [Option.bind_some, hd, hu]
          cases u <;> rfl
        split at h
        · rename_i q hq
          obtain ⟨u, h1, h2⟩ := ht.at_ _ _ hq
          cases h2
          simp only [hy _ h1]
          cases q <;> cases want <;> simp_all
        · rename_i vs hq
          obtain ⟨u, h1, h2⟩ := ht.at_ _ _ hq
          cases h2
          cases h
          simp only [hy _ h1]
          rfl
        · cases h

theorem decide1_is {b q e : Bool} {ds ds' : List Bool} (h : decide1 b ds = some (q, e, ds')) (he : e = true) : b = q := by
  unfold decide1 at h
  split at h
  · split at h
    · cases h; rfl
    · cases h; rfl
  · cases h; exact he
  · cases h
    cases b
    · rfl
    · cases he

theorem TR.settle {E : Env} {tm : T} {n : Nat} {a : Act} (h : TR E tm n a) {d : Nat} {b q : Bool} (hd : tm.get d = some (.one (.sb b))) (hb : b = q) : TR E (tm.set d (.one (.bl q))) n a := by
  refine ⟨h.defers, h.size, fun i x hx => ?_⟩
  rcases T.get_set tm d _ i x hx with ⟨rfl, rfl⟩ | ⟨_, hx⟩
  · obtain ⟨u, h1, h2⟩ := h.at_ _ _ hd
    subst hb
    exact ⟨u, h1, h2⟩
  · exact h.at_ i x hx

/-- The ways through 'settle'. -/
theorem settle_or {R : Type} {tm : T} {n : Nat} {ops : Array Oper} {g : Option (Nat × Bool)} {ob ds : List Bool} {stop : R} {k : T → List Bool → List Bool → R} {x : R} (h : settle tm n ops g ob ds stop k = x) :
    x = stop ∨ ∃ tm' ob' ds', k tm' ob' ds' = x ∧ (AllT ob' → AllT ob) ∧ (AllT ob' → ∀ (E : Env) (a : Act), TR E tm n a → TR E tm' n a) := by
  unfold settle at h
  split at h
  · exact .inr ⟨_, _, _, h, id, fun _ _ _ => id⟩
  · rename_i d b hw
    split at h
    · rename_i q e ds' hd hlt
      rw [T.setK_eq] at h
      refine .inr ⟨_, _, _, h, AllT.tail, fun hob E a ht => ?_⟩
      refine ht.settle (b := b) ?_ (decide1_is hd hob.head)
      unfold wantS at hw
      split at hw
      · cases hw
      · split at hw
        · cases hw
        · split at hw
          · cases hw
          · split at hw
            · rename_i hget
              cases hw
              exact hget
            · cases hw
    · exact .inl h.symm

theorem Rel.put {B : Nat → Prop} {w0 wc : World} {E : Env} {tm : T} {hp : List Reg} {chg : Bool} {n base : Nat} {ob ds : List Bool} {a : Act} {w : World} (h : Rel B w0 wc E ⟨tm, hp, chg, n, base, ob, ds⟩ a w) {d : Nat} (hd : Nat.blt d n = true) {v : V} {u : Value} (hv : v.is E u) :
    Rel B w0 wc E ⟨tm.set d v, hp, chg, n, base, ob, ds⟩ (a.put (some d) u) w := ⟨h.tr.put hd hv, h.hr, h.ch⟩

theorem remOp_is {tm : T} {hp : List Reg} {o : Op} {ds ds' : List Bool} {v : V} {b : Bool} (h : remOp tm o ds = some (v, b, ds')) (hb : b = true) : pureOp P tm hp o = some v := by
  unfold remOp at h
  split at h
  · rename_i t x y ub
    split at h
    · split at h
      · rename_i p q hx hy
        split at h
        · cases h
        · rename_i hq
          split at h
          · rw [forceN_eq] at h
            cases h
            have hq2 := eq_of_beq hb
            simp only [pureOp, hx, hy, binC, hq, hq2]
          · cases h
      · cases h
    · cases h
  · cases h

theorem step_is {ih : Rec} (hs : Sound P ih) (hM : Known P M) {tm : T} {hp hp1 : List Reg} {base : Nat} {ob ds ob1 ds1 : List Bool} {o : Oper} {v : V} {c : Bool} (h : stepOp ih P M tm hp base ob ds o.op = some (v, hp1, c, ob1, ds1)) :
    (AllT ob1 → AllT ob) ∧ (AllT ob1 → ∀ (B : Nat → Prop) (w0 : World) (E : Env) (n : Nat) (a : Act) (w : World) (K : Act → World → Prop) (Q : Exit → Act → World → Prop), TR E tm n a → HR B w0 E hp w →
      (∀ (E1 : Env) (u : Value) (w1 : World), E.le E1 → v.is E1 u → HR B w0 E1 hp1 w1 → (c = false → ∀ wc, Chg base wc E w → Chg base wc E1 w1) → K (a.put o.dst u) w1) → o.wp P a w K Q) := by
  unfold stepOp at h
  split at h
  · rename_i v1 b1 ds1 hr
    cases h
    refine ⟨fun h => h.tail, fun hob B w0 E n a w K Q ht hh next => ?_⟩
    obtain ⟨u, h1, h2⟩ := pureOp_is hh.ok ht hh.at_ (remOp_is (P := P) (hp := hp) hr hob.head)
    unfold Oper.wp
    rw [h2 w (Grow.refl w)]
    exact next E u w E.le_refl h1 hh fun _ _ hc => hc
  · split at h
    · rename_i v1 hp0
      cases h
      refine ⟨id, fun hob B w0 E n a w K Q ht hh next => ?_⟩
      obtain ⟨u, h1, h2⟩ := pureOp_is hh.ok ht hh.at_ hp0
      unfold Oper.wp
      rw [h2 w (Grow.refl w)]
      exact next E u w E.le_refl h1 hh fun _ _ hc => hc
    · split at h
      · rename_i v1 b1 hp0
        cases h
        refine ⟨fun h => h.push.1, fun hob B w0 E n a w K Q ht hh next => ?_⟩
        obtain ⟨u, h1, h2⟩ := symOp_is ht hh.at_ hp0 hob.push.2
        unfold Oper.wp
        rw [h2 w (Grow.refl w)]
        exact next E u w E.le_refl h1 hh fun _ _ hc => hc
      · split at h
        · rename_i v1 hp2 w2 b2 hp0
          cases h
          refine ⟨fun h => h.push.1, fun hob B w0 E n a w K Q ht hh next => ?_⟩
          obtain ⟨u, w1, E1, hE, h1, h2, h3, h4⟩ := effOp_is ht hh hp0 hob.push.2
          unfold Oper.wp
          rcases h4 with h4 | ⟨h5, h4⟩
          · rw [h4]
            exact next E1 u w1 hE h1 h2 h3
          · rw [h4]
            subst h5
            exact next E1 undef w1 hE h1 h2 h3
        · split at h
          · rename_i cl hop
            split at h
            · rename_i f hcal
              split at h
              · rename_i vs hvs
                obtain ⟨hob0, ⟨fn, hf, hn, hb⟩, hcalls⟩ := callF_is hs hM h
                refine ⟨hob0, fun hob B w0 E n a w K Q ht hh next => ?_⟩
                unfold Oper.wp
                rw [call_run hop hcal hf hn hb w]
                refine Calls.mono (hcalls hob E B w0 w _ (evs_is ht hvs) hh) fun e w1 ⟨E1, u, hE, he, hv, hh1, hc⟩ => ?_
                subst he
                exact next E1 u w1 hE hv hh1 fun hcc wc hch => Chg.trans hh hE hch (hc hcc)
              · cases h
            · cases h
          · cases h

theorem sops_is {ih : Rec} (hs : Sound P ih) (hM : Known P M) {ops : Array Oper} {B : Nat → Prop} {w0 wc : World} {Q : Exit → Act → World → Prop} :
    ∀ (l : List Oper) (st st' : St), sops ih P M ops l st = some st' → Good st st' ∧ (AllT st'.ob → ∀ (E : Env) (a : Act) (w : World), Rel B w0 wc E st a w →
      (∀ (E' : Env) (a' : Act) (w' : World), E.le E' → Rel B w0 wc E' st' a' w' → Q .normal a' w') → wpList P ops Q l a w)
  | [], st, st', h => by
    cases h
    exact ⟨Good.refl _, fun _ E a w hR hQ => hQ E a w E.le_refl hR⟩
  | o :: rest, ⟨tm0, hp, chg, n, base, ob0, ds0⟩, st', h => by
    simp only [sops] at h
    rcases settle_or h with h | ⟨tm, ob, ds, h, hob0, hset⟩
    · cases h
    · split at h
      · cases h
      · rename_i hw
        have go : ∀ tm1, sops ih P M ops rest ⟨tm1, hp, chg, n, base, ob, ds⟩ = some st' → (∀ E a, TR E tm n a → TR E tm1 n (a.put o.dst undef)) →
            Good ⟨tm0, hp, chg, n, base, ob0, ds0⟩ st' ∧ (AllT st'.ob → ∀ (E : Env) (a : Act) (w : World), Rel B w0 wc E ⟨tm0, hp, chg, n, base, ob0, ds0⟩ a w →
              (∀ (E' : Env) (a' : Act) (w' : World), E.le E' → Rel B w0 wc E' st' a' w' → Q .normal a' w') → wpList P ops Q (o :: rest) a w) := by
          intro tm1 h1 htr
          obtain ⟨hg, hrest⟩ := sops_is hs hM rest _ st' h1
          refine ⟨⟨fun h => hob0 (hg.ob h), hg.base⟩, fun hob E a w hR hQ => ?_⟩
          have ht := hset (hg.ob hob) E a hR.tr
          have hw' := wantB_is ht hw
          unfold wpList
          rw [if_neg (by rw [hw']; simp)]
          exact hrest hob E _ w ⟨htr E a ht, hR.hr, hR.ch⟩ hQ
        split at h
        · rename_i hd
          exact go tm h fun E a ht => by rw [hd]; exact ht
        · rename_i d hd
          split at h
          · cases h
          · rename_i hlt
            rw [T.setK_eq] at h
            exact go _ h fun E a ht => by rw [hd]; exact ht.put hlt rfl
      · rename_i hw
        split at h
        · cases h
        · rename_i v hp1 c ob1 ds1 hstep
          rw [forceB_eq] at h
          obtain ⟨hob1, hst⟩ := step_is hs hM hstep
          have go : ∀ tm1, sops ih P M ops rest ⟨tm1, hp1, chg || c, n, base, ob1, ds1⟩ = some st' → (∀ E a u, TR E tm n a → v.is E u → TR E tm1 n (a.put o.dst u)) →
              Good ⟨tm0, hp, chg, n, base, ob0, ds0⟩ st' ∧ (AllT st'.ob → ∀ (E : Env) (a : Act) (w : World), Rel B w0 wc E ⟨tm0, hp, chg, n, base, ob0, ds0⟩ a w →
                (∀ (E' : Env) (a' : Act) (w' : World), E.le E' → Rel B w0 wc E' st' a' w' → Q .normal a' w') → wpList P ops Q (o :: rest) a w) := by
            intro tm1 h1 htr
            obtain ⟨hg, hrest⟩ := sops_is hs hM rest _ st' h1
            refine ⟨⟨fun h => hob0 (hob1 (hg.ob h)), hg.base⟩, fun hob E a w hR hQ => ?_⟩
            have ht := hset (hob1 (hg.ob hob)) E a hR.tr
            have hw' := wantB_is ht hw
            unfold wpList
            rw [if_pos hw']
            refine .inl (hst (hg.ob hob) B w0 E n a w _ Q ht hR.hr fun E1 u w1 hE hv hh hc => ?_)
            refine hrest hob E1 _ w1 ⟨htr E1 a u (ht.mono hE) hv, hh, fun hcc => ?_⟩ fun E' a' w' hE' hR' => hQ E' a' w' (Env.le_trans hE hE') hR'
            simp only [Bool.or_eq_false_iff] at hcc
            exact hc hcc.2 wc (hR.ch hcc.1)
          split at h
          · rename_i hd
            exact go tm h fun E a u ht _ => by rw [hd]; exact ht
          · rename_i d hd
            split at h
            · cases h
            · rename_i hlt
              rw [T.setK_eq] at h
              exact go _ h fun E a u ht hv => by rw [hd]; exact ht.put hlt hv

theorem scalC_is {E : Env} {c : C} {u0 : Value} (h : scalC c = some u0) {u : Value} (hc : c.is E u) : u = u0 ∧ ∀ E', c.is E' u0 := by
  unfold scalC at h
  split at h
  · cases h; cases hc; exact ⟨rfl, fun _ => rfl⟩
  · cases h; cases hc; exact ⟨rfl, fun _ => rfl⟩
  · cases h; cases hc; exact ⟨rfl, fun _ => rfl⟩
  · cases h; cases hc; exact ⟨rfl, fun _ => rfl⟩
  · cases h; cases hc; exact ⟨rfl, fun _ => rfl⟩
  · cases h; obtain ⟨rfl, hn⟩ := hc; exact ⟨rfl, fun _ => ⟨rfl, hn⟩⟩
  · cases h; obtain ⟨rfl, hn⟩ := hc; exact ⟨rfl, fun _ => ⟨rfl, hn⟩⟩
  · cases h; cases hc; exact ⟨rfl, fun _ => rfl⟩
  · cases h

theorem scalCs_is {E : Env} : ∀ {cs : List C} {us0 us : List Value}, scalCs cs = some us0 → All2 (C.is E) cs us → us = us0 ∧ ∀ E', All2 (C.is E') cs us0
  | [], us0, [], h, _ => by cases h; exact ⟨rfl, fun _ => trivial⟩
  | c :: cs, us0, u :: us, h, ha => by
    simp only [scalCs] at h
    split at h
    · cases h
    · rename_i v hv
      split at h
      · cases h
      · rename_i vs hvs
        cases h
        obtain ⟨rfl, h2⟩ := scalC_is hv ha.1
        obtain ⟨rfl, h4⟩ := scalCs_is hvs ha.2
        exact ⟨rfl, fun E' => ⟨h2 E', h4 E'⟩⟩

theorem scalP_is {E : Env} {p : Bool × List C} {u0 : Value} (h : scalP p = some u0) {u : Value} (hv : Part.is E p u) : u = u0 ∧ ∀ E', Part.is E' p u0 := by
  unfold scalP at h
  split at h
  · split at h
    · rename_i vs hvs
      cases h
      obtain ⟨us, rfl, ha⟩ := hv
      obtain ⟨rfl, h2⟩ := scalCs_is hvs ha
      exact ⟨rfl, fun E' => ⟨_, rfl, h2 E'⟩⟩
    · cases h
  · exact scalC_is h hv
  · cases h
theorem scalPs_is {E : Env} : ∀ {cs : List (Bool × List C)} {us0 us : List Value}, scalPs cs = some us0 → All2 (Part.is E) cs us → us = us0 ∧ ∀ E', All2 (Part.is E') cs us0
  | [], us0, [], h, _ => by cases h; exact ⟨rfl, fun _ => trivial⟩
  | c :: cs, us0, u :: us, h, ha => by
    simp only [scalPs] at h
    split at h
    · cases h
    · rename_i v hv
      split at h
      · cases h
      · rename_i vs hvs
        cases h
        obtain ⟨rfl, h2⟩ := scalP_is hv ha.1
        obtain ⟨rfl, h4⟩ := scalPs_is hvs ha.2
        exact ⟨rfl, fun E' => ⟨h2 E', h4 E'⟩⟩

theorem scal_is {E : Env} {v : V} {u0 : Value} (h : scal v = some u0) {u : Value} (hv : v.is E u) : u = u0 ∧ ∀ E', v.is E' u0 := by
  unfold scal at h
  split at h
  · exact scalC_is h hv
  · split at h
    · rename_i vs hvs
      cases h
      obtain ⟨us, rfl, ha⟩ := hv
      obtain ⟨rfl, h2⟩ := scalCs_is hvs ha
      exact ⟨rfl, fun E' => ⟨_, rfl, h2 E'⟩⟩
    · cases h
  · split at h
    · rename_i vs hvs
      cases h
      obtain ⟨us, rfl, ha⟩ := hv
      obtain ⟨rfl, h2⟩ := scalPs_is hvs ha
      exact ⟨rfl, fun E' => ⟨_, rfl, h2 E'⟩⟩
    · cases h
  · cases h

theorem still_is {ih : Rec} (hs : Sound P ih) (hM : Known P M) {tm : T} {hp : List Reg} {ob ds ob1 ds1 : List Bool} {o : Oper} {v : V} (h : stillOp ih P M tm hp ob ds o.op = some (v, ob1, ds1)) :
    (AllT ob1 → AllT ob) ∧ (AllT ob1 → ∀ (B : Nat → Prop) (w0 : World) (E : Env) (n : Nat) (a : Act) (w : World), TR E tm n a → HR B w0 E hp w →
      ∃ u, v.is E u ∧ ∀ w', Grow w w' → o.quietAt P a (Grow w) w' u) := by
  unfold stillOp at h
  split at h
  · rename_i v1 b1 ds1 hr
    cases h
    refine ⟨fun h => h.tail, fun hob B w0 E n a w ht hh => ?_⟩
    obtain ⟨u, h1, h2⟩ := pureOp_is hh.ok ht hh.at_ (remOp_is (P := P) (hp := hp) hr hob.head)
    refine ⟨u, h1, fun w' hw' => ?_⟩
    unfold Oper.quietAt
    rw [h2 w' hw']
    exact ⟨rfl, rfl⟩
  · split at h
    · rename_i v1 hp0
      cases h
      refine ⟨id, fun hob B w0 E n a w ht hh => ?_⟩
      obtain ⟨u, h1, h2⟩ := pureOp_is hh.ok ht hh.at_ hp0
      refine ⟨u, h1, fun w' hw' => ?_⟩
      unfold Oper.quietAt
      rw [h2 w' hw']
      exact ⟨rfl, rfl⟩
    · split at h
      · rename_i v1 b1 hp0
        cases h
        refine ⟨fun h => h.push.1, fun hob B w0 E n a w ht hh => ?_⟩
        obtain ⟨u, h1, h2⟩ := symOp_is ht hh.at_ hp0 hob.push.2
        refine ⟨u, h1, fun w' hw' => ?_⟩
        unfold Oper.quietAt
        rw [h2 w' hw']
        exact ⟨rfl, rfl⟩
      · split at h
        · rename_i cl hop
          split at h
          · rename_i f hcal
            split at h
            · rename_i vs hvs
              split at h
              · rename_i v1 hp1 ob2 ds2 hcall
                split at h
                · rename_i u0 hsc
                  cases h
                  obtain ⟨hob0, ⟨fn, hf, hn, hb⟩, hcalls⟩ := callF_is hs hM hcall
                  refine ⟨hob0, fun hob B w0 E n a w ht hh => ⟨u0, ?_, fun w' hw' => ?_⟩⟩
                  · obtain ⟨e, w1, fr, ⟨E1, u, _, _, hv1, _⟩, _⟩ := hcalls hob E B w0 w _ (evs_is ht hvs) hh []
                    exact (scal_is hsc hv1).2 E
                  · unfold Oper.quietAt
                    rw [call_run hop hcal hf hn hb]
                    refine ⟨rfl, Calls.mono (hcalls hob E B w0 w' _ (evs_is ht hvs) (hh.grow hw')) fun e w1 ⟨E1, u, hE, he, hv, _, hc⟩ => ?_⟩
                    rw [he, (scal_is hsc hv).1]
                    exact ⟨rfl, hw'.trans (hc rfl).1⟩
                · cases h
              · cases h
            · cases h
          · cases h
        · cases h

theorem sstill_is {ih : Rec} (hs : Sound P ih) (hM : Known P M) {ops : Array Oper} :
    ∀ (l : List Oper) (st : St) (rest : List Oper) (st' : St), sstill ih P M ops l st = (rest, st') → Good st st' ∧ st'.hp = st.hp ∧ st'.chg = st.chg ∧ ∃ pre, l = pre ++ rest ∧
      (AllT st'.ob → ∀ (B : Nat → Prop) (w0 : World) (E : Env) (a : Act) (w : World), TR E st.tm st.n a → HR B w0 E st.hp w → ∀ L : Act → Prop, (∀ a', TR E st'.tm st'.n a' → L a') → wpQuiet P ops (Grow w) L pre a)
  | [], st, rest, st', h => by
    cases h
    exact ⟨Good.refl _, rfl, rfl, [], rfl, fun _ B w0 E a w ht _ L hL => hL a ht⟩
  | o :: l, ⟨tm0, hp, chg, n, base, ob0, ds0⟩, rest, st', h => by
    simp only [sstill] at h
    have stop : ∀ (tm : T) (ob ds : List Bool), (AllT ob → AllT ob0) → (AllT ob → ∀ (E : Env) (a : Act), TR E tm0 n a → TR E tm n a) → (o :: l, (⟨tm, hp, chg, n, base, ob, ds⟩ : St)) = (rest, st') →
        Good ⟨tm0, hp, chg, n, base, ob0, ds0⟩ st' ∧ st'.hp = hp ∧ st'.chg = chg ∧ ∃ pre, o :: l = pre ++ rest ∧
        (AllT st'.ob → ∀ (B : Nat → Prop) (w0 : World) (E : Env) (a : Act) (w : World), TR E tm0 n a → HR B w0 E hp w → ∀ L : Act → Prop, (∀ a', TR E st'.tm st'.n a' → L a') → wpQuiet P ops (Grow w) L pre a) := by
      intro tm ob ds h1 h2 h
      cases h
      exact ⟨⟨h1, rfl⟩, rfl, rfl, [], rfl, fun hob B w0 E a w ht _ L hL => hL a (h2 hob E a ht)⟩
    rcases settle_or h with h | ⟨tm, ob, ds, h, hob0, hset⟩
    · exact stop tm0 ob0 ds0 id (fun _ _ _ => id) h.symm
    · split at h
      · exact stop tm ob ds hob0 hset h
      · rename_i hw
        have go : ∀ (tm1 : T), (∀ E a, TR E tm n a → TR E tm1 n (a.put o.dst undef)) → sstill ih P M ops l ⟨tm1, hp, chg, n, base, ob, ds⟩ = (rest, st') →
            Good ⟨tm0, hp, chg, n, base, ob0, ds0⟩ st' ∧ st'.hp = hp ∧ st'.chg = chg ∧ ∃ pre, o :: l = pre ++ rest ∧
            (AllT st'.ob → ∀ (B : Nat → Prop) (w0 : World) (E : Env) (a : Act) (w : World), TR E tm0 n a → HR B w0 E hp w → ∀ L : Act → Prop, (∀ a', TR E st'.tm st'.n a' → L a') → wpQuiet P ops (Grow w) L pre a) := by
          intro tm1 htr h1
          obtain ⟨hg, e2, e3, pre, e1, hq⟩ := sstill_is hs hM l _ rest st' h1
          refine ⟨⟨fun h => hob0 (hg.ob h), hg.base⟩, e2, e3, o :: pre, by rw [e1]; rfl, fun hob B w0 E a w ht hh L hL => ?_⟩
          have ht' := hset (hg.ob hob) E a ht
          have hw' := wantB_is ht' hw
          unfold wpQuiet
          rw [if_neg (by rw [hw']; simp)]
          exact hq hob B w0 E _ w (htr E a ht') hh L hL
        split at h
        · rename_i hd
          exact go tm (fun E a ht => by rw [hd]; exact ht) h
        · rename_i d hd
          split at h
          · exact stop tm ob ds hob0 hset h
          · rename_i hlt
            rw [T.setK_eq] at h
            exact go _ (fun E a ht => by rw [hd]; exact ht.put hlt rfl) h
      · rename_i hw
        split at h
        · exact stop tm ob ds hob0 hset h
        · rename_i v ob1 ds1 hst
          obtain ⟨hob1, hst'⟩ := still_is hs hM hst
          have go : ∀ (tm1 : T), (∀ E a u, TR E tm n a → v.is E u → TR E tm1 n (a.put o.dst u)) → sstill ih P M ops l ⟨tm1, hp, chg, n, base, ob1, ds1⟩ = (rest, st') →
              Good ⟨tm0, hp, chg, n, base, ob0, ds0⟩ st' ∧ st'.hp = hp ∧ st'.chg = chg ∧ ∃ pre, o :: l = pre ++ rest ∧
              (AllT st'.ob → ∀ (B : Nat → Prop) (w0 : World) (E : Env) (a : Act) (w : World), TR E tm0 n a → HR B w0 E hp w → ∀ L : Act → Prop, (∀ a', TR E st'.tm st'.n a' → L a') → wpQuiet P ops (Grow w) L pre a) := by
            intro tm1 htr h1
            obtain ⟨hg, e2, e3, pre, e1, hq⟩ := sstill_is hs hM l _ rest st' h1
            refine ⟨⟨fun h => hob0 (hob1 (hg.ob h)), hg.base⟩, e2, e3, o :: pre, by rw [e1]; rfl, fun hob B w0 E a w ht hh L hL => ?_⟩
            have ht' := hset (hob1 (hg.ob hob)) E a ht
            have hw' := wantB_is ht' hw
            obtain ⟨u, hv, hqa⟩ := hst' (hg.ob hob) B w0 E n a w ht' hh
            unfold wpQuiet
            rw [if_pos hw']
            exact ⟨u, hqa, hq hob B w0 E _ w (htr E a u ht' hv) hh L hL⟩
          split at h
          · rename_i hd
            exact go tm (fun E a u ht _ => by rw [hd]; exact ht) h
          · rename_i d hd
            split at h
            · exact stop tm ob ds hob0 hset h
            · rename_i hlt
              rw [T.setK_eq] at h
              exact go _ (fun E a u ht hv => by rw [hd]; exact ht.put hlt hv) h

theorem lenO_eq : ∀ l : List Oper, lenO l = l.length
  | [] => rfl
  | _ :: l => by simp [lenO, lenO_eq l]

theorem sreg_is {ih : Rec} (hm : P.follows .mixedOrders = true) (hs : Sound P ih) (hM : Known P M) {B : Nat → Prop} {w0 wc : World} {Q : Exit → Act → World → Prop} {id : Nat} {l : List Oper} {draw : Bool} {st st' : St}
    (h : sreg ih P M l draw st = some st') : Good st st' ∧ (AllT st'.ob → ∀ (E : Env) (a : Act) (w : World), Rel B w0 wc E st a w →
    (∀ (E' : Env) (a' : Act) (w' : World), E.le E' → Rel B w0 wc E' st' a' w' → Q .normal a' w') → (Code.region id l.toArray draw).wp P Q a w) := by
  unfold sreg at h
  split at h
  · obtain ⟨hg, hrun⟩ := sops_is (B := B) (w0 := w0) (wc := wc) (Q := Q) hs hM l st st' h
    exact ⟨hg, fun hob E a w hR hQ => wp_region_lit (hrun hob E a w hR hQ)⟩
  · split at h
    rename_i rest st1 hst
    obtain ⟨hg, e2, e3, pre, e1, hq⟩ := sstill_is hs hM l st rest st1 hst
    have later : ∀ (E : Env) (a a' : Act) (w w' : World), Rel B w0 wc E st a w → TR E st1.tm st1.n a' → Grow { w with drawn := w.drawn + 1 } w' → Rel B w0 wc E st1 a' w' := by
      intro E a a' w w' hR ht hk
      have hk' : Grow w w' := (Grow.drawn w).trans hk
      refine ⟨ht, by rw [e2]; exact hR.hr.grow hk', fun hc => ?_⟩
      have hch := hR.ch (by rw [← e3]; exact hc)
      rw [hg.base]
      exact ⟨hch.1.trans hk', hch.2⟩
    split at h
    · split at h
      · rename_i hB
        cases h
        rw [List.append_nil] at e1
        subst e1
        refine ⟨hg, fun hob E a w hR hQ => ?_⟩
        refine wp_region_quiet (C := Grow { w with drawn := w.drawn + 1 }) hm hB (Grow.refl _) ?_
        exact hq hob B w0 E a _ hR.tr (hR.hr.grow (Grow.drawn w)) _ fun a' ht w' hw' => hQ E a' w' E.le_refl (later E a a' w w' hR ht hw')
      · cases h
    · rename_i o rest'
      split at h
      · rename_i hB
        subst e1
        rw [lenO_eq, lenO_eq, List.length_append, Nat.add_sub_cancel] at hB
        obtain ⟨hg2, hrun⟩ := sops_is (B := B) (w0 := w0) (wc := wc) (Q := Q) hs hM _ st1 st' h
        refine ⟨hg.trans hg2, fun hob E a w hR hQ => ?_⟩
        refine region_quiet_tail (C := Grow { w with drawn := w.drawn + 1 }) hm hB (Grow.refl _) ?_
        exact hq (hg2.ob hob) B w0 E a _ hR.tr (hR.hr.grow (Grow.drawn w)) _ fun a' ht w' hw' => hrun hob E a' w' (later E a a' w w' hR ht hw') hQ
      · cases h

/-- What is to be shown of a reckoner's loops. -/
def Loops (P : Program) (ih : Rec) : Prop :=
  ∀ (b : Code) (st : St) (e : Ex) (st' : St), ih (.loop b) st = some (e, st') → Good st st' ∧ (AllT st'.ob → ∃ m, ∀ (B : Nat → Prop) (w0 wc : World) (E : Env) (a : Act) (w : World) (Q : Exit → Act → World → Prop), Rel B w0 wc E st a w →
    (∀ (E' : Env) (a' : Act) (w' : World), E.le E' → Rel B w0 wc E' st' a' w' → Q e.to a' w') → Code.rounds P b Q m a w)

theorem loops_succ (n : Nat) (hs : Sound P (sx P M n)) (hl : Loops P (sx P M n)) : Loops P (sx P M (n + 1)) := by
  intro b st e st' h
  change (match sx P M n b st with | some (.normal, st1) => sx P M n (.loop b) st1 | r => r) = some (e, st') at h
  split at h
  · rename_i st1 hx
    obtain ⟨hg1, hw1⟩ := hs b st .normal st1 hx
    obtain ⟨hg2, hm⟩ := hl b st1 e st' h
    refine ⟨hg1.trans hg2, fun hob => ?_⟩
    obtain ⟨m, hm⟩ := hm hob
    refine ⟨m + 1, fun B w0 wc E a w Q hR hQ => ?_⟩
    rw [rounds_succ]
    refine hw1 (hg2.ob hob) B w0 wc E a w _ hR fun E1 a1 w1 hE hR1 => ?_
    exact hm B w0 wc E1 a1 w1 Q hR1 fun E2 a2 w2 hE2 hR2 => hQ E2 a2 w2 (Env.le_trans hE hE2) hR2
  · rename_i hne
    obtain ⟨hg1, hw1⟩ := hs b st e st' h
    refine ⟨hg1, fun hob => ⟨1, fun B w0 wc E a w Q hR hQ => ?_⟩⟩
    rw [rounds_succ]
    refine hw1 hob B w0 wc E a w _ hR fun E1 a1 w1 hE hR1 => ?_
    have := hQ E1 a1 w1 hE hR1
    cases e with
    | normal => exact absurd h (hne st')
    | exit i => exact this
    | ret => exact this

theorem sx_both (hm : P.follows .mixedOrders = true) (hM : Known P M) : ∀ n : Nat, Sound P (sx P M n) ∧ Loops P (sx P M n)
  | 0 => ⟨fun c st e st' h => (by cases h), fun b st e st' h => (by cases h)⟩
  | n + 1 => by
    obtain ⟨ih, il⟩ := sx_both hm hM n
    have il1 := loops_succ n ih il
    refine ⟨?_, il1⟩
    intro c st e st' h
    cases c with
    | skip =>
      cases h
      exact ⟨Good.refl _, fun _ B w0 wc E a w Q hR hQ => wp_skip (hQ E a w E.le_refl hR)⟩
    | label l =>
      cases h
      exact ⟨Good.refl _, fun _ B w0 wc E a w Q hR hQ => wp_label (hQ E a w E.le_refl hR)⟩
    | region id ops draw =>
      change (match sreg (sx P M n) P M ops.toList draw st with | none => none | some st' => some (Ex.normal, st')) = some (e, st') at h
      split at h
      · cases h
      · rename_i st1 hst
        cases h
        refine ⟨(sreg_is (id := id) (B := fun _ => True) (w0 := default) (wc := default) (Q := fun _ _ _ => True) hm ih hM hst).1, fun hob B w0 wc E a w Q hR hQ => ?_⟩
        have := (sreg_is (id := id) (Q := Q) hm ih hM hst).2 hob E a w hR hQ
        rwa [Array.toArray_toList] at this
    | seq x y =>
      change (match sx P M n x st with | some (.normal, st1) => sx P M n y st1 | r => r) = some (e, st') at h
      split at h
      · rename_i st1 hx
        obtain ⟨hg1, hw1⟩ := ih x st .normal st1 hx
        obtain ⟨hg2, hw2⟩ := ih y st1 e st' h
        refine ⟨hg1.trans hg2, fun hob B w0 wc E a w Q hR hQ => wp_seq ?_⟩
        refine hw1 (hg2.ob hob) B w0 wc E a w _ hR fun E1 a1 w1 hE hR1 => ?_
        exact hw2 hob B w0 wc E1 a1 w1 _ hR1 fun E2 a2 w2 hE2 hR2 => hQ E2 a2 w2 (Env.le_trans hE hE2) hR2
      · rename_i hne
        obtain ⟨hg1, hw1⟩ := ih x st e st' h
        refine ⟨hg1, fun hob B w0 wc E a w Q hR hQ => wp_seq ?_⟩
        refine hw1 hob B w0 wc E a w _ hR fun E1 a1 w1 hE hR1 => ?_
        have := hQ E1 a1 w1 hE hR1
        cases e with
        | normal => exact absurd h (hne st')
        | exit id => exact this
        | ret => exact this
    | cond x y z =>
      obtain ⟨tm, hp, chg, m, base, ob, ds⟩ := st
      change (match ev tm x with
        | some (.one (.bl true)) => sx P M n y ⟨tm, hp, chg, m, base, ob, ds⟩
        | some (.one (.bl false)) => sx P M n z ⟨tm, hp, chg, m, base, ob, ds⟩
        | some (.one (.sb q)) => (match decide1 q ds with
          | some (true, e, ds') => sx P M n y ⟨tm, hp, chg, m, base, e :: ob, ds'⟩
          | some (false, e, ds') => sx P M n z ⟨tm, hp, chg, m, base, e :: ob, ds'⟩
          | none => none)
        | _ => none) = some (e, st') at h
      split at h
      · rename_i hx
        obtain ⟨hg, hw⟩ := ih y _ e st' h
        exact ⟨hg, fun hob B w0 wc E a w Q hR hQ => wp_cond_true (ev_is hR.tr hx) (hw hob B w0 wc E a w Q hR hQ)⟩
      · rename_i hx
        obtain ⟨hg, hw⟩ := ih z _ e st' h
        exact ⟨hg, fun hob B w0 wc E a w Q hR hQ => wp_cond_false (ev_is hR.tr hx) (hw hob B w0 wc E a w Q hR hQ)⟩
      · rename_i q hx
        split at h
        · rename_i e1 ds' hd
          obtain ⟨hg, hw⟩ := ih y _ e st' h
          refine ⟨⟨fun h => (hg.ob h).tail, hg.base⟩, fun hob B w0 wc E a w Q hR hQ => ?_⟩
          have hq := decide1_is hd (hg.ob hob).head
          have hx' : a.eval x = .bool q := ev_is hR.tr hx
          exact wp_cond_true (by rw [hx', hq]) (hw hob B w0 wc E a w Q ⟨hR.tr, hR.hr, hR.ch⟩ hQ)
        · rename_i e1 ds' hd
          obtain ⟨hg, hw⟩ := ih z _ e st' h
          refine ⟨⟨fun h => (hg.ob h).tail, hg.base⟩, fun hob B w0 wc E a w Q hR hQ => ?_⟩
          have hq := decide1_is hd (hg.ob hob).head
          have hx' : a.eval x = .bool q := ev_is hR.tr hx
          exact wp_cond_false (by rw [hx', hq]) (hw hob B w0 wc E a w Q ⟨hR.tr, hR.hr, hR.ch⟩ hQ)
        · cases h
      · cases h
    | block id b =>
      change (match sx P M n b st with | some (.exit i, st1) => (match Nat.beq i id with | true => some (Ex.normal, st1) | false => some (Ex.exit i, st1)) | r => r) = some (e, st') at h
      split at h
      · rename_i i st1 hx
        obtain ⟨hg, hw⟩ := ih b st _ st1 hx
        split at h
        · rename_i hi
          cases h
          refine ⟨hg, fun hob B w0 wc E a w Q hR hQ => wp_block (hw hob B w0 wc E a w _ hR fun E1 a1 w1 hE hR1 => ?_)⟩
          simp only [Ex.to, Exit.inBlock]
          rw [if_pos (Nat.eq_of_beq_eq_true hi)]
          exact hQ E1 a1 w1 hE hR1
        · rename_i hi
          cases h
          refine ⟨hg, fun hob B w0 wc E a w Q hR hQ => wp_block (hw hob B w0 wc E a w _ hR fun E1 a1 w1 hE hR1 => ?_)⟩
          simp only [Ex.to, Exit.inBlock]
          rw [if_neg (fun e => by rw [e, Nat.beq_refl] at hi; cases hi)]
          exact hQ E1 a1 w1 hE hR1
      · rename_i hne
        obtain ⟨hg, hw⟩ := ih b st e st' h
        refine ⟨hg, fun hob B w0 wc E a w Q hR hQ => wp_block (hw hob B w0 wc E a w _ hR fun E1 a1 w1 hE hR1 => ?_)⟩
        have := hQ E1 a1 w1 hE hR1
        cases e with
        | normal => exact this
        | exit i => exact absurd h (hne i st')
        | ret => exact this
    | loop b =>
      obtain ⟨hg, hm⟩ := il1 b st e st' h
      refine ⟨hg, fun hob B w0 wc E a w Q hR hQ => ?_⟩
      obtain ⟨m, hm⟩ := hm hob
      exact wp_loop_rounds m (hm B w0 wc E a w Q hR hQ)
    | exit id =>
      cases h
      exact ⟨Good.refl _, fun _ B w0 wc E a w Q hR hQ => wp_exit (hQ E a w E.le_refl hR)⟩
    | ret =>
      cases h
      exact ⟨Good.refl _, fun _ B w0 wc E a w Q hR hQ => wp_ret (hQ E a w E.le_refl hR)⟩
    | _ => cases h

/-- **The reckoner is sound.** -/
theorem sx_sound (hm : P.follows .mixedOrders = true) (hM : Known P M) (n : Nat) : Sound P (sx P M n) := (sx_both hm hM n).1
end main
end Go.Proofs.Sx
