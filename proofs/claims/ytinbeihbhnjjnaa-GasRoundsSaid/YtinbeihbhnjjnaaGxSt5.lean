/- What a write to the storage takes: the program and the reference alike. -/
import Derived.Test.YtinbeihbhnjjnaaGxSt2
import Derived.Test.YtinbeihbhnjjnaaGxSt3
import Derived.Test.YtinbeihbhnjjnaaGxSt4
namespace Go.Proofs.Sx
open Go
section
variable (r : Ru) (s : Sto)
def stRead : W := bif b9B r then 100#64 else bif i7B r then 800#64 else 200#64
def stChg : W := bif b9B r then 2900#64 else 5000#64
def stCold : W := bif b9B r && !(s.warm) then 2100#64 else 0#64
def stX : W := bif pB r || e6B r then (bif zeroB s.c && !(zeroB s.n) then 20000#64 else 5000#64) else bif i7B r && lowB s then 0#64 else
  (bif eqQ s.c s.n then stRead r else bif eqQ s.o s.c then (bif zeroB s.o then 20000#64 else stChg r) else stRead r) + stCold r s
def stA0 : W := bif !(zeroB s.o) && (!(zeroB s.c) && zeroB s.n) then r.w 22 else 0#64
def stA : W := bif pB r || e6B r then (bif !(zeroB s.c) && zeroB s.n then r.w 22 else 0#64) else bif i7B r && lowB s then 0#64 else
  bif eqQ s.c s.n then 0#64 else bif eqQ s.o s.c then (bif zeroB s.o then 0#64 else bif zeroB s.n then r.w 22 else 0#64) else
  bif eqQ s.o s.n then (bif zeroB s.o then stA0 r s + (20000#64 - stRead r) else stA0 r s + (stChg r - stRead r)) else stA0 r s
def stS : W := bif pB r || e6B r then 0#64 else bif i7B r && lowB s then 0#64 else bif eqQ s.c s.n then 0#64 else bif eqQ s.o s.c then 0#64 else bif !(zeroB s.o) && zeroB s.c then r.w 22 else 0#64
def stK : Bool := bif pB r || e6B r then true else !(i7B r && lowB s)
theorem asn (x a b : W) : x + a - b = x + (a - b) := by bv_omega
theorem quadV_sb {f : FuncId} {vs : List V} {hp hp' : List Reg} {x a b : W} {k : Bool} {chg : Bool} (h : Runs Try.prog f vs hp (quadV x a b (.bl k)) hp' chg) : Runs Try.prog f vs hp (quadV x a b (.sb k)) hp' chg :=
  h.conv (fun _ _ h => h) fun E u h3 => by
    obtain ⟨l, e, ha⟩ := h3
    match l, ha with
    | [_, _, _, _], ⟨x, y, z, t, _⟩ => exact ⟨_, e, x, y, z, t, trivial⟩
theorem quad_of {g : Option (V × List Bool)} {x a b x' a' b' : W} {k : C} {ob : List Bool} (h : g = some (quadV x a b k, ob)) (ex : x = x') (ea : a = a') (eb : b = b') : g = some (quadV x' a' b' k, ob) := by
  subst ex ea eb; exact h
theorem runs31 (hp : List Reg) : Runs Try.prog 31 [.ag (rulesS r), .ag (stoC s)] hp (quadV (stX r s) (stA r s) (stS r s) (.sb (stK r s))) hp false := by
  have out : ∀ {ds ob : List Bool} {x a b : W} {k : Bool}, p31 r s ds = some (quadV x a b (.bl k), ob) → AllT ob → Runs Try.prog 31 [.ag (rulesS r), .ag (stoC s)] hp (quadV x a b (.sb k)) hp false :=
    fun h hob => quadV_sb (runs_out known_none h hob rfl rfl hp)
  unfold stX stA stS stK stA0 stRead stChg stCold
  cases hp : pB r with
  | true =>
    cases hc0 : zeroB s.c with
    | true =>
      cases hn0 : zeroB s.n with
      | true =>
        exact out (quad_of (p31_0 r s) rfl rfl rfl) (AllT.cons (nn_t hc0) (AllT.cons (nn_t hn0) (AllT.cons (hc0) (AllT.cons (hp) AllT.nil))))
      | false =>
        exact out (quad_of (p31_1 r s) rfl rfl rfl) (AllT.cons (no_f hn0) (AllT.cons (hc0) (AllT.cons (hp) AllT.nil)))
    | false =>
      cases hn0 : zeroB s.n with
      | true =>
        exact out (quad_of (p31_2 r s) rfl rfl rfl) (AllT.cons (hn0) (AllT.cons (no_f hc0) (AllT.cons (no_f hc0) (AllT.cons (hp) AllT.nil))))
      | false =>
        exact out (quad_of (p31_3 r s) rfl rfl rfl) (AllT.cons (no_f hn0) (AllT.cons (no_f hc0) (AllT.cons (no_f hc0) (AllT.cons (hp) AllT.nil))))
  | false =>
    cases he6 : e6B r with
    | true =>
      cases hc0 : zeroB s.c with
      | true =>
        cases hn0 : zeroB s.n with
        | true =>
          exact out (quad_of (p31_4 r s) rfl rfl rfl) (AllT.cons (nn_t hc0) (AllT.cons (nn_t hn0) (AllT.cons (hc0) (AllT.cons (he6) (AllT.cons (no_f hp) AllT.nil)))))
        | false =>
          exact out (quad_of (p31_5 r s) rfl rfl rfl) (AllT.cons (no_f hn0) (AllT.cons (hc0) (AllT.cons (he6) (AllT.cons (no_f hp) AllT.nil))))
      | false =>
        cases hn0 : zeroB s.n with
        | true =>
          exact out (quad_of (p31_6 r s) rfl rfl rfl) (AllT.cons (hn0) (AllT.cons (no_f hc0) (AllT.cons (no_f hc0) (AllT.cons (he6) (AllT.cons (no_f hp) AllT.nil)))))
        | false =>
          exact out (quad_of (p31_7 r s) rfl rfl rfl) (AllT.cons (no_f hn0) (AllT.cons (no_f hc0) (AllT.cons (no_f hc0) (AllT.cons (he6) (AllT.cons (no_f hp) AllT.nil)))))
    | false =>
      cases hi7 : i7B r with
      | true =>
        cases hlow : lowB s with
        | true =>
          exact out (quad_of (p31_8 r s) rfl rfl rfl) (AllT.cons (hlow) (AllT.cons (hi7) (AllT.cons (no_f he6) (AllT.cons (no_f hp) AllT.nil))))
        | false =>
          cases hb9 : b9B r with
          | true =>
            cases hwarm : s.warm with
            | true =>
              cases hcn : eqQ s.c s.n with
              | true =>
                exact out (quad_of (p31_9 r s) rfl rfl rfl) (AllT.cons (hcn) (AllT.cons (nn_t hwarm) (AllT.cons (hb9) (AllT.cons (hi7) (AllT.cons (no_f hlow) (AllT.cons (hi7) (AllT.cons (no_f he6) (AllT.cons (no_f hp) AllT.nil))))))))
              | false =>
                cases hoc : eqQ s.o s.c with
                | true =>
                  cases ho0 : zeroB s.o with
                  | true =>
                    exact out (quad_of (p31_10 r s) rfl rfl rfl) (AllT.cons (ho0) (AllT.cons (hoc) (AllT.cons (no_f hcn) (AllT.cons (nn_t hwarm) (AllT.cons (hb9) (AllT.cons (hi7) (AllT.cons (no_f hlow) (AllT.cons (hi7) (AllT.cons (no_f he6) (AllT.cons (no_f hp) AllT.nil))))))))))
                  | false =>
                    cases hn0 : zeroB s.n with
                    | true =>
                      exact out (quad_of (p31_11 r s) rfl rfl rfl) (AllT.cons (hn0) (AllT.cons (no_f ho0) (AllT.cons (hoc) (AllT.cons (no_f hcn) (AllT.cons (nn_t hwarm) (AllT.cons (hb9) (AllT.cons (hi7) (AllT.cons (no_f hlow) (AllT.cons (hi7) (AllT.cons (no_f he6) (AllT.cons (no_f hp) AllT.nil)))))))))))
                    | false =>
                      exact out (quad_of (p31_12 r s) rfl rfl rfl) (AllT.cons (no_f hn0) (AllT.cons (no_f ho0) (AllT.cons (hoc) (AllT.cons (no_f hcn) (AllT.cons (nn_t hwarm) (AllT.cons (hb9) (AllT.cons (hi7) (AllT.cons (no_f hlow) (AllT.cons (hi7) (AllT.cons (no_f he6) (AllT.cons (no_f hp) AllT.nil)))))))))))
                | false =>
                  cases ho0 : zeroB s.o with
                  | true =>
                    cases hon : eqQ s.o s.n with
                    | true =>
                      exact out (quad_of (p31_13 r s) rfl (asn _ _ _) rfl) (AllT.cons (ho0) (AllT.cons (hon) (AllT.cons (nn_t ho0) (AllT.cons (no_f hoc) (AllT.cons (no_f hcn) (AllT.cons (nn_t hwarm) (AllT.cons (hb9) (AllT.cons (hi7) (AllT.cons (no_f hlow) (AllT.cons (hi7) (AllT.cons (no_f he6) (AllT.cons (no_f hp) AllT.nil))))))))))))
                    | false =>
                      exact out (quad_of (p31_14 r s) rfl rfl rfl) (AllT.cons (no_f hon) (AllT.cons (nn_t ho0) (AllT.cons (no_f hoc) (AllT.cons (no_f hcn) (AllT.cons (nn_t hwarm) (AllT.cons (hb9) (AllT.cons (hi7) (AllT.cons (no_f hlow) (AllT.cons (hi7) (AllT.cons (no_f he6) (AllT.cons (no_f hp) AllT.nil)))))))))))
                  | false =>
                    cases hc0 : zeroB s.c with
                    | true =>
                      cases hon : eqQ s.o s.n with
                      | true =>
                        exact out (quad_of (p31_15 r s) rfl (asn _ _ _) rfl) (AllT.cons (no_f ho0) (AllT.cons (hon) (AllT.cons (hc0) (AllT.cons (no_f ho0) (AllT.cons (no_f hoc) (AllT.cons (no_f hcn) (AllT.cons (nn_t hwarm) (AllT.cons (hb9) (AllT.cons (hi7) (AllT.cons (no_f hlow) (AllT.cons (hi7) (AllT.cons (no_f he6) (AllT.cons (no_f hp) AllT.nil)))))))))))))
                      | false =>
                        exact out (quad_of (p31_16 r s) rfl rfl rfl) (AllT.cons (no_f hon) (AllT.cons (hc0) (AllT.cons (no_f ho0) (AllT.cons (no_f hoc) (AllT.cons (no_f hcn) (AllT.cons (nn_t hwarm) (AllT.cons (hb9) (AllT.cons (hi7) (AllT.cons (no_f hlow) (AllT.cons (hi7) (AllT.cons (no_f he6) (AllT.cons (no_f hp) AllT.nil))))))))))))
                    | false =>
                      cases hn0 : zeroB s.n with
                      | true =>
                        cases hon : eqQ s.o s.n with
                        | true =>
                          exact out (quad_of (p31_17 r s) rfl (asn _ _ _) rfl) (AllT.cons (no_f ho0) (AllT.cons (hon) (AllT.cons (hn0) (AllT.cons (no_f hc0) (AllT.cons (no_f ho0) (AllT.cons (no_f hoc) (AllT.cons (no_f hcn) (AllT.cons (nn_t hwarm) (AllT.cons (hb9) (AllT.cons (hi7) (AllT.cons (no_f hlow) (AllT.cons (hi7) (AllT.cons (no_f he6) (AllT.cons (no_f hp) AllT.nil))))))))))))))
                        | false =>
                          exact out (quad_of (p31_18 r s) rfl rfl rfl) (AllT.cons (no_f hon) (AllT.cons (hn0) (AllT.cons (no_f hc0) (AllT.cons (no_f ho0) (AllT.cons (no_f hoc) (AllT.cons (no_f hcn) (AllT.cons (nn_t hwarm) (AllT.cons (hb9) (AllT.cons (hi7) (AllT.cons (no_f hlow) (AllT.cons (hi7) (AllT.cons (no_f he6) (AllT.cons (no_f hp) AllT.nil)))))))))))))
                      | false =>
                        cases hon : eqQ s.o s.n with
                        | true =>
                          exact out (quad_of (p31_19 r s) rfl (asn _ _ _) rfl) (AllT.cons (no_f ho0) (AllT.cons (hon) (AllT.cons (no_f hn0) (AllT.cons (no_f hc0) (AllT.cons (no_f ho0) (AllT.cons (no_f hoc) (AllT.cons (no_f hcn) (AllT.cons (nn_t hwarm) (AllT.cons (hb9) (AllT.cons (hi7) (AllT.cons (no_f hlow) (AllT.cons (hi7) (AllT.cons (no_f he6) (AllT.cons (no_f hp) AllT.nil))))))))))))))
                        | false =>
                          exact out (quad_of (p31_20 r s) rfl rfl rfl) (AllT.cons (no_f hon) (AllT.cons (no_f hn0) (AllT.cons (no_f hc0) (AllT.cons (no_f ho0) (AllT.cons (no_f hoc) (AllT.cons (no_f hcn) (AllT.cons (nn_t hwarm) (AllT.cons (hb9) (AllT.cons (hi7) (AllT.cons (no_f hlow) (AllT.cons (hi7) (AllT.cons (no_f he6) (AllT.cons (no_f hp) AllT.nil)))))))))))))
            | false =>
              cases hcn : eqQ s.c s.n with
              | true =>
                exact out (quad_of (p31_21 r s) rfl rfl rfl) (AllT.cons (hcn) (AllT.cons (no_f hwarm) (AllT.cons (hb9) (AllT.cons (hi7) (AllT.cons (no_f hlow) (AllT.cons (hi7) (AllT.cons (no_f he6) (AllT.cons (no_f hp) AllT.nil))))))))
              | false =>
                cases hoc : eqQ s.o s.c with
                | true =>
                  cases ho0 : zeroB s.o with
                  | true =>
                    exact out (quad_of (p31_22 r s) rfl rfl rfl) (AllT.cons (ho0) (AllT.cons (hoc) (AllT.cons (no_f hcn) (AllT.cons (no_f hwarm) (AllT.cons (hb9) (AllT.cons (hi7) (AllT.cons (no_f hlow) (AllT.cons (hi7) (AllT.cons (no_f he6) (AllT.cons (no_f hp) AllT.nil))))))))))
                  | false =>
                    cases hn0 : zeroB s.n with
                    | true =>
                      exact out (quad_of (p31_23 r s) rfl rfl rfl) (AllT.cons (hn0) (AllT.cons (no_f ho0) (AllT.cons (hoc) (AllT.cons (no_f hcn) (AllT.cons (no_f hwarm) (AllT.cons (hb9) (AllT.cons (hi7) (AllT.cons (no_f hlow) (AllT.cons (hi7) (AllT.cons (no_f he6) (AllT.cons (no_f hp) AllT.nil)))))))))))
                    | false =>
                      exact out (quad_of (p31_24 r s) rfl rfl rfl) (AllT.cons (no_f hn0) (AllT.cons (no_f ho0) (AllT.cons (hoc) (AllT.cons (no_f hcn) (AllT.cons (no_f hwarm) (AllT.cons (hb9) (AllT.cons (hi7) (AllT.cons (no_f hlow) (AllT.cons (hi7) (AllT.cons (no_f he6) (AllT.cons (no_f hp) AllT.nil)))))))))))
                | false =>
                  cases ho0 : zeroB s.o with
                  | true =>
                    cases hon : eqQ s.o s.n with
                    | true =>
                      exact out (quad_of (p31_25 r s) rfl (asn _ _ _) rfl) (AllT.cons (ho0) (AllT.cons (hon) (AllT.cons (nn_t ho0) (AllT.cons (no_f hoc) (AllT.cons (no_f hcn) (AllT.cons (no_f hwarm) (AllT.cons (hb9) (AllT.cons (hi7) (AllT.cons (no_f hlow) (AllT.cons (hi7) (AllT.cons (no_f he6) (AllT.cons (no_f hp) AllT.nil))))))))))))
                    | false =>
                      exact out (quad_of (p31_26 r s) rfl rfl rfl) (AllT.cons (no_f hon) (AllT.cons (nn_t ho0) (AllT.cons (no_f hoc) (AllT.cons (no_f hcn) (AllT.cons (no_f hwarm) (AllT.cons (hb9) (AllT.cons (hi7) (AllT.cons (no_f hlow) (AllT.cons (hi7) (AllT.cons (no_f he6) (AllT.cons (no_f hp) AllT.nil)))))))))))
                  | false =>
                    cases hc0 : zeroB s.c with
                    | true =>
                      cases hon : eqQ s.o s.n with
                      | true =>
                        exact out (quad_of (p31_27 r s) rfl (asn _ _ _) rfl) (AllT.cons (no_f ho0) (AllT.cons (hon) (AllT.cons (hc0) (AllT.cons (no_f ho0) (AllT.cons (no_f hoc) (AllT.cons (no_f hcn) (AllT.cons (no_f hwarm) (AllT.cons (hb9) (AllT.cons (hi7) (AllT.cons (no_f hlow) (AllT.cons (hi7) (AllT.cons (no_f he6) (AllT.cons (no_f hp) AllT.nil)))))))))))))
                      | false =>
                        exact out (quad_of (p31_28 r s) rfl rfl rfl) (AllT.cons (no_f hon) (AllT.cons (hc0) (AllT.cons (no_f ho0) (AllT.cons (no_f hoc) (AllT.cons (no_f hcn) (AllT.cons (no_f hwarm) (AllT.cons (hb9) (AllT.cons (hi7) (AllT.cons (no_f hlow) (AllT.cons (hi7) (AllT.cons (no_f he6) (AllT.cons (no_f hp) AllT.nil))))))))))))
                    | false =>
                      cases hn0 : zeroB s.n with
                      | true =>
                        cases hon : eqQ s.o s.n with
                        | true =>
                          exact out (quad_of (p31_29 r s) rfl (asn _ _ _) rfl) (AllT.cons (no_f ho0) (AllT.cons (hon) (AllT.cons (hn0) (AllT.cons (no_f hc0) (AllT.cons (no_f ho0) (AllT.cons (no_f hoc) (AllT.cons (no_f hcn) (AllT.cons (no_f hwarm) (AllT.cons (hb9) (AllT.cons (hi7) (AllT.cons (no_f hlow) (AllT.cons (hi7) (AllT.cons (no_f he6) (AllT.cons (no_f hp) AllT.nil))))))))))))))
                        | false =>
                          exact out (quad_of (p31_30 r s) rfl rfl rfl) (AllT.cons (no_f hon) (AllT.cons (hn0) (AllT.cons (no_f hc0) (AllT.cons (no_f ho0) (AllT.cons (no_f hoc) (AllT.cons (no_f hcn) (AllT.cons (no_f hwarm) (AllT.cons (hb9) (AllT.cons (hi7) (AllT.cons (no_f hlow) (AllT.cons (hi7) (AllT.cons (no_f he6) (AllT.cons (no_f hp) AllT.nil)))))))))))))
                      | false =>
                        cases hon : eqQ s.o s.n with
                        | true =>
                          exact out (quad_of (p31_31 r s) rfl (asn _ _ _) rfl) (AllT.cons (no_f ho0) (AllT.cons (hon) (AllT.cons (no_f hn0) (AllT.cons (no_f hc0) (AllT.cons (no_f ho0) (AllT.cons (no_f hoc) (AllT.cons (no_f hcn) (AllT.cons (no_f hwarm) (AllT.cons (hb9) (AllT.cons (hi7) (AllT.cons (no_f hlow) (AllT.cons (hi7) (AllT.cons (no_f he6) (AllT.cons (no_f hp) AllT.nil))))))))))))))
                        | false =>
                          exact out (quad_of (p31_32 r s) rfl rfl rfl) (AllT.cons (no_f hon) (AllT.cons (no_f hn0) (AllT.cons (no_f hc0) (AllT.cons (no_f ho0) (AllT.cons (no_f hoc) (AllT.cons (no_f hcn) (AllT.cons (no_f hwarm) (AllT.cons (hb9) (AllT.cons (hi7) (AllT.cons (no_f hlow) (AllT.cons (hi7) (AllT.cons (no_f he6) (AllT.cons (no_f hp) AllT.nil)))))))))))))
          | false =>
            cases hcn : eqQ s.c s.n with
            | true =>
              exact out (quad_of (p31_33 r s) rfl rfl rfl) (AllT.cons (hcn) (AllT.cons (no_f hb9) (AllT.cons (hi7) (AllT.cons (no_f hlow) (AllT.cons (hi7) (AllT.cons (no_f he6) (AllT.cons (no_f hp) AllT.nil)))))))
            | false =>
              cases hoc : eqQ s.o s.c with
              | true =>
                cases ho0 : zeroB s.o with
                | true =>
                  exact out (quad_of (p31_34 r s) rfl rfl rfl) (AllT.cons (ho0) (AllT.cons (hoc) (AllT.cons (no_f hcn) (AllT.cons (no_f hb9) (AllT.cons (hi7) (AllT.cons (no_f hlow) (AllT.cons (hi7) (AllT.cons (no_f he6) (AllT.cons (no_f hp) AllT.nil)))))))))
                | false =>
                  cases hn0 : zeroB s.n with
                  | true =>
                    exact out (quad_of (p31_35 r s) rfl rfl rfl) (AllT.cons (hn0) (AllT.cons (no_f ho0) (AllT.cons (hoc) (AllT.cons (no_f hcn) (AllT.cons (no_f hb9) (AllT.cons (hi7) (AllT.cons (no_f hlow) (AllT.cons (hi7) (AllT.cons (no_f he6) (AllT.cons (no_f hp) AllT.nil))))))))))
                  | false =>
                    exact out (quad_of (p31_36 r s) rfl rfl rfl) (AllT.cons (no_f hn0) (AllT.cons (no_f ho0) (AllT.cons (hoc) (AllT.cons (no_f hcn) (AllT.cons (no_f hb9) (AllT.cons (hi7) (AllT.cons (no_f hlow) (AllT.cons (hi7) (AllT.cons (no_f he6) (AllT.cons (no_f hp) AllT.nil))))))))))
              | false =>
                cases ho0 : zeroB s.o with
                | true =>
                  cases hon : eqQ s.o s.n with
                  | true =>
                    exact out (quad_of (p31_37 r s) rfl (asn _ _ _) rfl) (AllT.cons (ho0) (AllT.cons (hon) (AllT.cons (nn_t ho0) (AllT.cons (no_f hoc) (AllT.cons (no_f hcn) (AllT.cons (no_f hb9) (AllT.cons (hi7) (AllT.cons (no_f hlow) (AllT.cons (hi7) (AllT.cons (no_f he6) (AllT.cons (no_f hp) AllT.nil)))))))))))
                  | false =>
                    exact out (quad_of (p31_38 r s) rfl rfl rfl) (AllT.cons (no_f hon) (AllT.cons (nn_t ho0) (AllT.cons (no_f hoc) (AllT.cons (no_f hcn) (AllT.cons (no_f hb9) (AllT.cons (hi7) (AllT.cons (no_f hlow) (AllT.cons (hi7) (AllT.cons (no_f he6) (AllT.cons (no_f hp) AllT.nil))))))))))
                | false =>
                  cases hc0 : zeroB s.c with
                  | true =>
                    cases hon : eqQ s.o s.n with
                    | true =>
                      exact out (quad_of (p31_39 r s) rfl (asn _ _ _) rfl) (AllT.cons (no_f ho0) (AllT.cons (hon) (AllT.cons (hc0) (AllT.cons (no_f ho0) (AllT.cons (no_f hoc) (AllT.cons (no_f hcn) (AllT.cons (no_f hb9) (AllT.cons (hi7) (AllT.cons (no_f hlow) (AllT.cons (hi7) (AllT.cons (no_f he6) (AllT.cons (no_f hp) AllT.nil))))))))))))
                    | false =>
                      exact out (quad_of (p31_40 r s) rfl rfl rfl) (AllT.cons (no_f hon) (AllT.cons (hc0) (AllT.cons (no_f ho0) (AllT.cons (no_f hoc) (AllT.cons (no_f hcn) (AllT.cons (no_f hb9) (AllT.cons (hi7) (AllT.cons (no_f hlow) (AllT.cons (hi7) (AllT.cons (no_f he6) (AllT.cons (no_f hp) AllT.nil)))))))))))
                  | false =>
                    cases hn0 : zeroB s.n with
                    | true =>
                      cases hon : eqQ s.o s.n with
                      | true =>
                        exact out (quad_of (p31_41 r s) rfl (asn _ _ _) rfl) (AllT.cons (no_f ho0) (AllT.cons (hon) (AllT.cons (hn0) (AllT.cons (no_f hc0) (AllT.cons (no_f ho0) (AllT.cons (no_f hoc) (AllT.cons (no_f hcn) (AllT.cons (no_f hb9) (AllT.cons (hi7) (AllT.cons (no_f hlow) (AllT.cons (hi7) (AllT.cons (no_f he6) (AllT.cons (no_f hp) AllT.nil)))))))))))))
                      | false =>
                        exact out (quad_of (p31_42 r s) rfl rfl rfl) (AllT.cons (no_f hon) (AllT.cons (hn0) (AllT.cons (no_f hc0) (AllT.cons (no_f ho0) (AllT.cons (no_f hoc) (AllT.cons (no_f hcn) (AllT.cons (no_f hb9) (AllT.cons (hi7) (AllT.cons (no_f hlow) (AllT.cons (hi7) (AllT.cons (no_f he6) (AllT.cons (no_f hp) AllT.nil))))))))))))
                    | false =>
                      cases hon : eqQ s.o s.n with
                      | true =>
                        exact out (quad_of (p31_43 r s) rfl (asn _ _ _) rfl) (AllT.cons (no_f ho0) (AllT.cons (hon) (AllT.cons (no_f hn0) (AllT.cons (no_f hc0) (AllT.cons (no_f ho0) (AllT.cons (no_f hoc) (AllT.cons (no_f hcn) (AllT.cons (no_f hb9) (AllT.cons (hi7) (AllT.cons (no_f hlow) (AllT.cons (hi7) (AllT.cons (no_f he6) (AllT.cons (no_f hp) AllT.nil)))))))))))))
                      | false =>
                        exact out (quad_of (p31_44 r s) rfl rfl rfl) (AllT.cons (no_f hon) (AllT.cons (no_f hn0) (AllT.cons (no_f hc0) (AllT.cons (no_f ho0) (AllT.cons (no_f hoc) (AllT.cons (no_f hcn) (AllT.cons (no_f hb9) (AllT.cons (hi7) (AllT.cons (no_f hlow) (AllT.cons (hi7) (AllT.cons (no_f he6) (AllT.cons (no_f hp) AllT.nil))))))))))))
      | false =>
        cases hb9 : b9B r with
        | true =>
          cases hwarm : s.warm with
          | true =>
            cases hcn : eqQ s.c s.n with
            | true =>
              exact out (quad_of (p31_45 r s) rfl rfl rfl) (AllT.cons (hcn) (AllT.cons (nn_t hwarm) (AllT.cons (hb9) (AllT.cons (no_f hi7) (AllT.cons (no_f hi7) (AllT.cons (no_f he6) (AllT.cons (no_f hp) AllT.nil)))))))
            | false =>
              cases hoc : eqQ s.o s.c with
              | true =>
                cases ho0 : zeroB s.o with
                | true =>
                  exact out (quad_of (p31_46 r s) rfl rfl rfl) (AllT.cons (ho0) (AllT.cons (hoc) (AllT.cons (no_f hcn) (AllT.cons (nn_t hwarm) (AllT.cons (hb9) (AllT.cons (no_f hi7) (AllT.cons (no_f hi7) (AllT.cons (no_f he6) (AllT.cons (no_f hp) AllT.nil)))))))))
                | false =>
                  cases hn0 : zeroB s.n with
                  | true =>
                    exact out (quad_of (p31_47 r s) rfl rfl rfl) (AllT.cons (hn0) (AllT.cons (no_f ho0) (AllT.cons (hoc) (AllT.cons (no_f hcn) (AllT.cons (nn_t hwarm) (AllT.cons (hb9) (AllT.cons (no_f hi7) (AllT.cons (no_f hi7) (AllT.cons (no_f he6) (AllT.cons (no_f hp) AllT.nil))))))))))
                  | false =>
                    exact out (quad_of (p31_48 r s) rfl rfl rfl) (AllT.cons (no_f hn0) (AllT.cons (no_f ho0) (AllT.cons (hoc) (AllT.cons (no_f hcn) (AllT.cons (nn_t hwarm) (AllT.cons (hb9) (AllT.cons (no_f hi7) (AllT.cons (no_f hi7) (AllT.cons (no_f he6) (AllT.cons (no_f hp) AllT.nil))))))))))
              | false =>
                cases ho0 : zeroB s.o with
                | true =>
                  cases hon : eqQ s.o s.n with
                  | true =>
                    exact out (quad_of (p31_49 r s) rfl (asn _ _ _) rfl) (AllT.cons (ho0) (AllT.cons (hon) (AllT.cons (nn_t ho0) (AllT.cons (no_f hoc) (AllT.cons (no_f hcn) (AllT.cons (nn_t hwarm) (AllT.cons (hb9) (AllT.cons (no_f hi7) (AllT.cons (no_f hi7) (AllT.cons (no_f he6) (AllT.cons (no_f hp) AllT.nil)))))))))))
                  | false =>
                    exact out (quad_of (p31_50 r s) rfl rfl rfl) (AllT.cons (no_f hon) (AllT.cons (nn_t ho0) (AllT.cons (no_f hoc) (AllT.cons (no_f hcn) (AllT.cons (nn_t hwarm) (AllT.cons (hb9) (AllT.cons (no_f hi7) (AllT.cons (no_f hi7) (AllT.cons (no_f he6) (AllT.cons (no_f hp) AllT.nil))))))))))
                | false =>
                  cases hc0 : zeroB s.c with
                  | true =>
                    cases hon : eqQ s.o s.n with
                    | true =>
                      exact out (quad_of (p31_51 r s) rfl (asn _ _ _) rfl) (AllT.cons (no_f ho0) (AllT.cons (hon) (AllT.cons (hc0) (AllT.cons (no_f ho0) (AllT.cons (no_f hoc) (AllT.cons (no_f hcn) (AllT.cons (nn_t hwarm) (AllT.cons (hb9) (AllT.cons (no_f hi7) (AllT.cons (no_f hi7) (AllT.cons (no_f he6) (AllT.cons (no_f hp) AllT.nil))))))))))))
                    | false =>
                      exact out (quad_of (p31_52 r s) rfl rfl rfl) (AllT.cons (no_f hon) (AllT.cons (hc0) (AllT.cons (no_f ho0) (AllT.cons (no_f hoc) (AllT.cons (no_f hcn) (AllT.cons (nn_t hwarm) (AllT.cons (hb9) (AllT.cons (no_f hi7) (AllT.cons (no_f hi7) (AllT.cons (no_f he6) (AllT.cons (no_f hp) AllT.nil)))))))))))
                  | false =>
                    cases hn0 : zeroB s.n with
                    | true =>
                      cases hon : eqQ s.o s.n with
                      | true =>
                        exact out (quad_of (p31_53 r s) rfl (asn _ _ _) rfl) (AllT.cons (no_f ho0) (AllT.cons (hon) (AllT.cons (hn0) (AllT.cons (no_f hc0) (AllT.cons (no_f ho0) (AllT.cons (no_f hoc) (AllT.cons (no_f hcn) (AllT.cons (nn_t hwarm) (AllT.cons (hb9) (AllT.cons (no_f hi7) (AllT.cons (no_f hi7) (AllT.cons (no_f he6) (AllT.cons (no_f hp) AllT.nil)))))))))))))
                      | false =>
                        exact out (quad_of (p31_54 r s) rfl rfl rfl) (AllT.cons (no_f hon) (AllT.cons (hn0) (AllT.cons (no_f hc0) (AllT.cons (no_f ho0) (AllT.cons (no_f hoc) (AllT.cons (no_f hcn) (AllT.cons (nn_t hwarm) (AllT.cons (hb9) (AllT.cons (no_f hi7) (AllT.cons (no_f hi7) (AllT.cons (no_f he6) (AllT.cons (no_f hp) AllT.nil))))))))))))
                    | false =>
                      cases hon : eqQ s.o s.n with
                      | true =>
                        exact out (quad_of (p31_55 r s) rfl (asn _ _ _) rfl) (AllT.cons (no_f ho0) (AllT.cons (hon) (AllT.cons (no_f hn0) (AllT.cons (no_f hc0) (AllT.cons (no_f ho0) (AllT.cons (no_f hoc) (AllT.cons (no_f hcn) (AllT.cons (nn_t hwarm) (AllT.cons (hb9) (AllT.cons (no_f hi7) (AllT.cons (no_f hi7) (AllT.cons (no_f he6) (AllT.cons (no_f hp) AllT.nil)))))))))))))
                      | false =>
                        exact out (quad_of (p31_56 r s) rfl rfl rfl) (AllT.cons (no_f hon) (AllT.cons (no_f hn0) (AllT.cons (no_f hc0) (AllT.cons (no_f ho0) (AllT.cons (no_f hoc) (AllT.cons (no_f hcn) (AllT.cons (nn_t hwarm) (AllT.cons (hb9) (AllT.cons (no_f hi7) (AllT.cons (no_f hi7) (AllT.cons (no_f he6) (AllT.cons (no_f hp) AllT.nil))))))))))))
          | false =>
            cases hcn : eqQ s.c s.n with
            | true =>
              exact out (quad_of (p31_57 r s) rfl rfl rfl) (AllT.cons (hcn) (AllT.cons (no_f hwarm) (AllT.cons (hb9) (AllT.cons (no_f hi7) (AllT.cons (no_f hi7) (AllT.cons (no_f he6) (AllT.cons (no_f hp) AllT.nil)))))))
            | false =>
              cases hoc : eqQ s.o s.c with
              | true =>
                cases ho0 : zeroB s.o with
                | true =>
                  exact out (quad_of (p31_58 r s) rfl rfl rfl) (AllT.cons (ho0) (AllT.cons (hoc) (AllT.cons (no_f hcn) (AllT.cons (no_f hwarm) (AllT.cons (hb9) (AllT.cons (no_f hi7) (AllT.cons (no_f hi7) (AllT.cons (no_f he6) (AllT.cons (no_f hp) AllT.nil)))))))))
                | false =>
                  cases hn0 : zeroB s.n with
                  | true =>
                    exact out (quad_of (p31_59 r s) rfl rfl rfl) (AllT.cons (hn0) (AllT.cons (no_f ho0) (AllT.cons (hoc) (AllT.cons (no_f hcn) (AllT.cons (no_f hwarm) (AllT.cons (hb9) (AllT.cons (no_f hi7) (AllT.cons (no_f hi7) (AllT.cons (no_f he6) (AllT.cons (no_f hp) AllT.nil))))))))))
                  | false =>
                    exact out (quad_of (p31_60 r s) rfl rfl rfl) (AllT.cons (no_f hn0) (AllT.cons (no_f ho0) (AllT.cons (hoc) (AllT.cons (no_f hcn) (AllT.cons (no_f hwarm) (AllT.cons (hb9) (AllT.cons (no_f hi7) (AllT.cons (no_f hi7) (AllT.cons (no_f he6) (AllT.cons (no_f hp) AllT.nil))))))))))
              | false =>
                cases ho0 : zeroB s.o with
                | true =>
                  cases hon : eqQ s.o s.n with
                  | true =>
                    exact out (quad_of (p31_61 r s) rfl (asn _ _ _) rfl) (AllT.cons (ho0) (AllT.cons (hon) (AllT.cons (nn_t ho0) (AllT.cons (no_f hoc) (AllT.cons (no_f hcn) (AllT.cons (no_f hwarm) (AllT.cons (hb9) (AllT.cons (no_f hi7) (AllT.cons (no_f hi7) (AllT.cons (no_f he6) (AllT.cons (no_f hp) AllT.nil)))))))))))
                  | false =>
                    exact out (quad_of (p31_62 r s) rfl rfl rfl) (AllT.cons (no_f hon) (AllT.cons (nn_t ho0) (AllT.cons (no_f hoc) (AllT.cons (no_f hcn) (AllT.cons (no_f hwarm) (AllT.cons (hb9) (AllT.cons (no_f hi7) (AllT.cons (no_f hi7) (AllT.cons (no_f he6) (AllT.cons (no_f hp) AllT.nil))))))))))
                | false =>
                  cases hc0 : zeroB s.c with
                  | true =>
                    cases hon : eqQ s.o s.n with
                    | true =>
                      exact out (quad_of (p31_63 r s) rfl (asn _ _ _) rfl) (AllT.cons (no_f ho0) (AllT.cons (hon) (AllT.cons (hc0) (AllT.cons (no_f ho0) (AllT.cons (no_f hoc) (AllT.cons (no_f hcn) (AllT.cons (no_f hwarm) (AllT.cons (hb9) (AllT.cons (no_f hi7) (AllT.cons (no_f hi7) (AllT.cons (no_f he6) (AllT.cons (no_f hp) AllT.nil))))))))))))
                    | false =>
                      exact out (quad_of (p31_64 r s) rfl rfl rfl) (AllT.cons (no_f hon) (AllT.cons (hc0) (AllT.cons (no_f ho0) (AllT.cons (no_f hoc) (AllT.cons (no_f hcn) (AllT.cons (no_f hwarm) (AllT.cons (hb9) (AllT.cons (no_f hi7) (AllT.cons (no_f hi7) (AllT.cons (no_f he6) (AllT.cons (no_f hp) AllT.nil)))))))))))
                  | false =>
                    cases hn0 : zeroB s.n with
                    | true =>
                      cases hon : eqQ s.o s.n with
                      | true =>
                        exact out (quad_of (p31_65 r s) rfl (asn _ _ _) rfl) (AllT.cons (no_f ho0) (AllT.cons (hon) (AllT.cons (hn0) (AllT.cons (no_f hc0) (AllT.cons (no_f ho0) (AllT.cons (no_f hoc) (AllT.cons (no_f hcn) (AllT.cons (no_f hwarm) (AllT.cons (hb9) (AllT.cons (no_f hi7) (AllT.cons (no_f hi7) (AllT.cons (no_f he6) (AllT.cons (no_f hp) AllT.nil)))))))))))))
                      | false =>
                        exact out (quad_of (p31_66 r s) rfl rfl rfl) (AllT.cons (no_f hon) (AllT.cons (hn0) (AllT.cons (no_f hc0) (AllT.cons (no_f ho0) (AllT.cons (no_f hoc) (AllT.cons (no_f hcn) (AllT.cons (no_f hwarm) (AllT.cons (hb9) (AllT.cons (no_f hi7) (AllT.cons (no_f hi7) (AllT.cons (no_f he6) (AllT.cons (no_f hp) AllT.nil))))))))))))
                    | false =>
                      cases hon : eqQ s.o s.n with
                      | true =>
                        exact out (quad_of (p31_67 r s) rfl (asn _ _ _) rfl) (AllT.cons (no_f ho0) (AllT.cons (hon) (AllT.cons (no_f hn0) (AllT.cons (no_f hc0) (AllT.cons (no_f ho0) (AllT.cons (no_f hoc) (AllT.cons (no_f hcn) (AllT.cons (no_f hwarm) (AllT.cons (hb9) (AllT.cons (no_f hi7) (AllT.cons (no_f hi7) (AllT.cons (no_f he6) (AllT.cons (no_f hp) AllT.nil)))))))))))))
                      | false =>
                        exact out (quad_of (p31_68 r s) rfl rfl rfl) (AllT.cons (no_f hon) (AllT.cons (no_f hn0) (AllT.cons (no_f hc0) (AllT.cons (no_f ho0) (AllT.cons (no_f hoc) (AllT.cons (no_f hcn) (AllT.cons (no_f hwarm) (AllT.cons (hb9) (AllT.cons (no_f hi7) (AllT.cons (no_f hi7) (AllT.cons (no_f he6) (AllT.cons (no_f hp) AllT.nil))))))))))))
        | false =>
          cases hcn : eqQ s.c s.n with
          | true =>
            exact out (quad_of (p31_69 r s) rfl rfl rfl) (AllT.cons (hcn) (AllT.cons (no_f hb9) (AllT.cons (no_f hi7) (AllT.cons (no_f hi7) (AllT.cons (no_f he6) (AllT.cons (no_f hp) AllT.nil))))))
          | false =>
            cases hoc : eqQ s.o s.c with
            | true =>
              cases ho0 : zeroB s.o with
              | true =>
                exact out (quad_of (p31_70 r s) rfl rfl rfl) (AllT.cons (ho0) (AllT.cons (hoc) (AllT.cons (no_f hcn) (AllT.cons (no_f hb9) (AllT.cons (no_f hi7) (AllT.cons (no_f hi7) (AllT.cons (no_f he6) (AllT.cons (no_f hp) AllT.nil))))))))
              | false =>
                cases hn0 : zeroB s.n with
                | true =>
                  exact out (quad_of (p31_71 r s) rfl rfl rfl) (AllT.cons (hn0) (AllT.cons (no_f ho0) (AllT.cons (hoc) (AllT.cons (no_f hcn) (AllT.cons (no_f hb9) (AllT.cons (no_f hi7) (AllT.cons (no_f hi7) (AllT.cons (no_f he6) (AllT.cons (no_f hp) AllT.nil)))))))))
                | false =>
                  exact out (quad_of (p31_72 r s) rfl rfl rfl) (AllT.cons (no_f hn0) (AllT.cons (no_f ho0) (AllT.cons (hoc) (AllT.cons (no_f hcn) (AllT.cons (no_f hb9) (AllT.cons (no_f hi7) (AllT.cons (no_f hi7) (AllT.cons (no_f he6) (AllT.cons (no_f hp) AllT.nil)))))))))
            | false =>
              cases ho0 : zeroB s.o with
              | true =>
                cases hon : eqQ s.o s.n with
                | true =>
                  exact out (quad_of (p31_73 r s) rfl (asn _ _ _) rfl) (AllT.cons (ho0) (AllT.cons (hon) (AllT.cons (nn_t ho0) (AllT.cons (no_f hoc) (AllT.cons (no_f hcn) (AllT.cons (no_f hb9) (AllT.cons (no_f hi7) (AllT.cons (no_f hi7) (AllT.cons (no_f he6) (AllT.cons (no_f hp) AllT.nil))))))))))
                | false =>
                  exact out (quad_of (p31_74 r s) rfl rfl rfl) (AllT.cons (no_f hon) (AllT.cons (nn_t ho0) (AllT.cons (no_f hoc) (AllT.cons (no_f hcn) (AllT.cons (no_f hb9) (AllT.cons (no_f hi7) (AllT.cons (no_f hi7) (AllT.cons (no_f he6) (AllT.cons (no_f hp) AllT.nil)))))))))
              | false =>
                cases hc0 : zeroB s.c with
                | true =>
                  cases hon : eqQ s.o s.n with
                  | true =>
                    exact out (quad_of (p31_75 r s) rfl (asn _ _ _) rfl) (AllT.cons (no_f ho0) (AllT.cons (hon) (AllT.cons (hc0) (AllT.cons (no_f ho0) (AllT.cons (no_f hoc) (AllT.cons (no_f hcn) (AllT.cons (no_f hb9) (AllT.cons (no_f hi7) (AllT.cons (no_f hi7) (AllT.cons (no_f he6) (AllT.cons (no_f hp) AllT.nil)))))))))))
                  | false =>
                    exact out (quad_of (p31_76 r s) rfl rfl rfl) (AllT.cons (no_f hon) (AllT.cons (hc0) (AllT.cons (no_f ho0) (AllT.cons (no_f hoc) (AllT.cons (no_f hcn) (AllT.cons (no_f hb9) (AllT.cons (no_f hi7) (AllT.cons (no_f hi7) (AllT.cons (no_f he6) (AllT.cons (no_f hp) AllT.nil))))))))))
                | false =>
                  cases hn0 : zeroB s.n with
                  | true =>
                    cases hon : eqQ s.o s.n with
                    | true =>
                      exact out (quad_of (p31_77 r s) rfl (asn _ _ _) rfl) (AllT.cons (no_f ho0) (AllT.cons (hon) (AllT.cons (hn0) (AllT.cons (no_f hc0) (AllT.cons (no_f ho0) (AllT.cons (no_f hoc) (AllT.cons (no_f hcn) (AllT.cons (no_f hb9) (AllT.cons (no_f hi7) (AllT.cons (no_f hi7) (AllT.cons (no_f he6) (AllT.cons (no_f hp) AllT.nil))))))))))))
                    | false =>
                      exact out (quad_of (p31_78 r s) rfl rfl rfl) (AllT.cons (no_f hon) (AllT.cons (hn0) (AllT.cons (no_f hc0) (AllT.cons (no_f ho0) (AllT.cons (no_f hoc) (AllT.cons (no_f hcn) (AllT.cons (no_f hb9) (AllT.cons (no_f hi7) (AllT.cons (no_f hi7) (AllT.cons (no_f he6) (AllT.cons (no_f hp) AllT.nil)))))))))))
                  | false =>
                    cases hon : eqQ s.o s.n with
                    | true =>
                      exact out (quad_of (p31_79 r s) rfl (asn _ _ _) rfl) (AllT.cons (no_f ho0) (AllT.cons (hon) (AllT.cons (no_f hn0) (AllT.cons (no_f hc0) (AllT.cons (no_f ho0) (AllT.cons (no_f hoc) (AllT.cons (no_f hcn) (AllT.cons (no_f hb9) (AllT.cons (no_f hi7) (AllT.cons (no_f hi7) (AllT.cons (no_f he6) (AllT.cons (no_f hp) AllT.nil))))))))))))
                    | false =>
                      exact out (quad_of (p31_80 r s) rfl rfl rfl) (AllT.cons (no_f hon) (AllT.cons (no_f hn0) (AllT.cons (no_f hc0) (AllT.cons (no_f ho0) (AllT.cons (no_f hoc) (AllT.cons (no_f hcn) (AllT.cons (no_f hb9) (AllT.cons (no_f hi7) (AllT.cons (no_f hi7) (AllT.cons (no_f he6) (AllT.cons (no_f hp) AllT.nil)))))))))))
theorem cw {x c : W} (h : c = 2100#64) : x + c = x + 2100#64 := by rw [h]
theorem runs30 (hc : b9B r = true → r.w 16 = 2100#64) (hp : List Reg) : Runs Try.prog 30 [.ag (rulesS r), .ag (stoC s)] hp (quadV (stX r s) (stA r s) (stS r s) (.sb (stK r s))) hp false := by
  have out : ∀ {ds ob : List Bool} {x a b : W} {k : Bool}, p30 r s ds = some (quadV x a b (.bl k), ob) → AllT ob → Runs Try.prog 30 [.ag (rulesS r), .ag (stoC s)] hp (quadV x a b (.sb k)) hp false :=
    fun h hob => quadV_sb (runs_out known_none h hob rfl rfl hp)
  unfold stX stA stS stK stA0 stRead stChg stCold
  cases hp : pB r with
  | true =>
    cases hc0 : zeroB s.c with
    | true =>
      cases hn0 : zeroB s.n with
      | true =>
        exact out (quad_of (p30_0 r s) rfl rfl rfl) (AllT.cons (nn_t hc0) (AllT.cons (nn_t hn0) (AllT.cons (hc0) (AllT.cons (hp) AllT.nil))))
      | false =>
        exact out (quad_of (p30_1 r s) rfl rfl rfl) (AllT.cons (nn_t hc0) (AllT.cons (no_f hn0) (AllT.cons (hc0) (AllT.cons (hp) AllT.nil))))
    | false =>
      cases hn0 : zeroB s.n with
      | true =>
        exact out (quad_of (p30_2 r s) rfl rfl rfl) (AllT.cons (hn0) (AllT.cons (no_f hc0) (AllT.cons (no_f hc0) (AllT.cons (hp) AllT.nil))))
      | false =>
        exact out (quad_of (p30_3 r s) rfl rfl rfl) (AllT.cons (no_f hn0) (AllT.cons (no_f hc0) (AllT.cons (no_f hc0) (AllT.cons (hp) AllT.nil))))
  | false =>
    cases he6 : e6B r with
    | true =>
      cases hc0 : zeroB s.c with
      | true =>
        cases hn0 : zeroB s.n with
        | true =>
          exact out (quad_of (p30_4 r s) rfl rfl rfl) (AllT.cons (nn_t hc0) (AllT.cons (nn_t hn0) (AllT.cons (hc0) (AllT.cons (he6) (AllT.cons (no_f hp) AllT.nil)))))
        | false =>
          exact out (quad_of (p30_5 r s) rfl rfl rfl) (AllT.cons (nn_t hc0) (AllT.cons (no_f hn0) (AllT.cons (hc0) (AllT.cons (he6) (AllT.cons (no_f hp) AllT.nil)))))
      | false =>
        cases hn0 : zeroB s.n with
        | true =>
          exact out (quad_of (p30_6 r s) rfl rfl rfl) (AllT.cons (hn0) (AllT.cons (no_f hc0) (AllT.cons (no_f hc0) (AllT.cons (he6) (AllT.cons (no_f hp) AllT.nil)))))
        | false =>
          exact out (quad_of (p30_7 r s) rfl rfl rfl) (AllT.cons (no_f hn0) (AllT.cons (no_f hc0) (AllT.cons (no_f hc0) (AllT.cons (he6) (AllT.cons (no_f hp) AllT.nil)))))
    | false =>
      cases hi7 : i7B r with
      | true =>
        cases hlow : lowB s with
        | true =>
          exact out (quad_of (p30_8 r s) rfl rfl rfl) (AllT.cons (hlow) (AllT.cons (hi7) (AllT.cons (no_f he6) (AllT.cons (no_f hp) AllT.nil))))
        | false =>
          cases hb9 : b9B r with
          | true =>
            cases hcn : eqQ s.c s.n with
            | true =>
              cases hwarm : s.warm with
              | true =>
                exact out (quad_of (p30_9 r s) rfl rfl rfl) (AllT.cons (nn_t hwarm) (AllT.cons (hb9) (AllT.cons (hcn) (AllT.cons (hb9) (AllT.cons (no_f hlow) (AllT.cons (hi7) (AllT.cons (no_f he6) (AllT.cons (no_f hp) AllT.nil))))))))
              | false =>
                exact out (quad_of (p30_10 r s) (cw (hc hb9)) rfl rfl) (AllT.cons (no_f hwarm) (AllT.cons (hb9) (AllT.cons (hcn) (AllT.cons (hb9) (AllT.cons (no_f hlow) (AllT.cons (hi7) (AllT.cons (no_f he6) (AllT.cons (no_f hp) AllT.nil))))))))
            | false =>
              cases hoc : eqQ s.o s.c with
              | true =>
                cases ho0 : zeroB s.o with
                | true =>
                  cases hwarm : s.warm with
                  | true =>
                    exact out (quad_of (p30_11 r s) rfl rfl rfl) (AllT.cons (nn_t hwarm) (AllT.cons (hb9) (AllT.cons (ho0) (AllT.cons (hoc) (AllT.cons (no_f hcn) (AllT.cons (hb9) (AllT.cons (no_f hlow) (AllT.cons (hi7) (AllT.cons (no_f he6) (AllT.cons (no_f hp) AllT.nil))))))))))
                  | false =>
                    exact out (quad_of (p30_12 r s) (cw (hc hb9)) rfl rfl) (AllT.cons (no_f hwarm) (AllT.cons (hb9) (AllT.cons (ho0) (AllT.cons (hoc) (AllT.cons (no_f hcn) (AllT.cons (hb9) (AllT.cons (no_f hlow) (AllT.cons (hi7) (AllT.cons (no_f he6) (AllT.cons (no_f hp) AllT.nil))))))))))
                | false =>
                  cases hn0 : zeroB s.n with
                  | true =>
                    cases hwarm : s.warm with
                    | true =>
                      exact out (quad_of (p30_13 r s) rfl rfl rfl) (AllT.cons (nn_t hwarm) (AllT.cons (hb9) (AllT.cons (hn0) (AllT.cons (hoc) (AllT.cons (no_f ho0) (AllT.cons (hoc) (AllT.cons (no_f hcn) (AllT.cons (hb9) (AllT.cons (no_f hlow) (AllT.cons (hi7) (AllT.cons (no_f he6) (AllT.cons (no_f hp) AllT.nil))))))))))))
                    | false =>
                      exact out (quad_of (p30_14 r s) (cw (hc hb9)) rfl rfl) (AllT.cons (no_f hwarm) (AllT.cons (hb9) (AllT.cons (hn0) (AllT.cons (hoc) (AllT.cons (no_f ho0) (AllT.cons (hoc) (AllT.cons (no_f hcn) (AllT.cons (hb9) (AllT.cons (no_f hlow) (AllT.cons (hi7) (AllT.cons (no_f he6) (AllT.cons (no_f hp) AllT.nil))))))))))))
                  | false =>
                    cases hwarm : s.warm with
                    | true =>
                      exact out (quad_of (p30_15 r s) rfl rfl rfl) (AllT.cons (nn_t hwarm) (AllT.cons (hb9) (AllT.cons (no_f hn0) (AllT.cons (hoc) (AllT.cons (no_f ho0) (AllT.cons (hoc) (AllT.cons (no_f hcn) (AllT.cons (hb9) (AllT.cons (no_f hlow) (AllT.cons (hi7) (AllT.cons (no_f he6) (AllT.cons (no_f hp) AllT.nil))))))))))))
                    | false =>
                      exact out (quad_of (p30_16 r s) (cw (hc hb9)) rfl rfl) (AllT.cons (no_f hwarm) (AllT.cons (hb9) (AllT.cons (no_f hn0) (AllT.cons (hoc) (AllT.cons (no_f ho0) (AllT.cons (hoc) (AllT.cons (no_f hcn) (AllT.cons (hb9) (AllT.cons (no_f hlow) (AllT.cons (hi7) (AllT.cons (no_f he6) (AllT.cons (no_f hp) AllT.nil))))))))))))
              | false =>
                cases ho0 : zeroB s.o with
                | true =>
                  cases hon : eqQ s.o s.n with
                  | true =>
                    cases hwarm : s.warm with
                    | true =>
                      exact out (quad_of (p30_17 r s) rfl rfl rfl) (AllT.cons (nn_t hwarm) (AllT.cons (hb9) (AllT.cons (ho0) (AllT.cons (nn_t hon) (AllT.cons (nn_t ho0) (AllT.cons (nn_t ho0) (AllT.cons (hb9) (AllT.cons (no_f hoc) (AllT.cons (no_f hoc) (AllT.cons (no_f hcn) (AllT.cons (hb9) (AllT.cons (no_f hlow) (AllT.cons (hi7) (AllT.cons (no_f he6) (AllT.cons (no_f hp) AllT.nil)))))))))))))))
                    | false =>
                      exact out (quad_of (p30_18 r s) (cw (hc hb9)) rfl rfl) (AllT.cons (no_f hwarm) (AllT.cons (hb9) (AllT.cons (ho0) (AllT.cons (nn_t hon) (AllT.cons (nn_t ho0) (AllT.cons (nn_t ho0) (AllT.cons (hb9) (AllT.cons (no_f hoc) (AllT.cons (no_f hoc) (AllT.cons (no_f hcn) (AllT.cons (hb9) (AllT.cons (no_f hlow) (AllT.cons (hi7) (AllT.cons (no_f he6) (AllT.cons (no_f hp) AllT.nil)))))))))))))))
                  | false =>
                    cases hwarm : s.warm with
                    | true =>
                      exact out (quad_of (p30_19 r s) rfl rfl rfl) (AllT.cons (nn_t hwarm) (AllT.cons (hb9) (AllT.cons (no_f hon) (AllT.cons (nn_t ho0) (AllT.cons (nn_t ho0) (AllT.cons (hb9) (AllT.cons (no_f hoc) (AllT.cons (no_f hoc) (AllT.cons (no_f hcn) (AllT.cons (hb9) (AllT.cons (no_f hlow) (AllT.cons (hi7) (AllT.cons (no_f he6) (AllT.cons (no_f hp) AllT.nil))))))))))))))
                    | false =>
                      exact out (quad_of (p30_20 r s) (cw (hc hb9)) rfl rfl) (AllT.cons (no_f hwarm) (AllT.cons (hb9) (AllT.cons (no_f hon) (AllT.cons (nn_t ho0) (AllT.cons (nn_t ho0) (AllT.cons (hb9) (AllT.cons (no_f hoc) (AllT.cons (no_f hoc) (AllT.cons (no_f hcn) (AllT.cons (hb9) (AllT.cons (no_f hlow) (AllT.cons (hi7) (AllT.cons (no_f he6) (AllT.cons (no_f hp) AllT.nil))))))))))))))
                | false =>
                  cases hc0 : zeroB s.c with
                  | true =>
                    cases hon : eqQ s.o s.n with
                    | true =>
                      cases hwarm : s.warm with
                      | true =>
                        exact out (quad_of (p30_21 r s) rfl rfl rfl) (AllT.cons (nn_t hwarm) (AllT.cons (hb9) (AllT.cons (no_f ho0) (AllT.cons (nn_t hon) (AllT.cons (nn_t hc0) (AllT.cons (no_f ho0) (AllT.cons (hc0) (AllT.cons (no_f ho0) (AllT.cons (hb9) (AllT.cons (no_f hoc) (AllT.cons (no_f hoc) (AllT.cons (no_f hcn) (AllT.cons (hb9) (AllT.cons (no_f hlow) (AllT.cons (hi7) (AllT.cons (no_f he6) (AllT.cons (no_f hp) AllT.nil)))))))))))))))))
                      | false =>
                        exact out (quad_of (p30_22 r s) (cw (hc hb9)) rfl rfl) (AllT.cons (no_f hwarm) (AllT.cons (hb9) (AllT.cons (no_f ho0) (AllT.cons (nn_t hon) (AllT.cons (nn_t hc0) (AllT.cons (no_f ho0) (AllT.cons (hc0) (AllT.cons (no_f ho0) (AllT.cons (hb9) (AllT.cons (no_f hoc) (AllT.cons (no_f hoc) (AllT.cons (no_f hcn) (AllT.cons (hb9) (AllT.cons (no_f hlow) (AllT.cons (hi7) (AllT.cons (no_f he6) (AllT.cons (no_f hp) AllT.nil)))))))))))))))))
                    | false =>
                      cases hwarm : s.warm with
                      | true =>
                        exact out (quad_of (p30_23 r s) rfl rfl rfl) (AllT.cons (nn_t hwarm) (AllT.cons (hb9) (AllT.cons (no_f hon) (AllT.cons (nn_t hc0) (AllT.cons (no_f ho0) (AllT.cons (hc0) (AllT.cons (no_f ho0) (AllT.cons (hb9) (AllT.cons (no_f hoc) (AllT.cons (no_f hoc) (AllT.cons (no_f hcn) (AllT.cons (hb9) (AllT.cons (no_f hlow) (AllT.cons (hi7) (AllT.cons (no_f he6) (AllT.cons (no_f hp) AllT.nil))))))))))))))))
                      | false =>
                        exact out (quad_of (p30_24 r s) (cw (hc hb9)) rfl rfl) (AllT.cons (no_f hwarm) (AllT.cons (hb9) (AllT.cons (no_f hon) (AllT.cons (nn_t hc0) (AllT.cons (no_f ho0) (AllT.cons (hc0) (AllT.cons (no_f ho0) (AllT.cons (hb9) (AllT.cons (no_f hoc) (AllT.cons (no_f hoc) (AllT.cons (no_f hcn) (AllT.cons (hb9) (AllT.cons (no_f hlow) (AllT.cons (hi7) (AllT.cons (no_f he6) (AllT.cons (no_f hp) AllT.nil))))))))))))))))
                  | false =>
                    cases hn0 : zeroB s.n with
                    | true =>
                      cases hon : eqQ s.o s.n with
                      | true =>
                        cases hwarm : s.warm with
                        | true =>
                          exact out (quad_of (p30_25 r s) rfl rfl rfl) (AllT.cons (nn_t hwarm) (AllT.cons (hb9) (AllT.cons (no_f ho0) (AllT.cons (nn_t hon) (AllT.cons (hn0) (AllT.cons (no_f hc0) (AllT.cons (no_f ho0) (AllT.cons (no_f hc0) (AllT.cons (no_f ho0) (AllT.cons (hb9) (AllT.cons (no_f hoc) (AllT.cons (no_f hoc) (AllT.cons (no_f hcn) (AllT.cons (hb9) (AllT.cons (no_f hlow) (AllT.cons (hi7) (AllT.cons (no_f he6) (AllT.cons (no_f hp) AllT.nil))))))))))))))))))
                        | false =>
                          exact out (quad_of (p30_26 r s) (cw (hc hb9)) rfl rfl) (AllT.cons (no_f hwarm) (AllT.cons (hb9) (AllT.cons (no_f ho0) (AllT.cons (nn_t hon) (AllT.cons (hn0) (AllT.cons (no_f hc0) (AllT.cons (no_f ho0) (AllT.cons (no_f hc0) (AllT.cons (no_f ho0) (AllT.cons (hb9) (AllT.cons (no_f hoc) (AllT.cons (no_f hoc) (AllT.cons (no_f hcn) (AllT.cons (hb9) (AllT.cons (no_f hlow) (AllT.cons (hi7) (AllT.cons (no_f he6) (AllT.cons (no_f hp) AllT.nil))))))))))))))))))
                      | false =>
                        cases hwarm : s.warm with
                        | true =>
                          exact out (quad_of (p30_27 r s) rfl rfl rfl) (AllT.cons (nn_t hwarm) (AllT.cons (hb9) (AllT.cons (no_f hon) (AllT.cons (hn0) (AllT.cons (no_f hc0) (AllT.cons (no_f ho0) (AllT.cons (no_f hc0) (AllT.cons (no_f ho0) (AllT.cons (hb9) (AllT.cons (no_f hoc) (AllT.cons (no_f hoc) (AllT.cons (no_f hcn) (AllT.cons (hb9) (AllT.cons (no_f hlow) (AllT.cons (hi7) (AllT.cons (no_f he6) (AllT.cons (no_f hp) AllT.nil)))))))))))))))))
                        | false =>
                          exact out (quad_of (p30_28 r s) (cw (hc hb9)) rfl rfl) (AllT.cons (no_f hwarm) (AllT.cons (hb9) (AllT.cons (no_f hon) (AllT.cons (hn0) (AllT.cons (no_f hc0) (AllT.cons (no_f ho0) (AllT.cons (no_f hc0) (AllT.cons (no_f ho0) (AllT.cons (hb9) (AllT.cons (no_f hoc) (AllT.cons (no_f hoc) (AllT.cons (no_f hcn) (AllT.cons (hb9) (AllT.cons (no_f hlow) (AllT.cons (hi7) (AllT.cons (no_f he6) (AllT.cons (no_f hp) AllT.nil)))))))))))))))))
                    | false =>
                      cases hon : eqQ s.o s.n with
                      | true =>
                        cases hwarm : s.warm with
                        | true =>
                          exact out (quad_of (p30_29 r s) rfl rfl rfl) (AllT.cons (nn_t hwarm) (AllT.cons (hb9) (AllT.cons (no_f ho0) (AllT.cons (nn_t hon) (AllT.cons (no_f hn0) (AllT.cons (no_f hc0) (AllT.cons (no_f ho0) (AllT.cons (no_f hc0) (AllT.cons (no_f ho0) (AllT.cons (hb9) (AllT.cons (no_f hoc) (AllT.cons (no_f hoc) (AllT.cons (no_f hcn) (AllT.cons (hb9) (AllT.cons (no_f hlow) (AllT.cons (hi7) (AllT.cons (no_f he6) (AllT.cons (no_f hp) AllT.nil))))))))))))))))))
                        | false =>
                          exact out (quad_of (p30_30 r s) (cw (hc hb9)) rfl rfl) (AllT.cons (no_f hwarm) (AllT.cons (hb9) (AllT.cons (no_f ho0) (AllT.cons (nn_t hon) (AllT.cons (no_f hn0) (AllT.cons (no_f hc0) (AllT.cons (no_f ho0) (AllT.cons (no_f hc0) (AllT.cons (no_f ho0) (AllT.cons (hb9) (AllT.cons (no_f hoc) (AllT.cons (no_f hoc) (AllT.cons (no_f hcn) (AllT.cons (hb9) (AllT.cons (no_f hlow) (AllT.cons (hi7) (AllT.cons (no_f he6) (AllT.cons (no_f hp) AllT.nil))))))))))))))))))
                      | false =>
                        cases hwarm : s.warm with
                        | true =>
                          exact out (quad_of (p30_31 r s) rfl rfl rfl) (AllT.cons (nn_t hwarm) (AllT.cons (hb9) (AllT.cons (no_f hon) (AllT.cons (no_f hn0) (AllT.cons (no_f hc0) (AllT.cons (no_f ho0) (AllT.cons (no_f hc0) (AllT.cons (no_f ho0) (AllT.cons (hb9) (AllT.cons (no_f hoc) (AllT.cons (no_f hoc) (AllT.cons (no_f hcn) (AllT.cons (hb9) (AllT.cons (no_f hlow) (AllT.cons (hi7) (AllT.cons (no_f he6) (AllT.cons (no_f hp) AllT.nil)))))))))))))))))
                        | false =>
                          exact out (quad_of (p30_32 r s) (cw (hc hb9)) rfl rfl) (AllT.cons (no_f hwarm) (AllT.cons (hb9) (AllT.cons (no_f hon) (AllT.cons (no_f hn0) (AllT.cons (no_f hc0) (AllT.cons (no_f ho0) (AllT.cons (no_f hc0) (AllT.cons (no_f ho0) (AllT.cons (hb9) (AllT.cons (no_f hoc) (AllT.cons (no_f hoc) (AllT.cons (no_f hcn) (AllT.cons (hb9) (AllT.cons (no_f hlow) (AllT.cons (hi7) (AllT.cons (no_f he6) (AllT.cons (no_f hp) AllT.nil)))))))))))))))))
          | false =>
            cases hcn : eqQ s.c s.n with
            | true =>
              exact out (quad_of (p30_33 r s) rfl rfl rfl) (AllT.cons (no_f hb9) (AllT.cons (hcn) (AllT.cons (hi7) (AllT.cons (no_f hb9) (AllT.cons (no_f hlow) (AllT.cons (hi7) (AllT.cons (no_f he6) (AllT.cons (no_f hp) AllT.nil))))))))
            | false =>
              cases hoc : eqQ s.o s.c with
              | true =>
                cases ho0 : zeroB s.o with
                | true =>
                  exact out (quad_of (p30_34 r s) rfl rfl rfl) (AllT.cons (no_f hb9) (AllT.cons (ho0) (AllT.cons (hoc) (AllT.cons (no_f hcn) (AllT.cons (hi7) (AllT.cons (no_f hb9) (AllT.cons (no_f hlow) (AllT.cons (hi7) (AllT.cons (no_f he6) (AllT.cons (no_f hp) AllT.nil))))))))))
                | false =>
                  cases hn0 : zeroB s.n with
                  | true =>
                    exact out (quad_of (p30_35 r s) rfl rfl rfl) (AllT.cons (no_f hb9) (AllT.cons (hn0) (AllT.cons (hoc) (AllT.cons (no_f ho0) (AllT.cons (hoc) (AllT.cons (no_f hcn) (AllT.cons (hi7) (AllT.cons (no_f hb9) (AllT.cons (no_f hlow) (AllT.cons (hi7) (AllT.cons (no_f he6) (AllT.cons (no_f hp) AllT.nil))))))))))))
                  | false =>
                    exact out (quad_of (p30_36 r s) rfl rfl rfl) (AllT.cons (no_f hb9) (AllT.cons (no_f hn0) (AllT.cons (hoc) (AllT.cons (no_f ho0) (AllT.cons (hoc) (AllT.cons (no_f hcn) (AllT.cons (hi7) (AllT.cons (no_f hb9) (AllT.cons (no_f hlow) (AllT.cons (hi7) (AllT.cons (no_f he6) (AllT.cons (no_f hp) AllT.nil))))))))))))
              | false =>
                cases ho0 : zeroB s.o with
                | true =>
                  cases hon : eqQ s.o s.n with
                  | true =>
                    exact out (quad_of (p30_37 r s) rfl rfl rfl) (AllT.cons (no_f hb9) (AllT.cons (ho0) (AllT.cons (nn_t hon) (AllT.cons (nn_t ho0) (AllT.cons (nn_t ho0) (AllT.cons (hi7) (AllT.cons (no_f hb9) (AllT.cons (no_f hoc) (AllT.cons (no_f hoc) (AllT.cons (no_f hcn) (AllT.cons (hi7) (AllT.cons (no_f hb9) (AllT.cons (no_f hlow) (AllT.cons (hi7) (AllT.cons (no_f he6) (AllT.cons (no_f hp) AllT.nil))))))))))))))))
                  | false =>
                    exact out (quad_of (p30_38 r s) rfl rfl rfl) (AllT.cons (no_f hb9) (AllT.cons (no_f hon) (AllT.cons (nn_t ho0) (AllT.cons (nn_t ho0) (AllT.cons (hi7) (AllT.cons (no_f hb9) (AllT.cons (no_f hoc) (AllT.cons (no_f hoc) (AllT.cons (no_f hcn) (AllT.cons (hi7) (AllT.cons (no_f hb9) (AllT.cons (no_f hlow) (AllT.cons (hi7) (AllT.cons (no_f he6) (AllT.cons (no_f hp) AllT.nil)))))))))))))))
                | false =>
                  cases hc0 : zeroB s.c with
                  | true =>
                    cases hon : eqQ s.o s.n with
                    | true =>
                      exact out (quad_of (p30_39 r s) rfl rfl rfl) (AllT.cons (no_f hb9) (AllT.cons (no_f ho0) (AllT.cons (nn_t hon) (AllT.cons (nn_t hc0) (AllT.cons (no_f ho0) (AllT.cons (hc0) (AllT.cons (no_f ho0) (AllT.cons (hi7) (AllT.cons (no_f hb9) (AllT.cons (no_f hoc) (AllT.cons (no_f hoc) (AllT.cons (no_f hcn) (AllT.cons (hi7) (AllT.cons (no_f hb9) (AllT.cons (no_f hlow) (AllT.cons (hi7) (AllT.cons (no_f he6) (AllT.cons (no_f hp) AllT.nil))))))))))))))))))
                    | false =>
                      exact out (quad_of (p30_40 r s) rfl rfl rfl) (AllT.cons (no_f hb9) (AllT.cons (no_f hon) (AllT.cons (nn_t hc0) (AllT.cons (no_f ho0) (AllT.cons (hc0) (AllT.cons (no_f ho0) (AllT.cons (hi7) (AllT.cons (no_f hb9) (AllT.cons (no_f hoc) (AllT.cons (no_f hoc) (AllT.cons (no_f hcn) (AllT.cons (hi7) (AllT.cons (no_f hb9) (AllT.cons (no_f hlow) (AllT.cons (hi7) (AllT.cons (no_f he6) (AllT.cons (no_f hp) AllT.nil)))))))))))))))))
                  | false =>
                    cases hn0 : zeroB s.n with
                    | true =>
                      cases hon : eqQ s.o s.n with
                      | true =>
                        exact out (quad_of (p30_41 r s) rfl rfl rfl) (AllT.cons (no_f hb9) (AllT.cons (no_f ho0) (AllT.cons (nn_t hon) (AllT.cons (hn0) (AllT.cons (no_f hc0) (AllT.cons (no_f ho0) (AllT.cons (no_f hc0) (AllT.cons (no_f ho0) (AllT.cons (hi7) (AllT.cons (no_f hb9) (AllT.cons (no_f hoc) (AllT.cons (no_f hoc) (AllT.cons (no_f hcn) (AllT.cons (hi7) (AllT.cons (no_f hb9) (AllT.cons (no_f hlow) (AllT.cons (hi7) (AllT.cons (no_f he6) (AllT.cons (no_f hp) AllT.nil)))))))))))))))))))
                      | false =>
                        exact out (quad_of (p30_42 r s) rfl rfl rfl) (AllT.cons (no_f hb9) (AllT.cons (no_f hon) (AllT.cons (hn0) (AllT.cons (no_f hc0) (AllT.cons (no_f ho0) (AllT.cons (no_f hc0) (AllT.cons (no_f ho0) (AllT.cons (hi7) (AllT.cons (no_f hb9) (AllT.cons (no_f hoc) (AllT.cons (no_f hoc) (AllT.cons (no_f hcn) (AllT.cons (hi7) (AllT.cons (no_f hb9) (AllT.cons (no_f hlow) (AllT.cons (hi7) (AllT.cons (no_f he6) (AllT.cons (no_f hp) AllT.nil))))))))))))))))))
                    | false =>
                      cases hon : eqQ s.o s.n with
                      | true =>
                        exact out (quad_of (p30_43 r s) rfl rfl rfl) (AllT.cons (no_f hb9) (AllT.cons (no_f ho0) (AllT.cons (nn_t hon) (AllT.cons (no_f hn0) (AllT.cons (no_f hc0) (AllT.cons (no_f ho0) (AllT.cons (no_f hc0) (AllT.cons (no_f ho0) (AllT.cons (hi7) (AllT.cons (no_f hb9) (AllT.cons (no_f hoc) (AllT.cons (no_f hoc) (AllT.cons (no_f hcn) (AllT.cons (hi7) (AllT.cons (no_f hb9) (AllT.cons (no_f hlow) (AllT.cons (hi7) (AllT.cons (no_f he6) (AllT.cons (no_f hp) AllT.nil)))))))))))))))))))
                      | false =>
                        exact out (quad_of (p30_44 r s) rfl rfl rfl) (AllT.cons (no_f hb9) (AllT.cons (no_f hon) (AllT.cons (no_f hn0) (AllT.cons (no_f hc0) (AllT.cons (no_f ho0) (AllT.cons (no_f hc0) (AllT.cons (no_f ho0) (AllT.cons (hi7) (AllT.cons (no_f hb9) (AllT.cons (no_f hoc) (AllT.cons (no_f hoc) (AllT.cons (no_f hcn) (AllT.cons (hi7) (AllT.cons (no_f hb9) (AllT.cons (no_f hlow) (AllT.cons (hi7) (AllT.cons (no_f he6) (AllT.cons (no_f hp) AllT.nil))))))))))))))))))
      | false =>
        cases hb9 : b9B r with
        | true =>
          cases hcn : eqQ s.c s.n with
          | true =>
            cases hwarm : s.warm with
            | true =>
              exact out (quad_of (p30_45 r s) rfl rfl rfl) (AllT.cons (nn_t hwarm) (AllT.cons (hb9) (AllT.cons (hcn) (AllT.cons (hb9) (AllT.cons (no_f hi7) (AllT.cons (no_f he6) (AllT.cons (no_f hp) AllT.nil)))))))
            | false =>
              exact out (quad_of (p30_46 r s) (cw (hc hb9)) rfl rfl) (AllT.cons (no_f hwarm) (AllT.cons (hb9) (AllT.cons (hcn) (AllT.cons (hb9) (AllT.cons (no_f hi7) (AllT.cons (no_f he6) (AllT.cons (no_f hp) AllT.nil)))))))
          | false =>
            cases hoc : eqQ s.o s.c with
            | true =>
              cases ho0 : zeroB s.o with
              | true =>
                cases hwarm : s.warm with
                | true =>
                  exact out (quad_of (p30_47 r s) rfl rfl rfl) (AllT.cons (nn_t hwarm) (AllT.cons (hb9) (AllT.cons (ho0) (AllT.cons (hoc) (AllT.cons (no_f hcn) (AllT.cons (hb9) (AllT.cons (no_f hi7) (AllT.cons (no_f he6) (AllT.cons (no_f hp) AllT.nil)))))))))
                | false =>
                  exact out (quad_of (p30_48 r s) (cw (hc hb9)) rfl rfl) (AllT.cons (no_f hwarm) (AllT.cons (hb9) (AllT.cons (ho0) (AllT.cons (hoc) (AllT.cons (no_f hcn) (AllT.cons (hb9) (AllT.cons (no_f hi7) (AllT.cons (no_f he6) (AllT.cons (no_f hp) AllT.nil)))))))))
              | false =>
                cases hn0 : zeroB s.n with
                | true =>
                  cases hwarm : s.warm with
                  | true =>
                    exact out (quad_of (p30_49 r s) rfl rfl rfl) (AllT.cons (nn_t hwarm) (AllT.cons (hb9) (AllT.cons (hn0) (AllT.cons (hoc) (AllT.cons (no_f ho0) (AllT.cons (hoc) (AllT.cons (no_f hcn) (AllT.cons (hb9) (AllT.cons (no_f hi7) (AllT.cons (no_f he6) (AllT.cons (no_f hp) AllT.nil)))))))))))
                  | false =>
                    exact out (quad_of (p30_50 r s) (cw (hc hb9)) rfl rfl) (AllT.cons (no_f hwarm) (AllT.cons (hb9) (AllT.cons (hn0) (AllT.cons (hoc) (AllT.cons (no_f ho0) (AllT.cons (hoc) (AllT.cons (no_f hcn) (AllT.cons (hb9) (AllT.cons (no_f hi7) (AllT.cons (no_f he6) (AllT.cons (no_f hp) AllT.nil)))))))))))
                | false =>
                  cases hwarm : s.warm with
                  | true =>
                    exact out (quad_of (p30_51 r s) rfl rfl rfl) (AllT.cons (nn_t hwarm) (AllT.cons (hb9) (AllT.cons (no_f hn0) (AllT.cons (hoc) (AllT.cons (no_f ho0) (AllT.cons (hoc) (AllT.cons (no_f hcn) (AllT.cons (hb9) (AllT.cons (no_f hi7) (AllT.cons (no_f he6) (AllT.cons (no_f hp) AllT.nil)))))))))))
                  | false =>
                    exact out (quad_of (p30_52 r s) (cw (hc hb9)) rfl rfl) (AllT.cons (no_f hwarm) (AllT.cons (hb9) (AllT.cons (no_f hn0) (AllT.cons (hoc) (AllT.cons (no_f ho0) (AllT.cons (hoc) (AllT.cons (no_f hcn) (AllT.cons (hb9) (AllT.cons (no_f hi7) (AllT.cons (no_f he6) (AllT.cons (no_f hp) AllT.nil)))))))))))
            | false =>
              cases ho0 : zeroB s.o with
              | true =>
                cases hon : eqQ s.o s.n with
                | true =>
                  cases hwarm : s.warm with
                  | true =>
                    exact out (quad_of (p30_53 r s) rfl rfl rfl) (AllT.cons (nn_t hwarm) (AllT.cons (hb9) (AllT.cons (ho0) (AllT.cons (nn_t hon) (AllT.cons (nn_t ho0) (AllT.cons (nn_t ho0) (AllT.cons (hb9) (AllT.cons (no_f hoc) (AllT.cons (no_f hoc) (AllT.cons (no_f hcn) (AllT.cons (hb9) (AllT.cons (no_f hi7) (AllT.cons (no_f he6) (AllT.cons (no_f hp) AllT.nil))))))))))))))
                  | false =>
                    exact out (quad_of (p30_54 r s) (cw (hc hb9)) rfl rfl) (AllT.cons (no_f hwarm) (AllT.cons (hb9) (AllT.cons (ho0) (AllT.cons (nn_t hon) (AllT.cons (nn_t ho0) (AllT.cons (nn_t ho0) (AllT.cons (hb9) (AllT.cons (no_f hoc) (AllT.cons (no_f hoc) (AllT.cons (no_f hcn) (AllT.cons (hb9) (AllT.cons (no_f hi7) (AllT.cons (no_f he6) (AllT.cons (no_f hp) AllT.nil))))))))))))))
                | false =>
                  cases hwarm : s.warm with
                  | true =>
                    exact out (quad_of (p30_55 r s) rfl rfl rfl) (AllT.cons (nn_t hwarm) (AllT.cons (hb9) (AllT.cons (no_f hon) (AllT.cons (nn_t ho0) (AllT.cons (nn_t ho0) (AllT.cons (hb9) (AllT.cons (no_f hoc) (AllT.cons (no_f hoc) (AllT.cons (no_f hcn) (AllT.cons (hb9) (AllT.cons (no_f hi7) (AllT.cons (no_f he6) (AllT.cons (no_f hp) AllT.nil)))))))))))))
                  | false =>
                    exact out (quad_of (p30_56 r s) (cw (hc hb9)) rfl rfl) (AllT.cons (no_f hwarm) (AllT.cons (hb9) (AllT.cons (no_f hon) (AllT.cons (nn_t ho0) (AllT.cons (nn_t ho0) (AllT.cons (hb9) (AllT.cons (no_f hoc) (AllT.cons (no_f hoc) (AllT.cons (no_f hcn) (AllT.cons (hb9) (AllT.cons (no_f hi7) (AllT.cons (no_f he6) (AllT.cons (no_f hp) AllT.nil)))))))))))))
              | false =>
                cases hc0 : zeroB s.c with
                | true =>
                  cases hon : eqQ s.o s.n with
                  | true =>
                    cases hwarm : s.warm with
                    | true =>
                      exact out (quad_of (p30_57 r s) rfl rfl rfl) (AllT.cons (nn_t hwarm) (AllT.cons (hb9) (AllT.cons (no_f ho0) (AllT.cons (nn_t hon) (AllT.cons (nn_t hc0) (AllT.cons (no_f ho0) (AllT.cons (hc0) (AllT.cons (no_f ho0) (AllT.cons (hb9) (AllT.cons (no_f hoc) (AllT.cons (no_f hoc) (AllT.cons (no_f hcn) (AllT.cons (hb9) (AllT.cons (no_f hi7) (AllT.cons (no_f he6) (AllT.cons (no_f hp) AllT.nil))))))))))))))))
                    | false =>
                      exact out (quad_of (p30_58 r s) (cw (hc hb9)) rfl rfl) (AllT.cons (no_f hwarm) (AllT.cons (hb9) (AllT.cons (no_f ho0) (AllT.cons (nn_t hon) (AllT.cons (nn_t hc0) (AllT.cons (no_f ho0) (AllT.cons (hc0) (AllT.cons (no_f ho0) (AllT.cons (hb9) (AllT.cons (no_f hoc) (AllT.cons (no_f hoc) (AllT.cons (no_f hcn) (AllT.cons (hb9) (AllT.cons (no_f hi7) (AllT.cons (no_f he6) (AllT.cons (no_f hp) AllT.nil))))))))))))))))
                  | false =>
                    cases hwarm : s.warm with
                    | true =>
                      exact out (quad_of (p30_59 r s) rfl rfl rfl) (AllT.cons (nn_t hwarm) (AllT.cons (hb9) (AllT.cons (no_f hon) (AllT.cons (nn_t hc0) (AllT.cons (no_f ho0) (AllT.cons (hc0) (AllT.cons (no_f ho0) (AllT.cons (hb9) (AllT.cons (no_f hoc) (AllT.cons (no_f hoc) (AllT.cons (no_f hcn) (AllT.cons (hb9) (AllT.cons (no_f hi7) (AllT.cons (no_f he6) (AllT.cons (no_f hp) AllT.nil)))))))))))))))
                    | false =>
                      exact out (quad_of (p30_60 r s) (cw (hc hb9)) rfl rfl) (AllT.cons (no_f hwarm) (AllT.cons (hb9) (AllT.cons (no_f hon) (AllT.cons (nn_t hc0) (AllT.cons (no_f ho0) (AllT.cons (hc0) (AllT.cons (no_f ho0) (AllT.cons (hb9) (AllT.cons (no_f hoc) (AllT.cons (no_f hoc) (AllT.cons (no_f hcn) (AllT.cons (hb9) (AllT.cons (no_f hi7) (AllT.cons (no_f he6) (AllT.cons (no_f hp) AllT.nil)))))))))))))))
                | false =>
                  cases hn0 : zeroB s.n with
                  | true =>
                    cases hon : eqQ s.o s.n with
                    | true =>
                      cases hwarm : s.warm with
                      | true =>
                        exact out (quad_of (p30_61 r s) rfl rfl rfl) (AllT.cons (nn_t hwarm) (AllT.cons (hb9) (AllT.cons (no_f ho0) (AllT.cons (nn_t hon) (AllT.cons (hn0) (AllT.cons (no_f hc0) (AllT.cons (no_f ho0) (AllT.cons (no_f hc0) (AllT.cons (no_f ho0) (AllT.cons (hb9) (AllT.cons (no_f hoc) (AllT.cons (no_f hoc) (AllT.cons (no_f hcn) (AllT.cons (hb9) (AllT.cons (no_f hi7) (AllT.cons (no_f he6) (AllT.cons (no_f hp) AllT.nil)))))))))))))))))
                      | false =>
                        exact out (quad_of (p30_62 r s) (cw (hc hb9)) rfl rfl) (AllT.cons (no_f hwarm) (AllT.cons (hb9) (AllT.cons (no_f ho0) (AllT.cons (nn_t hon) (AllT.cons (hn0) (AllT.cons (no_f hc0) (AllT.cons (no_f ho0) (AllT.cons (no_f hc0) (AllT.cons (no_f ho0) (AllT.cons (hb9) (AllT.cons (no_f hoc) (AllT.cons (no_f hoc) (AllT.cons (no_f hcn) (AllT.cons (hb9) (AllT.cons (no_f hi7) (AllT.cons (no_f he6) (AllT.cons (no_f hp) AllT.nil)))))))))))))))))
                    | false =>
                      cases hwarm : s.warm with
                      | true =>
                        exact out (quad_of (p30_63 r s) rfl rfl rfl) (AllT.cons (nn_t hwarm) (AllT.cons (hb9) (AllT.cons (no_f hon) (AllT.cons (hn0) (AllT.cons (no_f hc0) (AllT.cons (no_f ho0) (AllT.cons (no_f hc0) (AllT.cons (no_f ho0) (AllT.cons (hb9) (AllT.cons (no_f hoc) (AllT.cons (no_f hoc) (AllT.cons (no_f hcn) (AllT.cons (hb9) (AllT.cons (no_f hi7) (AllT.cons (no_f he6) (AllT.cons (no_f hp) AllT.nil))))))))))))))))
                      | false =>
                        exact out (quad_of (p30_64 r s) (cw (hc hb9)) rfl rfl) (AllT.cons (no_f hwarm) (AllT.cons (hb9) (AllT.cons (no_f hon) (AllT.cons (hn0) (AllT.cons (no_f hc0) (AllT.cons (no_f ho0) (AllT.cons (no_f hc0) (AllT.cons (no_f ho0) (AllT.cons (hb9) (AllT.cons (no_f hoc) (AllT.cons (no_f hoc) (AllT.cons (no_f hcn) (AllT.cons (hb9) (AllT.cons (no_f hi7) (AllT.cons (no_f he6) (AllT.cons (no_f hp) AllT.nil))))))))))))))))
                  | false =>
                    cases hon : eqQ s.o s.n with
                    | true =>
                      cases hwarm : s.warm with
                      | true =>
                        exact out (quad_of (p30_65 r s) rfl rfl rfl) (AllT.cons (nn_t hwarm) (AllT.cons (hb9) (AllT.cons (no_f ho0) (AllT.cons (nn_t hon) (AllT.cons (no_f hn0) (AllT.cons (no_f hc0) (AllT.cons (no_f ho0) (AllT.cons (no_f hc0) (AllT.cons (no_f ho0) (AllT.cons (hb9) (AllT.cons (no_f hoc) (AllT.cons (no_f hoc) (AllT.cons (no_f hcn) (AllT.cons (hb9) (AllT.cons (no_f hi7) (AllT.cons (no_f he6) (AllT.cons (no_f hp) AllT.nil)))))))))))))))))
                      | false =>
                        exact out (quad_of (p30_66 r s) (cw (hc hb9)) rfl rfl) (AllT.cons (no_f hwarm) (AllT.cons (hb9) (AllT.cons (no_f ho0) (AllT.cons (nn_t hon) (AllT.cons (no_f hn0) (AllT.cons (no_f hc0) (AllT.cons (no_f ho0) (AllT.cons (no_f hc0) (AllT.cons (no_f ho0) (AllT.cons (hb9) (AllT.cons (no_f hoc) (AllT.cons (no_f hoc) (AllT.cons (no_f hcn) (AllT.cons (hb9) (AllT.cons (no_f hi7) (AllT.cons (no_f he6) (AllT.cons (no_f hp) AllT.nil)))))))))))))))))
                    | false =>
                      cases hwarm : s.warm with
                      | true =>
                        exact out (quad_of (p30_67 r s) rfl rfl rfl) (AllT.cons (nn_t hwarm) (AllT.cons (hb9) (AllT.cons (no_f hon) (AllT.cons (no_f hn0) (AllT.cons (no_f hc0) (AllT.cons (no_f ho0) (AllT.cons (no_f hc0) (AllT.cons (no_f ho0) (AllT.cons (hb9) (AllT.cons (no_f hoc) (AllT.cons (no_f hoc) (AllT.cons (no_f hcn) (AllT.cons (hb9) (AllT.cons (no_f hi7) (AllT.cons (no_f he6) (AllT.cons (no_f hp) AllT.nil))))))))))))))))
                      | false =>
                        exact out (quad_of (p30_68 r s) (cw (hc hb9)) rfl rfl) (AllT.cons (no_f hwarm) (AllT.cons (hb9) (AllT.cons (no_f hon) (AllT.cons (no_f hn0) (AllT.cons (no_f hc0) (AllT.cons (no_f ho0) (AllT.cons (no_f hc0) (AllT.cons (no_f ho0) (AllT.cons (hb9) (AllT.cons (no_f hoc) (AllT.cons (no_f hoc) (AllT.cons (no_f hcn) (AllT.cons (hb9) (AllT.cons (no_f hi7) (AllT.cons (no_f he6) (AllT.cons (no_f hp) AllT.nil))))))))))))))))
        | false =>
          cases hcn : eqQ s.c s.n with
          | true =>
            exact out (quad_of (p30_69 r s) rfl rfl rfl) (AllT.cons (no_f hb9) (AllT.cons (hcn) (AllT.cons (no_f hi7) (AllT.cons (no_f hb9) (AllT.cons (no_f hi7) (AllT.cons (no_f he6) (AllT.cons (no_f hp) AllT.nil)))))))
          | false =>
            cases hoc : eqQ s.o s.c with
            | true =>
              cases ho0 : zeroB s.o with
              | true =>
                exact out (quad_of (p30_70 r s) rfl rfl rfl) (AllT.cons (no_f hb9) (AllT.cons (ho0) (AllT.cons (hoc) (AllT.cons (no_f hcn) (AllT.cons (no_f hi7) (AllT.cons (no_f hb9) (AllT.cons (no_f hi7) (AllT.cons (no_f he6) (AllT.cons (no_f hp) AllT.nil)))))))))
              | false =>
                cases hn0 : zeroB s.n with
                | true =>
                  exact out (quad_of (p30_71 r s) rfl rfl rfl) (AllT.cons (no_f hb9) (AllT.cons (hn0) (AllT.cons (hoc) (AllT.cons (no_f ho0) (AllT.cons (hoc) (AllT.cons (no_f hcn) (AllT.cons (no_f hi7) (AllT.cons (no_f hb9) (AllT.cons (no_f hi7) (AllT.cons (no_f he6) (AllT.cons (no_f hp) AllT.nil)))))))))))
                | false =>
                  exact out (quad_of (p30_72 r s) rfl rfl rfl) (AllT.cons (no_f hb9) (AllT.cons (no_f hn0) (AllT.cons (hoc) (AllT.cons (no_f ho0) (AllT.cons (hoc) (AllT.cons (no_f hcn) (AllT.cons (no_f hi7) (AllT.cons (no_f hb9) (AllT.cons (no_f hi7) (AllT.cons (no_f he6) (AllT.cons (no_f hp) AllT.nil)))))))))))
            | false =>
              cases ho0 : zeroB s.o with
              | true =>
                cases hon : eqQ s.o s.n with
                | true =>
                  exact out (quad_of (p30_73 r s) rfl rfl rfl) (AllT.cons (no_f hb9) (AllT.cons (ho0) (AllT.cons (nn_t hon) (AllT.cons (nn_t ho0) (AllT.cons (nn_t ho0) (AllT.cons (no_f hi7) (AllT.cons (no_f hb9) (AllT.cons (no_f hoc) (AllT.cons (no_f hoc) (AllT.cons (no_f hcn) (AllT.cons (no_f hi7) (AllT.cons (no_f hb9) (AllT.cons (no_f hi7) (AllT.cons (no_f he6) (AllT.cons (no_f hp) AllT.nil)))))))))))))))
                | false =>
                  exact out (quad_of (p30_74 r s) rfl rfl rfl) (AllT.cons (no_f hb9) (AllT.cons (no_f hon) (AllT.cons (nn_t ho0) (AllT.cons (nn_t ho0) (AllT.cons (no_f hi7) (AllT.cons (no_f hb9) (AllT.cons (no_f hoc) (AllT.cons (no_f hoc) (AllT.cons (no_f hcn) (AllT.cons (no_f hi7) (AllT.cons (no_f hb9) (AllT.cons (no_f hi7) (AllT.cons (no_f he6) (AllT.cons (no_f hp) AllT.nil))))))))))))))
              | false =>
                cases hc0 : zeroB s.c with
                | true =>
                  cases hon : eqQ s.o s.n with
                  | true =>
                    exact out (quad_of (p30_75 r s) rfl rfl rfl) (AllT.cons (no_f hb9) (AllT.cons (no_f ho0) (AllT.cons (nn_t hon) (AllT.cons (nn_t hc0) (AllT.cons (no_f ho0) (AllT.cons (hc0) (AllT.cons (no_f ho0) (AllT.cons (no_f hi7) (AllT.cons (no_f hb9) (AllT.cons (no_f hoc) (AllT.cons (no_f hoc) (AllT.cons (no_f hcn) (AllT.cons (no_f hi7) (AllT.cons (no_f hb9) (AllT.cons (no_f hi7) (AllT.cons (no_f he6) (AllT.cons (no_f hp) AllT.nil)))))))))))))))))
                  | false =>
                    exact out (quad_of (p30_76 r s) rfl rfl rfl) (AllT.cons (no_f hb9) (AllT.cons (no_f hon) (AllT.cons (nn_t hc0) (AllT.cons (no_f ho0) (AllT.cons (hc0) (AllT.cons (no_f ho0) (AllT.cons (no_f hi7) (AllT.cons (no_f hb9) (AllT.cons (no_f hoc) (AllT.cons (no_f hoc) (AllT.cons (no_f hcn) (AllT.cons (no_f hi7) (AllT.cons (no_f hb9) (AllT.cons (no_f hi7) (AllT.cons (no_f he6) (AllT.cons (no_f hp) AllT.nil))))))))))))))))
                | false =>
                  cases hn0 : zeroB s.n with
                  | true =>
                    cases hon : eqQ s.o s.n with
                    | true =>
                      exact out (quad_of (p30_77 r s) rfl rfl rfl) (AllT.cons (no_f hb9) (AllT.cons (no_f ho0) (AllT.cons (nn_t hon) (AllT.cons (hn0) (AllT.cons (no_f hc0) (AllT.cons (no_f ho0) (AllT.cons (no_f hc0) (AllT.cons (no_f ho0) (AllT.cons (no_f hi7) (AllT.cons (no_f hb9) (AllT.cons (no_f hoc) (AllT.cons (no_f hoc) (AllT.cons (no_f hcn) (AllT.cons (no_f hi7) (AllT.cons (no_f hb9) (AllT.cons (no_f hi7) (AllT.cons (no_f he6) (AllT.cons (no_f hp) AllT.nil))))))))))))))))))
                    | false =>
                      exact out (quad_of (p30_78 r s) rfl rfl rfl) (AllT.cons (no_f hb9) (AllT.cons (no_f hon) (AllT.cons (hn0) (AllT.cons (no_f hc0) (AllT.cons (no_f ho0) (AllT.cons (no_f hc0) (AllT.cons (no_f ho0) (AllT.cons (no_f hi7) (AllT.cons (no_f hb9) (AllT.cons (no_f hoc) (AllT.cons (no_f hoc) (AllT.cons (no_f hcn) (AllT.cons (no_f hi7) (AllT.cons (no_f hb9) (AllT.cons (no_f hi7) (AllT.cons (no_f he6) (AllT.cons (no_f hp) AllT.nil)))))))))))))))))
                  | false =>
                    cases hon : eqQ s.o s.n with
                    | true =>
                      exact out (quad_of (p30_79 r s) rfl rfl rfl) (AllT.cons (no_f hb9) (AllT.cons (no_f ho0) (AllT.cons (nn_t hon) (AllT.cons (no_f hn0) (AllT.cons (no_f hc0) (AllT.cons (no_f ho0) (AllT.cons (no_f hc0) (AllT.cons (no_f ho0) (AllT.cons (no_f hi7) (AllT.cons (no_f hb9) (AllT.cons (no_f hoc) (AllT.cons (no_f hoc) (AllT.cons (no_f hcn) (AllT.cons (no_f hi7) (AllT.cons (no_f hb9) (AllT.cons (no_f hi7) (AllT.cons (no_f he6) (AllT.cons (no_f hp) AllT.nil))))))))))))))))))
                    | false =>
                      exact out (quad_of (p30_80 r s) rfl rfl rfl) (AllT.cons (no_f hb9) (AllT.cons (no_f hon) (AllT.cons (no_f hn0) (AllT.cons (no_f hc0) (AllT.cons (no_f ho0) (AllT.cons (no_f hc0) (AllT.cons (no_f ho0) (AllT.cons (no_f hi7) (AllT.cons (no_f hb9) (AllT.cons (no_f hoc) (AllT.cons (no_f hoc) (AllT.cons (no_f hcn) (AllT.cons (no_f hi7) (AllT.cons (no_f hb9) (AllT.cons (no_f hi7) (AllT.cons (no_f he6) (AllT.cons (no_f hp) AllT.nil)))))))))))))))))
end
end Go.Proofs.Sx
