/- A sponge is fed; bytes are cut and copied. -/
import Derived.Test.YtejgaeadplnfgaaHaKr2
namespace Go.Proofs.Sx
open Go
set_option linter.unusedVariables false
/-! a sponge is fed -/
section
variable (b x m : By) (a : Nat → W) (i n : Nat)
noncomputable def wrIn (c : C) (y p : By) (ws : List W) : St := ⟨tmOf [.one (.pt 0 0), .one c] 0 (T.full 8), [.own 61 (toC ws ++ [.dy 1]), .dyn 5 y 135, .rd p 3000], false, 37, 3, [], []⟩
noncomputable def wrS (p m : By) (ws : List W) (ds : List Bool) : St := ⟨slots [(0, .one (.pt 0 0))], [.own 61 (toC ws ++ [.dy 3]), .dead, .rd p 3000, .dyn 5 m 3135], true, 37, 3, [], ds⟩
def wrk : List (Nat × Bool) := [(0, false)]
theorem k23a : sxp Mn (takeC 1 (rowOf Try.prog 23)) 3 [0, 1, 2, 3] wrk (wrIn (.vw 2 i n) x b (lst a 0 25)) = some (.normal, wrS b (x ++ (b.drop i).take n) (lst a 0 25) [], []) := by kernel_rfl
theorem k23r : sxp Mn [inLoop (nthC (rowOf Try.prog 23) 1)] 3 [0, 1, 2, 4] wrk (wrS b m (lst a 0 25) [true]) = some (.normal, wrS b ((m.drop (0 + 136)).take (m.length - 136)) (lst (nthW (absK (lst a 0 25) (byteP m 0))) 0 25) [], [Nat.ble 136 m.length, true, Nat.ble 136 m.length, Nat.ble 136 m.length]) := by kernel_rfl
theorem k23x : sxp Mn [inLoop (nthC (rowOf Try.prog 23) 1)] 3 [0, 1, 2, 3] wrk (wrS b m (lst a 0 25) [false]) = some (.exit (blkN (nthC (rowOf Try.prog 23) 1)), wrS b m (lst a 0 25) [], [!(Nat.ble 136 m.length)]) := by kernel_rfl
end
theorem code23 : hasCode Try.prog 23 = true := by kernel_rfl
theorem tmps23 : Nat.beq (fnOf Try.prog 23).ntmps 37 = true := by kernel_rfl
theorem len23 : Nat.blt 1 (lenL (rowOf Try.prog 23)) = true := by kernel_rfl
theorem at23 : nthC (rowOf Try.prog 23) 1 = .block (blkN (nthC (rowOf Try.prog 23) 1)) (.loop (inLoop (nthC (rowOf Try.prog 23) 1))) := by kernel_rfl
theorem drop23 : dropC 2 (rowOf Try.prog 23) = [] := by kernel_rfl
theorem res23 : (fnOf Try.prog 23).results.toList = [] := by kernel_rfl
/-- so many blocks more -/
def kW (ws : List W) (m : By) : Nat → List W
  | 0 => ws
  | k + 1 => absK (kW ws m k) (byteP m (0 + 136 * k))
theorem kW_len {ws : List W} (h : ws.length = 25) (m : By) : ∀ k, (kW ws m k).length = 25
  | 0 => h
  | k + 1 => absK_len _ (kW_len h m k)
theorem runs23 (ws : List W) (hl : ws.length = 25) (y p : By) (i n : Nat) (hy : y.length ≤ 135) (hp : p.length ≤ 3000) :
    Runs Try.prog 23 [.one (.pt 0 0), .one (.vw 2 i n)] [.own 61 (toC ws ++ [.dy 1]), .dyn 5 y 135, .rd p 3000] .un
      [.own 61 (toC (kW ws (y ++ (p.drop i).take n) ((y ++ (p.drop i).take n).length / 136)) ++ [.dy 3]), .dead, .rd p 3000, .dyn 5 ((y ++ (p.drop i).take n).drop (136 * ((y ++ (p.drop i).take n).length / 136))) 135] true := by
  have A : DoesK Try.prog 3 (takeC 1 (rowOf Try.prog 23)) (wrIn (.vw 2 i n) y p ws) .normal (wrS p (y ++ (p.drop i).take n) ws []) := by
    have f := k23a p y (nthW ws) i n
    simp only [← eq_lst hl] at f
    exact sxp_is knownn f AllT.nil
  generalize hm : y ++ (p.drop i).take n = m at A
  have eK := fun k => eq_lst (kW_len hl m k)
  have A' : DoesK Try.prog 3 (takeC 1 (rowOf Try.prog 23)) (wrIn (.vw 2 i n) y p ws) .normal (wrS p (m.drop (136 * 0)) (kW ws m 0) []) := by
    rw [show m.drop (136 * 0) = m by simp]
    exact A
  have R : ∀ k, k < m.length / 136 → DoesK Try.prog 3 [inLoop (nthC (rowOf Try.prog 23) 1)] (wrS p (m.drop (136 * k)) (kW ws m k) []) .normal (wrS p (m.drop (136 * (k + 1))) (kW ws m (k + 1)) []) := by
    intro k hk
    have hdl : (m.drop (136 * k)).length = m.length - 136 * k := List.length_drop
    have f := k23r p (m.drop (136 * k)) (nthW (kW ws m k))
    simp only [← eK] at f
    rw [← eq_lst (absK_len _ (kW_len hl m k))] at f
    have e1 : absK (kW ws m k) (byteP (m.drop (136 * k)) 0) = kW ws m (k + 1) := by
      show _ = absK (kW ws m k) (byteP m (0 + 136 * k))
      refine absK_ext _ fun j _ => ?_
      show BitVec.setWidth 64 _ = BitVec.setWidth 64 _
      rw [List.getD_eq_getElem?_getD, List.getD_eq_getElem?_getD, List.getElem?_drop]
      simp only [Nat.zero_add]
    have e2 : ((m.drop (136 * k)).drop (0 + 136)).take ((m.drop (136 * k)).length - 136) = m.drop (136 * (k + 1)) := by
      rw [List.drop_drop, hdl, List.take_of_length_le (by rw [List.length_drop]; omega)]
      congr 1
    rw [e1, e2] at f
    have h1 : Nat.ble 136 (m.drop (136 * k)).length = true := Nat.ble_eq_true_of_le (by omega)
    exact sxp_is knownn f (AllT.cons h1 (AllT.cons rfl (AllT.cons h1 (AllT.cons h1 AllT.nil))))
  have X : DoesK Try.prog 3 [inLoop (nthC (rowOf Try.prog 23) 1)] (wrS p (m.drop (136 * (m.length / 136))) (kW ws m (m.length / 136)) []) (.exit (blkN (nthC (rowOf Try.prog 23) 1))) (wrS p (m.drop (136 * (m.length / 136))) (kW ws m (m.length / 136)) []) := by
    have hdl : (m.drop (136 * (m.length / 136))).length = m.length - 136 * (m.length / 136) := List.length_drop
    have f := k23x p (m.drop (136 * (m.length / 136))) (nthW (kW ws m (m.length / 136)))
    simp only [← eK] at f
    refine sxp_is knownn f (AllT.cons ?_ AllT.nil)
    cases hq : Nat.ble 136 (m.drop (136 * (m.length / 136))).length with
    | false => rfl
    | true => have := Nat.le_of_ble_eq_true hq; omega
  have all : DoesK Try.prog 3 (rowOf Try.prog 23) (wrIn (.vw 2 i n) y p ws) .normal (wrS p (m.drop (136 * (m.length / 136))) (kW ws m (m.length / 136)) []) :=
    DoesK.three (N := m.length / 136) (s := fun k => wrS p (m.drop (136 * k)) (kW ws m k) []) (Nat.le_of_ble_eq_true len23) at23 A' R X (by rw [drop23]; exact DoesK.same _)
  have all2 := DoesK.rebd (r := 3) (bd' := 135) all rfl (by rw [List.length_drop]; omega)
  exact runsK_of (vs := [.one (.pt 0 0), .one (.vw 2 i n)]) (hp := [.own 61 (toC ws ++ [C.dy 1]), .dyn 5 y 135, .rd p 3000]) code23 (.inl rfl) (n := 37) (by rw [Nat.eq_of_beq_eq_true tmps23]; rfl) all2 (by rw [res23]; rfl)
theorem Runs.whole2 {P : Program} {f : FuncId} {v0 : V} {hp hp1 : List Reg} {v : V} {chg : Bool} {r bd : Nat} {R : Reg} {b : By} (hat : hp[r]? = some R) (hb : R.bytes = some (b, bd)) (h : Runs P f [v0, .one (.vw r 0 b.length)] hp v hp1 chg) : Runs P f [v0, .one (.dy r)] hp v hp1 chg := by
  intro B w0 E us w hvs hh
  match us, hvs with
  | [u0, u], ⟨h0, hu, _⟩ =>
    obtain ⟨A, K, g1, g2, g3, g4, g5⟩ := (hh.at_ r R hat).bytes hb
    have hu' : E.reg[r]? = some (.sv u) := hu
    rw [g1] at hu'
    cases hu'
    refine h B w0 E _ w ⟨h0, ⟨A, b.length, K, A, K, g1, rfl, fun hpos => ?_, by omega, g3, g4⟩, trivial⟩ hh
    obtain ⟨ad, e1, _⟩ := g5 0 b[0] (List.getElem?_eq_getElem hpos)
    exact ⟨ad, e1, by rw [e1]; simp [Addr.add]⟩
def fedW (ws : List W) (m : By) : List W := kW ws m (m.length / 136)
def fedY (m : By) : By := m.drop (136 * (m.length / 136))
noncomputable def feedV (ws : List W) (m p : By) : V × List Reg × Bool × Option Bool :=
  (.un, [.own 61 (toC (lst (nthW (fedW ws m)) 0 25) ++ [.dy 3]), .dead, .rd p 3000, .dyn 5 (fedY m) 135], true, none)
noncomputable def feedL : Tab := fun vs hp =>
  match vs, hp with
  | [.one (.pt 0 0), .one c], [.own 61 cs, .dyn 5 y 135, .rd p 3000] => match splitW 25 cs, c with
    | some (ws, [.dy 1]), .vw 2 i n => some (feedV ws (y ++ (p.drop i).take n) p)
    | some (ws, [.dy 1]), .dy 2 => some (feedV ws (y ++ p) p)
    | _, _ => none
  | _, _ => none
theorem kfeedL : Tells Try.prog 23 feedL := by
  intro vs hp v hp' chg ob h _
  have go : ∀ (ws : List W) (y p : By) (i n : Nat), ws.length = 25 → Runs Try.prog 23 [.one (.pt 0 0), .one (.vw 2 i n)] [.own 61 (toC ws ++ [.dy 1]), .dyn 5 y 135, .rd p 3000] .un [.own 61 (toC (fedW ws (y ++ (p.drop i).take n)) ++ [.dy 3]), .dead, .rd p 3000, .dyn 5 (fedY (y ++ (p.drop i).take n)) 135] true := by
    intro ws y p i n hl
    by_cases hy : y.length ≤ 135
    · by_cases hp : p.length ≤ 3000
      · exact runs23 ws hl y p i n hy hp
      · exact fun B w0 E us w hvs hh => absurd (let ⟨_, _, _, h2, _⟩ := hh.at_ 2 _ rfl; h2) hp
    · exact fun B w0 E us w hvs hh => absurd (let ⟨_, _, _, h2⟩ := hh.at_ 1 _ rfl; h2) hy
  unfold feedL at h
  split at h
  · rename_i c cs y p
    split at h
    · rename_i ws i n hs
      obtain ⟨rfl, hl⟩ := splitW_is hs
      cases h
      rw [← eq_lst (show (fedW ws _).length = 25 from kW_len hl _ _)]
      exact go ws y p i n hl
    · rename_i ws hs
      obtain ⟨rfl, hl⟩ := splitW_is hs
      cases h
      rw [← eq_lst (show (fedW ws _).length = 25 from kW_len hl _ _)]
      have := go ws y p 0 p.length hl
      rw [show (p.drop 0).take p.length = p by simp] at this
      exact Runs.whole2 (R := .rd p 3000) rfl rfl this
    · cases h
  · cases h
noncomputable def feedPk (vs : List V) (hp : List Reg) : Option (List (Nat × Nat × Nat)) :=
  match vs with
  | [.one (.pt r _), .one c] => match regAt r hp with
    | some (.own _ cs) => match tailN cs, c with
      | some q, .dy q2 => some [(r, 0, 0), (q, 4, 135), (q2, 1, 3000)]
      | some q, .vw q2 _ _ => some [(r, 0, 0), (q, 4, 135), (q2, 1, 3000)]
      | _, _ => none
    | _ => none
  | _ => none
noncomputable def feedT : Tab := locT feedPk feedL
theorem kfeedT : Tells Try.prog 23 feedT := locT_tells kfeedL

/-! bytes cut, in new memory -/
noncomputable def runR (r : Res) : Option (V × List Reg × List Bool) :=
  match r with
  | some (v, hp, _, ob, _) => some (v, hp, ob)
  | none => none
theorem runR_is {M : Kn} (hM : Known Try.prog M) {f : FuncId} {vs : List V} {hp hp1 : List Reg} {ds ob : List Bool} {v : V} (h : runR (callD M f vs hp ds) = some (v, hp1, ob)) (hob : AllT ob) : ∃ chg, Runs Try.prog f vs hp v hp1 chg := by
  unfold runR at h
  split at h
  · rename_i v1 hp2 c1 ob1 ds1 hc
    cases h
    exact ⟨c1, fun B w0 E us w hv hh => (callF_is (sx_sound fol hM _) hM hc).2.2 hob E B w0 w us hv hh⟩
  · cases h
/-- A region's bound that is another one. -/
theorem HR.bound {B : Nat → Prop} {w0 w : World} {E : Env} {b : By} {bd bd' : Nat} {l : List Reg} (h : HR B w0 E (.rd b bd :: l) w) (hb : b.length ≤ bd') : HR B w0 E (.rd b bd' :: l) w := by
  have conv : ∀ {r : Nat} {R : Reg}, (.rd b bd' :: l : List Reg)[r]? = some R → ∃ R0, (.rd b bd :: l : List Reg)[r]? = some R0 ∧ R0.isOwn = R.isOwn ∧ R0.live = R.live ∧ (R = .rd b bd' ∧ r = 0 ∨ R0 = R) := by
    intro r R hR
    cases r with
    | zero => simp at hR; subst hR; exact ⟨_, rfl, rfl, rfl, .inl ⟨rfl, rfl⟩⟩
    | succ r => exact ⟨R, hR, rfl, rfl, .inr rfl⟩
  refine ⟨h.len, fun r R hR => ?_, fun r r' R R' x x' g hR ho hR' hl hne => ?_, fun r R x g hR ho => ?_, h.lt, h.ok, h.os, h.tape, h.output, h.size, h.keep⟩
  · obtain ⟨R0, h1, _, _, h4⟩ := conv hR
    rcases h4 with ⟨rfl, rfl⟩ | rfl
    · obtain ⟨A, K, h1, _, h3⟩ := h.at_ 0 _ rfl
      exact ⟨A, K, h1, hb, h3⟩
    · exact h.at_ r _ h1
  · obtain ⟨R0, h1, h2, _, _⟩ := conv hR
    obtain ⟨R0', h1', _, h3', _⟩ := conv hR'
    exact h.sep r r' R0 R0' x x' g h1 (by rw [h2]; exact ho) h1' (by rw [h3']; exact hl) hne
  · obtain ⟨R0, h1, h2, _, _⟩ := conv hR
    exact h.mine r R0 x g h1 (by rw [h2]; exact ho)
theorem Runs.bound {P : Program} {f : FuncId} {vs : List V} {b : By} {bd bd' : Nat} {v : V} {l : List Reg} {chg : Bool} (h : Runs P f vs [.rd b bd] v (.rd b bd :: l) chg) (hb : b.length ≤ bd) (hb' : b.length ≤ bd') : Runs P f vs [.rd b bd'] v (.rd b bd' :: l) chg :=
  fun B w0 E us w hvs hh => Calls.mono (h B w0 E us w hvs (hh.bound hb)) fun e w1 ⟨E1, u, hE, he, hu, hh1, hc⟩ => ⟨E1, u, hE, he, hu, hh1.bound hb', hc⟩
section
variable (b : By) (n : Nat)
def mosts : List Nat := [200, 300, 3000]
def bigN : Nat := 9223372036854775807
noncomputable def twinS (f : FuncId) (more : List V) (m : Nat) : Option (V × List Reg × List Bool) := runR (callD M0 f (.one (.vw 0 0 n) :: more) [.rd b m] [false])
noncomputable def twinG (f : FuncId) (more : List V) : Option (V × List Reg × List Bool) := runR (callD M0 f (.one (.vw 0 0 n) :: more) [.rd b 9223372036854775807] [true])
theorem f22s : mosts.map (fun m => twinS b n 22 [.one (.it m)] m) = mosts.map (fun m => some (.one (.dy 2), [.rd b m, .dead, .dyn 5 ((b.drop 0).take n) m], [!(Nat.blt m n)])) := by kernel_rfl
theorem f22l : mosts.map (fun m => twinG b n 22 [.one (.it m)]) = mosts.map (fun m => some (.one (.dy 2), [.rd b 9223372036854775807, .dead, .dyn 5 ((b.drop 0).take m) m], [Nat.ble m n, Nat.blt m n])) := by kernel_rfl
theorem f15s : twinS b n 15 [] 3000 = some (.one (.dy 2), [.rd b 3000, .dead, .dyn 5 ((b.drop 0).take n) 3000], [!(Nat.blt 3000 n)]) := by kernel_rfl
theorem f15l : twinG b n 15 [] = some (.one (.dy 2), [.rd b 9223372036854775807, .dead, .dyn 5 ((b.drop 0).take 3000) 3000], [Nat.ble 3000 n, Nat.blt 3000 n]) := by kernel_rfl
end
theorem twin_runs {f : FuncId} {more : List V} {m : Nat} (b : By) (hb : b.length ≤ 9223372036854775807)
    (hs : twinS b b.length f more m = some (.one (.dy 2), [.rd b m, .dead, .dyn 5 ((b.drop 0).take b.length) m], [!(Nat.blt m b.length)]))
    (hl : twinG b b.length f more = some (.one (.dy 2), [.rd b 9223372036854775807, .dead, .dyn 5 ((b.drop 0).take m) m], [Nat.ble m b.length, Nat.blt m b.length])) :
    ∃ chg, Runs Try.prog f (.one (.vw 0 0 b.length) :: more) [.rd b 9223372036854775807] (.one (.dy 2)) [.rd b 9223372036854775807, .dead, .dyn 5 (b.take m) m] chg := by
  by_cases h : b.length ≤ m
  · have h1 : (!(Nat.blt m b.length)) = true := by
      cases hq : Nat.blt m b.length with
      | false => rfl
      | true => have := Nat.le_of_ble_eq_true hq; omega
    obtain ⟨chg, hr⟩ := runR_is known_none hs (AllT.cons h1 AllT.nil)
    rw [show (b.drop 0).take b.length = b.take m by rw [List.drop_zero, List.take_of_length_le (Nat.le_refl _), List.take_of_length_le h]] at hr
    exact ⟨chg, hr.bound h hb⟩
  · obtain ⟨chg, hr⟩ := runR_is known_none hl (AllT.cons (Nat.ble_eq_true_of_le (by omega)) (AllT.cons (Nat.ble_eq_true_of_le (by omega)) AllT.nil))
    rw [List.drop_zero] at hr
    exact ⟨chg, hr⟩
noncomputable def cutV (b : By) (m : Nat) : V × List Reg × Bool × Option Bool := (.one (.dy 2), [.rd b 9223372036854775807, .dead, .dyn 5 (b.take m) m], true, none)
noncomputable def twinL : Tab := fun vs hp =>
  match vs, hp with
  | [.one c, .one (.it m)], [.rd b 9223372036854775807] => match (match m with
      | 200 => true
      | 300 => true
      | 3000 => true
      | _ => false), c with
    | true, .dy 0 => some (cutV b m)
    | true, .vw 0 0 n => match cutV b m with
      | (v, hp, c, _) => some (v, hp, c, some (Nat.beq n b.length))
    | _, _ => none
  | _, _ => none
theorem ch_true {P : Program} {f : FuncId} {vs : List V} {hp hp1 : List Reg} {v : V} {chg : Bool} (h : Runs P f vs hp v hp1 chg) : Runs P f vs hp v hp1 true :=
  fun B w0 E us w hvs hh => Calls.mono (h B w0 E us w hvs hh) fun e w1 ⟨E1, u, hE, he, hu, hh1, hc⟩ => ⟨E1, u, hE, he, hu, hh1, fun h => by cases h⟩
theorem ktwinL : Tells Try.prog 22 twinL := by
  intro vs hp v hp' chg ob h hob
  have go : ∀ (b : By) (m : Nat), m ∈ mosts → Runs Try.prog 22 [.one (.vw 0 0 b.length), .one (.it m)] [.rd b 9223372036854775807] (.one (.dy 2)) [.rd b 9223372036854775807, .dead, .dyn 5 (b.take m) m] true := by
    intro b m hm
    by_cases hb : b.length ≤ 9223372036854775807
    · obtain ⟨chg, hr⟩ := twin_runs b hb (map_at (f22s b b.length) hm) (map_at (f22l b b.length) hm)
      exact ch_true hr
    · exact fun B w0 E us w hvs hh => absurd (let ⟨_, _, _, h2, _⟩ := hh.at_ 0 _ rfl; h2) hb
  have mem : ∀ {m : Nat}, (match m with
      | 200 => true
      | 300 => true
      | 3000 => true
      | _ => false) = true → m ∈ mosts := by
    intro m h
    split at h
    · simp [mosts]
    · simp [mosts]
    · simp [mosts]
    · cases h
  unfold twinL at h
  split at h
  · rename_i c m b
    split at h
    · rename_i hm
      cases h
      exact Runs.whole (R := .rd b 9223372036854775807) rfl rfl (go b m (mem hm))
    · rename_i n hm
      cases h
      have e := Nat.eq_of_beq_eq_true (hob _ rfl)
      subst e
      exact go b m (mem hm)
    · cases h
  · cases h
noncomputable def fewL : Tab := fun vs hp =>
  match vs, hp with
  | [.one c], [.rd b 9223372036854775807] => match c with
    | .dy 0 => some (cutV b 3000)
    | .vw 0 0 n => match cutV b 3000 with
      | (v, hp, c, _) => some (v, hp, c, some (Nat.beq n b.length))
    | _ => none
  | _, _ => none
theorem kfewL : Tells Try.prog 15 fewL := by
  intro vs hp v hp' chg ob h hob
  have go : ∀ (b : By), Runs Try.prog 15 [.one (.vw 0 0 b.length)] [.rd b 9223372036854775807] (.one (.dy 2)) [.rd b 9223372036854775807, .dead, .dyn 5 (b.take 3000) 3000] true := by
    intro b
    by_cases hb : b.length ≤ 9223372036854775807
    · obtain ⟨chg, hr⟩ := twin_runs b hb (f15s b b.length) (f15l b b.length)
      exact ch_true hr
    · exact fun B w0 E us w hvs hh => absurd (let ⟨_, _, _, h2, _⟩ := hh.at_ 0 _ rfl; h2) hb
  unfold fewL at h
  split at h
  · rename_i c b
    split at h
    · cases h
      exact Runs.whole (R := .rd b 9223372036854775807) rfl rfl (go b)
    · cases h
      have e := Nat.eq_of_beq_eq_true (hob _ rfl)
      subst e
      exact go b
    · cases h
  · cases h
noncomputable def twinT : Tab := locT (rdPk 9223372036854775807) twinL
theorem ktwinT : Tells Try.prog 22 twinT := locT_tells ktwinL
noncomputable def fewT : Tab := locT (rdPk 9223372036854775807) fewL
theorem kfewT : Tells Try.prog 15 fewT := locT_tells kfewL
end Go.Proofs.Sx
