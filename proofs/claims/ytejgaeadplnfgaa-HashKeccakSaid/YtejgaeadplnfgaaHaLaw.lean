/- A law that is handed bytes: the bytes as they came in; the laws on SHA-256 and RIPEMD-160: their functions return true. -/
import Derived.Test.YtejgaeadplnfgaaHaRpM
import Derived.Test.YtejgaeadplnfgaaHaWakes
import Derived.Test.YtejgaeadplnfgaaHaBlakeRow
namespace Go.Proofs.Sx
open Go Go.RowKit

/-- What the walk is told of a slice of integers that came in: it is nil; or it leads to a row of 'cap' cells, the numbers 'zs', each fitting its kind. -/
def IsRow (k : IntKind) (w : World) (a : Option Addr) (len cap : Nat) (zs : List Int) : Prop :=
  (a = none ∧ len = 0 ∧ cap = 0 ∧ zs = []) ∨
  ∃ x, a = some x ∧ len ≤ cap ∧ cap ≤ maxLen ∧ zs.length = cap ∧ (∀ i, i < zs.length → w.cell? (x.add i) = some (.int k (zs.getD i 0))) ∧ ∀ n ∈ zs, (Lit.int k n).wf = true
theorem wf8 {z : Int} (h : (Lit.int .u8 z).wf = true) : 0 ≤ z ∧ z ≤ 255 := by simpa [Lit.wf, IntKind.min, IntKind.max, IntKind.signed, IntKind.bits] using h
theorem B8_of {z : Int} (h : (Lit.int .u8 z).wf = true) : Value.int .u8 z = B8 (BitVec.ofInt 8 z) := by
  have := wf8 h
  show Value.int .u8 z = .int .u8 _
  rw [BitVec.toNat_ofInt]
  congr 1
  omega
/-- Bytes that came in: a region, and the value, a view of it all. -/
theorem row_open {w : World} {a : Option Addr} {len cap : Nat} {z : List Int} (h : IsRow .u8 w a len cap z) : ∃ (b : By) (u : Value), b.length = len ∧ len ≤ maxLen ∧ (∀ bd, len ≤ bd → HR (fun _ => False) w ⟨[.sv u]⟩ [.rd b bd] w) ∧ (C.vw 0 0 b.length).is ⟨[.sv u]⟩ (.slice a len cap) := by
  have none_ : ∀ {w : World} bd, HR (fun _ => False) w ⟨[.sv (.slice none 0 0)]⟩ [.rd [] bd] w := fun bd => HR.alone ⟨none, 0, rfl, by simp, by simp, by simp [maxLen], fun j y hj => by simp at hj⟩ fun g hg => by cases hg
  rcases h with ⟨rfl, rfl, rfl, rfl⟩ | ⟨x, rfl, hlen, hcap, hz, hcell, hwf⟩
  · exact ⟨[], .slice none 0 0, rfl, Nat.zero_le _, fun bd _ => none_ bd, none, 0, 0, none, 0, rfl, rfl, fun h => absurd h (by simp), by simp, by simp, by simp [maxLen]⟩
  · by_cases h0 : len = 0
    · subst h0
      exact ⟨[], .slice none 0 0, rfl, Nat.zero_le _, fun bd _ => none_ bd, none, 0, 0, some x, cap, rfl, rfl, fun h => absurd h (by simp), by simp, by simp, hcap⟩
    · refine ⟨(z.take len).map (BitVec.ofInt 8), .slice (some x) len cap, ?_, Nat.le_trans hlen hcap, fun bd hbd => ?_, ?_⟩
      · rw [List.length_map, List.length_take]; omega
      · have hl : ((z.take len).map (BitVec.ofInt 8)).length = len := by rw [List.length_map, List.length_take]; omega
        refine HR.alone ⟨some x, cap, by rw [hl]; rfl, by rw [hl]; exact hbd, by rw [hl]; exact hlen, hcap, fun j y hj => ⟨x, rfl, ?_⟩⟩ fun g hg => ?_
        · have hj' : j < len := by
            rcases Nat.lt_or_ge j len with h | h
            · exact h
            · rw [List.getElem?_eq_none (by rw [hl]; exact h)] at hj; cases hj
          have hjz : j < z.length := by omega
          rw [List.getElem?_map, List.getElem?_take_of_lt hj', List.getElem?_eq_getElem hjz, Option.map_some] at hj
          cases hj
          have hw := hwf z[j] (List.getElem_mem hjz)
          rw [hcell j hjz, List.getD_eq_getElem?_getD, List.getElem?_eq_getElem hjz]
          show some (Value.int .u8 z[j]) = _
          rw [B8_of hw]
        · have := World.block_lt_of_cell? w _ (hcell 0 (by omega))
          have e : (x.add 0).block = x.block := by unfold Addr.add; split <;> rfl
          rw [e] at this
          have hg' : some x.block = some g := hg
          cases hg'
          exact this
      · have hl : ((z.take len).map (BitVec.ofInt 8)).length = len := by rw [List.length_map, List.length_take]; omega
        rw [hl]
        refine ⟨some x, len, cap, some x, cap, rfl, rfl, fun _ => ⟨x, rfl, ?_⟩, by omega, hlen, hcap⟩
        congr 1
/-- A function that is handed bytes and returns true: memory has only grown. -/
theorem calls_rd {f : FuncId} (h : ∀ b : By, b.length ≤ maxLen → ∃ bd hp1 chg, b.length ≤ bd ∧ Runs Try.prog f [.one (.vw 0 0 b.length)] [.rd b bd] (.one (.bl true)) hp1 chg) {w : World} {a : Option Addr} {len cap : Nat} {z : List Int} (hr : IsRow .u8 w a len cap z) :
    Calls Try.prog f #[.slice a len cap] w fun e w' => e = .returned (.bool true) ∧ Below w.heap.size w w' := by
  obtain ⟨b, u, hl, hm, hh, hv⟩ := row_open hr
  obtain ⟨bd, hp1, chg, hbd, hrun⟩ := h b (by omega)
  refine Calls.mono (hrun (fun _ => False) w ⟨[.sv u]⟩ [.slice a len cap] w ⟨hv, trivial⟩ (hh bd (by omega))) fun e w1 ⟨E1, y, _, he, hy, hh1, _⟩ => ?_
  have hg := hh1.grew
  have hy' : y = .bool true := hy
  subst hy'
  exact ⟨he, hg.os, hg.tape, hg.output, hg.size, fun k hk => hg.block k hk (by simp)⟩

/-! tables -/
/-- A hash: n bytes out of bytes. -/
noncomputable def hashM (g : By → By) (n : Nat) (vs : List V) (hp : List Reg) : Option (V × List Reg × Bool × Option Bool) :=
  match vs with
  | [.one (.dy r)] => match regAt r hp with
    | some R => match R.bytes with
      | some (b, _) => some (.ag (toC8 (lst8 (nthB8 (g b)) 0 n)), hp, false, some (Nat.ble b.length 3000))
      | none => none
    | none => none
  | _ => none
theorem khash {f : FuncId} {g : By → By} {n : Nat} (hn : ∀ b, (g b).length = n) (hf : ∀ b : By, b.length ≤ 3000 → ∃ hp1, Runs Try.prog f [.one (.dy 0)] [.rd b 3000] (.ag (toC8 (g b))) hp1 true) :
    ∀ vs hp v hp' chg ob, hashM g n vs hp = some (v, hp', chg, ob) → (∀ x, ob = some x → x = true) → Runs Try.prog f vs hp v hp' chg := by
  intro vs hp v hp' chg ob h hob
  unfold hashM at h
  split at h
  · split at h
    · rename_i R hR
      split at h
      · rename_i b bd hb
        cases h
        rw [regAt_eq] at hR
        have hle := Nat.le_of_ble_eq_true (hob _ rfl)
        obtain ⟨hp1, hr⟩ := hf b hle
        rw [← eq_lst8 (hn b)]
        exact Runs.read hr rfl (by simp only [V.plain, toC8_plain]) hR hb hle
      · cases h
    · cases h
  · cases h
def shaG (b : By) : By := shaB (padL b false)
def ripG' (b : By) : By := ripH (padL b true)
theorem shaG_len (b : By) : (shaG b).length = 32 := outsS_len _ 32
theorem ripG_len (b : By) : (ripG' b).length = 20 := outsR_len _ 20
noncomputable def Ml : Kn := addK (addK (addK (addK (addK M0 17 (hashM shaG 32)) 18 (hashM shaG 32)) 19 (hashM ripG' 20)) 20 (hashM ripG' 20)) 13 trueM
theorem knownl : Known Try.prog Ml :=
  known_add (known_add (known_add (known_add (known_add known_none (khash shaG_len runs17)) (khash shaG_len runs18)) (khash ripG_len runs19)) (khash ripG_len runs20)) (ktrue runs13)
def eqB8 : By → By → Bool
  | x :: l, y :: l' => (x == y) && eqB8 l l'
  | _, _ => true
theorem eqB8_self : ∀ l : By, eqB8 l l = true
  | [] => rfl
  | x :: l => by simp [eqB8, eqB8_self l]
section
variable (b : By) (n : Nat)
def cutS (b : By) (n : Nat) : By := (b.drop 0).take n
theorem f6s : outV (callD Ml 6 [.one (.vw 0 0 n)] [.rd b 3000] [false, false, true]) = some (.one (.bl true), [eqB8 (lst8 (nthB8 (shaG (cutS b n))) 0 32) (lst8 (nthB8 (shaG (cutS b n))) 0 32), Nat.ble (cutS b n).length 3000, !(Nat.blt 3000 n), Nat.ble (cutS b n).length 3000, !(Nat.blt 3000 n)]) := by kernel_rfl
theorem f6l : outV (callD Ml 6 [.one (.vw 0 0 n)] [.rd b 9223372036854775807] [true, true, true]) = some (.one (.bl true), [eqB8 (lst8 (nthB8 (shaG (cutS b 3000))) 0 32) (lst8 (nthB8 (shaG (cutS b 3000))) 0 32), Nat.ble (cutS b 3000).length 3000, Nat.ble 3000 n, Nat.blt 3000 n, Nat.ble (cutS b 3000).length 3000, Nat.ble 3000 n, Nat.blt 3000 n]) := by kernel_rfl
theorem f7s : outV (callD Ml 7 [.one (.vw 0 0 n)] [.rd b 3000] [false, false, true]) = some (.one (.bl true), [eqB8 (lst8 (nthB8 (ripG' (cutS b n))) 0 20) (lst8 (nthB8 (ripG' (cutS b n))) 0 20), Nat.ble (cutS b n).length 3000, !(Nat.blt 3000 n), Nat.ble (cutS b n).length 3000, !(Nat.blt 3000 n)]) := by kernel_rfl
theorem f7l : outV (callD Ml 7 [.one (.vw 0 0 n)] [.rd b 9223372036854775807] [true, true, true]) = some (.one (.bl true), [eqB8 (lst8 (nthB8 (ripG' (cutS b 3000))) 0 20) (lst8 (nthB8 (ripG' (cutS b 3000))) 0 20), Nat.ble (cutS b 3000).length 3000, Nat.ble 3000 n, Nat.blt 3000 n, Nat.ble (cutS b 3000).length 3000, Nat.ble 3000 n, Nat.blt 3000 n]) := by kernel_rfl
end
theorem runs_out {M : Kn} (hM : Known Try.prog M) {f : FuncId} {vs : List V} {hp : List Reg} {ds ob : List Bool} {v : V} (h : outV (callD M f vs hp ds) = some (v, ob)) (hob : AllT ob) : ∃ hp1 chg, Runs Try.prog f vs hp v hp1 chg := by
  unfold outV at h
  split at h
  · rename_i v1 hp1 c1 ob1 ds1 hc
    cases h
    exact ⟨hp1, c1, fun B w0 E us w hv hh => (callF_is (sx_sound fol hM _) hM hc).2.2 hob E B w0 w us hv hh⟩
  · cases h
theorem cutS_le (b : By) (n : Nat) : (cutS b n).length ≤ n := by unfold cutS; rw [List.length_take]; exact Nat.min_le_left _ _
theorem two_ways {f : FuncId}
    (hs : ∀ (b : By) (n : Nat), ∃ Y : By, outV (callD Ml f [.one (.vw 0 0 n)] [.rd b 3000] [false, false, true]) = some (.one (.bl true), [eqB8 Y Y, Nat.ble (cutS b n).length 3000, !(Nat.blt 3000 n), Nat.ble (cutS b n).length 3000, !(Nat.blt 3000 n)]))
    (hl : ∀ (b : By) (n : Nat), ∃ Y : By, outV (callD Ml f [.one (.vw 0 0 n)] [.rd b 9223372036854775807] [true, true, true]) = some (.one (.bl true), [eqB8 Y Y, Nat.ble (cutS b 3000).length 3000, Nat.ble 3000 n, Nat.blt 3000 n, Nat.ble (cutS b 3000).length 3000, Nat.ble 3000 n, Nat.blt 3000 n])) :
    ∀ b : By, b.length ≤ maxLen → ∃ bd hp1 chg, b.length ≤ bd ∧ Runs Try.prog f [.one (.vw 0 0 b.length)] [.rd b bd] (.one (.bl true)) hp1 chg := by
  intro b hb
  by_cases h : b.length ≤ 3000
  · obtain ⟨Y, hf⟩ := hs b b.length
    have h1 : (!(Nat.blt 3000 b.length)) = true := by
      cases hq : Nat.blt 3000 b.length with
      | false => rfl
      | true => have := Nat.le_of_ble_eq_true hq; omega
    have h2 : Nat.ble (cutS b b.length).length 3000 = true := Nat.ble_eq_true_of_le (Nat.le_trans (cutS_le _ _) h)
    obtain ⟨hp1, chg, hr⟩ := runs_out knownl hf (AllT.cons (eqB8_self _) (AllT.cons h2 (AllT.cons h1 (AllT.cons h2 (AllT.cons h1 AllT.nil)))))
    exact ⟨3000, hp1, chg, h, hr⟩
  · obtain ⟨Y, hf⟩ := hl b b.length
    have h1 : Nat.blt 3000 b.length = true := Nat.ble_eq_true_of_le (by omega)
    have h3 : Nat.ble 3000 b.length = true := Nat.ble_eq_true_of_le (by omega)
    have h2 : Nat.ble (cutS b 3000).length 3000 = true := Nat.ble_eq_true_of_le (cutS_le _ _)
    obtain ⟨hp1, chg, hr⟩ := runs_out knownl hf (AllT.cons (eqB8_self _) (AllT.cons h2 (AllT.cons h3 (AllT.cons h1 (AllT.cons h2 (AllT.cons h3 (AllT.cons h1 AllT.nil)))))))
    exact ⟨_, hp1, chg, hb, hr⟩
theorem runs6 : ∀ b : By, b.length ≤ maxLen → ∃ bd hp1 chg, b.length ≤ bd ∧ Runs Try.prog 6 [.one (.vw 0 0 b.length)] [.rd b bd] (.one (.bl true)) hp1 chg :=
  two_ways (fun b n => ⟨_, f6s b n⟩) fun b n => ⟨_, f6l b n⟩
theorem runs7 : ∀ b : By, b.length ≤ maxLen → ∃ bd hp1 chg, b.length ≤ bd ∧ Runs Try.prog 7 [.one (.vw 0 0 b.length)] [.rd b bd] (.one (.bl true)) hp1 chg :=
  two_ways (fun b n => ⟨_, f7s b n⟩) fun b n => ⟨_, f7l b n⟩
end Go.Proofs.Sx
