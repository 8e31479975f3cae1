/- A region in any order, by what holds between its operations. -/
import Derived.Test.YtinbeihbhnjjnaaSxFun
namespace Go.Proofs.Sx
open Go
section
variable {P : Program} {md : Region.Mode} {ops : Array Oper} {Q : Exit → Act → World → Prop}

/-- how many have not come up -/
def openN : List Bool → Nat
  | [] => 0
  | true :: l => openN l
  | false :: l => openN l + 1

theorem openN_pos : ∀ {l : List Bool} {i : Nat}, l[i]? = some false → 0 < openN l
  | [], i, h => by simp at h
  | true :: l, 0, h => by simp at h
  | false :: l, _, _ => by simp [openN]
  | true :: l, i + 1, h => by
    simp only [openN]
    exact openN_pos (l := l) (i := i) (by simpa using h)
theorem openN_set : ∀ {l : List Bool} {i : Nat}, l[i]? = some false → openN (l.set i true) + 1 = openN l
  | [], i, h => by simp at h
  | true :: l, 0, h => by simp at h
  | false :: l, 0, _ => by simp [openN]
  | true :: l, i + 1, h => by
    simp only [List.set_cons_succ, openN]
    exact openN_set (l := l) (i := i) (by simpa using h)
  | false :: l, i + 1, h => by
    simp only [List.set_cons_succ, openN]
    have := openN_set (l := l) (i := i) (by simpa using h)
    omega

theorem ready_open {listed : Array Bool} {i : Nat} (h : i ∈ Region.ready md ops listed) : listed.toList[i]? = some false := by
  have h1 := (mem_ready.1 h).1
  rcases Nat.lt_or_ge i listed.size with hi | hi
  · simp [Array.getD, hi] at h1
    simp [hi, h1]
  · simp [Array.getD, Nat.not_lt.2 hi] at h1

/-- An order at every turn: what holds ahead of each operation that may come up holds behind it. -/
theorem wpAny_inv (I : Array Bool → Act → World → Prop)
    (hs : ∀ (listed : Array Bool) (a : Act) (w : World) (i : Nat), I listed a w → i ∈ Region.ready md ops listed → wpOp P ops Q i (fun a' w' => I (listed.setIfInBounds i true) a' w') a w)
    (hd : ∀ (listed : Array Bool) (a : Act) (w : World), I listed a w → Region.ready md ops listed = [] → Q .normal a w) :
    ∀ (fuel : Nat) (listed : Array Bool) (a : Act) (w : World), openN listed.toList ≤ fuel → I listed a w → wpAny P md ops Q fuel listed a w
  | 0, listed, a, w, hf, hI => by
    have hr : Region.ready md ops listed = [] := by
      cases hc : Region.ready md ops listed with
      | nil => rfl
      | cons i l =>
        have := openN_pos (ready_open (md := md) (ops := ops) (listed := listed) (i := i) (by rw [hc]; exact List.mem_cons_self ..))
        omega
    exact ⟨hr, hd _ _ _ hI hr⟩
  | fuel + 1, listed, a, w, hf, hI => by
    refine ⟨fun hr => hd _ _ _ hI hr, fun i hi => wpOp_mono (fun a' w' h => ?_) (hs _ _ _ _ hI hi)⟩
    refine wpAny_inv I hs hd fuel _ _ _ ?_ h
    have := openN_set (ready_open hi)
    rw [Array.toList_setIfInBounds]
    omega
end
end Go.Proofs.Sx
