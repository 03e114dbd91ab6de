/- MachineIdles: what the law asks. -/
import Derived.Test.YtdgjneondmmgdaaGreatDoorJa
set_option linter.unusedSimpArgs false
set_option linter.unusedVariables false
namespace Go.Proofs.YtdgjneondmmgdaaGreatDoor
open Go.Fw
set_option maxRecDepth 100000
set_option linter.unusedVariables false
set_option linter.unusedSimpArgs false
/-- A weight, a time that passes, the sums. -/
def wI (v : Int) : Int := IntKind.wrap IntKind.i64 (Int.tmod (if (0 : Int) > v then (0 : Int) else v) (65535 : Int) + (1 : Int))
def dI (x : Int) : Int := IntKind.wrap IntKind.i64 (Int.tmod (if (0 : Int) > x then (0 : Int) else x) (10000000 : Int) + (1 : Int))
def cI (n : Int) : Int := IntKind.wrap IntKind.i64 (Int.tmod (if (0 : Int) > n then (0 : Int) else n) (8 : Int) + (1 : Int))
def tI (f : Nat → Int) : Nat → Int
  | 0 => 0
  | j + 1 => tI f j + dI (f j)
def sI (f : Nat → Int) : Nat → Int
  | 0 => 0
  | j + 1 => IntKind.wrap IntKind.i64 (sI f j + dI (f j))
def andL : List Prop → Prop
  | [] => True
  | p :: l => match l with
    | [] => p
    | _ :: _ => p ∧ andL l
theorem andL_of : ∀ {l : List Prop}, (∀ p ∈ l, p) → andL l := by
  intro l
  induction l with
  | nil => intro _; trivial
  | cons p l ih =>
    intro h
    cases l with
    | nil => exact h p (by simp)
    | cons q l => exact ⟨h p (by simp), ih fun p hp => h p (by simp [hp])⟩
def upTo {α : Type 1} (k : Nat) (g : Nat → α) : List α := (List.range k).map g
/-- What is asked where so many steps are done. -/
def sameS (c : Nat) (p : Prop) : Prop := seatsV c = seatsV c ∧ setsV c = setsV c ∧ p
def stepP (c : Nat) (f : Nat → Int) (v : Int) (j : Nat) : Prop :=
  sameS c (tI f j = tI f j ∧ wI v = wI v ∧ tI f j = tI f j ∧ wI v = wI v ∧ tI f j = tI f j ∧ tI f j = tI f j ∧ tI f j = tI f j ∧ dI (f j) = dI (f j) ∧ 0 ≤ tI f j ∧ tI f j ≤ 1000000000 ∧ pW (wI v) ∧ 1 ≤ dI (f j) ∧ dI (f j) ≤ 10000000)
def lawP (c : Nat) (n v : Int) (f : Nat → Int) (k : Nat) : Prop :=
  cI n = (c : Int) ∧ seatsV c = seatsV c ∧ andL (sameS c (wI v = wI v ∧ pW (wI v)) :: sameS c (wI v = wI v ∧ pW (wI v)) :: sameS c (wI v = wI v ∧ wI v = wI v ∧ pW (wI v)) :: (List.range k).map (stepP c f v)) ∧
    sameS c (tI f k = tI f k ∧ wI v = wI v ∧ tI f k = tI f k ∧ wI v = wI v ∧ tI f k = tI f k ∧ tI f k = tI f k ∧ tI f k = tI f k ∧ 0 ≤ tI f k ∧ tI f k ≤ 1000000000 ∧ pW (wI v)) ∧ (bif tI f k == sI f k then tI f k == sI f k else false) = true ∧ True
theorem wI_in (v : Int) : 1 ≤ wI v ∧ wI v ≤ 65535 := by
  unfold wI
  have h : 0 ≤ (if (0 : Int) > v then (0 : Int) else v) := by split <;> omega
  generalize (if (0 : Int) > v then (0 : Int) else v) = x at h
  rw [Int.tmod_eq_emod_of_nonneg h, wi64 (by omega)]; omega
theorem dI_in (x : Int) : 1 ≤ dI x ∧ dI x ≤ 10000000 := by
  unfold dI
  have h : 0 ≤ (if (0 : Int) > x then (0 : Int) else x) := by split <;> omega
  generalize (if (0 : Int) > x then (0 : Int) else x) = y at h
  rw [Int.tmod_eq_emod_of_nonneg h, wi64 (by omega)]; omega
theorem cI_in (n : Int) : 1 ≤ cI n ∧ cI n ≤ 8 := by
  unfold cI
  have h : 0 ≤ (if (0 : Int) > n then (0 : Int) else n) := by split <;> omega
  generalize (if (0 : Int) > n then (0 : Int) else n) = y at h
  rw [Int.tmod_eq_emod_of_nonneg h, wi64 (by omega)]; omega
theorem tI_in (f : Nat → Int) : ∀ j : Nat, 0 ≤ tI f j ∧ tI f j ≤ 10000000 * j := by
  intro j
  induction j with
  | zero => exact ⟨Int.le_refl _, by simp [tI]⟩
  | succ j ih => have := dI_in (f j); simp only [tI]; omega
theorem sI_eq (f : Nat → Int) : ∀ j : Nat, j ≤ 40 → sI f j = tI f j := by
  intro j
  induction j with
  | zero => intro _; rfl
  | succ j ih =>
    intro hj
    have h1 := tI_in f j
    have h2 := dI_in (f j)
    simp only [sI, tI]
    rw [ih (by omega), wi64 (by omega)]
theorem lawP_ok {c : Nat} {n v : Int} {f : Nat → Int} {k : Nat} (hc : cI n = (c : Int)) (hk : k ≤ 40) : lawP c n v f k := by
  have hw : pW (wI v) := wI_in v
  have ht : ∀ j : Nat, j ≤ 40 → 0 ≤ tI f j ∧ tI f j ≤ 1000000000 := fun j hj => by have := tI_in f j; omega
  refine ⟨hc, rfl, andL_of fun p hp => ?_, ⟨rfl, rfl, rfl, rfl, rfl, rfl, rfl, rfl, rfl, (ht k hk).1, (ht k hk).2, hw⟩, ?_, trivial⟩
  · rcases List.mem_cons.1 hp with e | hp
    · rw [e]; exact ⟨rfl, rfl, rfl, hw⟩
    rcases List.mem_cons.1 hp with e | hp
    · rw [e]; exact ⟨rfl, rfl, rfl, hw⟩
    rcases List.mem_cons.1 hp with e | hp
    · rw [e]; exact ⟨rfl, rfl, rfl, rfl, hw⟩
    obtain ⟨j, hj, e⟩ := List.mem_map.1 hp
    have hj := List.mem_range.1 hj
    rw [← e]
    exact ⟨rfl, rfl, rfl, rfl, rfl, rfl, rfl, rfl, rfl, rfl, (ht j (by omega)).1, (ht j (by omega)).2, hw, (dI_in _).1, (dI_in _).2⟩
  · rw [sI_eq f k hk]; simp
/-- What is asked where there are more rows than are looked at. -/
def moreP (m : Nat) : Nat → List Prop
  | 0 => []
  | j + 1 => moreP m j ++ [decide ((j : Int) < (m : Int)) = true, (0 : Int) ≤ (j : Int) ∧ (j : Int) < (m : Int)]
theorem moreP_ok {m : Nat} : ∀ j : Nat, j ≤ m → ∀ p ∈ moreP m j, p := by
  intro j
  induction j with
  | zero => intro _ p hp; cases hp
  | succ j ih =>
    intro hj p hp
    simp only [moreP] at hp
    rcases List.mem_append.1 hp with hp | hp
    · exact ih (by omega) p hp
    rcases List.mem_cons.1 hp with e | hp
    · rw [e]; exact decide_eq_true (by omega)
    rcases List.mem_cons.1 hp with e | hp
    · rw [e]; exact ⟨by omega, by omega⟩
    · cases hp
end Go.Proofs.YtdgjneondmmgdaaGreatDoor
