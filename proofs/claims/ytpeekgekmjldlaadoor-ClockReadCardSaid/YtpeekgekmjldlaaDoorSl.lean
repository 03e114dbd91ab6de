/- strconv.Atoi at every text, as a contract of the evaluator. -/
import Derived.Test.YtpeekgekmjldlaaDoorSk
import Derived.Test.YtpeekgekmjldlaaDoorSj
namespace Go.Proofs.YtpeekgekmjldlaaDoor
open Go.Fw Go.RowKit
set_option maxRecDepth 100000
/-- Whether a text spells a number, and which. -/
def atoiB (s : List UInt8) : Bool :=
  match Lib.atoiAll s with
  | .ok _ => true
  | _ => false
def atoiV (s : List UInt8) : Int :=
  match Lib.atoiAll s with
  | .ok v => v
  | .range => Lib.atoiSat s
  | _ => 0
theorem err_cell {F : Nat → Prop} {w : World} {g : Nat} (hg : glob g = some (.rptr true 1 1 (fun _ => .cons (.ifc true false) .nil) 0 0)) (h : GOk F w) : ∃ te pe, w.cell? ⟨g, 0, none⟩ = some (.iface te pe) := by
  have h1 := (h g _ hg).2.1
  rw [R_rptr] at h1
  obtain ⟨_, B, off, hp, _, c, el, fr, hc, hr⟩ := h1
  obtain ⟨xs, hx, hl, hq⟩ := hr 0 (by omega)
  have hq0 := hq 0 (by omega)
  simp only [RL, R] at hx
  obtain ⟨x, r, rfl, h2, rfl⟩ := hx
  rcases h2 with ⟨h2, _⟩ | ⟨_, t, v, rfl⟩
  · cases h2
  · injection hp with hp
    injection hp with hp
    injection hp with h3 h4 h5
    subst h3
    refine ⟨t, v, ?_⟩
    simp only [World.cell?, hc, Option.isSome_none, Bool.false_eq_true, if_false]
    have e : off + 0 * 1 + 0 = 0 := h4.symm
    rw [e] at hq0
    exact hq0
theorem num_R {F : Nat → Prop} {w : World} {n : Nat} {m : Nat → Option Nat} {v : Int} {b : Bool} {y : Value} (h : (b = true ∧ y = .nilIface) ∨ (b = false ∧ ∃ t v, y = .iface t v)) :
    R F w (.tup (.cons (.int false .i64 v) (.cons (.ifc false b) .nil))) n m (.tuple #[.int .i64 v, y]) := by
  simp only [R, RL]
  exact ⟨_, rfl, _, _, rfl, rfl, _, _, rfl, h, rfl⟩
def c_atoi : Con := { g := 86, ans := fun x => match x with
  | .cons (.str _ s) .nil => some (.where_ (s.length ≤ 281474976710656) (.tup (.cons (.int false .i64 (atoiV s)) (.cons (.ifc false (atoiB s)) .nil))))
  | _ => none }
theorem c_atoi_ok : c_atoi.Ok P := by
  intro x
  dsimp only [c_atoi]
  split
  · rename_i v h
    split at h <;> cases h
  · rename_i p v h
    split at h
    · rename_i st s
      injection h with h; injection h with h1 h2; subst h1; subst h2
      intro hp
      refine ⟨Has.of hn Tryd.func86 rfl, fun F w xs _ hgl ha => ?_⟩
      simp only [RL, R] at ha
      obtain ⟨_, _, h1, rfl, rfl⟩ := ha
      have hx : xs = #[.string ⟨s.toArray⟩] := Array.toList_inj.1 h1
      subst hx
      have hsz : (⟨s.toArray⟩ : ByteArray).size ≤ 281474976710656 := hp
      obtain ⟨t3, p3, h3⟩ := err_cell (g := 3) rfl hgl
      obtain ⟨t4, p4, h4⟩ := err_cell (g := 4) rfl hgl
      cases hA : Lib.atoiAll s with
      | ok v =>
        refine (Tryd.strconv_Atoi_ok ⟨s.toArray⟩ (by omega) v hA w).mono fun e w' he => ?_
        obtain ⟨rfl, hw⟩ := he
        refine ⟨_, F, rfl, later_of_below (by rcases hw with rfl | ⟨t, rfl⟩; exact Below.refl _ _; exact Lib.bytesWorld_below _ _ _), ?_⟩
        have e1 : atoiV s = v := by unfold atoiV; rw [hA]
        have e2 : atoiB s = true := by unfold atoiB; rw [hA]
        rw [e1]
        exact num_R (.inl ⟨e2, rfl⟩)
      | range =>
        refine (Tryd.strconv_Atoi_range ⟨s.toArray⟩ hsz hA _ w h4 (.inr ⟨_, _, rfl⟩)).mono fun e w' he => ?_
        obtain ⟨N, rfl, _, _, hw⟩ := he
        refine ⟨_, F, rfl, later_of_below hw, ?_⟩
        have e1 : atoiV s = Lib.atoiSat s := by unfold atoiV; rw [hA]
        have e2 : atoiB s = false := by unfold atoiB; rw [hA]
        rw [e1]
        exact num_R (.inr ⟨e2, _, _, rfl⟩)
      | _ =>
        refine (Tryd.strconv_Atoi_syntax ⟨s.toArray⟩ hsz hA _ w h3 (.inr ⟨_, _, rfl⟩)).mono fun e w' he => ?_
        obtain ⟨N, rfl, _, _, hw⟩ := he
        refine ⟨_, F, rfl, later_of_below hw, ?_⟩
        have e1 : atoiV s = 0 := by unfold atoiV; rw [hA]
        have e2 : atoiB s = false := by unfold atoiB; rw [hA]
        rw [e1]
        exact num_R (.inr ⟨e2, _, _, rfl⟩)
    · cases h
  · trivial
end Go.Proofs.YtpeekgekmjldlaaDoor
