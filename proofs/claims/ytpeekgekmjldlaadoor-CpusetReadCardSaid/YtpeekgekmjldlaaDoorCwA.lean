/- Cpuset: Text and the document's Text, as contracts. -/
import Derived.Test.YtpeekgekmjldlaaDoorCtB
import Derived.Test.YtpeekgekmjldlaaDoorCtC
import Derived.Test.YtpeekgekmjldlaaDoorCqA
namespace Go.Proofs.YtpeekgekmjldlaaDoor
open Go.Fw
set_option maxRecDepth 100000
set_option linter.unusedVariables false
theorem sameS_refl : ∀ l : List UInt8, sameS l l = true := by
  intro l
  induction l with
  | nil => rfl
  | cons a l ih => show (Nat.beq a.toNat a.toNat && sameS l l) = true; rw [ih, Nat.beq_refl]; rfl
def c_rtext : Con := { g := 36, ans := fun x => match x with
  | .cons (.int _ .u32 b) .nil => some (.where_ (0 ≤ b ∧ b < 256) (.str false (txt b.toNat)))
  | _ => none }
theorem c_rtext_ok : c_rtext.Ok P := by
  intro x
  dsimp only [c_rtext]
  split
  · rename_i v h
    split at h <;> cases h
  · rename_i p v h
    split at h
    · rename_i st b
      injection h with h; injection h with h1 h2; subst h1; subst h2
      intro hp
      have h := rtext_lit (c := b.toNat) (by omega)
      unfold litA at h
      have e : Int.ofNat b.toNat = b := Int.toNat_of_nonneg hp.1
      rw [e] at h
      exact Meets.of_soft (args := .cons (.int st .u32 b) .nil) (Meets.hard (Meets.same h (v' := .str false (txt b.toNat)) (sameS_refl _)))
    · cases h
  · trivial
/-- Check's answer at what is no set. -/
def c_chk : Con := { g := 52, ans := fun x => match x with
  | .cons (.int _ .u32 b) .nil => some (.where_ (256 ≤ b ∧ b < 4294967296) (.int true .i64 140))
  | _ => none }
theorem c_chk_ok : c_chk.Ok P := by
  intro x
  dsimp only [c_chk]
  split
  · rename_i v h
    split at h <;> cases h
  · rename_i p v h
    split at h
    · rename_i st b
      injection h with h; injection h with h1 h2; subst h1; subst h2
      intro hp
      have h := uCheck_meets b
      rw [uCheck_0_pe, check_big hp.1 hp.2] at h
      exact Meets.of_soft (args := .cons (.int st .u32 b) .nil) (Meets.same h rfl)
    · cases h
  · trivial
theorem text_big {a : Int} (h0 : 256 ≤ a) (h1 : a < 4294967296) : Meets P 34 (.cons (.int false .u32 a) .nil) (.tup (.cons (.str false []) (.cons (.int false .i64 140) .nil))) := by
  refine meets_tree (T := .need (256 ≤ a ∧ a < 4294967296) (.leaf (.tup (.cons (.str true []) (.cons (.int true .i64 140) .nil))))) (enX_ok (l := [c_chk]) ⟨c_chk_ok, trivial⟩) 400 (g := 34) (Has.of hn Tryd.func34 rfl) (by kernel_rfl) ⟨⟨⟨h0, h1⟩, trivial⟩⟩ rfl rfl
def textS (a : Int) : List UInt8 := bif decide (a < 256) then txt a.toNat else []
def textE (a : Int) : Int := bif decide (a < 256) then 0 else 140
def c_text : Con := { g := 34, ans := fun x => match x with
  | .cons (.int _ .u32 a) .nil => some (.where_ (0 ≤ a ∧ a < 4294967296) (.tup (.cons (.str false (textS a)) (.cons (.int false .i64 (textE a)) .nil))))
  | _ => none }
theorem c_text_ok : c_text.Ok P := by
  intro x
  dsimp only [c_text]
  split
  · rename_i v h
    split at h <;> cases h
  · rename_i p v h
    split at h
    · rename_i st b
      injection h with h; injection h with h1 h2; subst h1; subst h2
      intro hp
      refine Meets.of_soft (args := .cons (.int st .u32 b) .nil) ?_
      unfold textS textE
      by_cases hb : b < 256
      · have h := text_lit (c := b.toNat) (by omega)
        unfold litA at h
        have e : Int.ofNat b.toNat = b := Int.toNat_of_nonneg hp.1
        rw [e] at h
        rw [decide_eq_true hb]
        refine Meets.hard (Meets.same h (v' := .tup (.cons (.str false (txt b.toNat)) (.cons (.int false .i64 0) .nil))) ?_)
        show (sameS (txt b.toNat) (txt b.toNat) && _) = true
        rw [sameS_refl]; rfl
      · rw [decide_eq_false hb]
        exact Meets.same (text_big (by omega) hp.2) rfl
    · cases h
  · trivial
end Go.Proofs.YtpeekgekmjldlaaDoor
