/- Cpuset: those in a set; small contracts by cases. -/
import Derived.Test.YtpeekgekmjldlaaDoorCqA
import Derived.Test.YtpeekgekmjldlaaDoorGwQ
namespace Go.Proofs.YtpeekgekmjldlaaDoor
open Go.Fw
set_option maxRecDepth 100000
set_option linter.unusedVariables false

/-- A set's last eight bits. -/
def lowN (a : Int) : Nat := (BitVec.ofInt 32 a &&& 255#32).toNat
abbrev maskI (a : Int) : Int := IntKind.wrap .u32 ((BitVec.ofInt (IntKind.bits .u32) a &&& BitVec.ofInt (IntKind.bits .u32) 255).toNat : Int)
theorem maskI_low (a : Int) : maskI a = (lowN a : Int) := u32_wrap _
theorem lowN_lt (a : Int) : lowN a < 256 := by
  unfold lowN
  rw [BitVec.toNat_and]
  exact Nat.lt_of_le_of_lt Nat.and_le_right (by decide)
/-- Those in a set. -/
def lst (c : Nat) : List Int := ((List.range 8).filter fun i => Nat.testBit c i).map Int.ofNat
/-- A row of numbers. -/
abbrev rowL (l : List Int) : V := .rsl false 1 l.length fun j => .cons (.int false .i64 (l.getD j 0)) .nil
noncomputable abbrev enM (l : List Con) (ls : List Lp := []) : Env := envL P l ls false
theorem enM_ok {l : List Con} (h : AllOk P l) : (enM l).Ok := env_ok hm hn h (ls := []) trivial _
theorem enM_okl {l : List Con} (h : AllOk P l) {ls : List Lp} (hls : AllLp P ls) : (enM l ls).Ok := env_ok hm hn h hls _

/-- How many noughts a number ends in. -/
def tzN (n : Nat) : Nat := bif Nat.testBit n 0 then 0 else bif Nat.testBit n 1 then 1 else bif Nat.testBit n 2 then 2 else bif Nat.testBit n 3 then 3 else bif Nat.testBit n 4 then 4 else bif Nat.testBit n 5 then 5 else bif Nat.testBit n 6 then 6 else bif Nat.testBit n 7 then 7 else 32
theorem tz_meets {c : Nat} (hc : c < 256) : Meets P 65 (.cons (.int true .u32 (Int.ofNat c)) .nil) (.int true .i64 (Int.ofNat (tzN c))) :=
  meets_lits (P := P) 0 256 (E := fun _ => enM []) (gs := []) (fun _ => envL_among (l := [])) (fun _ => rfl) 400 (g := 65) (args := fun c => .cons (.int true .u32 (Int.ofNat c)) .nil) (res := fun c => .int true .i64 (Int.ofNat (tzN c)))
    (Has.of hn Tryd.func65 rfl) (by kernel_rfl) (Nat.zero_le c) (by omega) (enM_ok (l := []) trivial)
def c_tz : Con := { g := 65, al := true, ans := fun x => match x with
  | .cons (.int true .u32 (.ofNat n)) .nil => bif Nat.blt n 256 then some (.sure (.int true .i64 (Int.ofNat (tzN n)))) else none
  | _ => none }
theorem c_tz_ok : c_tz.Ok P := by
  intro x
  dsimp only [c_tz]
  split
  · rename_i v h
    split at h
    · rename_i n
      cases hb : Nat.blt n 256
      · rw [hb] at h; cases h
      · rw [hb] at h
        injection h with h; injection h with h; subst h
        exact tz_meets (by simpa [Nat.blt_eq] using hb)
    · cases h
  · rename_i p v h
    split at h
    · rename_i n
      cases hb : Nat.blt n 256 <;> rw [hb] at h <;> cases h
    · cases h
  · trivial
/-- Whether a literal set has a literal number. -/
def c_hasl : Con := { g := 51, al := true, ans := fun x => match x with
  | .cons (.int true .u32 a) (.cons (.int true .i64 b) .nil) => some (.sure (mkBool true (vHas_0_p a b)))
  | _ => none }
theorem c_hasl_ok : c_hasl.Ok P := by
  intro x
  dsimp only [c_hasl]
  split
  · rename_i v h
    split at h
    · rename_i a b
      injection h with h; injection h with h; subst h
      rw [mkBool_eq, ← vHas_0_pe]
      have h := Meets.of_soft (args := .cons (.int true .u32 a) (.cons (.int true .i64 b) .nil)) (vHas_meets a b)
      refine ⟨h.1, fun F w xs h1 h2 h3 => (h.2 F w xs h1 h2 h3).mono fun _ _ ⟨x, F', e1, e2, e3⟩ => ⟨x, F', e1, e2, ?_⟩⟩
      simp only [R] at e3 ⊢
      exact e3
    · cases h
  · rename_i p v h
    split at h <;> cases h
  · trivial
end Go.Proofs.YtpeekgekmjldlaaDoor
