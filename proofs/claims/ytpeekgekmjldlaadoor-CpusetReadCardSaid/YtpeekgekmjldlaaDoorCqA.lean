/- Cpuset: plain facts of sets as words of 32 bits. -/
import Derived.Test.YtpeekgekmjldlaaDoorCpA
namespace Go.Proofs.YtpeekgekmjldlaaDoor
open Go.Fw
set_option maxRecDepth 100000

theorem u32_ofInt {a : Int} (h0 : 0 ≤ a) (h1 : a < 4294967296) : ((BitVec.ofInt 32 a).toNat : Int) = a := by
  rw [BitVec.toNat_ofInt]
  omega
theorem u32_wrap (v : BitVec 32) : IntKind.wrap .u32 (v.toNat : Int) = v.toNat := by
  have := v.isLt
  simp only [IntKind.wrap, IntKind.signed, IntKind.bits]
  simp
  omega
theorem big_bits {x : BitVec 32} (h : 256 ≤ x.toNat) : (x &&& ~~~(255#32)).toNat ≠ 0 := by
  intro h0
  have hx : x = x &&& 255#32 := by
    apply BitVec.eq_of_getLsbD_eq
    intro i hi
    have h1 : (x &&& ~~~(255#32)).getLsbD i = false := by
      rw [show x &&& ~~~(255#32) = 0#32 from BitVec.eq_of_toNat_eq h0]; simp
    rw [BitVec.getLsbD_and, BitVec.getLsbD_not] at h1
    rw [BitVec.getLsbD_and]
    cases e : x.getLsbD i
    · rfl
    · rw [e] at h1
      simp [hi] at h1
      rw [BitVec.getLsbD_eq_getElem hi, h1]
      rfl
  have h2 := congrArg BitVec.toNat hx
  rw [BitVec.toNat_and] at h2
  have h3 : x.toNat &&& (255#32).toNat ≤ (255#32).toNat := Nat.and_le_right
  have h4 : (255#32).toNat = 255 := rfl
  omega
/-- Of what is no set. -/
theorem check_big {a : Int} (h0 : 256 ≤ a) (h1 : a < 4294967296) : uCheck_0_p a = 140 := by
  have e := u32_ofInt (a := a) (by omega) h1
  have h := big_bits (x := BitVec.ofInt 32 a) (by omega)
  have h' : (IntKind.wrap .u32 ((BitVec.ofInt 32 a &&& ~~~(BitVec.ofInt 32 255)).toNat : Int) != 0) = true := by
    rw [u32_wrap]
    simp only [bne_iff_ne, ne_eq]
    exact fun h2 => h (by exact_mod_cast h2)
  show (bif bif (IntKind.wrap .u32 ((BitVec.ofInt 32 a &&& ~~~(BitVec.ofInt 32 255)).toNat : Int) != 0) then true else false then (140 : Int) else 0) = 140
  rw [h']
  rfl
def forBelow (n : Nat) (f : Nat → Bool) : Bool := Nat.rec true (fun k r => f k && r) n
theorem forBelow_of {n : Nat} {f : Nat → Bool} : forBelow n f = true → ∀ k, k < n → f k = true := by
  induction n with
  | zero => intro _ k h; omega
  | succ n ih =>
    intro h k hk
    have h : (f n && forBelow n f) = true := h
    simp only [Bool.and_eq_true] at h
    rcases Nat.lt_or_ge k n with h' | h'
    · exact ih h.2 k h'
    · have : k = n := by omega
      subst this; exact h.1
theorem below256 {f : Int → Bool} (h : forBelow 256 (fun a => f (Int.ofNat a)) = true) {a : Int} (h0 : 0 ≤ a) (h1 : a < 256) : f a = true := by
  have := forBelow_of h a.toNat (by omega)
  have e : (Int.ofNat a.toNat) = a := Int.toNat_of_nonneg h0
  rw [e] at this
  exact this
theorem below8 {f : Int → Int → Bool} (h : forBelow 256 (fun a => forBelow 8 fun b => f (Int.ofNat a) (Int.ofNat b)) = true) {a b : Int} (h0 : 0 ≤ a) (h1 : a < 256) (h2 : 0 ≤ b) (h3 : b < 8) : f a b = true := by
  have := forBelow_of (forBelow_of h a.toNat (by omega)) b.toNat (by omega)
  have e : (Int.ofNat a.toNat) = a := Int.toNat_of_nonneg h0
  have e' : (Int.ofNat b.toNat) = b := Int.toNat_of_nonneg h2
  rw [e, e'] at this
  exact this
theorem check_small {a : Int} (h0 : 0 ≤ a) (h1 : a < 256) : uCheck_0_p a = 0 := by
  have := below256 (f := fun a => uCheck_0_p a == 0) (by kernel_rfl) h0 h1
  simpa using this
theorem bit_out {b : Int} (h : ¬ (0 ≤ b ∧ b < 8)) : uBit_0_p b = 0 := by
  unfold uBit_0_p
  have : (bif decide (b < 0) then true else decide (b ≥ 8)) = true := by
    by_cases h0 : b < 0
    · simp [h0]
    · simp [h0]; omega
  rw [this]
  rfl
theorem right_eq (a : Int) : vRight_0 a = decide (a < 256) := by rw [vRight_0_pe]; rfl
theorem cpu_eq (b : Int) : vCpu_0 b = decide (0 ≤ b ∧ b < 8) := by
  rw [vCpu_0_pe]; unfold vCpu_0_p
  by_cases h0 : 0 ≤ b
  · simp [h0]
  · have : ¬ b ≥ 0 := h0
    simp [h0]
/-- What 'turn' answers. -/
theorem turn_big {a b : Int} (h0 : 256 ≤ a) (h1 : a < 4294967296) : uTurn_0_p a b = 140 := by
  unfold uTurn_0_p
  rw [check_big h0 h1]; rfl
theorem turn_out {a b : Int} (h0 : 0 ≤ a) (h1 : a < 256) (h : ¬ (0 ≤ b ∧ b < 8)) : uTurn_0_p a b = 2 := by
  unfold uTurn_0_p
  rw [check_small h0 h1, bit_out h]; rfl
theorem with_big {a b : Int} (h0 : 256 ≤ a) (h1 : a < 4294967296) : uWith_0 a b = 0 ∧ uWith_1 a b = 140 ∧ uWithout_0 a b = 0 ∧ uWithout_1 a b = 140 := by
  rw [uWith_0_pe, uWith_1_pe, uWithout_0_pe, uWithout_1_pe]
  unfold uWith_0_p uWith_1_p uWithout_0_p uWithout_1_p
  rw [turn_big h0 h1]
  exact ⟨rfl, rfl, rfl, rfl⟩
theorem with_out {a b : Int} (h0 : 0 ≤ a) (h1 : a < 256) (h : ¬ (0 ≤ b ∧ b < 8)) : uWith_0 a b = 0 ∧ uWith_1 a b = 2 ∧ uWithout_0 a b = 0 ∧ uWithout_1 a b = 2 := by
  rw [uWith_0_pe, uWith_1_pe, uWithout_0_pe, uWithout_1_pe]
  unfold uWith_0_p uWith_1_p uWithout_0_p uWithout_1_p
  rw [turn_out h0 h1 h]
  exact ⟨rfl, rfl, rfl, rfl⟩
end Go.Proofs.YtpeekgekmjldlaaDoor
