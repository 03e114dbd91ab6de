/- Cpuset: plain facts of Has and Within. -/
import Derived.Test.YtpeekgekmjldlaaDoorCcN
import Derived.Test.YtpeekgekmjldlaaDoorCpK
namespace Go.Proofs.YtpeekgekmjldlaaDoor
open Go.Fw
set_option maxRecDepth 100000

theorem has_test {b : Int} (h0 : 0 ≤ b) (h1 : b < 4294967296) {i : Nat} (hi : i < 8) : vHas_0 b (Int.ofNat i) = Nat.testBit b.toNat i := by
  rw [vHas_0_pe, has_low ⟨rfl, h0, h1⟩ hi]
  have hm := lowN_mod h0 h1
  have hl : lowN b = b.toNat % 2 ^ 8 := by
    have : (2 : Nat) ^ 8 = 256 := rfl
    omega
  rw [hl, Nat.testBit_mod_two_pow]
  simp [hi]
theorem has_out {a b : Int} (h : ¬ (0 ≤ b ∧ b < 8)) : vHas_0 a b = false ∧ uHas_0 a b = false := by
  constructor
  · rw [vHas_0_pe]; unfold vHas_0_p
    have : (bif decide (b ≥ 0) then decide (b < 8) else false) = false := by
      by_cases h0 : b ≥ 0
      · simp [h0]; omega
      · simp [h0]
    rw [this]; rfl
  · rw [uHas_0_pe]; unfold uHas_0_p
    rw [bit_out h]
    have : (BitVec.ofInt 32 a &&& BitVec.ofInt 32 0) = 0#32 := by simp
    show (IntKind.wrap .u32 ((BitVec.ofInt 32 a &&& BitVec.ofInt 32 0).toNat : Int) != 0) = false
    rw [this]; rfl
theorem bit_in {i : Nat} (hi : i < 8) : uBit_0_p (Int.ofNat i) = ((2 ^ i : Nat) : Int) := by
  have := forBelow_of (f := fun i => uBit_0_p (Int.ofNat i) == ((2 ^ i : Nat) : Int)) (n := 8) (by kernel_rfl) i hi
  simpa using this
theorem u32_nat' {q : Nat} (h : q < 4294967296) : (BitVec.ofInt 32 (q : Int)).toNat = q := by
  have := u32_ofInt (a := (q : Int)) (by omega) (by omega)
  omega
theorem has_eq {a b : Int} (h0 : 0 ≤ a) (h1 : a < 4294967296) : uHas_0 a b = vHas_0 a b := by
  by_cases hc : 0 ≤ b ∧ b < 8
  · obtain ⟨i, rfl⟩ := Int.eq_ofNat_of_zero_le hc.1
    have hi : i < 8 := by omega
    rw [show ((i : Nat) : Int) = Int.ofNat i from rfl, has_test h0 h1 hi, uHas_0_pe]
    unfold uHas_0_p
    rw [bit_in hi]
    show (IntKind.wrap .u32 ((BitVec.ofInt 32 a &&& BitVec.ofInt 32 ((2 ^ i : Nat) : Int)).toNat : Int) != 0) = _
    rw [u32_wrap, BitVec.toNat_and]
    have e1 : (BitVec.ofInt 32 a).toNat = a.toNat := by have := u32_ofInt h0 h1; omega
    have hp : 2 ^ i < 4294967296 := Nat.lt_of_lt_of_le (Nat.pow_lt_pow_right (by decide) hi) (by decide)
    have e2 := u32_nat' hp
    generalize BitVec.ofInt 32 ((2 ^ i : Nat) : Int) = y at e2
    generalize BitVec.ofInt 32 a = x at e1
    have key : (x &&& y) = 0#32 ↔ Nat.testBit a.toNat i = false := by
      constructor
      · intro h
        have h1 : (x &&& y).getLsbD i = false := by rw [h]; simp
        rw [BitVec.getLsbD_and] at h1
        have h2 : y.getLsbD i = true := by rw [BitVec.getLsbD, e2, Nat.testBit_two_pow]; simp
        rw [h2, Bool.and_true, BitVec.getLsbD, e1] at h1
        exact h1
      · intro h
        apply BitVec.eq_of_getLsbD_eq
        intro k hk
        rw [BitVec.getLsbD_and]
        by_cases e : i = k
        · subst e
          have h3 : x.getLsbD i = false := by rw [BitVec.getLsbD, e1]; exact h
          rw [h3]; simp
        · have h2 : y.getLsbD k = false := by rw [BitVec.getLsbD, e2, Nat.testBit_two_pow]; simp [e]
          rw [h2]; simp
    rw [← BitVec.toNat_and]
    cases ht : Nat.testBit a.toNat i
    · rw [key.2 ht]; rfl
    · have h5 : (x &&& y).toNat ≠ 0 := fun h0 => by
        have := key.1 (BitVec.eq_of_toNat_eq h0)
        rw [ht] at this; cases this
      simp only [bne_iff_ne, ne_eq]
      omega
  · rw [(has_out hc).1, (has_out hc).2]
theorem wtB_iff (b : Int) : ∀ l : List Int, wtB l b = true ↔ ∀ i ∈ l, vHas_0 b i = true := by
  intro l
  induction l with
  | nil => simp [wtB]
  | cons i l ih =>
    unfold wtB
    cases h : vHas_0 b i
    · simp [h]
    · simp [h, ih]
theorem mem_lst {c : Nat} {i : Int} : i ∈ lst c ↔ ∃ k, k < 8 ∧ Nat.testBit c k = true ∧ i = Int.ofNat k := by
  unfold lst
  simp only [List.mem_map, List.mem_filter, List.mem_range]
  constructor
  · rintro ⟨k, ⟨h1, h2⟩, rfl⟩; exact ⟨k, h1, h2, rfl⟩
  · rintro ⟨k, h1, h2, rfl⟩; exact ⟨k, ⟨h1, h2⟩, rfl⟩
theorem within_eq {a b : Int} (hb0 : 0 ≤ b) (hb1 : b < 4294967296) : uWithin_0 a b = wtB (lst (lowN a)) b := by
  rw [uWithin_0_pe]
  unfold uWithin_0_p
  show (IntKind.wrap .u32 ((BitVec.ofInt 32 (maskI a) &&& ~~~BitVec.ofInt 32 b).toNat : Int) == 0) = _
  rw [u32_wrap, maskI_low]
  have hl := lowN_lt a
  generalize lowN a = c at hl
  have e1 : (BitVec.ofInt 32 (c : Int)).toNat = c := by have := u32_ofInt (a := (c : Int)) (by omega) (by omega); omega
  have e2 : (BitVec.ofInt 32 b).toNat = b.toNat := by have := u32_ofInt hb0 hb1; omega
  generalize BitVec.ofInt 32 (c : Int) = x at e1
  generalize BitVec.ofInt 32 b = y at e2
  have key : (x &&& ~~~y) = 0#32 ↔ ∀ i ∈ lst c, vHas_0 b i = true := by
    constructor
    · intro h i hi
      obtain ⟨k, hk, ht, rfl⟩ := mem_lst.1 hi
      rw [has_test hb0 hb1 hk]
      have h1 : (x &&& ~~~y).getLsbD k = false := by rw [h]; simp
      rw [BitVec.getLsbD_and, BitVec.getLsbD_not] at h1
      have h2 : x.getLsbD k = true := by rw [BitVec.getLsbD, e1]; exact ht
      rw [h2] at h1
      have h3 : decide (k < 32) = true := by simp; omega
      rw [h3] at h1
      have h4 : y.getLsbD k = true := by cases hy : y.getLsbD k <;> rw [hy] at h1 <;> first | rfl | cases h1
      rw [BitVec.getLsbD, e2] at h4
      exact h4
    · intro h
      apply BitVec.eq_of_getLsbD_eq
      intro k hk
      rw [BitVec.getLsbD_and, BitVec.getLsbD_not]
      cases hx : x.getLsbD k
      · simp
      · have ht : Nat.testBit c k = true := by rw [BitVec.getLsbD, e1] at hx; exact hx
        have hk8 : k < 8 := by
          apply Classical.byContradiction; intro h8
          rw [Nat.testBit_lt_two_pow (Nat.lt_of_lt_of_le hl (show 256 ≤ 2 ^ k from Nat.pow_le_pow_right (n := 2) (by decide) (show 8 ≤ k by omega)))] at ht
          cases ht
        have := h _ (mem_lst.2 ⟨k, hk8, ht, rfl⟩)
        rw [has_test hb0 hb1 hk8] at this
        have hy : y.getLsbD k = true := by rw [BitVec.getLsbD, e2]; exact this
        rw [hy]; simp
  cases hw : wtB (lst c) b
  · have : (x &&& ~~~y) ≠ 0#32 := fun h => by
      rw [(wtB_iff b (lst c)).2 (key.1 h)] at hw; cases hw
    have h2 : (x &&& ~~~y).toNat ≠ 0 := fun h => this (BitVec.eq_of_toNat_eq h)
    have h3 : (((x &&& ~~~y).toNat : Int) == 0) = false := by
      cases h4 : (((x &&& ~~~y).toNat : Int) == 0)
      · rfl
      · have := eq_of_beq h4; omega
    exact h3
  · have h := key.2 ((wtB_iff b (lst c)).1 hw)
    rw [h]; rfl
theorem count_eq (a : Int) : uCount_0 a = ((lst (lowN a)).length : Nat) := by
  rw [uCount_0_pe]
  unfold uCount_0_p
  show Int.ofNat (lst (maskI a).toNat).length = _
  rw [maskI_low]
  rfl
end Go.Proofs.YtpeekgekmjldlaaDoor
