/- Numbers of seven parts of 32 bits: products and quotients, as plain numbers; bits of 64-bit numbers, as the evaluator has them. wide's products: what they answer. wide's quotients: what they answer. wide's quotients: the loop over a part's bits, and what is answered. wide's contracts: parts, products, quotients, and numbers out of parts. wide's numbers into parts and out of them; comparisons. wide's comparisons, and products over a number. wide's products over a number: what they answer. -/
import Derived.IntWalk
import Derived.Test.YtdgjneondmmgdaaGreatDoorGb
import Derived.Test.YtdgjneondmmgdaaGreatDoorFe
set_option linter.unusedSimpArgs false
set_option linter.unusedVariables false
namespace Go.Fw.Wd
abbrev B : Nat := 4294967296
/-- What parts come to, the lowest first. -/
def val : List Nat → Nat
  | [] => 0
  | x :: l => x + B * val l
def small (l : List Nat) : Prop := ∀ x ∈ l, x < B
theorem val_lt : ∀ l : List Nat, small l → val l < B ^ l.length := by
  intro l
  induction l with
  | nil => intro _; simp [val]
  | cons x l ih =>
    intro h
    have h1 := h x (by simp)
    have h2 := ih fun y hy => h y (List.mem_cons_of_mem _ hy)
    simp only [val, List.length_cons, Nat.pow_succ]
    have : B * (val l + 1) ≤ B * B ^ l.length := Nat.mul_le_mul_left B h2
    rw [Nat.mul_add] at this
    rw [Nat.mul_comm (B ^ l.length) B]
    omega
/-- The parts of a number. -/
def digs : Nat → Nat → List Nat
  | 0, _ => []
  | n + 1, N => N % B :: digs n (N / B)
theorem digs_length : ∀ n N, (digs n N).length = n := by
  intro n
  induction n with
  | zero => intro N; rfl
  | succ n ih => intro N; simp [digs, ih]
theorem digs_small : ∀ n N, small (digs n N) := by
  intro n
  induction n with
  | zero => intro N x hx; cases hx
  | succ n ih =>
    intro N x hx
    simp only [digs, List.mem_cons] at hx
    rcases hx with rfl | hx
    · exact Nat.mod_lt _ (by decide)
    · exact ih _ x hx
theorem val_digs : ∀ n N, val (digs n N) = N % B ^ n := by
  intro n
  induction n with
  | zero => intro N; simp [digs, val, Nat.mod_one]
  | succ n ih =>
    intro N
    simp only [digs, val, ih, Nat.pow_succ]
    rw [Nat.mul_comm (B ^ n) B, Nat.mod_mul]
theorem digs_val : ∀ l : List Nat, small l → digs l.length (val l) = l := by
  intro l
  induction l with
  | nil => intro _; rfl
  | cons x l ih =>
    intro h
    have h1 := h x (by simp)
    have h2 := ih fun y hy => h y (List.mem_cons_of_mem _ hy)
    simp only [val, List.length_cons, digs]
    have e1 : (x + B * val l) % B = x := by rw [Nat.add_mul_mod_self_left]; exact Nat.mod_eq_of_lt h1
    have e2 : (x + B * val l) / B = val l := by rw [Nat.add_mul_div_left _ _ (by decide : 0 < B)]; rw [Nat.div_eq_of_lt h1]; omega
    rw [e1, e2, h2]
theorem digs_mod (n N : Nat) : digs n (N % B ^ n) = digs n N := by
  have h := digs_val (digs n N) (digs_small n N)
  rw [digs_length, val_digs] at h
  exact h
/-- A row more: parts that are there, and so many times others. -/
def rowN (f : Nat) : List Nat → List Nat → Nat → List Nat
  | o :: os, q :: qs, c => (o + q * f + c) % B :: rowN f os qs ((o + q * f + c) / B)
  | _, _, _ => []
theorem rowN_length (f : Nat) : ∀ (o q : List Nat) (c : Nat), o.length = q.length → (rowN f o q c).length = o.length := by
  intro o
  induction o with
  | nil => intro q c _; rfl
  | cons x o ih =>
    intro q c h
    cases q with
    | nil => cases h
    | cons y q => simp only [rowN, List.length_cons]; rw [ih q _ (by simpa using h)]
theorem rowN_digs (f : Nat) : ∀ (o q : List Nat) (c : Nat), o.length = q.length → rowN f o q c = digs o.length (val o + f * val q + c) := by
  intro o
  induction o with
  | nil => intro q c h; cases q with | nil => rfl | cons => cases h
  | cons x o ih =>
    intro q c h
    cases q with
    | nil => cases h
    | cons y q =>
      simp only [rowN, List.length_cons, digs, val]
      rw [ih q _ (by simpa using h)]
      have e : x + B * val o + f * (y + B * val q) + c = (x + y * f + c) + B * (val o + f * val q) := by
        rw [Nat.mul_add, Nat.mul_left_comm f B, Nat.mul_add, Nat.mul_comm f y]; omega
      rw [e, Nat.add_mul_mod_self_left, Nat.add_mul_div_left _ _ (by decide : 0 < B)]
      congr 2
      omega
/-- Carries are small. -/
theorem carry_lt {o q f c : Nat} (ho : o < B) (hq : q < B) (hf : f < B) (hc : c < B) : o + q * f + c < B * B ∧ (o + q * f + c) / B < B := by
  have h : q * f ≤ (B - 1) * (B - 1) := Nat.mul_le_mul (by omega) (by omega)
  have h2 : o + q * f + c < B * B := by
    have : (B - 1) * (B - 1) = 18446744065119617025 := by decide
    have e : B * B = 18446744073709551616 := by decide
    have hB : B = 4294967296 := rfl
    omega
  exact ⟨h2, Nat.div_lt_of_lt_mul h2⟩
/-- A product of seven parts, and more: as the program has it. -/
def timesN (q : List Nat) (m more : Nat) : List Nat :=
  let a := rowN (m % B) [0, 0, 0, 0, 0, 0, 0] q 0
  let b := match a with
    | x :: r => x :: rowN (m / B) r (q.take 6) 0
    | [] => []
  let c := rowN 0 b [0, 0, 0, 0, 0, 0, 0] (more % B)
  match c with
  | x :: r => x :: rowN 0 r [0, 0, 0, 0, 0, 0] (more / B)
  | [] => []
theorem take_val : ∀ (l : List Nat) (n : Nat), small l → val (l.take n) = val l % B ^ n := by
  intro l
  induction l with
  | nil => intro n _; simp [val]
  | cons x l ih =>
    intro n h
    cases n with
    | zero => simp [val, Nat.mod_one]
    | succ n =>
      have h1 := h x (by simp)
      have h2 := ih n fun y hy => h y (List.mem_cons_of_mem _ hy)
      simp only [List.take_succ_cons, val, h2, Nat.pow_succ]
      rw [Nat.mul_comm (B ^ n) B, Nat.mod_mul]
      rw [Nat.add_mul_mod_self_left, Nat.mod_eq_of_lt h1, Nat.add_mul_div_left _ _ (by decide : 0 < B), Nat.div_eq_of_lt h1, Nat.zero_add]
theorem timesN_eq (q : List Nat) (hl : q.length = 7) (hq : small q) (m more : Nat) : timesN q m more = digs 7 (val q * m + more) := by
  have h1 := rowN_digs (m % B) [0, 0, 0, 0, 0, 0, 0] q 0 (by simp [hl])
  have z7 : val [0, 0, 0, 0, 0, 0, 0] = 0 := by decide
  have z6 : val [0, 0, 0, 0, 0, 0] = 0 := by decide
  rw [z7] at h1
  simp only [List.length_cons, List.length_nil, Nat.zero_add, Nat.add_zero] at h1
  unfold timesN
  rw [h1]
  generalize hA : m % B * val q = A
  simp only [digs]
  have h2 := rowN_digs (m / B) (digs 6 (A / B)) (q.take 6) 0 (by rw [digs_length]; simp [hl])
  rw [digs_length, val_digs, take_val q 6 hq] at h2
  simp only [digs] at h2
  rw [h2]
  have key : A % B :: digs 6 ((A / B) % B ^ 6 + m / B * (val q % B ^ 6) + 0) = digs 7 (val q * m) := by
    have e : val q * m = A + B * (m / B * val q) := by
      rw [← hA]
      have hm := Nat.mod_add_div m B
      calc val q * m = (m % B + B * (m / B)) * val q := by rw [hm, Nat.mul_comm]
        _ = m % B * val q + B * (m / B * val q) := by rw [Nat.add_mul, Nat.mul_assoc]
    rw [e]
    show _ = (A + B * (m / B * val q)) % B :: digs 6 ((A + B * (m / B * val q)) / B)
    rw [Nat.add_mul_mod_self_left, Nat.add_mul_div_left _ _ (by decide : 0 < B)]
    congr 1
    rw [← digs_mod 6 (A / B + m / B * val q), ← digs_mod 6 (A / B % B ^ 6 + m / B * (val q % B ^ 6) + 0)]
    congr 1
    rw [Nat.add_zero, Nat.add_mod (A / B) (m / B * val q), Nat.add_mod (A / B % B ^ 6), Nat.mod_mod, Nat.mul_mod (m / B) (val q % B ^ 6), Nat.mod_mod, ← Nat.mul_mod]
  have key' : A % B :: digs 6 (A / B % B ^ 6 + m / B * (val q % B ^ 6)) = digs 7 (val q * m) := key
  simp only [digs] at key'
  rw [Nat.add_zero, key']
  generalize val q * m = C
  have e7 : [C % B, C / B % B, C / B / B % B, C / B / B / B % B, C / B / B / B / B % B, C / B / B / B / B / B % B, C / B / B / B / B / B / B % B] = digs 7 C := rfl
  have h3 := rowN_digs 0 (digs 7 C) [0, 0, 0, 0, 0, 0, 0] (more % B) (by rw [digs_length]; rfl)
  rw [digs_length, val_digs, z7, Nat.mul_zero, Nat.add_zero] at h3
  rw [e7, h3]
  simp only [digs]
  generalize hD : C % B ^ 7 + more % B = D
  have h4 := rowN_digs 0 (digs 6 (D / B)) [0, 0, 0, 0, 0, 0] (more / B) (by rw [digs_length]; rfl)
  rw [digs_length, val_digs, z6, Nat.mul_zero, Nat.add_zero] at h4
  simp only [digs] at h4
  rw [h4]
  have key2 : D % B :: digs 6 (D / B % B ^ 6 + more / B) = digs 7 (C + more) := by
    rw [← digs_mod 7 (C + more)]
    have e : (C + more) % B ^ 7 = (D + B * (more / B)) % B ^ 7 := by
      rw [← hD]
      have hm := Nat.mod_add_div more B
      have : C % B ^ 7 + more % B + B * (more / B) = C % B ^ 7 + more := by omega
      rw [this]
      simp [Nat.add_mod]
    rw [e, digs_mod]
    show _ = (D + B * (more / B)) % B :: digs 6 ((D + B * (more / B)) / B)
    rw [Nat.add_mul_mod_self_left, Nat.add_mul_div_left _ _ (by decide : 0 < B)]
    congr 1
    rw [← digs_mod 6 (D / B % B ^ 6 + more / B), ← digs_mod 6 (D / B + more / B)]
    congr 1
    simp [Nat.add_mod]
  simpa only [digs] using key2
/-! ### Quotients, bit by bit -/
/-- A bit more of a number that is divided: 'P' so far. -/
theorem step_div {d P b : Nat} (hd : 0 < d) (hb : b < 2) :
    (d ≤ 2 * (P % d) + b → (2 * P + b) / d = 2 * (P / d) + 1 ∧ (2 * P + b) % d = 2 * (P % d) + b - d) ∧
    (2 * (P % d) + b < d → (2 * P + b) / d = 2 * (P / d) ∧ (2 * P + b) % d = 2 * (P % d) + b) := by
  have h1 := Nat.div_add_mod P d
  have h2 := Nat.mod_lt P hd
  generalize hq : P / d = q at h1 ⊢
  generalize hr : P % d = r at h1 h2 ⊢
  have e : 2 * P + b = d * (2 * q) + (2 * r + b) := by rw [← h1]; rw [Nat.mul_left_comm d 2 q]; omega
  constructor
  · intro h
    have e2 : 2 * P + b = d * (2 * q + 1) + (2 * r + b - d) := by rw [e, Nat.mul_add, Nat.mul_one]; omega
    rw [e2]
    refine ⟨?_, ?_⟩
    · rw [Nat.mul_add_div hd, Nat.div_eq_of_lt (by omega)]
    · rw [Nat.mul_add_mod, Nat.mod_eq_of_lt (by omega)]
  · intro h
    rw [e]
    refine ⟨?_, ?_⟩
    · rw [Nat.mul_add_div hd, Nat.div_eq_of_lt h]; omega
    · rw [Nat.mul_add_mod, Nat.mod_eq_of_lt h]
/-- A part of a number. -/
def dig (k N : Nat) : Nat := N / B ^ k % B
theorem dig_lt (k N : Nat) : dig k N < B := Nat.mod_lt _ (by decide)
/-- One bit more, low enough: one part is more by it, the others are as they were. -/
theorem dig_bit {i b X : Nat} (hb : b < 32) (hX : X % 2 ^ (32 * i + b + 1) = 0) (k : Nat) : dig k (X + 2 ^ (32 * i + b)) = if k = i then dig i X + 2 ^ b else dig k X := by
  have hBp : ∀ n, B ^ n = 2 ^ (32 * n) := fun n => by show (2 ^ 32) ^ n = _; rw [← Nat.pow_mul]
  obtain ⟨Y, hY⟩ : ∃ Y, X = 2 ^ (32 * i + b + 1) * Y := ⟨X / 2 ^ (32 * i + b + 1), by have := Nat.div_add_mod X (2 ^ (32 * i + b + 1)); omega⟩
  unfold dig
  by_cases hk : k = i
  · subst hk
    rw [if_pos rfl, hBp]
    have e1 : X + 2 ^ (32 * k + b) = 2 ^ (32 * k) * (2 ^ b * (2 * Y) + 2 ^ b) := by
      rw [hY, Nat.mul_add, ← Nat.mul_assoc, ← Nat.pow_add, Nat.pow_succ, Nat.mul_assoc]
    have e2 : X = 2 ^ (32 * k) * (2 ^ b * (2 * Y)) := by
      rw [hY, ← Nat.mul_assoc, ← Nat.pow_add, Nat.pow_succ, Nat.mul_assoc]
    rw [e1, Nat.mul_div_cancel_left _ (Nat.two_pow_pos _)]
    rw [e2, Nat.mul_div_cancel_left _ (Nat.two_pow_pos _)]
    have e3 : B = 2 ^ b * 2 * 2 ^ (31 - b) := by
      show 2 ^ 32 = _
      rw [← Nat.pow_succ, ← Nat.pow_add]; congr 1; omega
    rw [e3]
    have e4 : 2 ^ b * (2 * Y) + 2 ^ b = 2 ^ b * (2 * Y + 1) := by rw [Nat.mul_add, Nat.mul_one]
    rw [e4, Nat.mul_assoc (2 ^ b) 2, Nat.mul_mod_mul_left, Nat.mul_mod_mul_left]
    have e5 : (2 * Y + 1) % (2 * 2 ^ (31 - b)) = 2 * Y % (2 * 2 ^ (31 - b)) + 1 := by
      have hm := Nat.mod_lt (2 * Y) (show 0 < 2 * 2 ^ (31 - b) by have := Nat.two_pow_pos (31 - b); omega)
      have he : (2 * Y) % (2 * 2 ^ (31 - b)) = 2 * (Y % 2 ^ (31 - b)) := Nat.mul_mod_mul_left _ _ _
      rw [Nat.add_mod, Nat.mod_eq_of_lt (a := 1) (by have := Nat.two_pow_pos (31 - b); omega)]
      rw [he] at hm ⊢
      rw [Nat.mod_eq_of_lt (by omega)]
    rw [e5, Nat.mul_add, Nat.mul_one]
  · rw [if_neg hk]
    rcases Nat.lt_or_ge k i with hlt | hge
    · have e1 : X + 2 ^ (32 * i + b) = B ^ (k + 1) * (2 ^ (32 * i + b - 32 * (k + 1)) * (2 * Y + 1)) := by
        rw [hBp, ← Nat.mul_assoc, ← Nat.pow_add, hY, Nat.pow_succ]
        have : 32 * (k + 1) + (32 * i + b - 32 * (k + 1)) = 32 * i + b := by omega
        rw [this, Nat.mul_add, Nat.mul_one, Nat.mul_assoc]
      have e2 : X = B ^ (k + 1) * (2 ^ (32 * i + b - 32 * (k + 1)) * (2 * Y)) := by
        rw [hBp, ← Nat.mul_assoc, ← Nat.pow_add, hY, Nat.pow_succ]
        have : 32 * (k + 1) + (32 * i + b - 32 * (k + 1)) = 32 * i + b := by omega
        rw [this, Nat.mul_assoc]
      have z : ∀ Z, B ^ (k + 1) * Z / B ^ k % B = 0 := fun Z => by
        rw [Nat.pow_succ, Nat.mul_assoc, Nat.mul_div_cancel_left _ (Nat.pow_pos (by decide)), Nat.mul_mod_right]
      rw [e1, z]
      conv => rhs; rw [e2, z]
    · have hge : i + 1 ≤ k := by omega
      congr 1
      rw [hBp]
      have e0 : 2 ^ (32 * k) = 2 ^ (32 * i + b + 1) * 2 ^ (32 * k - (32 * i + b + 1)) := by rw [← Nat.pow_add]; congr 1; omega
      rw [e0, ← Nat.div_div_eq_div_mul, ← Nat.div_div_eq_div_mul]
      congr 1
      rw [hY, Nat.mul_add_div (Nat.two_pow_pos _), Nat.mul_div_cancel_left _ (Nat.two_pow_pos _), Nat.div_eq_of_lt (Nat.pow_lt_pow_right (by decide) (by omega))]
      omega
end Go.Fw.Wd
namespace Go.Fw.Wd
theorem ofInt_toNat {n : Nat} (h : n < 18446744073709551616) : (BitVec.ofInt 64 (n : Int)).toNat = n := by
  rw [BitVec.toNat_ofInt]
  show ((n : Int) % ((2 ^ 64 : Nat) : Int)).toNat = n
  have : ((2 ^ 64 : Nat) : Int) = 18446744073709551616 := by decide
  rw [this]
  omega
theorem u64_wrap {n : Nat} (h : n < 18446744073709551616) : IntKind.wrap .u64 (n : Int) = (n : Int) := IntWalk.u64_in _ ⟨by omega, by omega⟩
theorem u64_wrap_mod (n : Nat) : IntKind.wrap .u64 (n : Int) = ((n % 18446744073709551616 : Nat) : Int) := by
  show (if IntKind.u64.signed && decide ((n : Int) % (2 ^ 64 : Int) ≥ (2 ^ (64 - 1) : Int)) then (n : Int) % (2 ^ 64 : Int) - (2 ^ 64 : Int) else (n : Int) % (2 ^ 64 : Int)) = _
  rw [show IntKind.u64.signed = false from rfl]
  simp only [Bool.false_and, Bool.false_eq_true, if_false]
  have : (2 ^ 64 : Int) = 18446744073709551616 := by decide
  rw [this]; omega
/-- The low 32 bits. -/
theorem and_low {n : Nat} (h : n < 18446744073709551616) : IntKind.wrap .u64 (((BitVec.ofInt (IntKind.bits .u64) (n : Int) &&& BitVec.ofInt (IntKind.bits .u64) 4294967295).toNat : Nat) : Int) = ((n % 4294967296 : Nat) : Int) := by
  show IntKind.wrap .u64 (((BitVec.ofInt 64 (n : Int) &&& BitVec.ofInt 64 4294967295).toNat : Nat) : Int) = _
  rw [BitVec.toNat_and, ofInt_toNat h, show (BitVec.ofInt 64 4294967295).toNat = 2 ^ 32 - 1 by decide, Nat.and_two_pow_sub_one_eq_mod]
  exact u64_wrap (by have := Nat.mod_lt n (show 0 < 2 ^ 32 by decide); omega)
/-- The lowest bit. -/
theorem and_one {n : Nat} (h : n < 18446744073709551616) : IntKind.wrap .u64 (((BitVec.ofInt (IntKind.bits .u64) (n : Int) &&& BitVec.ofInt (IntKind.bits .u64) 1).toNat : Nat) : Int) = ((n % 2 : Nat) : Int) := by
  show IntKind.wrap .u64 (((BitVec.ofInt 64 (n : Int) &&& BitVec.ofInt 64 1).toNat : Nat) : Int) = _
  rw [BitVec.toNat_and, ofInt_toNat h, show (BitVec.ofInt 64 1).toNat = 2 ^ 1 - 1 by decide, Nat.and_two_pow_sub_one_eq_mod]
  exact u64_wrap (by have := Nat.mod_lt n (show 0 < 2 by decide); omega)
/-- Bits put beside others. -/
theorem or_add {x y b : Nat} (hx : x % 2 ^ b = 0) (hy : y < 2 ^ b) (h : x + y < 18446744073709551616) : IntKind.wrap .u64 (((BitVec.ofInt (IntKind.bits .u64) (x : Int) ||| BitVec.ofInt (IntKind.bits .u64) (y : Int)).toNat : Nat) : Int) = ((x + y : Nat) : Int) := by
  show IntKind.wrap .u64 (((BitVec.ofInt 64 (x : Int) ||| BitVec.ofInt 64 (y : Int)).toNat : Nat) : Int) = _
  rw [BitVec.toNat_or, ofInt_toNat (by omega), ofInt_toNat (by omega)]
  have e : x = 2 ^ b * (x / 2 ^ b) := by have := Nat.div_add_mod x (2 ^ b); omega
  rw [e, ← Nat.two_pow_add_eq_or_of_lt hy, ← e]
  exact u64_wrap h
theorem shr {n : Nat} (j : Nat) : ((n : Int)).fdiv (2 ^ j) = ((n / 2 ^ j : Nat) : Int) := by
  rw [Int.fdiv_eq_ediv_of_nonneg _ (by have := Int.pow_pos (n := 2) (m := j) (by decide); omega)]
  push_cast
  rfl
theorem shl_lt {n j : Nat} (h : n * 2 ^ j < 18446744073709551616) : IntKind.wrap .u64 ((n : Int) * 2 ^ j) = ((n * 2 ^ j : Nat) : Int) := by
  have e : (n : Int) * 2 ^ j = ((n * 2 ^ j : Nat) : Int) := by push_cast; rfl
  rw [e]; exact u64_wrap h
theorem add_lt {x y : Nat} (h : x + y < 18446744073709551616) : IntKind.wrap .u64 ((x : Int) + (y : Int)) = ((x + y : Nat) : Int) := by
  have e : (x : Int) + (y : Int) = ((x + y : Nat) : Int) := by push_cast; rfl
  rw [e]; exact u64_wrap h
theorem mul_lt {x y : Nat} (h : x * y < 18446744073709551616) : IntKind.wrap .u64 ((x : Int) * (y : Int)) = ((x * y : Nat) : Int) := by
  have e : (x : Int) * (y : Int) = ((x * y : Nat) : Int) := by push_cast; rfl
  rw [e]; exact u64_wrap h
end Go.Fw.Wd
namespace Go.Proofs.YtdgjneondmmgdaaGreatDoor
open Go.Fw Go.Fw.Wd
set_option maxRecDepth 100000
/-- A row more, as the program has it. -/
def rowI (f : Int) : List Int → List Int → Int → List Int
  | o :: os, q :: qs, c =>
    let t := IntKind.wrap .u64 (c + IntKind.wrap .u64 (o + IntKind.wrap .u64 (q * f)))
    IntKind.wrap .u64 (((BitVec.ofInt (IntKind.bits .u64) t &&& BitVec.ofInt (IntKind.bits .u64) 4294967295).toNat : Nat) : Int) :: rowI f os qs (t.fdiv (2 ^ 32))
  | _, _, _ => []
/-- What is carried is added. -/
def addI : List Int → Int → List Int
  | o :: os, c =>
    let t := IntKind.wrap .u64 (c + o)
    IntKind.wrap .u64 (((BitVec.ofInt (IntKind.bits .u64) t &&& BitVec.ofInt (IntKind.bits .u64) 4294967295).toNat : Nat) : Int) :: addI os (t.fdiv (2 ^ 32))
  | _, _ => []
def lowI (m : Int) : Int := IntKind.wrap .u64 (((BitVec.ofInt (IntKind.bits .u64) m &&& BitVec.ofInt (IntKind.bits .u64) 4294967295).toNat : Nat) : Int)
def timesI (q : List Int) (m more : Int) : List Int :=
  let a := rowI (lowI m) [0, 0, 0, 0, 0, 0, 0] q 0
  let b := match a with
    | x :: r => x :: rowI (m.fdiv (2 ^ 32)) r (q.take 6) 0
    | [] => []
  let c := addI b (lowI more)
  match c with
  | x :: r => x :: addI r (more.fdiv (2 ^ 32))
  | [] => []
def cells (l : List Int) : V := match l with
  | [] => .nil
  | x :: r => .cons (.int false .u64 x) (cells r)
theorem times_tree (a b c d e f g m more : Int) : evFn (en []) 400 610 (.cons (.agg (cells [a, b, c, d, e, f, g])) (.cons (.int false .u64 m) (.cons (.int false .u64 more) .nil))) =
    Tree.leaf (.agg (cells (timesI [a, b, c, d, e, f, g] m more))) := by kernel_rfl
/-- Numbers as integers. -/
def up (l : List Nat) : List Int := l.map fun (x : Nat) => (x : Int)
theorem rowI_up {f : Nat} (hf : f < B) : ∀ (o q : List Nat) (c : Nat), small o → small q → c < B → rowI (f : Int) (up o) (up q) (c : Int) = up (rowN f o q c) := by
  intro o
  induction o with
  | nil => intro q c _ _ _; simp [rowI, rowN, up]
  | cons x o ih =>
    intro q c ho hq hc
    cases q with
    | nil => simp [rowI, rowN, up]
    | cons y q =>
      obtain ⟨h1, h2⟩ := carry_lt (ho x (by simp)) (hq y (by simp)) hf hc
      have hB : B = 4294967296 := rfl
      have hBB : B * B = 18446744073709551616 := by decide
      rw [hBB] at h1
      simp only [up, List.map_cons, rowI, rowN]
      have e1 : IntKind.wrap .u64 ((y : Int) * (f : Int)) = ((y * f : Nat) : Int) := mul_lt (by omega)
      rw [e1, add_lt (by omega), add_lt (by omega)]
      have e2 : c + (x + y * f) = x + y * f + c := by omega
      rw [e2, and_low h1, shr]
      have e3 : (2 : Nat) ^ 32 = B := by decide
      rw [e3]
      congr 1
      exact ih q _ (fun z hz => ho z (List.mem_cons_of_mem _ hz)) (fun z hz => hq z (List.mem_cons_of_mem _ hz)) h2
theorem addI_up : ∀ (o : List Nat) (c : Nat), small o → c < B → addI (up o) (c : Int) = up (rowN 0 o (List.replicate o.length 0) c) := by
  intro o
  induction o with
  | nil => intro c _ _; rfl
  | cons x o ih =>
    intro c ho hc
    have hx := ho x (by simp)
    have hB : B = 4294967296 := rfl
    simp only [up, List.map_cons, addI, List.length_cons, List.replicate_succ, rowN, Nat.mul_zero, Nat.add_zero]
    rw [add_lt (by omega)]
    have e2 : c + x = x + c := by omega
    rw [e2, and_low (by omega), shr]
    have e3 : (2 : Nat) ^ 32 = B := by decide
    rw [e3]
    congr 1
    have hBB : B * B = 18446744073709551616 := by decide
    exact ih _ (fun z hz => ho z (List.mem_cons_of_mem _ hz)) (Nat.div_lt_of_lt_mul (by rw [hBB]; omega))
theorem rowN_small (f : Nat) : ∀ (o q : List Nat) (c : Nat), small (rowN f o q c) := by
  intro o
  induction o with
  | nil => intro q c x hx; cases hx
  | cons y o ih =>
    intro q c
    cases q with
    | nil => intro x hx; cases hx
    | cons z q =>
      intro x hx
      simp only [rowN, List.mem_cons] at hx
      rcases hx with rfl | hx
      · exact Nat.mod_lt _ (by decide)
      · exact ih _ _ x hx
theorem timesI_up (q : List Nat) (hl : q.length = 7) (hq : small q) {m more : Nat} (hm : m < 18446744073709551616) (hmo : more < 18446744073709551616) : timesI (up q) (m : Int) (more : Int) = up (digs 7 (val q * m + more)) := by
  rw [← timesN_eq q hl hq]
  have hB : B = 4294967296 := rfl
  have z7 : small [0, 0, 0, 0, 0, 0, 0] := fun x hx => by simp at hx; subst hx; decide
  have e3 : (2 : Nat) ^ 32 = B := by decide
  have l1 : lowI (m : Int) = ((m % B : Nat) : Int) := and_low hm
  have l2 : lowI (more : Int) = ((more % B : Nat) : Int) := and_low hmo
  unfold timesI timesN
  simp only [l1, l2, shr, e3]
  have h1 := rowI_up (f := m % B) (Nat.mod_lt _ (by decide)) [0, 0, 0, 0, 0, 0, 0] q 0 z7 hq (by decide)
  have h1' : rowI ((m % B : Nat) : Int) [0, 0, 0, 0, 0, 0, 0] (up q) 0 = up (rowN (m % B) [0, 0, 0, 0, 0, 0, 0] q 0) := h1
  rw [h1']
  have hs1 := rowN_small (m % B) [0, 0, 0, 0, 0, 0, 0] q 0
  have hlen1 := rowN_length (m % B) [0, 0, 0, 0, 0, 0, 0] q 0 (by simp [hl])
  generalize rowN (m % B) [0, 0, 0, 0, 0, 0, 0] q 0 = A at hs1 hlen1
  cases A with
  | nil => cases hlen1
  | cons x r =>
    simp only [List.length_cons, List.length_nil] at hlen1
    have hBB : B * B = 18446744073709551616 := by decide
    have h2 := rowI_up (f := m / B) (Nat.div_lt_of_lt_mul (by rw [hBB]; omega)) r (q.take 6) 0 (fun z hz => hs1 z (List.mem_cons_of_mem _ hz)) (fun z hz => hq z (List.mem_of_mem_take hz)) (by decide)
    have ht : (up q).take 6 = up (q.take 6) := by simp [up, List.map_take]
    have h2' : rowI ((m / B : Nat) : Int) (up r) ((up q).take 6) 0 = up (rowN (m / B) r (q.take 6) 0) := by rw [ht]; exact h2
    show (match addI ((x : Int) :: rowI ((m / B : Nat) : Int) (up r) ((up q).take 6) 0) ((more % B : Nat) : Int) with | x :: r => x :: addI r ((more / B : Nat) : Int) | [] => []) = _
    rw [h2']
    have hs2 := rowN_small (m / B) r (q.take 6) 0
    have hlen2 := rowN_length (m / B) r (q.take 6) 0 (by simp [hl]; omega)
    have h3 := addI_up (x :: rowN (m / B) r (q.take 6) 0) (more % B) (fun z hz => by
      rcases List.mem_cons.1 hz with rfl | hz
      · exact hs1 z (by simp)
      · exact hs2 z hz) (Nat.mod_lt _ (by decide))
    have hr7 : List.replicate (x :: rowN (m / B) r (q.take 6) 0).length 0 = [0, 0, 0, 0, 0, 0, 0] := by rw [List.length_cons, hlen2, show r.length = 6 by omega]; rfl
    rw [hr7] at h3
    have h3' : addI ((x : Int) :: up (rowN (m / B) r (q.take 6) 0)) ((more % B : Nat) : Int) = up (rowN 0 (x :: rowN (m / B) r (q.take 6) 0) [0, 0, 0, 0, 0, 0, 0] (more % B)) := h3
    rw [h3']
    have hs4 := rowN_small 0 (x :: rowN (m / B) r (q.take 6) 0) [0, 0, 0, 0, 0, 0, 0] (more % B)
    have hlen4 := rowN_length 0 (x :: rowN (m / B) r (q.take 6) 0) [0, 0, 0, 0, 0, 0, 0] (more % B) (by rw [List.length_cons, hlen2]; simp; omega)
    show _ = up (match rowN 0 (x :: rowN (m / B) r (q.take 6) 0) [0, 0, 0, 0, 0, 0, 0] (more % B) with | x :: r => x :: rowN 0 r [0, 0, 0, 0, 0, 0] (more / B) | [] => [])
    generalize rowN 0 (x :: rowN (m / B) r (q.take 6) 0) [0, 0, 0, 0, 0, 0, 0] (more % B) = D at hs4 hlen4
    cases D with
    | nil => simp at hlen4
    | cons y s =>
      have hls : s.length = 6 := by simp only [List.length_cons, hlen2] at hlen4; omega
      have h5 := addI_up s (more / B) (fun z hz => hs4 z (List.mem_cons_of_mem _ hz)) (Nat.div_lt_of_lt_mul (by rw [hBB]; omega))
      rw [hls] at h5
      show (y : Int) :: addI (up s) ((more / B : Nat) : Int) = _
      rw [h5]
      rfl
end Go.Proofs.YtdgjneondmmgdaaGreatDoor
namespace Go.Proofs.YtdgjneondmmgdaaGreatDoor
open Go.Fw Go.Fw.Wd
set_option maxRecDepth 100000
set_option linter.unusedVariables false
def bitW (q b : Int) : Int := IntKind.wrap .u64 ((BitVec.toNat (BitVec.ofInt (IntKind.bits .u64) (Int.fdiv q ((2 : Int) ^ min (Int.toNat b) (IntKind.bits .u64))) &&& BitVec.ofInt (IntKind.bits .u64) (1 : Int)) : Nat) : Int)
def restW (q r b : Int) : Int := IntKind.wrap .u64 ((BitVec.toNat (BitVec.ofInt (IntKind.bits .u64) (IntKind.wrap .u64 (r * (2 : Int) ^ min 1 (IntKind.bits .u64))) ||| BitVec.ofInt (IntKind.bits .u64) (bitW q b)) : Nat) : Int)
def hitW (q d r b : Int) : Bool := bif Int.fdiv r ((2 : Int) ^ min 63 (IntKind.bits .u64)) == (1 : Int) then true else decide (restW q r b ≥ d)
def putW (h : Bool) (o b : Int) : Int := bif h then IntKind.wrap .u64 ((BitVec.toNat (BitVec.ofInt (IntKind.bits .u64) o ||| BitVec.ofInt (IntKind.bits .u64) (IntKind.wrap .u64 ((1 : Int) * (2 : Int) ^ min (Int.toNat b) (IntKind.bits .u64)))) : Nat) : Int) else o
def sameW (h : Bool) (o : Int) : Int := bif h then o else o
def leftW (q d r b : Int) : Int := bif hitW q d r b then IntKind.wrap .u64 (restW q r b - d) else restW q r b
abbrev oT (d r : Int) (i : Nat) (b : Int) : V := .cons (.int false .u64 d) (.cons (.ptr true 0 0 0 0) (.cons (.ptr true 1 0 0 0) (.cons (.int true .u64 0) (.cons (.ptr true 2 0 0 0) (.cons (.int false .u64 r) (.cons (.int true .i64 (.ofNat i)) (.cons (.int false .i64 b) .nil)))))))
abbrev oB (q o : List Int) : V := .cons (.agg (cells q)) (.cons (.agg (cells [0, 0, 0, 0, 0, 0, 0])) (.cons (.agg (cells o)) .nil))
abbrev KO : List Nat := [1, 2, 4, 5, 6, 7, 8, 9]
abbrev HO : List Nat := [0, 1, 2]

theorem over_body0 (B : Base) (d r b q0 q1 q2 q3 q4 q5 q6 o0 o1 o2 o3 o4 o5 o6 : Int) : ((ev (en []) 400 611 (loopAt P 611 7) B (canon 3 49 KO HO (oT d r 0 b) (oB [q0, q1, q2, q3, q4, q5, q6] [o0, o1, o2, o3, o4, o5, o6]))).bind fun x => Tree.leaf (x.1, vw 3 49 KO HO x.2)) =
    Tree.node (bif decide (b ≥ (0 : Int)) then false else true) (Tree.leaf (Ex.exit 2, true, oT d r 0 b, oB [q0, q1, q2, q3, q4, q5, q6] [o0, o1, o2, o3, o4, o5, o6])) (Tree.need ((0 : Int) ≤ b ∧ (hitW q0 d r b = true → (0 : Int) ≤ b))
      (Tree.leaf (Ex.normal, true, oT d (leftW q0 d r b) 0 (IntKind.wrap .i64 (b - (1 : Int))), oB [q0, q1, q2, q3, q4, q5, q6] [putW (hitW q0 d r b) o0 b, sameW (hitW q0 d r b) o1, sameW (hitW q0 d r b) o2, sameW (hitW q0 d r b) o3, sameW (hitW q0 d r b) o4, sameW (hitW q0 d r b) o5, sameW (hitW q0 d r b) o6]))) := by kernel_rfl
theorem over_body1 (B : Base) (d r b q0 q1 q2 q3 q4 q5 q6 o0 o1 o2 o3 o4 o5 o6 : Int) : ((ev (en []) 400 611 (loopAt P 611 7) B (canon 3 49 KO HO (oT d r 1 b) (oB [q0, q1, q2, q3, q4, q5, q6] [o0, o1, o2, o3, o4, o5, o6]))).bind fun x => Tree.leaf (x.1, vw 3 49 KO HO x.2)) =
    Tree.node (bif decide (b ≥ (0 : Int)) then false else true) (Tree.leaf (Ex.exit 2, true, oT d r 1 b, oB [q0, q1, q2, q3, q4, q5, q6] [o0, o1, o2, o3, o4, o5, o6])) (Tree.need ((0 : Int) ≤ b ∧ (hitW q1 d r b = true → (0 : Int) ≤ b))
      (Tree.leaf (Ex.normal, true, oT d (leftW q1 d r b) 1 (IntKind.wrap .i64 (b - (1 : Int))), oB [q0, q1, q2, q3, q4, q5, q6] [sameW (hitW q1 d r b) o0, putW (hitW q1 d r b) o1 b, sameW (hitW q1 d r b) o2, sameW (hitW q1 d r b) o3, sameW (hitW q1 d r b) o4, sameW (hitW q1 d r b) o5, sameW (hitW q1 d r b) o6]))) := by kernel_rfl
theorem over_body2 (B : Base) (d r b q0 q1 q2 q3 q4 q5 q6 o0 o1 o2 o3 o4 o5 o6 : Int) : ((ev (en []) 400 611 (loopAt P 611 7) B (canon 3 49 KO HO (oT d r 2 b) (oB [q0, q1, q2, q3, q4, q5, q6] [o0, o1, o2, o3, o4, o5, o6]))).bind fun x => Tree.leaf (x.1, vw 3 49 KO HO x.2)) =
    Tree.node (bif decide (b ≥ (0 : Int)) then false else true) (Tree.leaf (Ex.exit 2, true, oT d r 2 b, oB [q0, q1, q2, q3, q4, q5, q6] [o0, o1, o2, o3, o4, o5, o6])) (Tree.need ((0 : Int) ≤ b ∧ (hitW q2 d r b = true → (0 : Int) ≤ b))
      (Tree.leaf (Ex.normal, true, oT d (leftW q2 d r b) 2 (IntKind.wrap .i64 (b - (1 : Int))), oB [q0, q1, q2, q3, q4, q5, q6] [sameW (hitW q2 d r b) o0, sameW (hitW q2 d r b) o1, putW (hitW q2 d r b) o2 b, sameW (hitW q2 d r b) o3, sameW (hitW q2 d r b) o4, sameW (hitW q2 d r b) o5, sameW (hitW q2 d r b) o6]))) := by kernel_rfl
theorem over_body3 (B : Base) (d r b q0 q1 q2 q3 q4 q5 q6 o0 o1 o2 o3 o4 o5 o6 : Int) : ((ev (en []) 400 611 (loopAt P 611 7) B (canon 3 49 KO HO (oT d r 3 b) (oB [q0, q1, q2, q3, q4, q5, q6] [o0, o1, o2, o3, o4, o5, o6]))).bind fun x => Tree.leaf (x.1, vw 3 49 KO HO x.2)) =
    Tree.node (bif decide (b ≥ (0 : Int)) then false else true) (Tree.leaf (Ex.exit 2, true, oT d r 3 b, oB [q0, q1, q2, q3, q4, q5, q6] [o0, o1, o2, o3, o4, o5, o6])) (Tree.need ((0 : Int) ≤ b ∧ (hitW q3 d r b = true → (0 : Int) ≤ b))
      (Tree.leaf (Ex.normal, true, oT d (leftW q3 d r b) 3 (IntKind.wrap .i64 (b - (1 : Int))), oB [q0, q1, q2, q3, q4, q5, q6] [sameW (hitW q3 d r b) o0, sameW (hitW q3 d r b) o1, sameW (hitW q3 d r b) o2, putW (hitW q3 d r b) o3 b, sameW (hitW q3 d r b) o4, sameW (hitW q3 d r b) o5, sameW (hitW q3 d r b) o6]))) := by kernel_rfl
theorem over_body4 (B : Base) (d r b q0 q1 q2 q3 q4 q5 q6 o0 o1 o2 o3 o4 o5 o6 : Int) : ((ev (en []) 400 611 (loopAt P 611 7) B (canon 3 49 KO HO (oT d r 4 b) (oB [q0, q1, q2, q3, q4, q5, q6] [o0, o1, o2, o3, o4, o5, o6]))).bind fun x => Tree.leaf (x.1, vw 3 49 KO HO x.2)) =
    Tree.node (bif decide (b ≥ (0 : Int)) then false else true) (Tree.leaf (Ex.exit 2, true, oT d r 4 b, oB [q0, q1, q2, q3, q4, q5, q6] [o0, o1, o2, o3, o4, o5, o6])) (Tree.need ((0 : Int) ≤ b ∧ (hitW q4 d r b = true → (0 : Int) ≤ b))
      (Tree.leaf (Ex.normal, true, oT d (leftW q4 d r b) 4 (IntKind.wrap .i64 (b - (1 : Int))), oB [q0, q1, q2, q3, q4, q5, q6] [sameW (hitW q4 d r b) o0, sameW (hitW q4 d r b) o1, sameW (hitW q4 d r b) o2, sameW (hitW q4 d r b) o3, putW (hitW q4 d r b) o4 b, sameW (hitW q4 d r b) o5, sameW (hitW q4 d r b) o6]))) := by kernel_rfl
theorem over_body5 (B : Base) (d r b q0 q1 q2 q3 q4 q5 q6 o0 o1 o2 o3 o4 o5 o6 : Int) : ((ev (en []) 400 611 (loopAt P 611 7) B (canon 3 49 KO HO (oT d r 5 b) (oB [q0, q1, q2, q3, q4, q5, q6] [o0, o1, o2, o3, o4, o5, o6]))).bind fun x => Tree.leaf (x.1, vw 3 49 KO HO x.2)) =
    Tree.node (bif decide (b ≥ (0 : Int)) then false else true) (Tree.leaf (Ex.exit 2, true, oT d r 5 b, oB [q0, q1, q2, q3, q4, q5, q6] [o0, o1, o2, o3, o4, o5, o6])) (Tree.need ((0 : Int) ≤ b ∧ (hitW q5 d r b = true → (0 : Int) ≤ b))
      (Tree.leaf (Ex.normal, true, oT d (leftW q5 d r b) 5 (IntKind.wrap .i64 (b - (1 : Int))), oB [q0, q1, q2, q3, q4, q5, q6] [sameW (hitW q5 d r b) o0, sameW (hitW q5 d r b) o1, sameW (hitW q5 d r b) o2, sameW (hitW q5 d r b) o3, sameW (hitW q5 d r b) o4, putW (hitW q5 d r b) o5 b, sameW (hitW q5 d r b) o6]))) := by kernel_rfl
theorem over_body6 (B : Base) (d r b q0 q1 q2 q3 q4 q5 q6 o0 o1 o2 o3 o4 o5 o6 : Int) : ((ev (en []) 400 611 (loopAt P 611 7) B (canon 3 49 KO HO (oT d r 6 b) (oB [q0, q1, q2, q3, q4, q5, q6] [o0, o1, o2, o3, o4, o5, o6]))).bind fun x => Tree.leaf (x.1, vw 3 49 KO HO x.2)) =
    Tree.node (bif decide (b ≥ (0 : Int)) then false else true) (Tree.leaf (Ex.exit 2, true, oT d r 6 b, oB [q0, q1, q2, q3, q4, q5, q6] [o0, o1, o2, o3, o4, o5, o6])) (Tree.need ((0 : Int) ≤ b ∧ (hitW q6 d r b = true → (0 : Int) ≤ b))
      (Tree.leaf (Ex.normal, true, oT d (leftW q6 d r b) 6 (IntKind.wrap .i64 (b - (1 : Int))), oB [q0, q1, q2, q3, q4, q5, q6] [sameW (hitW q6 d r b) o0, sameW (hitW q6 d r b) o1, sameW (hitW q6 d r b) o2, sameW (hitW q6 d r b) o3, sameW (hitW q6 d r b) o4, sameW (hitW q6 d r b) o5, putW (hitW q6 d r b) o6 b]))) := by kernel_rfl
/-- The parts of a number below 2^224. -/
def parts (X : Nat) : List Int := [((dig 0 X : Nat) : Int), ((dig 1 X : Nat) : Int), ((dig 2 X : Nat) : Int), ((dig 3 X : Nat) : Int), ((dig 4 X : Nat) : Int), ((dig 5 X : Nat) : Int), ((dig 6 X : Nat) : Int)]
theorem dig_succ (k X : Nat) : dig k (X / B) = dig (k + 1) X := by
  unfold dig
  rw [Nat.div_div_eq_div_mul, Nat.pow_succ, Nat.mul_comm]
theorem dig_zero (X : Nat) : dig 0 X = X % B := by unfold dig; rw [Nat.pow_zero, Nat.div_one]
theorem parts_eq (X : Nat) : parts X = up (digs 7 X) := by
  unfold parts up
  simp only [digs, List.map_cons, List.map_nil, ← dig_zero, dig_succ]
theorem prefix_bit {V i b : Nat} (hb : b < 32) : V / 2 ^ (32 * i + b) = 2 * (V / 2 ^ (32 * i + (b + 1))) + dig i V / 2 ^ b % 2 := by
  have hBp : B ^ i = 2 ^ (32 * i) := by show (2 ^ 32) ^ i = _; rw [← Nat.pow_mul]
  have e1 : V / 2 ^ (32 * i + (b + 1)) = V / 2 ^ (32 * i + b) / 2 := by rw [Nat.div_div_eq_div_mul, ← Nat.pow_succ]; rfl
  have e2 : dig i V / 2 ^ b % 2 = V / 2 ^ (32 * i + b) % 2 := by
    unfold dig
    rw [hBp, Nat.pow_add, ← Nat.div_div_eq_div_mul]
    generalize V / 2 ^ (32 * i) = Y
    have e3 : B = 2 ^ b * (2 * 2 ^ (31 - b)) := by
      show 2 ^ 32 = _
      rw [← Nat.mul_assoc, ← Nat.pow_succ, ← Nat.pow_add]; congr 1; omega
    rw [e3, Nat.mod_mul_right_div_self, Nat.mod_mul_right_mod]
  rw [e1, e2]
  omega
theorem u64_emod (x : Int) : IntKind.wrap .u64 x = x % 18446744073709551616 := by
  show (if IntKind.u64.signed && decide (x % (2 ^ 64 : Int) ≥ (2 ^ (64 - 1) : Int)) then x % (2 ^ 64 : Int) - (2 ^ 64 : Int) else x % (2 ^ 64 : Int)) = _
  rw [show IntKind.u64.signed = false from rfl]
  simp only [Bool.false_and, Bool.false_eq_true, if_false]
  rfl
theorem min_small {b : Nat} (h : b < 64) : min (Int.toNat (b : Int)) (IntKind.bits .u64) = b := by
  show min (Int.toNat (b : Int)) 64 = b
  rw [Int.toNat_natCast]; omega
theorem bitW_up {q b : Nat} (hq : q < B) (hb : b < 32) : bitW (q : Int) (b : Int) = ((q / 2 ^ b % 2 : Nat) : Int) := by
  unfold bitW
  rw [min_small (by omega), shr]
  have : q / 2 ^ b ≤ q := Nat.div_le_self _ _
  have hB : B = 4294967296 := rfl
  exact and_one (by omega)
theorem hit_up {q d r b : Nat} (hq : q < B) (hb : b < 32) (hd : 0 < d) (hd2 : d < 18446744073709551616) (hr : r < d) :
    hitW (q : Int) (d : Int) (r : Int) (b : Int) = decide (d ≤ 2 * r + q / 2 ^ b % 2) ∧ leftW (q : Int) (d : Int) (r : Int) (b : Int) = ((if d ≤ 2 * r + q / 2 ^ b % 2 then 2 * r + q / 2 ^ b % 2 - d else 2 * r + q / 2 ^ b % 2 : Nat) : Int) := by
  have hβ : q / 2 ^ b % 2 < 2 := Nat.mod_lt _ (by decide)
  unfold leftW hitW restW
  rw [bitW_up hq hb]
  generalize q / 2 ^ b % 2 = β at hβ ⊢
  have e1 : min 1 (IntKind.bits .u64) = 1 := rfl
  have e63 : min 63 (IntKind.bits .u64) = 63 := rfl
  rw [e1, e63, shr 63]
  have e2 : (r : Int) * (2 : Int) ^ 1 = ((2 * r : Nat) : Int) := by push_cast; omega
  have e2' : IntKind.wrap .u64 ((r : Int) * (2 : Int) ^ 1) = ((2 * r % 18446744073709551616 : Nat) : Int) := by rw [e2, u64_wrap_mod]
  rw [e2']
  have e3 : (2 : Nat) ^ 63 = 9223372036854775808 := by decide
  rw [e3]
  rw [or_add (b := 1) (by omega) (by omega) (by omega)]
  rcases Nat.lt_or_ge r 9223372036854775808 with hlt | hge
  · have h0 : r / 9223372036854775808 = 0 := Nat.div_eq_of_lt hlt
    have hm : 2 * r % 18446744073709551616 = 2 * r := Nat.mod_eq_of_lt (by omega)
    rw [h0, hm]
    have e4 : (((0 : Nat) : Int) == (1 : Int)) = false := by decide
    rw [e4]
    simp only [cond_false]
    by_cases hc : d ≤ 2 * r + β
    · have h1 : decide (((2 * r + β : Nat) : Int) ≥ (d : Int)) = true := decide_eq_true (by omega)
      rw [h1, if_pos hc]
      refine ⟨(decide_eq_true hc).symm, ?_⟩
      simp only [cond_true]
      have e5 : ((2 * r + β : Nat) : Int) - (d : Int) = ((2 * r + β - d : Nat) : Int) := by omega
      rw [e5, u64_wrap (by omega)]
    · have h1 : decide (((2 * r + β : Nat) : Int) ≥ (d : Int)) = false := decide_eq_false (by omega)
      rw [h1, if_neg hc]
      exact ⟨(decide_eq_false hc).symm, rfl⟩
  · have h0 : r / 9223372036854775808 = 1 := by omega
    rw [h0]
    have e4 : (((1 : Nat) : Int) == (1 : Int)) = true := by decide
    rw [e4]
    simp only [cond_true]
    have hc : d ≤ 2 * r + β := by omega
    rw [if_pos hc]
    refine ⟨(decide_eq_true hc).symm, ?_⟩
    have hm : 2 * r % 18446744073709551616 = 2 * r - 18446744073709551616 := by omega
    rw [hm]
    have e5 : IntKind.wrap .u64 (((2 * r - 18446744073709551616 + β : Nat) : Int) - (d : Int)) = IntKind.wrap .u64 ((2 * r + β - d : Nat) : Int) := by
      rw [u64_emod, u64_emod]
      omega
    rw [e5, u64_wrap (by omega)]
theorem putW_up {h : Bool} {o b : Nat} (ho : o < B) (hb : b < 32) (hz : o % 2 ^ (b + 1) = 0) : putW h (o : Int) (b : Int) = ((if h = true then o + 2 ^ b else o : Nat) : Int) := by
  unfold putW
  cases h with
  | false => rfl
  | true =>
    simp only [cond_true, if_true]
    rw [min_small (by omega)]
    have hB : B = 4294967296 := rfl
    have h2 : 2 ^ b ≤ 2 ^ 31 := Nat.pow_le_pow_right (by decide) (by omega)
    have e31 : (2 : Nat) ^ 31 = 2147483648 := by decide
    have e1 : (1 : Int) * (2 : Int) ^ b = ((2 ^ b : Nat) : Int) := by push_cast; omega
    have e1' : IntKind.wrap .u64 ((1 : Int) * (2 : Int) ^ b) = ((2 ^ b : Nat) : Int) := by rw [e1]; exact u64_wrap (by omega)
    rw [e1']
    have e2 : 2 ^ (b + 1) = 2 ^ b * 2 := Nat.pow_succ 2 b
    exact or_add (b := b + 1) hz (by rw [e2]; have := Nat.two_pow_pos b; omega) (by omega)
theorem sameW_eq (h : Bool) (o : Int) : sameW h o = o := by cases h <;> rfl
/-- Behind so many bits. -/
def overX (V d s : Nat) : Nat := V / 2 ^ s / d * 2 ^ s
theorem dig_low {X i b : Nat} (hb : b < 32) (hX : X % 2 ^ (32 * i + (b + 1)) = 0) : dig i X % 2 ^ (b + 1) = 0 := by
  have hBp : B ^ i = 2 ^ (32 * i) := by show (2 ^ 32) ^ i = _; rw [← Nat.pow_mul]
  obtain ⟨Y, hY⟩ : ∃ Y, X = 2 ^ (32 * i + (b + 1)) * Y := ⟨X / 2 ^ (32 * i + (b + 1)), by have := Nat.div_add_mod X (2 ^ (32 * i + (b + 1))); omega⟩
  unfold dig
  rw [hBp, hY, Nat.pow_add, Nat.mul_assoc, Nat.mul_div_cancel_left _ (Nat.two_pow_pos _)]
  have e3 : B = 2 ^ (b + 1) * 2 ^ (31 - b) := by
    show 2 ^ 32 = _
    rw [← Nat.pow_add]; congr 1; omega
  rw [e3, Nat.mul_mod_mul_left, Nat.mul_mod_right]
/-- A round. -/
theorem over_step {V d i b : Nat} (hd : 0 < d) (hd2 : d < 18446744073709551616) (hb : b < 32) :
    leftW ((dig i V : Nat) : Int) (d : Int) ((V / 2 ^ (32 * i + (b + 1)) % d : Nat) : Int) (b : Int) = ((V / 2 ^ (32 * i + b) % d : Nat) : Int) ∧
    ∀ k, (if k = i then putW (hitW ((dig i V : Nat) : Int) (d : Int) ((V / 2 ^ (32 * i + (b + 1)) % d : Nat) : Int) (b : Int)) ((dig i (overX V d (32 * i + (b + 1))) : Nat) : Int) (b : Int) else ((dig k (overX V d (32 * i + (b + 1))) : Nat) : Int)) = ((dig k (overX V d (32 * i + b)) : Nat) : Int) := by
  have hq := dig_lt i V
  have hr := Nat.mod_lt (V / 2 ^ (32 * i + (b + 1))) hd
  obtain ⟨h1, h2⟩ := hit_up hq hb hd hd2 hr
  have hβ : dig i V / 2 ^ b % 2 < 2 := Nat.mod_lt _ (by decide)
  have hp := prefix_bit (V := V) (i := i) hb
  obtain ⟨s1, s2⟩ := step_div (P := V / 2 ^ (32 * i + (b + 1))) hd hβ
  rw [← hp] at s1 s2
  have hX : overX V d (32 * i + (b + 1)) % 2 ^ (32 * i + (b + 1)) = 0 := by unfold overX; exact Nat.mul_mod_left _ _
  have hz := dig_low (i := i) hb hX
  have hput := fun h => putW_up (h := h) (dig_lt i (overX V d (32 * i + (b + 1)))) hb hz
  rw [h1, h2]
  have hpow : 2 ^ (32 * i + (b + 1)) = 2 * 2 ^ (32 * i + b) := by rw [← Nat.add_assoc, Nat.pow_succ, Nat.mul_comm]
  by_cases hc : d ≤ 2 * (V / 2 ^ (32 * i + (b + 1)) % d) + dig i V / 2 ^ b % 2
  · obtain ⟨a1, a2⟩ := s1 hc
    rw [if_pos hc, a2]
    refine ⟨rfl, fun k => ?_⟩
    have hx : overX V d (32 * i + b) = overX V d (32 * i + (b + 1)) + 2 ^ (32 * i + b) := by
      unfold overX
      rw [a1, hpow, Nat.add_mul, Nat.one_mul, Nat.mul_comm 2 (V / (2 * 2 ^ (32 * i + b)) / d), Nat.mul_assoc]
    rw [hx, dig_bit hb hX k, decide_eq_true hc, hput]
    by_cases hk : k = i
    · subst hk; simp
    · simp [hk]
  · obtain ⟨a1, a2⟩ := s2 (by omega)
    rw [if_neg hc, a2]
    refine ⟨rfl, fun k => ?_⟩
    have hx : overX V d (32 * i + b) = overX V d (32 * i + (b + 1)) := by
      unfold overX
      rw [a1, hpow, Nat.mul_comm 2 (V / (2 * 2 ^ (32 * i + b)) / d), Nat.mul_assoc]
    rw [hx, decide_eq_false hc, hput]
    by_cases hk : k = i
    · subst hk; simp
    · simp [hk]

end Go.Proofs.YtdgjneondmmgdaaGreatDoor
namespace Go.Proofs.YtdgjneondmmgdaaGreatDoor
open Go.Fw Go.Fw.Wd
set_option maxRecDepth 100000
set_option linter.unusedVariables false
def cellW (i : Nat) (h : Bool) (X : Nat) (b : Int) (k : Nat) : Int := if k = i then putW h ((dig k X : Nat) : Int) b else sameW h ((dig k X : Nat) : Int)
def outsW (i : Nat) (h : Bool) (X : Nat) (b : Int) : List Int := [cellW i h X b 0, cellW i h X b 1, cellW i h X b 2, cellW i h X b 3, cellW i h X b 4, cellW i h X b 5, cellW i h X b 6]
theorem over_body (i : Nat) (hi : i < 7) (B : Base) (d r b : Int) (V X : Nat) : ((ev (en []) 400 611 (loopAt P 611 7) B (canon 3 49 KO HO (oT d r i b) (oB (parts V) (parts X)))).bind fun x => Tree.leaf (x.1, vw 3 49 KO HO x.2)) =
    Tree.node (bif decide (b ≥ (0 : Int)) then false else true) (Tree.leaf (Ex.exit 2, true, oT d r i b, oB (parts V) (parts X))) (Tree.need ((0 : Int) ≤ b ∧ (hitW ((dig i V : Nat) : Int) d r b = true → (0 : Int) ≤ b))
      (Tree.leaf (Ex.normal, true, oT d (leftW ((dig i V : Nat) : Int) d r b) i (IntKind.wrap .i64 (b - (1 : Int))), oB (parts V) (outsW i (hitW ((dig i V : Nat) : Int) d r b) X b)))) := by
  match i, hi with
  | 0, _ => exact over_body0 B d r b ((dig 0 V : Nat) : Int) ((dig 1 V : Nat) : Int) ((dig 2 V : Nat) : Int) ((dig 3 V : Nat) : Int) ((dig 4 V : Nat) : Int) ((dig 5 V : Nat) : Int) ((dig 6 V : Nat) : Int) ((dig 0 X : Nat) : Int) ((dig 1 X : Nat) : Int) ((dig 2 X : Nat) : Int) ((dig 3 X : Nat) : Int) ((dig 4 X : Nat) : Int) ((dig 5 X : Nat) : Int) ((dig 6 X : Nat) : Int)
  | 1, _ => exact over_body1 B d r b ((dig 0 V : Nat) : Int) ((dig 1 V : Nat) : Int) ((dig 2 V : Nat) : Int) ((dig 3 V : Nat) : Int) ((dig 4 V : Nat) : Int) ((dig 5 V : Nat) : Int) ((dig 6 V : Nat) : Int) ((dig 0 X : Nat) : Int) ((dig 1 X : Nat) : Int) ((dig 2 X : Nat) : Int) ((dig 3 X : Nat) : Int) ((dig 4 X : Nat) : Int) ((dig 5 X : Nat) : Int) ((dig 6 X : Nat) : Int)
  | 2, _ => exact over_body2 B d r b ((dig 0 V : Nat) : Int) ((dig 1 V : Nat) : Int) ((dig 2 V : Nat) : Int) ((dig 3 V : Nat) : Int) ((dig 4 V : Nat) : Int) ((dig 5 V : Nat) : Int) ((dig 6 V : Nat) : Int) ((dig 0 X : Nat) : Int) ((dig 1 X : Nat) : Int) ((dig 2 X : Nat) : Int) ((dig 3 X : Nat) : Int) ((dig 4 X : Nat) : Int) ((dig 5 X : Nat) : Int) ((dig 6 X : Nat) : Int)
  | 3, _ => exact over_body3 B d r b ((dig 0 V : Nat) : Int) ((dig 1 V : Nat) : Int) ((dig 2 V : Nat) : Int) ((dig 3 V : Nat) : Int) ((dig 4 V : Nat) : Int) ((dig 5 V : Nat) : Int) ((dig 6 V : Nat) : Int) ((dig 0 X : Nat) : Int) ((dig 1 X : Nat) : Int) ((dig 2 X : Nat) : Int) ((dig 3 X : Nat) : Int) ((dig 4 X : Nat) : Int) ((dig 5 X : Nat) : Int) ((dig 6 X : Nat) : Int)
  | 4, _ => exact over_body4 B d r b ((dig 0 V : Nat) : Int) ((dig 1 V : Nat) : Int) ((dig 2 V : Nat) : Int) ((dig 3 V : Nat) : Int) ((dig 4 V : Nat) : Int) ((dig 5 V : Nat) : Int) ((dig 6 V : Nat) : Int) ((dig 0 X : Nat) : Int) ((dig 1 X : Nat) : Int) ((dig 2 X : Nat) : Int) ((dig 3 X : Nat) : Int) ((dig 4 X : Nat) : Int) ((dig 5 X : Nat) : Int) ((dig 6 X : Nat) : Int)
  | 5, _ => exact over_body5 B d r b ((dig 0 V : Nat) : Int) ((dig 1 V : Nat) : Int) ((dig 2 V : Nat) : Int) ((dig 3 V : Nat) : Int) ((dig 4 V : Nat) : Int) ((dig 5 V : Nat) : Int) ((dig 6 V : Nat) : Int) ((dig 0 X : Nat) : Int) ((dig 1 X : Nat) : Int) ((dig 2 X : Nat) : Int) ((dig 3 X : Nat) : Int) ((dig 4 X : Nat) : Int) ((dig 5 X : Nat) : Int) ((dig 6 X : Nat) : Int)
  | 6, _ => exact over_body6 B d r b ((dig 0 V : Nat) : Int) ((dig 1 V : Nat) : Int) ((dig 2 V : Nat) : Int) ((dig 3 V : Nat) : Int) ((dig 4 V : Nat) : Int) ((dig 5 V : Nat) : Int) ((dig 6 V : Nat) : Int) ((dig 0 X : Nat) : Int) ((dig 1 X : Nat) : Int) ((dig 2 X : Nat) : Int) ((dig 3 X : Nat) : Int) ((dig 4 X : Nat) : Int) ((dig 5 X : Nat) : Int) ((dig 6 X : Nat) : Int)
  | n + 7, h => exact absurd h (by omega)
theorem outs_eq {V d i b : Nat} (hd : 0 < d) (hd2 : d < 18446744073709551616) (hb : b < 32) :
    outsW i (hitW ((dig i V : Nat) : Int) (d : Int) ((V / 2 ^ (32 * i + (b + 1)) % d : Nat) : Int) (b : Int)) (overX V d (32 * i + (b + 1))) (b : Int) = parts (overX V d (32 * i + b)) := by
  have h := (over_step (V := V) (i := i) hd hd2 hb).2
  have hk : ∀ k, cellW i (hitW ((dig i V : Nat) : Int) (d : Int) ((V / 2 ^ (32 * i + (b + 1)) % d : Nat) : Int) (b : Int)) (overX V d (32 * i + (b + 1))) (b : Int) k = ((dig k (overX V d (32 * i + b)) : Nat) : Int) := by
    intro k
    rw [← h k]
    unfold cellW
    by_cases e : k = i
    · subst e; rw [if_pos rfl, if_pos rfl]
    · rw [if_neg e, if_neg e, sameW_eq]
  unfold outsW parts
  simp only [hk]
abbrev oTs (V d i : Nat) (j : Nat) : Go.Fw.V := oT (d : Int) ((V / 2 ^ (32 * i + j) % d : Nat) : Int) i ((j : Int) - 1)
abbrev oBs (V d i : Nat) (j : Nat) : Go.Fw.V := oB (parts V) (parts (overX V d (32 * i + j)))
noncomputable def overG (V d : Nat) : Lp := ⟨611, 7, fun _ s => match vw 3 49 KO HO s with
  | (true, .cons (.int _ .u64 d') (.cons (.ptr true 0 0 0 0) (.cons (.ptr true 1 0 0 0) (.cons (.int _ .u64 z) (.cons (.ptr true 2 0 0 0) (.cons (.int _ .u64 r) (.cons (.int true .i64 (.ofNat i)) (.cons (.int _ .i64 b) .nil))))))),
      .cons (.agg qc) (.cons (.agg zc) (.cons (.agg oc) .nil))) =>
    bif Nat.beq s.n 3 && Nat.ble i 6 then .need (((d' = (d : Int) ∧ z = 0) ∧ r = ((V / 2 ^ (32 * i + 32) % d : Nat) : Int) ∧ b = 31) ∧ qc.soft = cells (parts V) ∧ zc.soft = cells [0, 0, 0, 0, 0, 0, 0] ∧ oc.soft = cells (parts (overX V d (32 * i + 32))))
      (.leaf (.exit 2, canon 3 49 KO HO (oTs V d i 0) (oBs V d i 0))) else .stuck
  | _ => .stuck⟩
theorem cells_soft : ∀ l : List Int, (cells l).soft = cells l := by
  intro l
  induction l with
  | nil => rfl
  | cons x l ih => simp only [cells, Go.Fw.V.soft, ih]
theorem overG_ok (V d : Nat) (hd : 0 < d) (hd2 : d < 18446744073709551616) : (overG V d).Ok P := by
  refine lp_ok (by kernel_rfl) fun hin B s Q hq => ?_
  simp only [overG] at hq hin ⊢
  split at hq
  · rename_i f1 d' f2 z f3 r i f4 b qc zc oc heq
    cases hn : Nat.beq s.n 3
    · rw [hn] at hq; exact hq.elim
    cases hi : Nat.ble i 6
    · rw [hn, hi] at hq; exact hq.elim
    rw [hn, hi] at hq
    obtain ⟨⟨⟨⟨rfl, rfl⟩, rfl, rfl⟩, h1, h2, h3⟩, hq⟩ := hq
    have hi7 : i < 7 := by have := Nat.le_of_ble_eq_true hi; omega
    have hsame : Same 3 49 KO HO s (oTs V d i 32) (oBs V d i 32) := by
      refine ⟨by rw [heq], by rw [heq]; rfl, ?_⟩
      rw [heq]
      simp only [oB, Go.Fw.V.soft, h1, h2, h3, cells_soft]
    refine loop_view (k := 400) (f := 611) (en_ok (l := []) trivial) hin (fun j : Nat => oTs V d i j) (fun j => oBs V d i j) (fun j => j ≤ 32) (fun j => j) Q (fun j => over_body i hi7 B (d : Int) _ _ V _) ?_ (Nat.eq_of_beq_eq_true hn) (i0 := 32) (Nat.le_refl _) hsame
    intro j hj
    cases j with
    | zero =>
      refine ⟨fun _ => ⟨rfl, _, _, rfl, rfl, hq⟩, fun hx => ?_⟩
      exact absurd hx (by decide)
    | succ b =>
      have hb : b < 32 := by omega
      have eb : ((b + 1 : Nat) : Int) - 1 = (b : Int) := by omega
      have hge : decide ((b : Int) ≥ (0 : Int)) = true := decide_eq_true (by omega)
      refine ⟨fun hx => ?_, fun _ => ⟨⟨by omega, fun _ => by omega⟩, rfl, b, by omega, by omega, ?_, ?_⟩⟩
      · rw [eb, hge] at hx; cases hx
      · simp only [oT, Go.Fw.V.soft]
        rw [eb, (over_step (V := V) (i := i) hd hd2 hb).1, IntWalk.i64_in _ ⟨by omega, by omega⟩]
      · simp only [oB, Go.Fw.V.soft, cells_soft]
        rw [eb, outs_eq hd hd2 hb]
  · exact hq.elim
end Go.Proofs.YtdgjneondmmgdaaGreatDoor
namespace Go.Proofs.YtdgjneondmmgdaaGreatDoor
open Go.Fw Go.Fw.Wd
set_option maxRecDepth 100000
set_option linter.unusedVariables false
def zeroT : V := .cons (.int true .u64 0) (.cons (.int true .u64 0) (.cons (.int true .u64 0) (.cons (.int true .u64 0) (.cons (.int true .u64 0) (.cons (.int true .u64 0) (.cons (.int true .u64 0) .nil))))))
theorem over_tree (V d : Nat) : evFn (en [] [overG V d]) 400 611 (.cons (.agg (cells (parts V))) (.cons (.int false .u64 (d : Int)) .nil)) =
    Tree.need ((((((d : Nat) : Int) = (d : Int) ∧ (0 : Int) = 0) ∧ (0 : Int) = ((V / 2 ^ (32 * 6 + 32) % d : Nat) : Int) ∧ (31 : Int) = 31) ∧ Go.Fw.V.soft (cells (parts V)) = cells (parts V) ∧ Go.Fw.V.soft zeroT = cells [0, 0, 0, 0, 0, 0, 0] ∧ Go.Fw.V.soft zeroT = cells (parts (overX V d (32 * 6 + 32)))) ∧ (((((d : Nat) : Int) = (d : Int) ∧ (0 : Int) = 0) ∧ ((V / 2 ^ (32 * 6 + 0) % d : Nat) : Int) = ((V / 2 ^ (32 * 5 + 32) % d : Nat) : Int) ∧ (31 : Int) = 31) ∧ Go.Fw.V.soft (cells (parts V)) = cells (parts V) ∧ Go.Fw.V.soft (cells [0, 0, 0, 0, 0, 0, 0]) = cells [0, 0, 0, 0, 0, 0, 0] ∧ Go.Fw.V.soft (cells (parts (overX V d (32 * 6 + 0)))) = cells (parts (overX V d (32 * 5 + 32)))) ∧ (((((d : Nat) : Int) = (d : Int) ∧ (0 : Int) = 0) ∧ ((V / 2 ^ (32 * 5 + 0) % d : Nat) : Int) = ((V / 2 ^ (32 * 4 + 32) % d : Nat) : Int) ∧ (31 : Int) = 31) ∧ Go.Fw.V.soft (cells (parts V)) = cells (parts V) ∧ Go.Fw.V.soft (cells [0, 0, 0, 0, 0, 0, 0]) = cells [0, 0, 0, 0, 0, 0, 0] ∧ Go.Fw.V.soft (cells (parts (overX V d (32 * 5 + 0)))) = cells (parts (overX V d (32 * 4 + 32)))) ∧ (((((d : Nat) : Int) = (d : Int) ∧ (0 : Int) = 0) ∧ ((V / 2 ^ (32 * 4 + 0) % d : Nat) : Int) = ((V / 2 ^ (32 * 3 + 32) % d : Nat) : Int) ∧ (31 : Int) = 31) ∧ Go.Fw.V.soft (cells (parts V)) = cells (parts V) ∧ Go.Fw.V.soft (cells [0, 0, 0, 0, 0, 0, 0]) = cells [0, 0, 0, 0, 0, 0, 0] ∧ Go.Fw.V.soft (cells (parts (overX V d (32 * 4 + 0)))) = cells (parts (overX V d (32 * 3 + 32)))) ∧ (((((d : Nat) : Int) = (d : Int) ∧ (0 : Int) = 0) ∧ ((V / 2 ^ (32 * 3 + 0) % d : Nat) : Int) = ((V / 2 ^ (32 * 2 + 32) % d : Nat) : Int) ∧ (31 : Int) = 31) ∧ Go.Fw.V.soft (cells (parts V)) = cells (parts V) ∧ Go.Fw.V.soft (cells [0, 0, 0, 0, 0, 0, 0]) = cells [0, 0, 0, 0, 0, 0, 0] ∧ Go.Fw.V.soft (cells (parts (overX V d (32 * 3 + 0)))) = cells (parts (overX V d (32 * 2 + 32)))) ∧ (((((d : Nat) : Int) = (d : Int) ∧ (0 : Int) = 0) ∧ ((V / 2 ^ (32 * 2 + 0) % d : Nat) : Int) = ((V / 2 ^ (32 * 1 + 32) % d : Nat) : Int) ∧ (31 : Int) = 31) ∧ Go.Fw.V.soft (cells (parts V)) = cells (parts V) ∧ Go.Fw.V.soft (cells [0, 0, 0, 0, 0, 0, 0]) = cells [0, 0, 0, 0, 0, 0, 0] ∧ Go.Fw.V.soft (cells (parts (overX V d (32 * 2 + 0)))) = cells (parts (overX V d (32 * 1 + 32)))) ∧ (((((d : Nat) : Int) = (d : Int) ∧ (0 : Int) = 0) ∧ ((V / 2 ^ (32 * 1 + 0) % d : Nat) : Int) = ((V / 2 ^ (32 * 0 + 32) % d : Nat) : Int) ∧ (31 : Int) = 31) ∧ Go.Fw.V.soft (cells (parts V)) = cells (parts V) ∧ Go.Fw.V.soft (cells [0, 0, 0, 0, 0, 0, 0]) = cells [0, 0, 0, 0, 0, 0, 0] ∧ Go.Fw.V.soft (cells (parts (overX V d (32 * 1 + 0)))) = cells (parts (overX V d (32 * 0 + 32))))) (Tree.leaf (.tup (.cons (.agg (cells (parts (overX V d (32 * 0 + 0))))) (.cons (.int false .u64 ((V / 2 ^ (32 * 0 + 0) % d : Nat) : Int)) .nil)))) := by kernel_rfl
theorem over_meets (V d : Nat) (hV : V < B ^ 7) (hd : 0 < d) (hd2 : d < 18446744073709551616) :
    Meets P 611 (.cons (.agg (cells (parts V))) (.cons (.int false .u64 (d : Int)) .nil)) (.tup (.cons (.agg (cells (parts (V / d)))) (.cons (.int false .u64 ((V % d : Nat) : Int)) .nil))) := by
  have e224 : B ^ 7 = 2 ^ (32 * 6 + 32) := by show (2 ^ 32) ^ 7 = _; rw [← Nat.pow_mul]
  have hz : V / 2 ^ (32 * 6 + 32) = 0 := Nat.div_eq_of_lt (by rw [← e224]; exact hV)
  have h0 : V / 2 ^ (32 * 6 + 32) % d = 0 := by rw [hz, Nat.zero_mod]
  have hX : overX V d (32 * 6 + 32) = 0 := by unfold overX; rw [hz, Nat.zero_div, Nat.zero_mul]
  have hY : overX V d (32 * 0 + 0) = V / d := by unfold overX; simp
  have hR : V / 2 ^ (32 * 0 + 0) % d = V % d := by simp
  refine meets (E := en [] [overG V d]) (en_okl (l := []) trivial (ls := [overG V d]) ⟨overG_ok V d hd hd2, trivial⟩) 400 (Has.of hn Tryz.func611 rfl) (over_tree V d) ⟨?_, ?_⟩
  · exact ⟨⟨⟨⟨rfl, rfl⟩, by rw [h0]; rfl, rfl⟩, cells_soft _, rfl, by rw [hX]; rfl⟩, ⟨⟨⟨⟨rfl, rfl⟩, rfl, rfl⟩, cells_soft _, cells_soft _, cells_soft _⟩, ⟨⟨⟨⟨rfl, rfl⟩, rfl, rfl⟩, cells_soft _, cells_soft _, cells_soft _⟩, ⟨⟨⟨⟨rfl, rfl⟩, rfl, rfl⟩, cells_soft _, cells_soft _, cells_soft _⟩, ⟨⟨⟨⟨rfl, rfl⟩, rfl, rfl⟩, cells_soft _, cells_soft _, cells_soft _⟩, ⟨⟨⟨⟨rfl, rfl⟩, rfl, rfl⟩, cells_soft _, cells_soft _, cells_soft _⟩, ⟨⟨⟨rfl, rfl⟩, rfl, rfl⟩, cells_soft _, cells_soft _, cells_soft _⟩⟩⟩⟩⟩⟩⟩
  · rw [hY, hR]
    exact ⟨rfl, rfl⟩
/-- What seven parts come to; that they are parts. -/
def valI (a b c d e f g : Int) : Nat := val [a.toNat, b.toNat, c.toNat, d.toNat, e.toNat, f.toNat, g.toNat]
def smallI (a b c d e f g : Int) : Prop := (0 ≤ a ∧ a < 4294967296) ∧ (0 ≤ b ∧ b < 4294967296) ∧ (0 ≤ c ∧ c < 4294967296) ∧ (0 ≤ d ∧ d < 4294967296) ∧ (0 ≤ e ∧ e < 4294967296) ∧ (0 ≤ f ∧ f < 4294967296) ∧ (0 ≤ g ∧ g < 4294967296)
def u64 (x : Int) : Prop := 0 ≤ x ∧ x < 18446744073709551616
theorem parts_valI {a b c d e f g : Int} (h : smallI a b c d e f g) : parts (valI a b c d e f g) = [a, b, c, d, e, f, g] ∧ valI a b c d e f g < B ^ 7 := by
  have hs : small [a.toNat, b.toNat, c.toNat, d.toNat, e.toNat, f.toNat, g.toNat] := by
    intro x hx
    simp only [List.mem_cons, List.not_mem_nil, or_false] at hx
    have hB : B = 4294967296 := rfl
    unfold smallI at h
    rcases hx with rfl | rfl | rfl | rfl | rfl | rfl | rfl <;> omega
  refine ⟨?_, val_lt _ hs⟩
  rw [parts_eq]
  unfold valI
  have h1 := digs_val _ hs
  simp only [List.length_cons, List.length_nil, Nat.zero_add] at h1
  rw [h1]
  unfold up smallI at *
  simp only [List.map_cons, List.map_nil]
  obtain ⟨h1, h2, h3, h4, h5, h6, h7⟩ := h
  rw [Int.toNat_of_nonneg h1.1, Int.toNat_of_nonneg h2.1, Int.toNat_of_nonneg h3.1, Int.toNat_of_nonneg h4.1, Int.toNat_of_nonneg h5.1, Int.toNat_of_nonneg h6.1, Int.toNat_of_nonneg h7.1]
theorem valI_parts {X : Nat} (hX : X < B ^ 7) : valI ((dig 0 X : Nat) : Int) ((dig 1 X : Nat) : Int) ((dig 2 X : Nat) : Int) ((dig 3 X : Nat) : Int) ((dig 4 X : Nat) : Int) ((dig 5 X : Nat) : Int) ((dig 6 X : Nat) : Int) = X := by
  unfold valI
  simp only [Int.toNat_natCast]
  have h : [dig 0 X, dig 1 X, dig 2 X, dig 3 X, dig 4 X, dig 5 X, dig 6 X] = digs 7 X := by
    simp only [digs, ← dig_zero, dig_succ]
  rw [h, val_digs, Nat.mod_eq_of_lt hX]
theorem smallI_parts (X : Nat) : smallI ((dig 0 X : Nat) : Int) ((dig 1 X : Nat) : Int) ((dig 2 X : Nat) : Int) ((dig 3 X : Nat) : Int) ((dig 4 X : Nat) : Int) ((dig 5 X : Nat) : Int) ((dig 6 X : Nat) : Int) := by
  have h := fun k => dig_lt k X
  have hB : B = 4294967296 := rfl
  unfold smallI
  have h0 := h 0; have h1 := h 1; have h2 := h 2; have h3 := h 3; have h4 := h 4; have h5 := h 5; have h6 := h 6
  omega
theorem overI {a b c d e f g m : Int} (h : smallI a b c d e f g ∧ 0 < m ∧ m < 18446744073709551616) :
    Meets P 611 (.cons (.agg (cells [a, b, c, d, e, f, g])) (.cons (.int false .u64 m) .nil)) (.tup (.cons (.agg (cells (parts (valI a b c d e f g / m.toNat)))) (.cons (.int false .u64 ((valI a b c d e f g % m.toNat : Nat) : Int)) .nil))) := by
  obtain ⟨h1, h2⟩ := parts_valI h.1
  have := over_meets (valI a b c d e f g) m.toNat h2 (by omega) (by omega)
  rw [h1, Int.toNat_of_nonneg (by omega)] at this
  exact this
theorem timesI_meets {a b c d e f g m more : Int} (h : smallI a b c d e f g ∧ u64 m ∧ u64 more) :
    Meets P 610 (.cons (.agg (cells [a, b, c, d, e, f, g])) (.cons (.int false .u64 m) (.cons (.int false .u64 more) .nil))) (.agg (cells (parts (valI a b c d e f g * m.toNat + more.toNat)))) := by
  have hs : small [a.toNat, b.toNat, c.toNat, d.toNat, e.toNat, f.toNat, g.toNat] := by
    intro x hx
    simp only [List.mem_cons, List.not_mem_nil, or_false] at hx
    have hB : B = 4294967296 := rfl
    have h := h.1
    unfold smallI at h
    rcases hx with rfl | rfl | rfl | rfl | rfl | rfl | rfl <;> omega
  obtain ⟨⟨h1, h2, h3, h4, h5, h6, h7⟩, hm, hmo⟩ := h
  have et := timesI_up [a.toNat, b.toNat, c.toNat, d.toNat, e.toNat, f.toNat, g.toNat] rfl hs (m := m.toNat) (more := more.toNat) (by unfold u64 at hm; omega) (by unfold u64 at hmo; omega)
  unfold u64 at hm hmo
  have eu : up [a.toNat, b.toNat, c.toNat, d.toNat, e.toNat, f.toNat, g.toNat] = [a, b, c, d, e, f, g] := by
    unfold up
    simp only [List.map_cons, List.map_nil]
    rw [Int.toNat_of_nonneg h1.1, Int.toNat_of_nonneg h2.1, Int.toNat_of_nonneg h3.1, Int.toNat_of_nonneg h4.1, Int.toNat_of_nonneg h5.1, Int.toNat_of_nonneg h6.1, Int.toNat_of_nonneg h7.1]
  rw [eu, Int.toNat_of_nonneg hm.1, Int.toNat_of_nonneg hmo.1, ← parts_eq] at et
  refine meets (E := en []) (en_ok (l := []) trivial) 400 (Has.of hn Tryz.func610 rfl) (times_tree a b c d e f g m more) ?_
  rw [et]
  exact ⟨rfl, rfl⟩
noncomputable def c_over : Con := { g := 611, ans := fun x => match x with
  | .cons (.agg (.cons (.int _ .u64 a) (.cons (.int _ .u64 b) (.cons (.int _ .u64 c) (.cons (.int _ .u64 d) (.cons (.int _ .u64 e) (.cons (.int _ .u64 f) (.cons (.int _ .u64 g) .nil)))))))) (.cons (.int _ .u64 m) .nil) => some (.where_ (smallI a b c d e f g ∧ 0 < m ∧ m < 18446744073709551616) (.tup (.cons (.agg (cells (parts (valI a b c d e f g / m.toNat)))) (.cons (.int false .u64 ((valI a b c d e f g % m.toNat : Nat) : Int)) .nil))))
  | _ => none }
theorem c_over_ok : c_over.Ok P := by
  intro x
  dsimp only [c_over]
  split
  · rename_i h
    split at h <;> cases h
  · rename_i h
    split at h
    · injection h with h; injection h with h1 h2; subst h1; subst h2
      exact fun h => Meets.of_soft (overI h)
    · cases h
  · rename_i h
    split at h <;> cases h
  · trivial
noncomputable def c_times : Con := { g := 610, ans := fun x => match x with
  | .cons (.agg (.cons (.int _ .u64 a) (.cons (.int _ .u64 b) (.cons (.int _ .u64 c) (.cons (.int _ .u64 d) (.cons (.int _ .u64 e) (.cons (.int _ .u64 f) (.cons (.int _ .u64 g) .nil)))))))) (.cons (.int _ .u64 m) (.cons (.int _ .u64 more) .nil)) => some (.where_ (smallI a b c d e f g ∧ u64 m ∧ u64 more) (.agg (cells (parts (valI a b c d e f g * m.toNat + more.toNat)))))
  | _ => none }
theorem c_times_ok : c_times.Ok P := by
  intro x
  dsimp only [c_times]
  split
  · rename_i h
    split at h <;> cases h
  · rename_i h
    split at h
    · injection h with h; injection h with h1 h2; subst h1; subst h2
      exact fun h => Meets.of_soft (timesI_meets h)
    · cases h
  · rename_i h
    split at h <;> cases h
  · trivial
end Go.Proofs.YtdgjneondmmgdaaGreatDoor
namespace Go.Proofs.YtdgjneondmmgdaaGreatDoor
open Go.Fw Go.Fw.Wd
set_option maxRecDepth 100000
set_option linter.unusedVariables false
/-- The same value, into which the kernel does not look. -/
noncomputable def seal_ {α : Type} (a : α) : α := Classical.choose (⟨a, rfl⟩ : ∃ x, x = a)
theorem seal_eq {α : Type} (a : α) : seal_ a = a := Classical.choose_spec (⟨a, rfl⟩ : ∃ x, x = a)
/-- A number of 128 bits. -/
noncomputable def w128 (hi lo : Int) : Nat := seal_ (hi.toNat * 18446744073709551616 + lo.toNat)
theorem w128_eq (hi lo : Int) : w128 hi lo = hi.toNat * 18446744073709551616 + lo.toNat := seal_eq _
abbrev pairW (hi lo : Int) : V := .agg (.cons (.int false .u64 hi) (.cons (.int false .u64 lo) .nil))
def lowW (x : Int) : Int := IntKind.wrap .u64 ((BitVec.toNat (BitVec.ofInt (IntKind.bits .u64) x &&& BitVec.ofInt (IntKind.bits .u64) (4294967295 : Int)) : Nat) : Int)
theorem of_tree (hi lo : Int) : evFn (en []) 400 609 (.cons (pairW hi lo) .nil) = Tree.leaf (.agg (.cons (.int false .u64 (lowW lo)) (.cons (.int false .u64 (Int.fdiv lo ((2 : Int) ^ min 32 (IntKind.bits .u64)))) (.cons (.int false .u64 (lowW hi)) (.cons (.int false .u64 (Int.fdiv hi ((2 : Int) ^ min 32 (IntKind.bits .u64)))) (.cons (.int true .u64 0) (.cons (.int true .u64 0) (.cons (.int true .u64 0) .nil)))))))) := by kernel_rfl
theorem of_meets {hi lo : Int} (h : u64 hi ∧ u64 lo) : Meets P 609 (.cons (pairW hi lo) .nil) (.agg (cells (parts (w128 hi lo)))) := by
  refine meets (E := en []) (en_ok (l := []) trivial) 400 (Has.of hn Tryz.func609 rfl) (of_tree hi lo) ?_
  obtain ⟨⟨h1, h2⟩, h3, h4⟩ := h
  obtain ⟨p, rfl⟩ := Int.eq_ofNat_of_zero_le h1
  obtain ⟨q, rfl⟩ := Int.eq_ofNat_of_zero_le h3
  have l1 : lowW (p : Int) = ((p % 4294967296 : Nat) : Int) := and_low (by omega)
  have l2 : lowW (q : Int) = ((q % 4294967296 : Nat) : Int) := and_low (by omega)
  have m32 : min 32 (IntKind.bits .u64) = 32 := rfl
  have e32 : (2 : Nat) ^ 32 = 4294967296 := by decide
  rw [l1, l2, m32, shr, shr, e32]
  have hs : smallI ((q % 4294967296 : Nat) : Int) ((q / 4294967296 : Nat) : Int) ((p % 4294967296 : Nat) : Int) ((p / 4294967296 : Nat) : Int) 0 0 0 := by unfold smallI; omega
  obtain ⟨e1, _⟩ := parts_valI hs
  have e2 : valI ((q % 4294967296 : Nat) : Int) ((q / 4294967296 : Nat) : Int) ((p % 4294967296 : Nat) : Int) ((p / 4294967296 : Nat) : Int) 0 0 0 = w128 (p : Int) (q : Int) := by
    rw [w128_eq]
    unfold valI
    have hB : B = 4294967296 := rfl
    simp only [val, Int.toNat_natCast, hB, Int.toNat_zero]
    omega
  rw [← e2, e1]
  exact ⟨rfl, rfl⟩
noncomputable def c_of : Con := { g := 609, ans := fun x => match x with
  | .cons (.agg (.cons (.int _ .u64 hi) (.cons (.int _ .u64 lo) .nil))) .nil => some (.where_ (u64 hi ∧ u64 lo) (.agg (cells (parts (w128 hi lo)))))
  | _ => none }
theorem c_of_ok : c_of.Ok P := by
  intro x
  dsimp only [c_of]
  split
  · rename_i h
    split at h <;> cases h
  · rename_i h
    split at h
    · injection h with h; injection h with h1 h2; subst h1; subst h2
      exact fun h => Meets.of_soft (of_meets h)
    · cases h
  · rename_i h
    split at h <;> cases h
  · trivial

def orW (x y : Int) : Int := IntKind.wrap .u64 ((BitVec.toNat (BitVec.ofInt (IntKind.bits .u64) (IntKind.wrap .u64 (x * (2 : Int) ^ min 32 (IntKind.bits .u64))) ||| BitVec.ofInt (IntKind.bits .u64) y) : Nat) : Int)
theorem wide_tree (a b c d e f g : Int) : evFn (en []) 400 612 (.cons (.agg (cells [a, b, c, d, e, f, g])) .nil) =
    Tree.leaf (.tup (.cons (.agg (.cons (.int false .u64 (bif e == (0 : Int) then bif f == (0 : Int) then orW d c else orW d c else orW d c)) (.cons (.int false .u64 (bif e == (0 : Int) then bif f == (0 : Int) then orW b a else orW b a else orW b a)) .nil))) (.cons (.bool false (bif e == (0 : Int) then bif f == (0 : Int) then g == (0 : Int) else false else false)) .nil))) := by kernel_rfl
theorem orW_eq {x y : Int} (hx : 0 ≤ x ∧ x < 4294967296) (hy : 0 ≤ y ∧ y < 4294967296) : orW x y = x * 4294967296 + y := by
  obtain ⟨p, rfl⟩ := Int.eq_ofNat_of_zero_le hx.1
  obtain ⟨q, rfl⟩ := Int.eq_ofNat_of_zero_le hy.1
  unfold orW
  have m32 : min 32 (IntKind.bits .u64) = 32 := rfl
  have e32 : (2 : Nat) ^ 32 = 4294967296 := by decide
  have e0 : (p : Int) * (2 : Int) ^ 32 = ((p * 4294967296 : Nat) : Int) := by
    have : (2 : Int) ^ 32 = 4294967296 := by decide
    rw [this]; omega
  have e0' : IntKind.wrap .u64 ((p : Int) * (2 : Int) ^ 32) = ((p * 4294967296 : Nat) : Int) := by rw [e0]; exact u64_wrap (by omega)
  rw [m32, e0', or_add (b := 32) (by rw [e32]; omega) (by rw [e32]; omega) (by omega)]
  omega
theorem wide_split {a b c d e f g : Int} (h : smallI a b c d e f g) : valI a b c d e f g % 18446744073709551616 = a.toNat + 4294967296 * b.toNat ∧ valI a b c d e f g / 18446744073709551616 % 18446744073709551616 = c.toNat + 4294967296 * d.toNat ∧
    (valI a b c d e f g < 340282366920938463463374607431768211456 ↔ (e = 0 ∧ f = 0) ∧ g = 0) := by
  obtain ⟨h1, h2, h3, h4, h5, h6, h7⟩ := h
  have hv : valI a b c d e f g = (a.toNat + 4294967296 * b.toNat) + 18446744073709551616 * ((c.toNat + 4294967296 * d.toNat) + 18446744073709551616 * (e.toNat + 4294967296 * f.toNat + 18446744073709551616 * g.toNat)) := by
    unfold valI
    have hB : B = 4294967296 := rfl
    simp only [val, hB]
    omega
  have hH : e.toNat + 4294967296 * f.toNat + 18446744073709551616 * g.toNat = 0 ↔ (e = 0 ∧ f = 0) ∧ g = 0 := by omega
  rw [hv, ← hH]
  generalize hL : a.toNat + 4294967296 * b.toNat = L
  generalize hM : c.toNat + 4294967296 * d.toNat = M
  generalize e.toNat + 4294967296 * f.toNat + 18446744073709551616 * g.toNat = H
  have hL2 : L < 18446744073709551616 := by omega
  have hM2 : M < 18446744073709551616 := by omega
  refine ⟨?_, ?_, ?_⟩
  · rw [Nat.add_mul_mod_self_left, Nat.mod_eq_of_lt hL2]
  · rw [Nat.add_mul_div_left _ _ (by decide), Nat.div_eq_of_lt hL2, Nat.zero_add, Nat.add_mul_mod_self_left, Nat.mod_eq_of_lt hM2]
  · omega
/-- What seven parts are as a number of 128 bits, and whether they are one. -/
theorem wide_meets {a b c d e f g : Int} (h : smallI a b c d e f g) : Meets P 612 (.cons (.agg (cells [a, b, c, d, e, f, g])) .nil)
    (.tup (.cons (pairW ((valI a b c d e f g / 18446744073709551616 % 18446744073709551616 : Nat) : Int) ((valI a b c d e f g % 18446744073709551616 : Nat) : Int)) (.cons (.bool false (decide (valI a b c d e f g < 340282366920938463463374607431768211456))) .nil))) := by
  refine meets (E := en []) (en_ok (l := []) trivial) 400 (Has.of hn Tryz.func612 rfl) (wide_tree a b c d e f g) ?_
  obtain ⟨s1, s2, s3⟩ := wide_split h
  obtain ⟨h1, h2, h3, h4, h5, h6, h7⟩ := h
  have k1 : (bif e == (0 : Int) then bif f == (0 : Int) then orW d c else orW d c else orW d c) = orW d c := by cases e == (0 : Int) <;> cases f == (0 : Int) <;> rfl
  have k2 : (bif e == (0 : Int) then bif f == (0 : Int) then orW b a else orW b a else orW b a) = orW b a := by cases e == (0 : Int) <;> cases f == (0 : Int) <;> rfl
  have k3 : (bif e == (0 : Int) then bif f == (0 : Int) then g == (0 : Int) else false else false) = decide (valI a b c d e f g < 340282366920938463463374607431768211456) := by
    rw [Bool.eq_iff_iff, decide_eq_true_iff, s3]
    by_cases he : e = 0
    · by_cases hf : f = 0
      · subst he; subst hf; simp
      · simp [he, hf]
    · simp [he]
  rw [k1, k2, k3, orW_eq h4 h3, orW_eq h2 h1, s1, s2]
  have e1 : d * 4294967296 + c = ((c.toNat + 4294967296 * d.toNat : Nat) : Int) := by omega
  have e2 : b * 4294967296 + a = ((a.toNat + 4294967296 * b.toNat : Nat) : Int) := by omega
  rw [e1, e2]
  generalize ((c.toNat + 4294967296 * d.toNat : Nat) : Int) = x1
  generalize ((a.toNat + 4294967296 * b.toNat : Nat) : Int) = x2
  generalize decide (valI a b c d e f g < 340282366920938463463374607431768211456) = x3
  exact ⟨rfl, rfl⟩
noncomputable def c_wide : Con := { g := 612, ans := fun x => match x with
  | .cons (.agg (.cons (.int _ .u64 a) (.cons (.int _ .u64 b) (.cons (.int _ .u64 c) (.cons (.int _ .u64 d) (.cons (.int _ .u64 e) (.cons (.int _ .u64 f) (.cons (.int _ .u64 g) .nil)))))))) .nil => some (.where_ (smallI a b c d e f g) (.tup (.cons (pairW ((valI a b c d e f g / 18446744073709551616 % 18446744073709551616 : Nat) : Int) ((valI a b c d e f g % 18446744073709551616 : Nat) : Int)) (.cons (.bool false (decide (valI a b c d e f g < 340282366920938463463374607431768211456))) .nil))))
  | _ => none }
theorem c_wide_ok : c_wide.Ok P := by
  intro x
  dsimp only [c_wide]
  split
  · rename_i h
    split at h <;> cases h
  · rename_i h
    split at h
    · injection h with h; injection h with h1 h2; subst h1; subst h2
      exact fun h => Meets.of_soft (wide_meets h)
    · cases h
  · rename_i h
    split at h <;> cases h
  · trivial

/-- How numbers stand to one another. -/
def cmpI (a b : Int) : Int := if a < b then -1 else if a > b then 1 else 0
theorem cmpu_tree (a b : Int) : evFn (en []) 400 540 (.cons (.int false .u64 a) (.cons (.int false .u64 b) .nil)) =
    Tree.node (bif a != a then bif bif b != b then true else false then true else true else false) (Tree.leaf (.int false .i64 (bif bif b != b then true else false then (0 : Int) else (-1 : Int)))) (Tree.node (bif b != b then true else false) (Tree.leaf (.int true .i64 1)) (Tree.node (bif decide (a < b) then true else false) (Tree.leaf (.int true .i64 (-1))) (Tree.node (bif decide (a > b) then true else false) (Tree.leaf (.int true .i64 1)) (Tree.leaf (.int true .i64 0))))) := by kernel_rfl
theorem cmpu_meets (a b : Int) : Meets P 540 (.cons (.int false .u64 a) (.cons (.int false .u64 b) .nil)) (.int false .i64 (cmpI a b)) := by
  refine meets (E := en []) (en_ok (l := []) trivial) 400 (Has.of hn Tryz.func540 rfl) (cmpu_tree a b) ?_
  have ha : (a != a) = false := by simp
  have hb : (b != b) = false := by simp
  rw [ha, hb]
  refine ⟨fun h => (by cases h), fun _ => ⟨fun h => (by cases h), fun _ => ⟨fun h => ?_, fun h => ⟨fun h' => ?_, fun h' => ?_⟩⟩⟩⟩
  · have : a < b := by cases hd : decide (a < b) <;> rw [hd] at h; cases h; exact of_decide_eq_true hd
    refine ⟨rfl, ?_⟩
    unfold cmpI; rw [if_pos this]; rfl
  · have h1 : ¬ a < b := by cases hd : decide (a < b) <;> rw [hd] at h; exact of_decide_eq_false hd; cases h
    have h2 : a > b := by cases hd : decide (a > b) <;> rw [hd] at h'; cases h'; exact of_decide_eq_true hd
    refine ⟨rfl, ?_⟩
    unfold cmpI; rw [if_neg h1, if_pos h2]; rfl
  · have h1 : ¬ a < b := by cases hd : decide (a < b) <;> rw [hd] at h; exact of_decide_eq_false hd; cases h
    have h2 : ¬ a > b := by cases hd : decide (a > b) <;> rw [hd] at h'; exact of_decide_eq_false hd; cases h'
    refine ⟨rfl, ?_⟩
    unfold cmpI; rw [if_neg h1, if_neg h2]; rfl
noncomputable def c_cmpu : Con := { g := 540, ans := fun x => match x with
  | .cons (.int _ .u64 a) (.cons (.int _ .u64 b) .nil) => some (.sure (.int false .i64 (cmpI a b)))
  | _ => none }
theorem c_cmpu_ok : c_cmpu.Ok P := by
  intro x
  dsimp only [c_cmpu]
  split
  · rename_i h
    split at h
    · injection h with h; injection h with h; subst h
      exact Meets.of_soft (cmpu_meets _ _)
    · cases h
  · rename_i h
    split at h <;> cases h
  · rename_i h
    split at h <;> cases h
  · trivial

end Go.Proofs.YtdgjneondmmgdaaGreatDoor
namespace Go.Proofs.YtdgjneondmmgdaaGreatDoor
open Go.Fw Go.Fw.Wd
set_option maxRecDepth 100000
set_option linter.unusedVariables false
theorem wcmp_tree (a b c d : Int) : evFn (en [c_cmpu]) 400 532 (.cons (pairW a b) (.cons (pairW c d) .nil)) =
    Tree.node (bif bif cmpI a c != (0 : Int) then true else false then true else false) (Tree.leaf (.int false .i64 (cmpI a c))) (Tree.node (bif bif cmpI b d != (0 : Int) then true else false then true else false) (Tree.leaf (.int false .i64 (cmpI b d))) (Tree.leaf (.int true .i64 0))) := by kernel_rfl
/-- So, of numbers of 128 bits. -/
noncomputable def cmpN (x y : Nat) : Int := seal_ (cmpI (x : Int) (y : Int))
theorem wcmp_meets {a b c d : Int} (h : (u64 a ∧ u64 b) ∧ u64 c ∧ u64 d) : Meets P 532 (.cons (pairW a b) (.cons (pairW c d) .nil)) (.int false .i64 (cmpN (w128 a b) (w128 c d))) := by
  refine meets (E := en [c_cmpu]) (en_ok (l := [c_cmpu]) ⟨c_cmpu_ok, trivial⟩) 400 (Has.of hn Tryz.func532 rfl) (wcmp_tree a b c d) ?_
  unfold u64 at h
  have key : (if cmpI a c ≠ 0 then cmpI a c else cmpI b d) = cmpN (w128 a b) (w128 c d) := by
    unfold cmpN
    rw [seal_eq, w128_eq, w128_eq]
    unfold cmpI
    repeat' split
    all_goals first | rfl | omega | (exfalso; omega)
  refine ⟨fun h => ?_, fun h => ⟨fun h' => ?_, fun h' => ?_⟩⟩
  · have h1 : cmpI a c ≠ 0 := by intro e; rw [e] at h; cases h
    rw [if_pos h1] at key
    exact ⟨rfl, by rw [key]⟩
  · have h1 : cmpI a c = 0 := by
      cases hb : cmpI a c != 0 <;> rw [hb] at h
      · simpa using hb
      · cases h
    rw [if_neg (by simp [h1])] at key
    exact ⟨rfl, by rw [key]⟩
  · have h1 : cmpI a c = 0 := by
      cases hb : cmpI a c != 0 <;> rw [hb] at h
      · simpa using hb
      · cases h
    have h2 : cmpI b d = 0 := by
      cases hb : cmpI b d != 0 <;> rw [hb] at h'
      · simpa using hb
      · cases h'
    rw [if_neg (by simp [h1])] at key
    rw [← key, h2]
    exact ⟨rfl, rfl⟩
noncomputable def c_wcmp : Con := { g := 532, ans := fun x => match x with
  | .cons (.agg (.cons (.int _ .u64 a) (.cons (.int _ .u64 b) .nil))) (.cons (.agg (.cons (.int _ .u64 c) (.cons (.int _ .u64 d) .nil))) .nil) => some (.where_ ((u64 a ∧ u64 b) ∧ u64 c ∧ u64 d) (.int false .i64 (cmpN (w128 a b) (w128 c d))))
  | _ => none }
theorem c_wcmp_ok : c_wcmp.Ok P := by
  intro x
  dsimp only [c_wcmp]
  split
  · rename_i h
    split at h <;> cases h
  · rename_i h
    split at h
    · injection h with h; injection h with h1 h2; subst h1; subst h2
      exact fun h => Meets.of_soft (wcmp_meets h)
    · cases h
  · rename_i h
    split at h <;> cases h
  · trivial
theorem val_of_parts {a b c d e f g : Int} {X : Nat} (hX : X < B ^ 7) (h : [a, b, c, d, e, f, g] = parts X) : smallI a b c d e f g ∧ valI a b c d e f g = X := by
  unfold parts at h
  simp only [List.cons.injEq, and_true] at h
  obtain ⟨rfl, rfl, rfl, rfl, rfl, rfl, rfl⟩ := h
  exact ⟨smallI_parts X, valI_parts hX⟩
theorem soft_int {st : Bool} {k : IntKind} {n : Int} : (V.int st k n).soft = .int false k n := rfl
theorem timesK {a b c d e f g m more : Int} {q1 q2 q3 q4 q5 q6 q7 q8 q9 : Bool} {X Y : Nat} (hX : X < B ^ 7) (hm : u64 m) (hmo : u64 more) (h : [a, b, c, d, e, f, g] = parts X) (hY : Y = X * m.toNat + more.toNat) :
    Meets P 610 (.cons (.agg (.cons (.int q1 .u64 a) (.cons (.int q2 .u64 b) (.cons (.int q3 .u64 c) (.cons (.int q4 .u64 d) (.cons (.int q5 .u64 e) (.cons (.int q6 .u64 f) (.cons (.int q7 .u64 g) .nil)))))))) (.cons (.int q8 .u64 m) (.cons (.int q9 .u64 more) .nil))) (.agg (cells (parts Y))) := by
  obtain ⟨h1, h2⟩ := val_of_parts hX h
  have := timesI_meets ⟨h1, hm, hmo⟩
  rw [h2, ← hY] at this
  exact Meets.of_soft this
theorem overK {a b c d e f g m : Int} {Y Q R : Nat} (hY : Y < B ^ 7) (hd : 0 < m ∧ m < 18446744073709551616) (h : [a, b, c, d, e, f, g] = parts Y) (hQ : Q = Y / m.toNat) (hR : R = Y % m.toNat) :
    Meets P 611 (.cons (.agg (cells [a, b, c, d, e, f, g])) (.cons (.int false .u64 m) .nil)) (.tup (.cons (.agg (cells (parts Q))) (.cons (.int false .u64 (R : Int)) .nil))) := by
  obtain ⟨h1, h2⟩ := val_of_parts hY h
  have := overI ⟨h1, hd⟩
  rw [h2, ← hQ, ← hR] at this
  exact this
theorem wideK {a b c d e f g : Int} {Z : Nat} (hZ : Z < B ^ 7) (h : [a, b, c, d, e, f, g] = parts Z) :
    Meets P 612 (.cons (.agg (cells [a, b, c, d, e, f, g])) .nil) (.tup (.cons (pairW ((Z / 18446744073709551616 % 18446744073709551616 : Nat) : Int) ((Z % 18446744073709551616 : Nat) : Int)) (.cons (.bool false (decide (Z < 340282366920938463463374607431768211456))) .nil))) := by
  obtain ⟨h1, h2⟩ := val_of_parts hZ h
  have := wide_meets h1
  rw [h2] at this
  exact this
instance (x : Int) : Decidable (u64 x) := by unfold u64; infer_instance
/-- The same contracts, told of numbers that are given. -/
noncomputable def k_of (hi lo : Int) (N : Nat) : Con := { g := 609, ans := fun x => match x with
  | .cons (.agg (.cons (.int _ .u64 h) (.cons (.int _ .u64 l) .nil))) .nil => some (.where_ (h = hi ∧ l = lo) (.agg (cells (parts N))))
  | _ => none }
theorem k_of_ok {hi lo : Int} {N : Nat} (hr : u64 hi ∧ u64 lo) (hN : N = w128 hi lo) : (k_of hi lo N).Ok P := by
  intro x
  dsimp only [k_of]
  split
  · rename_i h
    split at h <;> cases h
  · rename_i h
    split at h
    · injection h with h; injection h with h1 h2; subst h1; subst h2
      exact fun h => Meets.of_soft (by obtain ⟨rfl, rfl⟩ := h; rw [hN]; exact of_meets hr)
    · cases h
  · rename_i h
    split at h <;> cases h
  · trivial
noncomputable def k_times (N : Nat) (m : Int) (Y Q Q1 : Nat) : Con := { g := 610, al := true, ans := fun x => match x with
  | .cons (.agg (.cons (.int _ .u64 a) (.cons (.int _ .u64 b) (.cons (.int _ .u64 c) (.cons (.int _ .u64 d) (.cons (.int _ .u64 e) (.cons (.int _ .u64 f) (.cons (.int _ .u64 g) .nil)))))))) (.cons (.int true .u64 (.ofNat 1)) (.cons (.int true .u64 (.ofNat 1)) .nil)) => some (.where_ ([a, b, c, d, e, f, g] = parts Q) (.agg (cells (parts Q1))))
  | .cons (.agg (.cons (.int _ .u64 a) (.cons (.int _ .u64 b) (.cons (.int _ .u64 c) (.cons (.int _ .u64 d) (.cons (.int _ .u64 e) (.cons (.int _ .u64 f) (.cons (.int _ .u64 g) .nil)))))))) (.cons (.int _ .u64 m') (.cons (.int _ .u64 more) .nil)) => some (.where_ ([a, b, c, d, e, f, g] = parts N ∧ m' = m ∧ more = 0) (.agg (cells (parts Y))))
  | _ => none }
theorem k_times_ok {N Y Q Q1 : Nat} {m : Int} (hm : u64 m) (hN : N < B ^ 7) (hQ : Q < B ^ 7) (hY : Y = N * m.toNat + 0) (hQ1 : Q1 = Q * 1 + 1) : (k_times N m Y Q Q1).Ok P := by
  intro x
  dsimp only [k_times]
  split
  · rename_i h
    split at h <;> cases h
  · rename_i h
    split at h
    · injection h with h; injection h with h1 h2; subst h1; subst h2
      exact fun h => (timesK hQ (by decide : u64 1) (by decide : u64 1) h hQ1)
    · injection h with h; injection h with h1 h2; subst h1; subst h2
      exact fun h => (by obtain ⟨h, rfl, rfl⟩ := h; exact timesK hN hm (by decide : u64 0) h hY)
    · cases h
  · rename_i h
    split at h <;> cases h
  · trivial
noncomputable def k_over (Y : Nat) (dd : Int) (Q R : Nat) : Con := { g := 611, ans := fun x => match x with
  | .cons (.agg (.cons (.int _ .u64 a) (.cons (.int _ .u64 b) (.cons (.int _ .u64 c) (.cons (.int _ .u64 d) (.cons (.int _ .u64 e) (.cons (.int _ .u64 f) (.cons (.int _ .u64 g) .nil)))))))) (.cons (.int _ .u64 m) .nil) => some (.where_ ([a, b, c, d, e, f, g] = parts Y ∧ m = dd) (.tup (.cons (.agg (cells (parts Q))) (.cons (.int false .u64 (R : Int)) .nil))))
  | _ => none }
theorem k_over_ok {Y Q R : Nat} {dd : Int} (hd : 0 < dd ∧ dd < 18446744073709551616) (hY : Y < B ^ 7) (hQ : Q = Y / dd.toNat) (hR : R = Y % dd.toNat) : (k_over Y dd Q R).Ok P := by
  intro x
  dsimp only [k_over]
  split
  · rename_i h
    split at h <;> cases h
  · rename_i h
    split at h
    · injection h with h; injection h with h1 h2; subst h1; subst h2
      exact fun h => Meets.of_soft (by obtain ⟨h, rfl⟩ := h; exact overK hY hd h hQ hR)
    · cases h
  · rename_i h
    split at h <;> cases h
  · trivial
noncomputable def k_wide (Z : Nat) : Con := { g := 612, ans := fun x => match x with
  | .cons (.agg (.cons (.int _ .u64 a) (.cons (.int _ .u64 b) (.cons (.int _ .u64 c) (.cons (.int _ .u64 d) (.cons (.int _ .u64 e) (.cons (.int _ .u64 f) (.cons (.int _ .u64 g) .nil)))))))) .nil => some (.where_ ([a, b, c, d, e, f, g] = parts Z) (.tup (.cons (pairW ((Z / 18446744073709551616 % 18446744073709551616 : Nat) : Int) ((Z % 18446744073709551616 : Nat) : Int)) (.cons (.bool false (decide (Z < 340282366920938463463374607431768211456))) .nil))))
  | _ => none }
theorem k_wide_ok {Z : Nat} (hZ : Z < B ^ 7) : (k_wide Z).Ok P := by
  intro x
  dsimp only [k_wide]
  split
  · rename_i h
    split at h <;> cases h
  · rename_i h
    split at h
    · injection h with h; injection h with h1 h2; subst h1; subst h2
      exact fun h => Meets.of_soft (wideK hZ h)
    · cases h
  · rename_i h
    split at h <;> cases h
  · trivial
end Go.Proofs.YtdgjneondmmgdaaGreatDoor
namespace Go.Proofs.YtdgjneondmmgdaaGreatDoor
open Go.Fw Go.Fw.Wd
set_option maxRecDepth 100000
set_option linter.unusedVariables false
theorem scaled_tree (hi lo m dd : Int) (up : Bool) (N Y Q R Q1 Z : Nat) : evFn (en [k_of hi lo N, k_times N m Y Q Q1, k_over Y dd Q R, k_wide Z]) 400 559 (.cons (pairW hi lo) (.cons (.int false .u64 m) (.cons (.int false .u64 dd) (.cons (.bool false up) .nil)))) =
    Tree.node (bif dd == (0 : Int) then true else false) (Tree.leaf (V.tup (V.cons (V.agg (V.cons (V.int true IntKind.u64 (0 : Int)) (V.cons (V.int true IntKind.u64 (0 : Int))
    V.nil))) (V.cons (V.int true IntKind.i64 (130 : Int)) V.nil)))) (Tree.need (hi = hi ∧ lo = lo) (Tree.need ([((dig (0 : Nat) N : Nat) : Int), ((dig (1 : Nat) N : Nat) : Int),
    ((dig (2 : Nat) N : Nat) : Int), ((dig (3 : Nat) N : Nat) : Int), ((dig (4 : Nat) N : Nat) : Int), ((dig (5 : Nat) N : Nat) : Int), ((dig (6 : Nat) N : Nat) : Int)] = parts N ∧
    m = m ∧ (0 : Int) = (0 : Int)) (Tree.need ([((dig (0 : Nat) Y : Nat) : Int), ((dig (1 : Nat) Y : Nat) : Int), ((dig (2 : Nat) Y : Nat) : Int), ((dig (3 : Nat) Y : Nat) : Int),
    ((dig (4 : Nat) Y : Nat) : Int), ((dig (5 : Nat) Y : Nat) : Int), ((dig (6 : Nat) Y : Nat) : Int)] = parts Y ∧ dd = dd) (Tree.need ((bif up then decide ((R : Int) > (0 : Int))
    else false) = true → [((dig (0 : Nat) Q : Nat) : Int), ((dig (1 : Nat) Q : Nat) : Int), ((dig (2 : Nat) Q : Nat) : Int), ((dig (3 : Nat) Q : Nat) : Int), ((dig (4 : Nat) Q :
    Nat) : Int), ((dig (5 : Nat) Q : Nat) : Int), ((dig (6 : Nat) Q : Nat) : Int)] = parts Q) (Tree.need ([bif bif up then decide ((R : Int) > (0 : Int)) else false then ((dig (0 :
    Nat) Q1 : Nat) : Int) else ((dig (0 : Nat) Q : Nat) : Int), bif bif up then decide ((R : Int) > (0 : Int)) else false then ((dig (1 : Nat) Q1 : Nat) : Int) else ((dig (1 : Nat)
    Q : Nat) : Int), bif bif up then decide ((R : Int) > (0 : Int)) else false then ((dig (2 : Nat) Q1 : Nat) : Int) else ((dig (2 : Nat) Q : Nat) : Int), bif bif up then decide
    ((R : Int) > (0 : Int)) else false then ((dig (3 : Nat) Q1 : Nat) : Int) else ((dig (3 : Nat) Q : Nat) : Int), bif bif up then decide ((R : Int) > (0 : Int)) else false then
    ((dig (4 : Nat) Q1 : Nat) : Int) else ((dig (4 : Nat) Q : Nat) : Int), bif bif up then decide ((R : Int) > (0 : Int)) else false then ((dig (5 : Nat) Q1 : Nat) : Int) else
    ((dig (5 : Nat) Q : Nat) : Int), bif bif up then decide ((R : Int) > (0 : Int)) else false then ((dig (6 : Nat) Q1 : Nat) : Int) else ((dig (6 : Nat) Q : Nat) : Int)] = parts
    Z) (Tree.node (bif !decide (Z < (340282366920938463463374607431768211456 : Nat)) then true else false) (Tree.leaf (V.tup (V.cons (V.agg (V.cons (V.int true IntKind.u64 (0 :
    Int)) (V.cons (V.int true IntKind.u64 (0 : Int)) V.nil))) (V.cons (V.int true IntKind.i64 (131 : Int)) V.nil)))) (Tree.leaf (V.tup (V.cons (V.agg (V.cons (V.int false
    IntKind.u64 ((Z / (18446744073709551616 : Nat) % (18446744073709551616 : Nat) : Nat) : Int)) (V.cons (V.int false IntKind.u64 ((Z % (18446744073709551616 : Nat) : Nat) : Int))
    V.nil))) (V.cons (V.int true IntKind.i64 (0 : Int)) V.nil)))))))))) := by kernel_rfl
/-- A product over a number, rounded down, or up. -/
noncomputable def scaledZ (N m d : Nat) (up : Bool) : Nat := seal_ (bif (bif up then decide (N * m % d > 0) else false) then N * m / d + 1 else N * m / d)
theorem scaledZ_eq (N m d : Nat) (up : Bool) : scaledZ N m d up = bif (bif up then decide (N * m % d > 0) else false) then N * m / d + 1 else N * m / d := seal_eq _
/-- A number of 128 bits, if it is one, and the error. -/
noncomputable def fitsW (Z : Nat) : Bool := seal_ (decide (Z < 340282366920938463463374607431768211456))
theorem fitsW_eq (Z : Nat) : fitsW Z = decide (Z < 340282366920938463463374607431768211456) := seal_eq _
noncomputable def hiN (Z : Nat) : Int := seal_ ((Z / 18446744073709551616 : Nat) : Int)
noncomputable def loN (Z : Nat) : Int := seal_ ((Z % 18446744073709551616 : Nat) : Int)
theorem hiN_eq (Z : Nat) : hiN Z = ((Z / 18446744073709551616 : Nat) : Int) := seal_eq _
theorem loN_eq (Z : Nat) : loN Z = ((Z % 18446744073709551616 : Nat) : Int) := seal_eq _
noncomputable def ansW (Z : Nat) : V := .tup (.cons (pairW (bif fitsW Z then hiN Z else 0) (bif fitsW Z then loN Z else 0)) (.cons (.int false .i64 (bif fitsW Z then 0 else 131)) .nil))
theorem w128_lt {hi lo : Int} (h : u64 hi ∧ u64 lo) : w128 hi lo < 340282366920938463463374607431768211456 := by
  unfold u64 at h; rw [w128_eq]; omega
theorem scaled_meets {hi lo m dd : Int} {up : Bool} (h : (u64 hi ∧ u64 lo) ∧ u64 m ∧ 0 < dd ∧ dd < 18446744073709551616) :
    Meets P 559 (.cons (pairW hi lo) (.cons (.int false .u64 m) (.cons (.int false .u64 dd) (.cons (.bool false up) .nil)))) (ansW (scaledZ (w128 hi lo) m.toNat dd.toNat up)) := by
  obtain ⟨hr, hm, hd⟩ := h
  have hN := w128_lt hr
  generalize hNe : w128 hi lo = N at hN
  have hm2 : m.toNat < 18446744073709551616 := by unfold u64 at hm; omega
  have hd2 : 0 < dd.toNat := by omega
  have e6 : (340282366920938463463374607431768211456 * 18446744073709551616 : Nat) = 6277101735386680763835789423207666416102355444464034512896 := by decide
  have e7 : B ^ 7 = 26959946667150639794667015087019630673637144422540572481103610249216 := by decide
  have hY : N * m.toNat < 6277101735386680763835789423207666416102355444464034512896 := by
    rw [← e6]; exact Nat.mul_lt_mul'' hN hm2
  have hQ : N * m.toNat / dd.toNat ≤ N * m.toNat := Nat.div_le_self _ _
  have hZ : scaledZ N m.toNat dd.toNat up < B ^ 7 := by
    rw [e7, scaledZ_eq]
    cases (bif up then decide (N * m.toNat % dd.toNat > 0) else false) <;> simp only [cond_true, cond_false] <;> omega
  refine meets (E := en [k_of hi lo N, k_times N m (N * m.toNat + 0) (N * m.toNat / dd.toNat) (N * m.toNat / dd.toNat * 1 + 1), k_over (N * m.toNat + 0) dd (N * m.toNat / dd.toNat) (N * m.toNat % dd.toNat), k_wide (scaledZ N m.toNat dd.toNat up)])
    (en_ok (l := [k_of hi lo N, k_times N m (N * m.toNat + 0) (N * m.toNat / dd.toNat) (N * m.toNat / dd.toNat * 1 + 1), k_over (N * m.toNat + 0) dd (N * m.toNat / dd.toNat) (N * m.toNat % dd.toNat), k_wide (scaledZ N m.toNat dd.toNat up)])
      ⟨k_of_ok hr hNe.symm, k_times_ok hm (by rw [e7]; omega) (by rw [e7]; omega) rfl rfl, k_over_ok hd (by rw [e7]; omega) rfl rfl, k_wide_ok hZ, trivial⟩) 400 (Has.of hn Tryz.func559 rfl) (scaled_tree hi lo m dd up N _ _ _ _ _) ?_
  have hdd : (dd == (0 : Int)) = false := beq_eq_false_iff_ne.2 (by omega)
  rw [hdd]
  refine ⟨fun h => (by cases h), fun _ => ⟨⟨rfl, rfl⟩, ⟨rfl, rfl, rfl⟩, ⟨rfl, rfl⟩, fun _ => rfl, ?_, fun h => ?_, fun h => ?_⟩⟩
  · have hc : decide (((N * m.toNat % dd.toNat : Nat) : Int) > (0 : Int)) = decide (N * m.toNat % dd.toNat > 0) := by
      rw [Bool.eq_iff_iff, decide_eq_true_iff, decide_eq_true_iff]; omega
    rw [hc]
    rw [scaledZ_eq, Nat.mul_one]
    unfold parts
    cases (bif up then decide (N * m.toNat % dd.toNat > 0) else false) <;> rfl
  · have hf : fitsW (scaledZ N m.toNat dd.toNat up) = false := by
      rw [fitsW_eq]
      cases hq : decide (scaledZ N m.toNat dd.toNat up < 340282366920938463463374607431768211456) with
      | false => rfl
      | true => rw [hq] at h; cases h
    refine ⟨rfl, ?_⟩
    unfold ansW
    rw [hf]
    rfl
  · have hf : fitsW (scaledZ N m.toNat dd.toNat up) = true := by
      rw [fitsW_eq]
      cases hq : decide (scaledZ N m.toNat dd.toNat up < 340282366920938463463374607431768211456) with
      | false => rw [hq] at h; cases h
      | true => rfl
    have hlt : scaledZ N m.toNat dd.toNat up < 340282366920938463463374607431768211456 := of_decide_eq_true (by rw [← fitsW_eq]; exact hf)
    unfold ansW
    rw [hf]
    generalize scaledZ N m.toNat dd.toNat up = Z at hlt
    have e1 : Z / 18446744073709551616 % 18446744073709551616 = Z / 18446744073709551616 := Nat.mod_eq_of_lt (Nat.div_lt_of_lt_mul (by omega))
    rw [e1]
    simp only [cond_true, hiN_eq, loN_eq]
    generalize ((Z / 18446744073709551616 : Nat) : Int) = x1
    generalize ((Z % 18446744073709551616 : Nat) : Int) = x2
    exact ⟨rfl, rfl⟩
noncomputable def c_scaled : Con := { g := 559, ans := fun x => match x with
  | .cons (.agg (.cons (.int _ .u64 hi) (.cons (.int _ .u64 lo) .nil))) (.cons (.int _ .u64 m) (.cons (.int _ .u64 dd) (.cons (.bool _ up) .nil))) => some (.where_ ((u64 hi ∧ u64 lo) ∧ u64 m ∧ 0 < dd ∧ dd < 18446744073709551616) (ansW (scaledZ (w128 hi lo) m.toNat dd.toNat up)))
  | _ => none }
theorem c_scaled_ok : c_scaled.Ok P := by
  intro x
  dsimp only [c_scaled]
  split
  · rename_i h
    split at h <;> cases h
  · rename_i h
    split at h
    · injection h with h; injection h with h1 h2; subst h1; subst h2
      exact fun h => Meets.of_soft (scaled_meets h)
    · cases h
  · rename_i h
    split at h <;> cases h
  · trivial
end Go.Proofs.YtdgjneondmmgdaaGreatDoor
