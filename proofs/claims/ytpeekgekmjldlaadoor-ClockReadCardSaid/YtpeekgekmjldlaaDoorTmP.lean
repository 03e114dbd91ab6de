/- Clock: a time's text, and its readings, in plain words. -/
import Derived.Lib.ItoaNum
import Derived.Lib.TrimByte
import Derived.Lib.ParseIntBTie
import Derived.Test.YtpeekgekmjldlaaDoorSm
import Derived.Test.YtpeekgekmjldlaaDoorSl
namespace Go.Proofs.YtpeekgekmjldlaaDoor
open Go.Lib
set_option linter.unusedVariables false

/-- Nine digits. -/
def D9 (r : Nat) : List UInt8 := (List.range 9).map fun k => dg r (8 - k)
theorem dg_big (r k : Nat) (hk : k ≤ 8) : dg (1000000000 + r) k = dg r k := by
  unfold dg
  have h : (1000000000 + r) / 10 ^ k % 10 = r / 10 ^ k % 10 := by
    have : k = 0 ∨ k = 1 ∨ k = 2 ∨ k = 3 ∨ k = 4 ∨ k = 5 ∨ k = 6 ∨ k = 7 ∨ k = 8 := by omega
    rcases this with rfl | rfl | rfl | rfl | rfl | rfl | rfl | rfl | rfl <;> simp only [Nat.reducePow] <;> omega
  rw [h]
theorem drop1_dec (r : Nat) (h : r < 1000000000) : (decDigits (1000000000 + r)).drop 1 = D9 r := by
  have hn : nDigits (1000000000 + r) = 10 := nDigits_unique 9 _ (by omega) (by omega)
  rw [decDigits_eq, hn]
  have e : (List.range 10).map (fun t => dg (1000000000 + r) (10 - 1 - t)) = dg (1000000000 + r) 9 :: (List.range 9).map fun t => dg (1000000000 + r) (8 - t) := by
    simp [List.range_succ]
  rw [e, List.drop_one, List.tail_cons]
  unfold D9
  refine List.map_congr_left fun t ht => dg_big r _ (by omega)

theorem dg_digit (u j : Nat) : 48 ≤ (dg u j).toNat ∧ (dg u j).toNat ≤ 57 := by
  unfold dg
  have h : u / 10 ^ j % 10 < 10 := Nat.mod_lt _ (by decide)
  rw [UInt8.toNat_ofNat']
  omega
def isDig (c : UInt8) : Prop := 48 ≤ c.toNat ∧ c.toNat ≤ 57
theorem dec_digits (u : Nat) : ∀ c ∈ decDigits u, isDig c := by
  intro c hc
  rw [decDigits_eq, List.mem_map] at hc
  obtain ⟨t, _, rfl⟩ := hc
  exact dg_digit _ _
theorem D9_digits (r : Nat) : ∀ c ∈ D9 r, isDig c := by
  intro c hc
  unfold D9 at hc
  rw [List.mem_map] at hc
  obtain ⟨t, _, rfl⟩ := hc
  exact dg_digit _ _
theorem D9_length (r : Nat) : (D9 r).length = 9 := by unfold D9; simp

def stp (a : Nat) (c : UInt8) : Nat := a * 10 + (c.toNat - 48)
/-- What digits spell, behind what was spelt. -/
def val (acc : Nat) (l : List UInt8) : Nat := l.foldl stp acc
theorem val_nil (acc : Nat) : val acc [] = acc := rfl
theorem val_cons (acc : Nat) (c : UInt8) (l : List UInt8) : val acc (c :: l) = val (acc * 10 + (c.toNat - 48)) l := by
  unfold val
  rw [List.foldl_cons]
  unfold stp
  exact Eq.refl _
theorem val_append (l l' : List UInt8) : ∀ acc, val acc (l ++ l') = val (val acc l) l' := by
  induction l with
  | nil => intro acc; rfl
  | cons c l ih => intro acc; rw [List.cons_append, val_cons, val_cons]; exact ih _
theorem val_ge (l : List UInt8) : ∀ acc, acc ≤ val acc l := by
  induction l with
  | nil => intro acc; exact Nat.le_refl _
  | cons c l ih => intro acc; have := ih (acc * 10 + (c.toNat - 48)); rw [val_cons]; omega
theorem val_pow (l : List UInt8) : ∀ acc, val acc l = acc * 10 ^ l.length + val 0 l := by
  induction l with
  | nil => intro acc; rw [val_nil, val_nil, List.length_nil, Nat.pow_zero, Nat.mul_one, Nat.add_zero]
  | cons c l ih =>
    intro acc
    rw [val_cons, val_cons, ih (acc * 10 + (c.toNat - 48)), ih (0 * 10 + (c.toNat - 48)), List.length_cons, Nat.pow_succ, Nat.zero_mul, Nat.zero_add, Nat.add_mul, Nat.mul_assoc, Nat.mul_comm 10, Nat.add_assoc]
theorem val_dec (u : Nat) : val 0 (decDigits u) = u := by
  induction u using Nat.strongRecOn with
  | _ u ih =>
    by_cases h : u < 10
    · rw [decDigits_one h]
      rw [val_cons, val_nil, UInt8.toNat_ofNat']
      omega
    · rw [decDigits, dif_neg h, val_append, ih (u / 10) (by omega)]
      rw [val_cons, val_nil, UInt8.toNat_ofNat']
      omega
theorem dg_val (u k : Nat) : (dg u k).toNat - 48 = u / 10 ^ k % 10 := by
  unfold dg
  rw [UInt8.toNat_ofNat']
  have h : u / 10 ^ k % 10 < 10 := Nat.mod_lt _ (by decide)
  omega
theorem val_D9 (r : Nat) (h : r < 1000000000) : val 0 (D9 r) = r := by
  have e : D9 r = [dg r 8, dg r 7, dg r 6, dg r 5, dg r 4, dg r 3, dg r 2, dg r 1, dg r 0] := by simp [D9, List.range, List.range.loop]
  rw [e]
  rw [val_cons, val_cons, val_cons, val_cons, val_cons, val_cons, val_cons, val_cons, val_cons, val_nil]
  simp only [dg_val, Nat.reducePow]
  omega

/-- A text's zeros at the end. -/
theorem trim_pad (l : List UInt8) (c : UInt8) : trimRightB l c ++ List.replicate (l.length - (trimRightB l c).length) c = l := by
  unfold trimRightB
  have key : ∀ m : List UInt8, List.replicate (m.length - (m.dropWhile (· == c)).length) c ++ m.dropWhile (· == c) = m := by
    intro m
    induction m with
    | nil => rfl
    | cons b m ih =>
      by_cases hb : b = c
      · subst hb
        have hle : (m.dropWhile (· == b)).length ≤ m.length := (List.dropWhile_sublist _).length_le
        rw [List.dropWhile_cons_of_pos (by simp), List.length_cons, show m.length + 1 - (m.dropWhile (· == b)).length = (m.length - (m.dropWhile (· == b)).length) + 1 by omega, List.replicate_succ, List.cons_append, ih]
      · rw [List.dropWhile_cons_of_neg (by simpa using hb)]; simp
  have h := congrArg List.reverse (key l.reverse)
  rw [List.reverse_append, List.reverse_reverse, List.reverse_replicate, List.length_reverse] at h
  rw [List.length_reverse]
  exact h
theorem trim_length (l : List UInt8) (c : UInt8) : (trimRightB l c).length ≤ l.length := by
  unfold trimRightB
  rw [List.length_reverse]
  exact Nat.le_trans (List.dropWhile_sublist _).length_le (by rw [List.length_reverse]; exact Nat.le_refl _)
theorem trim_mem (l : List UInt8) (c b : UInt8) (h : b ∈ trimRightB l c) : b ∈ l := by
  unfold trimRightB at h
  rw [List.mem_reverse] at h
  exact List.mem_reverse.1 ((List.dropWhile_sublist _).mem h)

/-- A time's text. -/
def tmT (t : Nat) : List UInt8 := decDigits (t / 1000000000) ++ (if t % 1000000000 = 0 then [] else 46 :: trimRightB (D9 (t % 1000000000)) 48)
/-- It is a time. -/
abbrev isT (t : Nat) : Prop := t ≤ 1125899906842624
theorem dec_short (u : Nat) (h : u ≤ 1125899) : (decDigits u).length ≤ 7 := by
  rw [decDigits_length]
  have := nDigits_pos u
  apply Classical.byContradiction
  intro hc
  have h8 : 8 ≤ nDigits u := by omega
  have : ∀ k u, k + 1 ≤ nDigits u → 10 ^ k ≤ u ∨ k = 0 := by
    intro k
    induction k with
    | zero => intro u _; exact .inr rfl
    | succ k ih =>
      intro u hu
      by_cases hs : u < 10
      · rw [nDigits_small hs] at hu; omega
      · rw [nDigits_big hs] at hu
        rcases ih (u / 10) (by omega) with h1 | h1
        · left; rw [Nat.pow_succ]; omega
        · subst h1; left; omega
  rcases this 7 u h8 with h1 | h1 <;> omega
theorem tmT_short (t : Nat) (h : isT t) : (tmT t).length ≤ 17 := by
  unfold tmT
  rw [List.length_append]
  have h1 := dec_short (t / 1000000000) (by omega)
  split
  · simp; omega
  · have h2 := trim_length (D9 (t % 1000000000)) 48
    rw [D9_length] at h2
    rw [List.length_cons]; omega

/-- strconv's reading of digits. -/
theorem uint10_val : ∀ (l : List UInt8) (acc : Nat), (∀ c ∈ l, isDig c) → val acc l < 1844674407370955162 → parseUint10 acc l = .ok (val acc l) := by
  intro l
  induction l with
  | nil => intro acc _ _; rfl
  | cons c l ih =>
    intro acc hd hv
    have hc := hd c (by simp)
    unfold isDig at hc
    have hge := val_ge l (acc * 10 + (c.toNat - 48))
    have hv' : val (acc * 10 + (c.toNat - 48)) l < 1844674407370955162 := by rw [← val_cons]; exact hv
    unfold parseUint10
    rw [if_pos hc, if_neg (by omega), if_neg (by omega)]
    rw [val_cons]
    exact ih _ (fun b hb => hd b (by simp [hb])) hv'
theorem atoi_val (l : List UInt8) (hne : l ≠ []) (hd : ∀ c ∈ l, isDig c) (hv : val 0 l < 1844674407370955162) : atoiAll l = .ok (val 0 l) := by
  cases l with
  | nil => exact absurd rfl hne
  | cons c r =>
    have hc := hd c (by simp)
    unfold isDig at hc
    unfold atoiAll
    dsimp only
    rw [if_neg (by omega)]
    unfold parseMag
    rw [if_neg (by simp), uint10_val _ _ hd hv]
    dsimp only
    rw [if_neg (by omega), if_neg (by omega), if_neg (by omega)]

theorem ixb_none (c : UInt8) : ∀ (l : List UInt8) (i : Int), (∀ b ∈ l, b ≠ c) → ixb c l i = -1 := by
  intro l
  induction l with
  | nil => intro i _; rfl
  | cons b l ih =>
    intro i h
    unfold ixb
    have h1 : Nat.beq b.toNat c.toNat = false := by
      cases h2 : Nat.beq b.toNat c.toNat
      · rfl
      · exact absurd (UInt8.toNat_inj.1 (Nat.eq_of_beq_eq_true h2)) (h b (by simp))
    rw [h1]
    exact ih (i + 1) fun x hx => h x (by simp [hx])
theorem ixb_at (c : UInt8) (r : List UInt8) : ∀ (l : List UInt8) (i : Int), (∀ b ∈ l, b ≠ c) → ixb c (l ++ c :: r) i = i + l.length := by
  intro l
  induction l with
  | nil => intro i _; show (bif Nat.beq c.toNat c.toNat then i else _) = _; rw [Nat.beq_refl]; simp
  | cons b l ih =>
    intro i h
    rw [List.cons_append]
    unfold ixb
    have h1 : Nat.beq b.toNat c.toNat = false := by
      cases h2 : Nat.beq b.toNat c.toNat
      · rfl
      · exact absurd (UInt8.toNat_inj.1 (Nat.eq_of_beq_eq_true h2)) (h b (by simp))
    rw [h1, cond_false, ih (i + 1) fun x hx => h x (by simp [hx]), List.length_cons]
    omega
theorem dig_ne {c : UInt8} (h : isDig c) : c ≠ 46 := by
  rintro rfl
  unfold isDig at h
  simp at h
/-- What stands ahead of the point, and behind it. -/
def preP (s : List UInt8) : List UInt8 := bif decide (ixb 46 s 0 ≥ 0) then s.take (ixb 46 s 0).toNat else s
def sufP (s : List UInt8) : List UInt8 := bif decide (ixb 46 s 0 ≥ 0) then s.drop ((ixb 46 s 0).toNat + 1) else []
def padP (s : List UInt8) : List UInt8 := preP s ++ (sufP s ++ List.replicate (9 - (sufP s).length) 48)
theorem tmT_parts (t : Nat) : preP (tmT t) = decDigits (t / 1000000000) ∧ sufP (tmT t) = (if t % 1000000000 = 0 then [] else trimRightB (D9 (t % 1000000000)) 48) := by
  have hd : ∀ b ∈ decDigits (t / 1000000000), b ≠ 46 := fun b hb => dig_ne (dec_digits _ b hb)
  unfold preP sufP tmT
  by_cases h : t % 1000000000 = 0
  · rw [if_pos h, if_pos h, List.append_nil, ixb_none 46 _ _ hd]
    exact ⟨rfl, rfl⟩
  · rw [if_neg h, if_neg h, ixb_at 46 _ _ _ hd]
    have e : ((0 : Int) + (decDigits (t / 1000000000)).length).toNat = (decDigits (t / 1000000000)).length := by omega
    rw [decide_eq_true (by omega), e]
    simp
theorem D9_zero : D9 0 = List.replicate 9 48 := by decide
theorem padP_tmT (t : Nat) (ht : isT t) : (sufP (tmT t)).length ≤ 9 ∧ padP (tmT t) = decDigits (t / 1000000000) ++ D9 (t % 1000000000) := by
  obtain ⟨h1, h2⟩ := tmT_parts t
  unfold padP
  rw [h1, h2]
  by_cases h : t % 1000000000 = 0
  · rw [if_pos h, h, D9_zero]
    exact ⟨by simp, rfl⟩
  · rw [if_neg h]
    have h3 := trim_length (D9 (t % 1000000000)) 48
    have h4 := trim_pad (D9 (t % 1000000000)) 48
    rw [D9_length] at h3 h4
    exact ⟨h3, by rw [h4]⟩
theorem pad_val (t : Nat) (ht : isT t) : parseIntB 64 (padP (tmT t)) = .ok (t : Int) := by
  rw [(padP_tmT t ht).2, parseIntB_64]
  have hlt : t % 1000000000 < 1000000000 := Nat.mod_lt _ (by decide)
  have hv : val 0 (decDigits (t / 1000000000) ++ D9 (t % 1000000000)) = t := by
    rw [val_append, val_dec, val_pow, val_D9 _ hlt, D9_length]
    omega
  rw [atoi_val _ ?_ ?_ ?_, hv]
  · intro h
    have := congrArg List.length h
    rw [List.length_append, D9_length] at this
    simp at this
  · intro c hc
    rcases List.mem_append.1 hc with h | h
    · exact dec_digits _ c h
    · exact D9_digits _ c h
  · rw [hv]
    unfold isT at ht
    omega

/-- The document's reading: what stands ahead of the point and behind it, as numbers; whether there was one; how many stand behind it. -/
def rbad (c : UInt8) (w : Int) (p : Bool) (a : Int) : Bool := (decide (c.toNat < 48) || decide (c.toNat > 57)) || ((p && decide (a = 9)) || (!p && decide (w > 112589990684262)))
def rp : List UInt8 → Int → Int → Bool → Int → Option (Int × Int × Bool × Int)
  | [], w, r, p, a => some (w, r, p, a)
  | c :: l, w, r, p, a => if (c == 46 && !p) = true then rp l w r true a else if rbad c w p a = true then none else if p = true then rp l w (10 * r + ((c.toNat : Int) - 48)) p (a + 1) else rp l (10 * w + ((c.toNat : Int) - 48)) r p a
theorem rp_nil (w r : Int) (p : Bool) (a : Int) : rp [] w r p a = some (w, r, p, a) := rfl
theorem rp_cons (c : UInt8) (l : List UInt8) (w r : Int) (p : Bool) (a : Int) : rp (c :: l) w r p a = if (c == 46 && !p) = true then rp l w r true a else if rbad c w p a = true then none else if p = true then rp l w (10 * r + ((c.toNat : Int) - 48)) p (a + 1) else rp l (10 * w + ((c.toNat : Int) - 48)) r p a := by
  rw [rp]
theorem rp_whole (l' : List UInt8) (r a : Int) : ∀ (l : List UInt8) (w : Nat), (∀ c ∈ l, isDig c) → val w l ≤ 1125899 → rp (l ++ l') w r false a = rp l' (val w l) r false a := by
  intro l
  induction l with
  | nil => intro w _ _; rfl
  | cons c l ih =>
    intro w hd hv
    have hc := hd c (by simp)
    have hne := dig_ne hc
    unfold isDig at hc
    rw [val_cons] at hv ⊢
    have hge := val_ge l (w * 10 + (c.toNat - 48))
    rw [List.cons_append, rp_cons, if_neg (by simp [hne]), if_neg ?_, if_neg (by simp)]
    · have e : (10 * (w : Int) + ((c.toNat : Int) - 48)) = ((w * 10 + (c.toNat - 48) : Nat) : Int) := by omega
      rw [e]
      exact ih _ (fun b hb => hd b (by simp [hb])) hv
    · unfold rbad
      have h1 : ¬ c.toNat < 48 := by omega
      have h2 : ¬ c.toNat > 57 := by omega
      have h3 : ¬ ((w : Int) > 112589990684262) := by omega
      simp [h1, h2, h3]
theorem rp_rest (w : Int) : ∀ (l : List UInt8) (r a : Nat), (∀ c ∈ l, isDig c) → a + l.length ≤ 9 → rp l w r true a = some (w, ((val r l : Nat) : Int), true, ((a + l.length : Nat) : Int)) := by
  intro l
  induction l with
  | nil => intro r a _ _; rfl
  | cons c l ih =>
    intro r a hd hl
    have hc := hd c (by simp)
    have hne := dig_ne hc
    unfold isDig at hc
    rw [List.length_cons] at hl
    rw [rp_cons, if_neg (by simp), if_neg ?_, if_pos rfl, val_cons, List.length_cons]
    · have e : (10 * (r : Int) + ((c.toNat : Int) - 48)) = ((r * 10 + (c.toNat - 48) : Nat) : Int) := by omega
      have e2 : ((a : Int) + 1) = ((a + 1 : Nat) : Int) := by omega
      rw [e, e2, ih _ _ (fun b hb => hd b (by simp [hb])) (by omega)]
      have e3 : a + 1 + l.length = a + (l.length + 1) := by omega
      rw [e3]
    · unfold rbad
      have h1 : ¬ c.toNat < 48 := by omega
      have h2 : ¬ c.toNat > 57 := by omega
      have h3 : ¬ ((a : Int) = 9) := by omega
      simp [h1, h2, h3]
theorem val_zeros (k : Nat) : ∀ acc, val acc (List.replicate k 48) = acc * 10 ^ k := by
  induction k with
  | zero => intro acc; rw [List.replicate_zero, val_nil, Nat.pow_zero, Nat.mul_one]
  | succ k ih =>
    intro acc
    rw [List.replicate_succ, val_cons, ih, Nat.pow_succ]
    have e : (48 : UInt8).toNat - 48 = 0 := by decide
    rw [e, Nat.add_zero, Nat.mul_assoc, Nat.mul_comm 10]
theorem rp_tmT (t : Nat) (ht : isT t) : ∃ (r a : Nat) (p : Bool), rp (tmT t) 0 0 false 0 = some (((t / 1000000000 : Nat) : Int), (r : Int), p, (a : Int)) ∧ a ≤ 9 ∧ r * 10 ^ (9 - a) = t % 1000000000 := by
  unfold isT at ht
  have hw := rp_whole (if t % 1000000000 = 0 then [] else 46 :: trimRightB (D9 (t % 1000000000)) 48) 0 0 (decDigits (t / 1000000000)) 0 (dec_digits _) (by rw [val_dec]; omega)
  rw [val_dec] at hw
  have hw : rp (tmT t) 0 0 false 0 = rp (if t % 1000000000 = 0 then [] else 46 :: trimRightB (D9 (t % 1000000000)) 48) ((t / 1000000000 : Nat) : Int) 0 false 0 := hw
  rw [hw]
  by_cases h : t % 1000000000 = 0
  · rw [if_pos h, rp_nil]
    exact ⟨0, 0, false, rfl, by omega, by rw [h, Nat.zero_mul]⟩
  · rw [if_neg h, rp_cons, if_pos (show ((46 : UInt8) == 46 && !false) = true from rfl)]
    have hl := trim_length (D9 (t % 1000000000)) 48
    have hp := trim_pad (D9 (t % 1000000000)) 48
    rw [D9_length] at hl hp
    have hr := rp_rest ((t / 1000000000 : Nat) : Int) (trimRightB (D9 (t % 1000000000)) 48) 0 0 (fun c hc => D9_digits _ c (trim_mem _ _ _ hc)) (by omega)
    refine ⟨_, _, true, hr, by omega, ?_⟩
    have hv := congrArg (val 0) hp
    rw [val_append, val_zeros, val_D9 _ (Nat.mod_lt _ (by decide))] at hv
    rw [Nat.zero_add]
    exact hv
/-- Is it a time's text: the document's reading ('f': a time's text). -/
def rtF (f : Nat → List UInt8) (s : List UInt8) : Option (Int × Int × Bool × Int) → Bool
  | none => false
  | some (w, r, _, a) => bif decide (w > 1125899) then false else (decide (0 ≤ w * 1000000000 + r * 10 ^ (9 - a).toNat) && decide (w * 1000000000 + r * 10 ^ (9 - a).toNat ≤ 1125899906842624)) && (f (w * 1000000000 + r * 10 ^ (9 - a).toNat).toNat == s)
def rvF : Option (Int × Int × Bool × Int) → Int
  | none => 0
  | some (w, r, _, a) => bif decide (w > 1125899) then 0 else w * 1000000000 + r * 10 ^ (9 - a).toNat
def rtB (s : List UInt8) : Bool := bif decide (s.length > 20) then false else rtF tmT s (rp s 0 0 false 0)
def rtV (s : List UInt8) : Int := bif decide (s.length > 20) then 0 else rvF (rp s 0 0 false 0)
theorem rtF_some {f : Nat → List UInt8} {s : List UInt8} {t r a : Nat} {p : Bool} (ht : isT t) (h2 : a ≤ 9) (h3 : r * 10 ^ (9 - a) = t % 1000000000) (hf : f t = s) :
    rtF f s (some (((t / 1000000000 : Nat) : Int), (r : Int), p, (a : Int))) = true ∧ rvF (some (((t / 1000000000 : Nat) : Int), (r : Int), p, (a : Int))) = (t : Int) := by
  unfold isT at ht
  have e1 : (9 - (a : Int)).toNat = 9 - a := by omega
  have e : (((t / 1000000000 : Nat) : Int) * 1000000000 + (r : Int) * 10 ^ (9 - (a : Int)).toNat) = (t : Int) := by
    rw [e1]
    have h4 : (r : Int) * 10 ^ (9 - a) = ((r * 10 ^ (9 - a) : Nat) : Int) := by simp
    rw [h4, h3]
    omega
  have f2 : decide ((((t / 1000000000 : Nat) : Int)) > 1125899) = false := decide_eq_false (by omega)
  have f3 : decide (0 ≤ (t : Int)) = true := decide_eq_true (by omega)
  have f4 : decide ((t : Int) ≤ 1125899906842624) = true := decide_eq_true (by omega)
  subst hf
  have f5 : (f t == f t) = true := beq_self_eq_true _
  constructor
  · unfold rtF
    dsimp only
    rw [e, f2, f3, f4, Int.toNat_natCast, f5]
    rfl
  · unfold rvF
    dsimp only
    rw [e, f2]
    rfl
theorem rtF_true {f : Nat → List UInt8} {s : List UInt8} {o : Option (Int × Int × Bool × Int)} (h : rtF f s o = true) : ∃ t, isT t ∧ f t = s ∧ rvF o = (t : Int) := by
  cases o with
  | none => cases h
  | some x =>
    obtain ⟨w, r, p, a⟩ := x
    unfold rtF at h
    unfold rvF
    dsimp only at h ⊢
    cases hw : decide (w > 1125899)
    · rw [hw] at h
      simp only [cond_false, Bool.and_eq_true, decide_eq_true_eq] at h ⊢
      refine ⟨_, ?_, eq_of_beq h.2, ?_⟩
      · unfold isT; omega
      · omega
    · rw [hw] at h; cases h

theorem rt_x1 (t : Nat) (ht : isT t) {r a : Nat} {p : Bool} (h2 : a ≤ 9) (h3 : r * 10 ^ (9 - a) = t % 1000000000) : rtF tmT (tmT t) (some (((t / 1000000000 : Nat) : Int), (r : Int), p, (a : Int))) = true ∧ rvF (some (((t / 1000000000 : Nat) : Int), (r : Int), p, (a : Int))) = (t : Int) := rtF_some (f := tmT) (s := tmT t) (p := p) ht h2 h3 rfl
theorem rt_x2 (s : List UInt8) (hs : s.length ≤ 17) (o) (v : Int) (h1 : rp s 0 0 false 0 = o) (h4 : rtF tmT s o = true ∧ rvF o = v) : rtB s = true ∧ rtV s = v := by
  unfold rtB rtV
  rw [decide_eq_false (by omega), h1]
  exact h4
theorem rt_tmT (t : Nat) (ht : isT t) : rtB (tmT t) = true ∧ rtV (tmT t) = (t : Int) := by
  obtain ⟨r, a, p, h1, h2, h3⟩ := rp_tmT t ht
  exact rt_x2 _ (tmT_short t ht) _ _ h1 (rt_x1 t ht h2 h3)
theorem rtB_true (s : List UInt8) (h : rtB s = true) : ∃ t, isT t ∧ tmT t = s ∧ rtV s = (t : Int) := by
  unfold rtB at h
  unfold rtV
  cases hl : decide (s.length > 20)
  · rw [hl] at h
    exact rtF_true h
  · rw [hl] at h; cases h
/-- A text that leads to a time whose text it is is a time's text. -/
theorem rtB_of (t : Nat) (ht : isT t) (s : List UInt8) (h : tmT t = s) : rtB s = true := by rw [← h]; exact (rt_tmT t ht).1
theorem tmT_inj {t u : Nat} (ht : isT t) (hu : isT u) (h : tmT t = tmT u) : t = u := by
  have h1 := (rt_tmT t ht).2
  have h2 := (rt_tmT u hu).2
  rw [h, h2] at h1
  omega
end Go.Proofs.YtpeekgekmjldlaaDoor
