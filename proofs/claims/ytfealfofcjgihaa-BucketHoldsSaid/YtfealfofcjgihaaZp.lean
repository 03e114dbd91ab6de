/- BucketHolds: the plain facts. -/
import Derived.Test.YtfealfofcjgihaaZcB
namespace Go.Proofs.Ytfealfofcjgihaa
open Go.Fw

theorem mul_in {x d : Int} (hx : -800 ≤ x ∧ x ≤ 800) (hd : 0 ≤ d ∧ d ≤ 10000000) : -8000000000 ≤ x * d ∧ x * d ≤ 8000000000 := by
  have h1 : x * d ≤ 800 * d := Int.mul_le_mul_of_nonneg_right hx.2 hd.1
  have h2 : (-800) * d ≤ x * d := Int.mul_le_mul_of_nonneg_right hx.1 hd.1
  omega
theorem bpassG {c t d n : Int} (hc : 1 ≤ c ∧ c ≤ 800) (ht : -8000000000 ≤ t ∧ t ≤ c * 100000000) (hd : 0 ≤ d ∧ d ≤ 10000000) (hn : 0 ≤ n ∧ n ≤ 8) (hdry : t ≤ 0 → n = 0) :
    bPass_0 c t d n = c ∧ bPass_1 c t d n = (if c * 100000000 < t + (c - 100 * n) * d then c * 100000000 else t + (c - 100 * n) * d) ∧ bPass_2 c t d n = 0 := by
  have hg : good c t := by unfold good; omega
  have hm := mul_in (x := c - 100 * n) (d := d) (by omega) hd
  have hdr : bDry_0 c t = decide (t ≤ 0) := by
    rw [bdry]
    by_cases h : t ≤ 0
    · have h1 : 0 < c := by omega
      simp [h, hg, h1]
    · simp [h]
  rw [bPass_0_eq, bPass_1_eq, bPass_2_eq, bcheck, if_pos hg, hdr, IntWalk.i64_in (100 * n) ⟨by omega, by omega⟩, IntWalk.i64_in (c - 100 * n) ⟨by omega, by omega⟩, IntWalk.i64_in ((c - 100 * n) * d) ⟨by omega, by omega⟩,
    IntWalk.i64_in (t + (c - 100 * n) * d) ⟨by omega, by omega⟩, IntWalk.i64_in (c * 100000000) ⟨by omega, by omega⟩]
  have h1 : ¬ d < 0 := by omega
  have h2 : ¬ d > 10000000 := by omega
  have h3 : ¬ n < 0 := by omega
  have h4 : ¬ n > 8 := by omega
  have h5 : (c == 0) = false := by simp; omega
  simp only [V.toInt]
  by_cases hp : t ≤ 0
  · have h7 : ¬ n > 0 := by have := hdry hp; omega
    refine ⟨?_, ?_, ?_⟩ <;> simp [h1, h2, h3, h4, h5, h7, hp]
  · refine ⟨?_, ?_, ?_⟩ <;> simp [h1, h2, h3, h4, h5, hp]
theorem bbound {c time gap most : Int} (hc : 1 ≤ c ∧ c ≤ 800) (ht : 0 ≤ time ∧ time ≤ 1000000000) (hg : 0 ≤ gap ∧ gap ≤ 10000000) (hm : 0 ≤ most ∧ most ≤ 8) :
    bBound_0 c time gap most = c * 100000000 + c * time + 100 * most * gap ∧ bBound_1 c time gap most = 0 := by
  have h1 : 0 ≤ c * time ∧ c * time ≤ 800000000000 := by
    have a := Int.mul_le_mul_of_nonneg_right hc.2 ht.1
    have b := Int.mul_nonneg (show (0 : Int) ≤ c by omega) ht.1
    omega
  have h2 := mul_in (x := 100 * most) (d := gap) (by omega) hg
  rw [bBound_0_eq, bBound_1_eq, IntWalk.i64_in (100 * most) ⟨by omega, by omega⟩, IntWalk.i64_in (c * time) ⟨by omega, by omega⟩, IntWalk.i64_in (100 * most * gap) ⟨by omega, by omega⟩, IntWalk.i64_in (c * 100000000) ⟨by omega, by omega⟩,
    IntWalk.i64_in (c * 100000000 + c * time) ⟨by omega, by omega⟩, IntWalk.i64_in (c * 100000000 + c * time + 100 * most * gap) ⟨by omega, by omega⟩]
  have e1 : ¬ c < 0 := by omega
  have e2 : ¬ c > 800 := by omega
  have e3 : ¬ c < 1 := by omega
  have e4 : ¬ time < 0 := by omega
  have e5 : ¬ time > 1125899906842624 := by omega
  have e6 : ¬ gap < 0 := by omega
  have e7 : ¬ gap > 10000000 := by omega
  have e8 : ¬ most < 0 := by omega
  have e9 : ¬ most > 8 := by omega
  constructor <;> simp [V.toInt, e1, e2, e3, e4, e5, e6, e7, e8, e9]

/-- What the rounds over the parts from 'fr' on keep. -/
structure Run (c : Int) (τ : Nat → Int) (fr : Nat) (q : Nat) (time run gap most : Int) : Prop where
  hti : 0 ≤ time ∧ time ≤ 10000000 * q
  hru : 0 ≤ run ∧ run ≤ 80000000 * q
  hga : 0 ≤ gap ∧ gap ≤ 10000000
  hmo : 0 ≤ most ∧ most ≤ 8
  sum : 100 * run ≤ τ fr + c * time - τ (fr + q)
  low : run = 0 ∨ -(100 * (most * gap)) ≤ τ (fr + q)
theorem Run.start (c : Int) (τ : Nat → Int) (fr : Nat) : Run c τ fr 0 0 0 0 0 := ⟨by omega, by omega, by omega, by omega, by simp, .inl rfl⟩
theorem Run.next {c : Int} {n : Nat} {f : Nat → Int × Int} {τ : Nat → Int} (h : Hist c n f τ) {fr q : Nat} (hq : fr + q < n) {time run gap most : Int} (hr : Run c τ fr q time run gap most) :
    Run c τ fr (q + 1) (time + (f (fr + q)).1) (run + (f (fr + q)).1 * (f (fr + q)).2) (if (f (fr + q)).1 > gap then (f (fr + q)).1 else gap) (if (f (fr + q)).2 > most then (f (fr + q)).2 else most) := by
  obtain ⟨p1, p2, p3, p4⟩ := h.part _ hq
  have hstep := h.step _ hq
  have hdry := h.dry _ hq
  have hcap := h.cap
  have hgood := h.good _ (Nat.le_of_lt hq)
  generalize (f (fr + q)).1 = d at *
  generalize (f (fr + q)).2 = k at *
  have e : fr + (q + 1) = fr + q + 1 := by omega
  obtain ⟨t1, t2⟩ := hr.hti
  obtain ⟨r1, r2⟩ := hr.hru
  obtain ⟨g1, g2⟩ := hr.hga
  obtain ⟨m1, m2⟩ := hr.hmo
  have hsum := hr.sum
  have hlow := hr.low
  have hkd : 0 ≤ d * k ∧ d * k ≤ 80000000 := by
    constructor
    · exact Int.mul_nonneg p1 p3
    · have a : d * k ≤ d * 8 := Int.mul_le_mul_of_nonneg_left p4 p1
      omega
  have hcd : 0 ≤ c * d := Int.mul_nonneg (by omega) p1
  have hex : (c - 100 * k) * d = c * d - 100 * (d * k) := by
    rw [Int.sub_mul, Int.mul_assoc, Int.mul_comm k d]
  rw [hex] at hstep
  have hct : c * (time + d) = c * time + c * d := Int.mul_add _ _ _
  refine ⟨⟨by omega, by omega⟩, ⟨by omega, by omega⟩, ⟨by split <;> omega, by split <;> omega⟩, ⟨by split <;> omega, by split <;> omega⟩, ?_, ?_⟩
  · rw [e, hct]
    have : τ (fr + q + 1) ≤ τ (fr + q) + (c * d - 100 * (d * k)) := by rw [hstep]; split <;> omega
    omega
  · rw [e]
    have hgm : most * gap ≤ (if k > most then k else most) * (if d > gap then d else gap) ∧ k * d ≤ (if k > most then k else most) * (if d > gap then d else gap) := by
      constructor
      · exact Int.mul_le_mul (by split <;> omega) (by split <;> omega) g1 (by split <;> omega)
      · exact Int.mul_le_mul (by split <;> omega) (by split <;> omega) p1 (by split <;> omega)
    rw [Int.mul_comm k d] at hgm
    by_cases hp : τ (fr + q) ≤ 0
    · have hk := hdry hp
      subst hk
      rw [Int.mul_zero] at hstep ⊢
      rcases hlow with hl | hl
      · exact .inl (by omega)
      · right
        have : τ (fr + q) ≤ τ (fr + q + 1) := by rw [hstep]; split <;> omega
        omega
    · right
      have : -(100 * (d * k)) ≤ τ (fr + q + 1) := by rw [hstep]; split <;> omega
      omega
/-- THE BOUND. -/
theorem Run.bound {c : Int} {n : Nat} {f : Nat → Int × Int} {τ : Nat → Int} (h : Hist c n f τ) {fr q : Nat} (hq : fr + q ≤ n) {time run gap most : Int} (hr : Run c τ fr q time run gap most) :
    100 * run ≤ c * 100000000 + c * time + 100 * most * gap := by
  have h1 := hr.sum
  have h2 := (h.good fr (by omega)).2
  have hg := Int.mul_nonneg hr.hmo.1 hr.hga.1
  have hc := h.cap
  have ht := Int.mul_nonneg (show (0 : Int) ≤ c by omega) hr.hti.1
  rw [Int.mul_assoc]
  rcases hr.low with h3 | h3
  · omega
  · omega

section
variable {c : Int} {i : Nat} {f : Nat → Int × Int} {τ : Nat → Int} {dt nn : Int}
theorem Hist.tok (hist : Hist c i f τ) (hd : 0 ≤ dt ∧ dt ≤ 10000000) (hnn : 0 ≤ nn ∧ nn ≤ 8) (hnd : τ i ≤ 0 → nn = 0) :
    (bPass_0 c (τ i) dt nn = c ∧ bPass_1 c (τ i) dt nn = (if c * 100000000 < τ i + (c - 100 * nn) * dt then c * 100000000 else τ i + (c - 100 * nn) * dt) ∧ bPass_2 c (τ i) dt nn = 0) ∧
      (-8000000000 ≤ bPass_1 c (τ i) dt nn ∧ bPass_1 c (τ i) dt nn ≤ c * 100000000) ∧ bCheck_0 c (bPass_1 c (τ i) dt nn) = 0 := by
  have hc := hist.cap
  have hgd := hist.good i (Nat.le_refl _)
  have hk := bpassG hc hgd hd hnn hnd
  have hm := mul_in (x := c - 100 * nn) (d := dt) (by omega) hd
  have hgood' : -8000000000 ≤ bPass_1 c (τ i) dt nn ∧ bPass_1 c (τ i) dt nn ≤ c * 100000000 := by
    rw [hk.2.1]
    by_cases hp : τ i ≤ 0
    · have h0 := hnd hp
      have h1 : 0 ≤ (c - 100 * nn) * dt := by rw [h0]; exact Int.mul_nonneg (by omega) hd.1
      split <;> omega
    · split <;> omega
  refine ⟨hk, hgood', ?_⟩
  rw [bcheck, if_pos]
  unfold Go.Proofs.Ytfealfofcjgihaa.good
  omega
theorem Hist.next (hist : Hist c i f τ) (h60 : i < 60) (hd : 0 ≤ dt ∧ dt ≤ 10000000) (hnn : 0 ≤ nn ∧ nn ≤ 8) (hnd : τ i ≤ 0 → nn = 0) :
    Hist c (i + 1) (fun j => if j = i then (dt, nn) else f j) (fun j => if j = i + 1 then bPass_1 c (τ i) dt nn else τ j) := by
  obtain ⟨⟨_, k1, _⟩, hgood', _⟩ := hist.tok hd hnn hnd
  refine ⟨hist.cap, by omega, fun j hj => ?_, fun j hj => ?_, fun j hj => ?_, fun j hj => ?_⟩
  · by_cases e : j = i + 1
    · rw [if_pos e]; exact hgood'
    · rw [if_neg e]; exact hist.good j (by omega)
  · by_cases e : j = i
    · rw [if_pos e]; exact ⟨hd.1, hd.2, hnn⟩
    · rw [if_neg e]; exact hist.part j (by omega)
  · rw [if_neg (by omega)]
    by_cases e : j = i
    · rw [if_pos e, e]; exact hnd
    · rw [if_neg e]; exact hist.dry j (by omega)
  · rw [if_neg (show ¬ j = i + 1 by omega)]
    by_cases e : j = i
    · rw [if_pos e, if_pos (by omega), e]; exact k1
    · rw [if_neg e, if_neg (by omega)]; exact hist.step j (by omega)
/-- A part's numbers. -/
theorem part_in (a b : Int) (hist : Hist c i f τ) : (0 ≤ Int.tmod (if (0 : Int) > a then 0 else a) 10000001 ∧ Int.tmod (if (0 : Int) > a then 0 else a) 10000001 ≤ 10000000) ∧
    (0 ≤ (bif bDry_0 c (τ i) then (0 : Int) else Int.tmod (if (0 : Int) > b then 0 else b) 9) ∧ (bif bDry_0 c (τ i) then (0 : Int) else Int.tmod (if (0 : Int) > b then 0 else b) 9) ≤ 8) ∧
    (τ i ≤ 0 → (bif bDry_0 c (τ i) then (0 : Int) else Int.tmod (if (0 : Int) > b then 0 else b) 9) = 0) := by
  have hmod : ∀ (x m : Int), 0 < m → 0 ≤ Int.tmod (if (0 : Int) > x then 0 else x) m ∧ Int.tmod (if (0 : Int) > x then 0 else x) m < m := by
    intro x m hm
    have h0 : 0 ≤ (if (0 : Int) > x then 0 else x) := by split <;> omega
    rw [Int.tmod_eq_emod_of_nonneg h0]
    exact ⟨Int.emod_nonneg _ (Int.ne_of_gt hm), Int.emod_lt_of_pos _ hm⟩
  have hd0 := hmod a 10000001 (by decide)
  have hn0 := hmod b 9 (by decide)
  have hc := hist.cap
  have hgd := hist.good i (Nat.le_refl _)
  have hdry : bDry_0 c (τ i) = decide (τ i ≤ 0) := by
    have hgg : good c (τ i) := by unfold good; omega
    rw [bdry]
    have h1 : 0 < c := by omega
    simp [hgg, h1]
  refine ⟨⟨hd0.1, by omega⟩, ?_, fun h => by rw [hdry]; simp [h]⟩
  cases bDry_0 c (τ i)
  · simp only [cond_false]; omega
  · simp
end
end Go.Proofs.Ytfealfofcjgihaa
