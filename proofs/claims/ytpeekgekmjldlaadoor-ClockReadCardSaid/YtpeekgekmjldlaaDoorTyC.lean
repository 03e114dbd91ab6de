/- Clock, the document's reading: a round of the loop, as the evaluator has it. Clock, the document's reading: zeros: a round of the loop, as the evaluator has it. Clock: the document's reading: its loops. Clock: the document's Parse, as the evaluator has it. Clock: the document's Parse at every text, as a contract; the states of the laws' loops. Clock: the document's Parse as a contract; wakes; the states of the laws' loops. -/
import Derived.Test.YtpeekgekmjldlaaDoorTyB
namespace Go.Proofs.YtpeekgekmjldlaaDoor
open Go.Fw
set_option maxRecDepth 100000
set_option linter.unusedVariables false
theorem rp_body (B : Base) (t : List UInt8) (v : Int) (b : Bool) (w r : Int) (p : Bool) (a n i : Int) : ((ev (en [] []) 400 47 (loopAt P 47 6) B (canon 0 89 [0,2,3,4,5,6,7,15,16] [] (kRp t v b w r p a n i) .nil)).bind fun x => Tree.leaf (x.1, vw 0 89 [0,2,3,4,5,6,7,15,16] [] x.2)) =
    Tree.node (bif decide (i < n) then false else true) (Tree.leaf (Ex.exit (0 : Nat), true, V.cons (V.str false t) (V.cons (V.int false IntKind.i64 v) (V.cons (V.bool false b)
    (V.cons (V.int false IntKind.i64 w) (V.cons (V.int false IntKind.i64 r) (V.cons (V.bool false p) (V.cons (V.int false IntKind.i64 a) (V.cons (V.int false IntKind.i64 n) (V.cons
    (V.int false IntKind.i64 i) V.nil)))))))), V.nil)) (Tree.need ((0 : Int) ≤ i ∧ i < ((List.length t : Nat) : Int)) (Tree.node (bif bif bif bif ((UInt8.toNat (List.getD t
    (Int.toNat i) (0 : UInt8)) : Nat) : Int) == (46 : Int) then !p else false then false else bif bif bif decide (((UInt8.toNat (List.getD t (Int.toNat i) (0 : UInt8)) : Nat) :
    Int) < (48 : Int)) then true else bif decide (((UInt8.toNat (List.getD t (Int.toNat i) (0 : UInt8)) : Nat) : Int) > (57 : Int)) then true else bif p then bif a == (9 : Int)
    then true else bif !p then decide (w > (112589990684262 : Int)) else false else bif !p then decide (w > (112589990684262 : Int)) else false then true else false then true else
    false then true else false then true else false) (Tree.leaf (Ex.ret, true, V.cons (V.str false t) (V.cons (V.int true IntKind.i64 (0 : Int)) (V.cons (V.bool true false) (V.cons
    (V.int false IntKind.i64 w) (V.cons (V.int false IntKind.i64 r) (V.cons (V.bool false p) (V.cons (V.int false IntKind.i64 a) (V.cons (V.int false IntKind.i64 n) (V.cons (V.int
    false IntKind.i64 i) V.nil)))))))), V.nil)) (Tree.leaf (Ex.normal, true, V.cons (V.str false t) (V.cons (V.int false IntKind.i64 v) (V.cons (V.bool false b) (V.cons (V.int
    false IntKind.i64 (bif bif ((UInt8.toNat (List.getD t (Int.toNat i) (0 : UInt8)) : Nat) : Int) == (46 : Int) then !p else false then w else bif p then w else IntKind.wrap
    IntKind.i64 (IntKind.wrap IntKind.i64 ((10 : Int) * w) + IntKind.wrap IntKind.i64 (IntKind.wrap IntKind.u8 (((UInt8.toNat (List.getD t (Int.toNat i) (0 : UInt8)) : Nat) : Int)
    - (48 : Int)))))) (V.cons (V.int false IntKind.i64 (bif bif ((UInt8.toNat (List.getD t (Int.toNat i) (0 : UInt8)) : Nat) : Int) == (46 : Int) then !p else false then r else bif
    p then IntKind.wrap IntKind.i64 (IntKind.wrap IntKind.i64 ((10 : Int) * r) + IntKind.wrap IntKind.i64 (IntKind.wrap IntKind.u8 (((UInt8.toNat (List.getD t (Int.toNat i) (0 :
    UInt8)) : Nat) : Int) - (48 : Int)))) else r)) (V.cons (V.bool false (bif bif ((UInt8.toNat (List.getD t (Int.toNat i) (0 : UInt8)) : Nat) : Int) == (46 : Int) then !p else
    false then true else p)) (V.cons (V.int false IntKind.i64 (bif bif ((UInt8.toNat (List.getD t (Int.toNat i) (0 : UInt8)) : Nat) : Int) == (46 : Int) then !p else false then a
    else bif p then IntKind.wrap IntKind.i64 (a + (1 : Int)) else a)) (V.cons (V.int false IntKind.i64 n) (V.cons (V.int false IntKind.i64 (IntKind.wrap IntKind.i64 (i + (1 :
    Int)))) V.nil)))))))), V.nil)))) := by kernel_rfl
end Go.Proofs.YtpeekgekmjldlaaDoor
namespace Go.Proofs.YtpeekgekmjldlaaDoor
open Go.Fw
set_option maxRecDepth 100000
set_option linter.unusedVariables false
theorem rz_body (B : Base) (t : List UInt8) (w r a : Int) : ((ev (en [] []) 400 47 (loopAt P 47 17) B (canon 0 89 [0,4,5,7] [] (kRz t w r a) .nil)).bind fun x => Tree.leaf (x.1, vw 0 89 [0,4,5,7] [] x.2)) =
    Tree.node (bif decide (a < (9 : Int)) then false else true) (Tree.leaf (Ex.exit (3 : Nat), true, V.cons (V.str false t) (V.cons (V.int false IntKind.i64 w) (V.cons (V.int false
    IntKind.i64 r) (V.cons (V.int false IntKind.i64 a) V.nil))), V.nil)) (Tree.leaf (Ex.normal, true, V.cons (V.str false t) (V.cons (V.int false IntKind.i64 w) (V.cons (V.int
    false IntKind.i64 (IntKind.wrap IntKind.i64 (r * (10 : Int)))) (V.cons (V.int false IntKind.i64 (IntKind.wrap IntKind.i64 (a + (1 : Int)))) V.nil))), V.nil)) := by kernel_rfl
end Go.Proofs.YtpeekgekmjldlaaDoor
namespace Go.Proofs.YtpeekgekmjldlaaDoor
open Go.Fw
set_option maxRecDepth 100000
set_option linter.unusedVariables false
theorem e46 (c : UInt8) : (((c.toNat : Nat) : Int) == 46) = (c == 46) := by
  by_cases h : c = 46
  · subst h; rfl
  · have h1 : ¬ c.toNat = 46 := fun h' => h (UInt8.toNat_inj.1 h')
    have h2 : (c == 46) = false := by simpa using h
    rw [h2]
    have h3 : ¬ ((c.toNat : Nat) : Int) = 46 := by omega
    simpa using h3
theorem ebad (c : UInt8) (w : Int) (p : Bool) (a : Int) : (bif bif bif decide (((c.toNat : Nat) : Int) < (48 : Int)) then true else bif decide (((c.toNat : Nat) : Int) > (57 : Int)) then true else bif p then bif a == (9 : Int) then true else bif !p then decide (w > (112589990684262 : Int)) else false else bif !p then decide (w > (112589990684262 : Int)) else false then true else false then true else false) = rbad c w p a := by
  unfold rbad
  have e1 : decide (((c.toNat : Nat) : Int) < 48) = decide (c.toNat < 48) := decide_eq_decide.2 (by omega)
  have e2 : decide (((c.toNat : Nat) : Int) > 57) = decide (c.toNat > 57) := decide_eq_decide.2 (by omega)
  have e3 : (a == 9) = decide (a = 9) := rfl
  rw [e1, e2, e3]
  generalize decide (c.toNat < 48) = x1
  generalize decide (c.toNat > 57) = x2
  generalize decide (a = 9) = x3
  generalize decide (w > 112589990684262) = x4
  cases x1 <;> cases x2 <;> cases x3 <;> cases x4 <;> cases p <;> rfl
theorem drop_get (t : List UInt8) (i : Nat) (h : i < t.length) : t.drop i = t.getD i 0 :: t.drop (i + 1) := by
  rw [List.drop_eq_getElem_cons h]
  congr 1
  rw [List.getD_eq_getElem?_getD, List.getElem?_eq_getElem h]
  rfl
theorem pow_cast (k : Nat) : (10 : Int) ^ k = ((10 ^ k : Nat) : Int) := by simp
theorem digit_in {c : UInt8} {w : Int} {p : Bool} {a : Int} (h : rbad c w p a = false) : 48 ≤ c.toNat ∧ c.toNat ≤ 57 ∧ (p = true → a ≠ 9) ∧ (p = false → w ≤ 112589990684262) := by
  unfold rbad at h
  simp only [Bool.or_eq_false_iff, decide_eq_false_iff_not] at h
  obtain ⟨⟨h1, h2⟩, h3, h4⟩ := h
  refine ⟨by omega, by omega, fun hp => ?_, fun hp => ?_⟩
  · subst hp; simpa using h3
  · subst hp; simp at h4; omega
theorem digit_wrap {c : UInt8} (h : 48 ≤ c.toNat ∧ c.toNat ≤ 57) : IntKind.wrap IntKind.i64 (IntKind.wrap IntKind.u8 (((c.toNat : Nat) : Int) - 48)) = ((c.toNat : Nat) : Int) - 48 := by
  have e : IntKind.wrap IntKind.u8 (((c.toNat : Nat) : Int) - 48) = ((c.toNat : Nat) : Int) - 48 := by
    unfold IntKind.wrap
    simp [IntKind.signed, IntKind.bits]
    omega
  rw [e]
  exact IntWalk.i64_in _ ⟨by omega, by omega⟩
theorem ten_wrap {x : Int} {c : UInt8} (h : 48 ≤ c.toNat ∧ c.toNat ≤ 57) (h0 : 0 ≤ x) (h1 : x ≤ 112589990684262) :
    IntKind.wrap IntKind.i64 (IntKind.wrap IntKind.i64 ((10 : Int) * x) + IntKind.wrap IntKind.i64 (IntKind.wrap IntKind.u8 (((c.toNat : Nat) : Int) - 48))) = 10 * x + (((c.toNat : Nat) : Int) - 48) := by
  rw [digit_wrap h, IntWalk.i64_in (10 * x) ⟨by omega, by omega⟩]
  exact IntWalk.i64_in _ ⟨by omega, by omega⟩
theorem rIn_zero : rIn 0 0 0 := ⟨⟨by omega, by omega⟩, ⟨by omega, by omega⟩, by omega, by decide⟩
theorem lpRp_ok : lpRp.Ok P := by
  refine lp_ok (by kernel_rfl) fun hin B s Q hq => ?_
  simp only [lpRp] at hq hin ⊢
  split at hq
  · rename_i q0 t q1 v q2 b q3 w q4 r q5 p q6 a q7 n q8 i heq
    cases hn : Nat.beq s.n 0
    · rw [hn] at hq; exact hq.elim
    · rw [hn] at hq
      obtain ⟨⟨⟨rfl, rfl, rfl, rfl, rfl, rfl, rfl⟩, rfl, hl⟩, hq⟩ := hq
      have hsame : Same 0 89 [0,2,3,4,5,6,7,15,16] [] s (kRp t 0 false 0 0 false 0 t.length (0 : Nat)) .nil := by
        refine ⟨by rw [heq], by rw [heq]; rfl, by rw [heq]⟩
      refine loop_view (k := 400) (f := 47) (en_okl (l := []) trivial (ls := []) trivial) hin (fun x : (Int × Int) × (Bool × Int) × Nat => kRp t 0 false x.1.1 x.1.2 x.2.1.1 x.2.1.2 t.length x.2.2) (fun _ => .nil)
        (fun x => (rIn x.1.1 x.1.2 x.2.1.2 ∧ x.2.2 ≤ t.length) ∧ rp t 0 0 false 0 = rp (t.drop x.2.2) x.1.1 x.1.2 x.2.1.1 x.2.1.2) (fun x => t.length - x.2.2) Q (fun x => rp_body B t 0 false x.1.1 x.1.2 x.2.1.1 x.2.1.2 t.length x.2.2) ?_ (Nat.eq_of_beq_eq_true hn)
        (i0 := ((0, 0), (false, 0), 0)) ⟨⟨rIn_zero, Nat.zero_le _⟩, rfl⟩ hsame
      rintro ⟨⟨w, r⟩, ⟨p, a⟩, i⟩ ⟨⟨hrin, hi⟩, hinv⟩
      dsimp only at hrin hi hinv ⊢
      refine ⟨fun hx => ?_, fun hx => ⟨⟨by omega, ?_⟩, ?_⟩⟩
      · have hge : ¬ (i : Int) < (t.length : Int) := fun h => by rw [decide_eq_true h] at hx; cases hx
        have e : i = t.length := by omega
        rw [e, List.drop_length, rp_nil] at hinv
        exact ⟨rfl, _, _, rfl, rfl, (hq w r p a i true).1 rfl ⟨hinv, hrin⟩⟩
      · apply Classical.byContradiction; intro h; rw [decide_eq_false h] at hx; cases hx
      have hlt : i < t.length := by
        apply Classical.byContradiction; intro h; rw [decide_eq_false (by omega)] at hx; cases hx
      rw [drop_get t i hlt, rp_cons] at hinv
      rw [Int.toNat_natCast]
      generalize t.getD i 0 = c at hinv
      have hwi : IntKind.wrap IntKind.i64 ((i : Int) + 1) = ((i + 1 : Nat) : Int) := by rw [IntWalk.i64_in _ ⟨by omega, by omega⟩]; omega
      rw [e46, ebad, hwi]
      obtain ⟨⟨hw0, hw1⟩, ⟨ha0, ha1⟩, hr0, hr1⟩ := hrin
      cases hd : (c == 46 && !p)
      · have hD : (bif c == 46 then !p else false) = false := by
          cases h1 : (c == 46)
          · rfl
          · rw [h1] at hd; exact hd
        rw [hD]
        rw [if_neg (by rw [hd]; simp)] at hinv
        cases hb : rbad c w p a
        · rw [if_neg (by rw [hb]; simp)] at hinv
          obtain ⟨d1, d2, d3, d4⟩ := digit_in hb
          refine ⟨fun h => (by cases h), fun _ => ?_⟩
          cases hp : p
          · rw [hp] at hinv d3 d4
            rw [if_neg (by simp)] at hinv
            have hw2 := d4 rfl
            simp only [cond_false]
            rw [ten_wrap ⟨d1, d2⟩ hw0 hw2]
            exact ⟨rfl, ((10 * w + (((c.toNat : Nat) : Int) - 48), r), (false, a), i + 1), ⟨⟨⟨⟨by dsimp only; omega, by dsimp only; omega⟩, ⟨ha0, ha1⟩, hr0, hr1⟩, by dsimp only; omega⟩, hinv⟩, by dsimp only; omega, rfl, rfl⟩
          · rw [hp] at hinv d3 d4
            rw [if_pos rfl] at hinv
            have ha2 := d3 rfl
            have hpow : (10 : Int) ^ a.toNat ≤ 100000000 := by
              rw [pow_cast]
              have := Nat.pow_le_pow_right (n := 10) (by decide) (show a.toNat ≤ 8 by omega)
              have e : 10 ^ 8 = 100000000 := by decide
              rw [e] at this
              omega
            have hpow2 : (10 : Int) ^ (a + 1).toNat = 10 ^ a.toNat * 10 := by
              have e : (a + 1).toNat = a.toNat + 1 := by omega
              rw [e, Int.pow_succ]
            simp only [cond_false, cond_true]
            rw [ten_wrap ⟨d1, d2⟩ hr0 (by omega), IntWalk.i64_in (a + 1) ⟨by omega, by omega⟩]
            refine ⟨rfl, ((w, 10 * r + (((c.toNat : Nat) : Int) - 48)), (true, a + 1), i + 1), ⟨⟨⟨⟨hw0, hw1⟩, ⟨by dsimp only; omega, by dsimp only; omega⟩, by dsimp only; omega, ?_⟩, by dsimp only; omega⟩, hinv⟩, by dsimp only; omega, rfl, rfl⟩
            dsimp only
            rw [hpow2]
            generalize (10 : Int) ^ a.toNat = z at hr1
            omega
        · rw [if_pos hb] at hinv
          exact ⟨fun _ => ⟨rfl, kRp t 0 false w r p a t.length i, .nil, rfl, rfl, (hq w r p a i false).2 rfl hinv⟩, fun h => (by cases h)⟩
      · have hD : (bif c == 46 then !p else false) = true := by
          cases h1 : (c == 46)
          · rw [h1] at hd; cases hd
          · rw [h1] at hd; exact hd
        rw [hD]
        rw [if_pos hd] at hinv
        exact ⟨fun h => (by cases h), fun _ => ⟨rfl, ((w, r), (true, a), i + 1), ⟨⟨⟨⟨hw0, hw1⟩, ⟨ha0, ha1⟩, hr0, hr1⟩, by dsimp only; omega⟩, hinv⟩, by dsimp only; omega, rfl, rfl⟩⟩
  · exact hq.elim
theorem lpRz_ok : lpRz.Ok P := by
  refine lp_ok (by kernel_rfl) fun hin B s Q hq => ?_
  simp only [lpRz] at hq hin ⊢
  split at hq
  · rename_i q0 t q1 w q2 r q3 a heq
    cases hn : Nat.beq s.n 0
    · rw [hn] at hq; exact hq.elim
    · rw [hn] at hq
      obtain ⟨hrin, hq⟩ := hq
      have hsame : Same 0 89 [0,4,5,7] [] s (kRz t w r a) .nil := by
        refine ⟨by rw [heq], by rw [heq]; rfl, by rw [heq]⟩
      refine loop_view (k := 400) (f := 47) (en_okl (l := []) trivial (ls := []) trivial) hin (fun x : Int × Int => kRz t w x.1 x.2) (fun _ => .nil)
        (fun x => rIn w x.1 x.2 ∧ x.1 * 10 ^ (9 - x.2).toNat = r * 10 ^ (9 - a).toNat) (fun x => (9 - x.2).toNat) Q (fun x => rz_body B t w x.1 x.2) ?_ (Nat.eq_of_beq_eq_true hn)
        (i0 := (r, a)) ⟨hrin, rfl⟩ hsame
      rintro ⟨r', a'⟩ ⟨hrin', hinv⟩
      dsimp only at hrin' hinv ⊢
      obtain ⟨⟨hw0, hw1⟩, ⟨ha0, ha1⟩, hr0, hr1⟩ := hrin'
      refine ⟨fun hx => ?_, fun hx => ?_⟩
      · have hge : ¬ a' < 9 := fun h => by rw [decide_eq_true h] at hx; cases hx
        have e : a' = 9 := by omega
        subst e
        have e2 : ((9 : Int) - 9).toNat = 0 := by decide
        rw [e2, Int.pow_zero, Int.mul_one] at hinv
        rw [hinv]
        exact ⟨rfl, _, _, rfl, rfl, hq⟩
      · have hlt : a' < 9 := by apply Classical.byContradiction; intro h; rw [decide_eq_false h] at hx; cases hx
        have hpow : (10 : Int) ^ a'.toNat ≤ 100000000 := by
          rw [pow_cast]
          have := Nat.pow_le_pow_right (n := 10) (by decide) (show a'.toNat ≤ 8 by omega)
          have e : 10 ^ 8 = 100000000 := by decide
          rw [e] at this
          omega
        have hpow2 : (10 : Int) ^ (a' + 1).toNat = 10 ^ a'.toNat * 10 := by
          have e : (a' + 1).toNat = a'.toNat + 1 := by omega
          rw [e, Int.pow_succ]
        have e9 : (9 - a').toNat = (9 - (a' + 1)).toNat + 1 := by omega
        rw [IntWalk.i64_in (r' * 10) ⟨by omega, by omega⟩, IntWalk.i64_in (a' + 1) ⟨by omega, by omega⟩]
        refine ⟨rfl, (r' * 10, a' + 1), ⟨⟨⟨hw0, hw1⟩, ⟨by dsimp only; omega, by dsimp only; omega⟩, by dsimp only; omega, ?_⟩, ?_⟩, by dsimp only; omega, rfl, rfl⟩
        · dsimp only
          rw [hpow2]
          generalize (10 : Int) ^ a'.toNat = z at hr1
          omega
        · dsimp only
          rw [← hinv, e9, Int.pow_succ, Int.mul_assoc, Int.mul_comm 10]
  · exact hq.elim
end Go.Proofs.YtpeekgekmjldlaaDoor
namespace Go.Proofs.YtpeekgekmjldlaaDoor
open Go.Fw
set_option maxRecDepth 100000
set_option linter.unusedVariables false
theorem rparse2_tree (t : List UInt8) : evFn (en [c_rctext] [lpRp, lpRz]) 400 47 (.cons (.str false t) .nil) =
    Tree.node (bif decide (((List.length t : Nat) : Int) > (20 : Int)) then true else false) (Tree.leaf (V.tup (V.cons (V.int true IntKind.i64 (0 : Int)) (V.cons (V.bool true
    false) V.nil)))) (Tree.need (((0 : Int) = (0 : Int) ∧ false = false ∧ (0 : Int) = (0 : Int) ∧ (0 : Int) = (0 : Int) ∧ false = false ∧ (0 : Int) = (0 : Int) ∧ (0 : Int) = (0 :
    Int)) ∧ ((List.length t : Nat) : Int) = ((List.length t : Nat) : Int) ∧ List.length t ≤ (20 : Nat)) (Tree.all Int fun x => Tree.all Int fun x_1 => Tree.all Bool fun x_2 =>
    Tree.all Int fun x_3 => Tree.all Int fun x_4 => Tree.all Bool fun x_5 => Tree.node x_5 (Tree.given (rp t (0 : Int) (0 : Int) false (0 : Int) = some (x, x_1, x_2, x_3) ∧ rIn x
    x_1 x_3) (Tree.need (rIn x x_1 x_3) (Tree.node (bif decide (x > (1125899 : Int)) then true else false) (Tree.leaf (V.tup (V.cons (V.int true IntKind.i64 (0 : Int)) (V.cons
    (V.bool true false) V.nil)))) (Tree.need ((bif decide (IntKind.wrap IntKind.i64 (IntKind.wrap IntKind.i64 (x * (1000000000 : Int)) + x_1 * (10 : Int) ^ Int.toNat ((9 : Int) -
    x_3)) ≥ (0 : Int)) then decide (IntKind.wrap IntKind.i64 (IntKind.wrap IntKind.i64 (x * (1000000000 : Int)) + x_1 * (10 : Int) ^ Int.toNat ((9 : Int) - x_3)) ≤
    (1125899906842624 : Int)) else false) = true → (0 : Int) ≤ IntKind.wrap IntKind.i64 (IntKind.wrap IntKind.i64 (x * (1000000000 : Int)) + x_1 * (10 : Int) ^ Int.toNat ((9 : Int)
    - x_3)) ∧ IntKind.wrap IntKind.i64 (IntKind.wrap IntKind.i64 (x * (1000000000 : Int)) + x_1 * (10 : Int) ^ Int.toNat ((9 : Int) - x_3)) ≤ (1125899906842624 : Int)) (Tree.leaf
    (V.tup (V.cons (V.int false IntKind.i64 (bif bif decide (IntKind.wrap IntKind.i64 (IntKind.wrap IntKind.i64 (x * (1000000000 : Int)) + x_1 * (10 : Int) ^ Int.toNat ((9 : Int) -
    x_3)) ≥ (0 : Int)) then decide (IntKind.wrap IntKind.i64 (IntKind.wrap IntKind.i64 (x * (1000000000 : Int)) + x_1 * (10 : Int) ^ Int.toNat ((9 : Int) - x_3)) ≤
    (1125899906842624 : Int)) else false then IntKind.wrap IntKind.i64 (IntKind.wrap IntKind.i64 (x * (1000000000 : Int)) + x_1 * (10 : Int) ^ Int.toNat ((9 : Int) - x_3)) else
    IntKind.wrap IntKind.i64 (IntKind.wrap IntKind.i64 (x * (1000000000 : Int)) + x_1 * (10 : Int) ^ Int.toNat ((9 : Int) - x_3)))) (V.cons (V.bool false (bif bif decide
    (IntKind.wrap IntKind.i64 (IntKind.wrap IntKind.i64 (x * (1000000000 : Int)) + x_1 * (10 : Int) ^ Int.toNat ((9 : Int) - x_3)) ≥ (0 : Int)) then decide (IntKind.wrap
    IntKind.i64 (IntKind.wrap IntKind.i64 (x * (1000000000 : Int)) + x_1 * (10 : Int) ^ Int.toNat ((9 : Int) - x_3)) ≤ (1125899906842624 : Int)) else false then tmT (Int.toNat
    (IntKind.wrap IntKind.i64 (IntKind.wrap IntKind.i64 (x * (1000000000 : Int)) + x_1 * (10 : Int) ^ Int.toNat ((9 : Int) - x_3)))) == t else false)) V.nil)))))))) (Tree.given (rp
    t (0 : Int) (0 : Int) false (0 : Int) = none) (Tree.leaf (V.tup (V.cons (V.int false IntKind.i64 (0 : Int)) (V.cons (V.bool false false) V.nil))))))) := by kernel_rfl
end Go.Proofs.YtpeekgekmjldlaaDoor
namespace Go.Proofs.YtpeekgekmjldlaaDoor
open Go.Fw
set_option maxRecDepth 100000
set_option linter.unusedVariables false
theorem rz_bound {w r a : Int} (h : rIn w r a) : 0 ≤ r * 10 ^ (9 - a).toNat ∧ r * 10 ^ (9 - a).toNat < 1000000000 := by
  obtain ⟨_, ⟨ha0, ha1⟩, hr0, hr1⟩ := h
  have hp : (0 : Int) < 10 ^ (9 - a).toNat := Int.pow_pos (by decide)
  refine ⟨Int.mul_nonneg hr0 (Int.le_of_lt hp), ?_⟩
  have h1 := Int.mul_lt_mul_of_pos_right hr1 hp
  have e : (10 : Int) ^ a.toNat * 10 ^ (9 - a).toNat = 1000000000 := by
    rw [← Int.pow_add, show a.toNat + (9 - a).toNat = 9 by omega]
    decide
  rw [e] at h1
  exact h1
theorem rread_leaf (f : Nat → List UInt8) (t : List UInt8) (z : Int) : (bif bif decide (z ≥ (0 : Int)) then decide (z ≤ (1125899906842624 : Int)) else false then f (Int.toNat z) == t else false) = ((decide (0 ≤ z) && decide (z ≤ 1125899906842624)) && (f z.toNat == t)) := by
  have e : decide (z ≥ 0) = decide (0 ≤ z) := rfl
  rw [e]
  cases decide (0 ≤ z) <;> cases decide (z ≤ 1125899906842624) <;> rfl
theorem rread_hold_aux (t : List UInt8) : Tree.Hold P (evFn (en [c_rctext] [lpRp, lpRz]) 400 47 (.cons (.str false t) .nil)) fun r => r.soft.clean = true ∧ r.soft = (V.tup (.cons (.int false .i64 (rtV t)) (.cons (.bool false (rtB t)) .nil))).soft := by
  constructor
  rw [rparse2_tree]
  unfold rtV rtB
  generalize tmT = f
  refine ⟨fun h => ⟨rfl, ?_⟩, fun h => ?_⟩
  · have hl : t.length > 20 := by apply Classical.byContradiction; intro h'; rw [decide_eq_false (by omega)] at h; cases h
    rw [decide_eq_true hl]; rfl
  · have hl : ¬ t.length > 20 := fun h' => by rw [decide_eq_true (by omega)] at h; cases h
    rw [decide_eq_false hl]
    refine ⟨⟨⟨rfl, rfl, rfl, rfl, rfl, rfl, rfl⟩, rfl, by omega⟩, fun w r p a i c => ⟨fun _ => ?_, fun _ hrp => ⟨rfl, by rw [hrp]; rfl⟩⟩⟩
    rintro ⟨hrp, hin⟩
    rw [hrp]
    have hz := rz_bound hin
    generalize hzz : r * 10 ^ (9 - a).toNat = z0 at hz
    have hw := hin.1
    refine ⟨hin, fun hc => ⟨rfl, ?_⟩, fun hc => ?_⟩
    · have hgt : decide (w > 1125899) = true := by
        cases hd : decide (w > 1125899)
        · rw [hd] at hc; cases hc
        · rfl
      show _ = V.tup (.cons (.int false .i64 (rvF (some (w, r, p, a)))) (.cons (.bool false (rtF f t (some (w, r, p, a)))) .nil))
      unfold rvF rtF
      dsimp only
      rw [hgt]; rfl
    · have hgt : decide (w > 1125899) = false := by
        cases hd : decide (w > 1125899)
        · rfl
        · rw [hd] at hc; cases hc
      have hle : w ≤ 1125899 := by have := of_decide_eq_false hgt; omega
      have hwr : IntKind.wrap IntKind.i64 (IntKind.wrap IntKind.i64 (w * (1000000000 : Int)) + z0) = w * 1000000000 + z0 := by
        rw [IntWalk.i64_in (w * 1000000000) ⟨by omega, by omega⟩]
        exact IntWalk.i64_in _ ⟨by omega, by omega⟩
      rw [hwr]
      generalize hz2 : w * 1000000000 + z0 = z
      refine ⟨fun hb => ?_, rfl, ?_⟩
      · have : (0 : Int) ≤ z ∧ z ≤ 1125899906842624 := by
          cases h1 : decide (z ≥ 0)
          · rw [h1] at hb; cases hb
          · rw [h1] at hb
            exact ⟨of_decide_eq_true h1, of_decide_eq_true hb⟩
        exact this
      · rw [rread_leaf]
        show _ = V.tup (.cons (.int false .i64 (rvF (some (w, r, p, a)))) (.cons (.bool false (rtF f t (some (w, r, p, a)))) .nil))
        unfold rvF rtF
        dsimp only
        rw [hgt, hzz, hz2]
        have e : (bif bif decide (z ≥ (0 : Int)) then decide (z ≤ (1125899906842624 : Int)) else false then z else z) = z := by
          cases (bif decide (z ≥ (0 : Int)) then decide (z ≤ (1125899906842624 : Int)) else false) <;> rfl
        rw [e]; rfl
end Go.Proofs.YtpeekgekmjldlaaDoor
namespace Go.Proofs.YtpeekgekmjldlaaDoor
open Go.Fw
set_option maxRecDepth 100000
set_option linter.unusedVariables false
theorem rcparse_meets (t : List UInt8) : Meets P 47 (.cons (.str false t) .nil) (.tup (.cons (.int false .i64 (rtV t)) (.cons (.bool false (rtB t)) .nil))) :=
  meets_held (en_okl (l := [c_rctext]) ⟨c_rctext_ok, trivial⟩ (ls := [lpRp, lpRz]) ⟨lpRp_ok, lpRz_ok, trivial⟩) 400 (Has.of hn Tryd.func47 rfl) (rread_hold_aux t)
def c_rcparse : Con := { g := 47, ans := fun x => match x with
  | .cons (.str _ t) .nil => some (.sure (.tup (.cons (.int false .i64 (rtV t)) (.cons (.bool false (rtB t)) .nil))))
  | _ => none }
theorem c_rcparse_ok : c_rcparse.Ok P := by
  intro x
  dsimp only [c_rcparse]
  split
  · rename_i v h
    split at h
    · rename_i st t
      injection h with h; injection h with h; subst h
      exact Meets.of_soft (args := .cons (.str st t) .nil) (rcparse_meets t)
    · cases h
  · rename_i p v h
    split at h <;> cases h
  · trivial
theorem clk_wake : evFn (en []) 400 17 .nil = .leaf (.bool true true) := by kernel_rfl
theorem clk_wake_meets : Meets P 17 .nil (.bool true true) :=
  meets (E := en []) (en_ok (l := []) trivial) 400 (Has.of hn Tryd.func17 rfl) clk_wake ⟨rfl, rfl⟩
noncomputable def c_clk : Con := { g := 17, al := true, ans := fun x => match x with
  | .nil => some (.sure (.bool true true))
  | _ => none }
theorem c_clk_ok : c_clk.Ok P := by
  intro x
  dsimp only [c_clk]
  split
  · rename_i h
    split at h
    · injection h with h; injection h with h; subst h
      exact clk_wake_meets
    · cases h
  · rename_i h
    split at h <;> cases h
  · trivial
/-- Rows of times, and of texts. -/
abbrev rowI (g : Nat → Int) : Nat → V := fun j => .cons (.int false .i64 (g j)) .nil
abbrev rowZ (g : Nat → List UInt8) : Nat → V := fun a => .cons (.str false (g a)) .nil
abbrev kCa (n : Nat) (g : Nat → List UInt8) (m : Nat) (f : Nat → Int) (i : Int) : V :=
  .cons (.rsl false 1 n (rowZ g)) (.cons (.rsl false 1 m (rowI f)) (.cons (.int false .i64 m) (.cons (.int false .i64 i) .nil)))
abbrev kCb (n : Nat) (g : Nat → List UInt8) (i : Int) : V :=
  .cons (.rsl false 1 n (rowZ g)) (.cons (.int false .i64 n) (.cons (.int false .i64 i) .nil))
abbrev kCm (n : Nat) (g : Nat → List UInt8) (m : Nat) (f : Nat → Int) (i : Int) : V :=
  .cons (.rsl false 1 n (rowZ g)) (.cons (.mp 0) (.cons (.rsl false 1 m (rowI f)) (.cons (.int false .i64 m) (.cons (.int false .i64 i) .nil))))
def metI (mh : Value → Bool) (mv : Value → Int) : Blk := .mapV .str false fun k => (mh k, .int false .i64 (mv k))
end Go.Proofs.YtpeekgekmjldlaaDoor
