/- ClockTexts, the times: a round of the loop, as the evaluator has it. ClockTexts, the texts: a round of the loop, as the evaluator has it. ClockTexts: its loops, and what it answers. -/
import Derived.Test.YtpeekgekmjldlaaDoorTyC
namespace Go.Proofs.YtpeekgekmjldlaaDoor
open Go.Fw
set_option maxRecDepth 100000
set_option linter.unusedVariables false
theorem clA_body (B : Base) (n : Nat) (g : Nat → List UInt8) (m : Nat) (f : Nat → Int) (i : Int) : ((ev (en [c_ctext, c_rctext] []) 400 11 (loopAt P 11 4) B (canon 0 105 [1,18,19,20] [] (kCa n g m f i) .nil)).bind fun x => Tree.leaf (x.1, vw 0 105 [1,18,19,20] [] x.2)) =
    Tree.node (bif decide (i < (m : Int)) then false else true) (Tree.leaf (Ex.exit (0 : Nat), true, V.cons (V.rsl false (1 : Nat) n fun a => V.cons (V.str false (g a)) V.nil)
    (V.cons (V.rsl false (1 : Nat) m fun a => V.cons (V.int false IntKind.i64 (f a)) V.nil) (V.cons (V.int false IntKind.i64 (m : Int)) (V.cons (V.int false IntKind.i64 i)
    V.nil))), V.nil)) (Tree.need (((0 : Int) ≤ i ∧ i < (m : Int)) ∧ ((bif i == (30 : Int) then true else false) = false → (bif decide (f (Int.toNat i) ≥ (0 : Int)) then decide (f
    (Int.toNat i) ≤ (1125899906842624 : Int)) else false) = true → (ctE (f (Int.toNat i)) != (0 : Int)) = false → (0 : Int) ≤ f (Int.toNat i) ∧ f (Int.toNat i) ≤ (1125899906842624
    : Int))) (Tree.node (bif bif i == (30 : Int) then true else false then false else bif bif bif bif decide (f (Int.toNat i) ≥ (0 : Int)) then decide (f (Int.toNat i) ≤
    (1125899906842624 : Int)) else false then bif ctE (f (Int.toNat i)) != (0 : Int) then true else bif !ctS (f (Int.toNat i)) == tmT (Int.toNat (f (Int.toNat i))) then true else
    bif !bif decide (f (Int.toNat i) ≥ (0 : Int)) then decide (f (Int.toNat i) ≤ (1125899906842624 : Int)) else false then bif ctE (f (Int.toNat i)) != (120 : Int) then true else
    !ctS (f (Int.toNat i)) == [] else false else bif !bif decide (f (Int.toNat i) ≥ (0 : Int)) then decide (f (Int.toNat i) ≤ (1125899906842624 : Int)) else false then bif ctE (f
    (Int.toNat i)) != (120 : Int) then true else !ctS (f (Int.toNat i)) == [] else false then true else false then true else false) (Tree.leaf (Ex.ret, true, V.cons (V.rsl false (1
    : Nat) n fun a => V.cons (V.str false (g a)) V.nil) (V.cons (V.rsl false (1 : Nat) m fun a => V.cons (V.int false IntKind.i64 (f a)) V.nil) (V.cons (V.int false IntKind.i64 (m
    : Int)) (V.cons (V.int false IntKind.i64 i) V.nil))), V.nil)) (Tree.node (bif bif i == (30 : Int) then true else false then true else false) (Tree.leaf (Ex.exit (0 : Nat),
    true, V.cons (V.rsl false (1 : Nat) n fun a => V.cons (V.str false (g a)) V.nil) (V.cons (V.rsl false (1 : Nat) m fun a => V.cons (V.int false IntKind.i64 (f a)) V.nil) (V.cons
    (V.int false IntKind.i64 (m : Int)) (V.cons (V.int false IntKind.i64 i) V.nil))), V.nil)) (Tree.leaf (Ex.normal, true, V.cons (V.rsl false (1 : Nat) n fun a => V.cons (V.str
    false (g a)) V.nil) (V.cons (V.rsl false (1 : Nat) m fun a => V.cons (V.int false IntKind.i64 (f a)) V.nil) (V.cons (V.int false IntKind.i64 (m : Int)) (V.cons (V.int false
    IntKind.i64 (IntKind.wrap IntKind.i64 (i + (1 : Int)))) V.nil))), V.nil))))) := by kernel_rfl
end Go.Proofs.YtpeekgekmjldlaaDoor
namespace Go.Proofs.YtpeekgekmjldlaaDoor
open Go.Fw
set_option maxRecDepth 100000
set_option linter.unusedVariables false
theorem clB_body (B : Base) (n : Nat) (g : Nat → List UInt8) (i : Int) : ((ev (en [c_cparse, c_rcparse] []) 400 11 (loopAt P 11 13) B (canon 0 105 [58,59,60] [] (kCb n g i) .nil)).bind fun x => Tree.leaf (x.1, vw 0 105 [58,59,60] [] x.2)) =
    Tree.node (bif decide (i < (n : Int)) then false else true) (Tree.leaf (Ex.exit (2 : Nat), true, V.cons (V.rsl false (1 : Nat) n fun a => V.cons (V.str false (g a)) V.nil)
    (V.cons (V.int false IntKind.i64 (n : Int)) (V.cons (V.int false IntKind.i64 i) V.nil)), V.nil)) (Tree.need (((0 : Int) ≤ i ∧ i < (n : Int)) ∧ ((bif i == (30 : Int) then true
    else false) = false → (((0 : Int) ≤ if (60 : Int) < ((List.length (g (Int.toNat i)) : Nat) : Int) then (60 : Int) else ((List.length (g (Int.toNat i)) : Nat) : Int)) ∧ (if (60
    : Int) < ((List.length (g (Int.toNat i)) : Nat) : Int) then (60 : Int) else ((List.length (g (Int.toNat i)) : Nat) : Int)) ≤ ((List.length (g (Int.toNat i)) : Nat) : Int)) ∧
    List.length (List.take (Int.toNat (if (60 : Int) < ((List.length (g (Int.toNat i)) : Nat) : Int) then (60 : Int) else ((List.length (g (Int.toNat i)) : Nat) : Int)) - (0 :
    Nat)) (List.drop (0 : Nat) (g (Int.toNat i)))) ≤ (1000 : Nat))) (Tree.node (bif bif i == (30 : Int) then true else false then false else bif bif bif rtB (List.take (Int.toNat
    (if (60 : Int) < ((List.length (g (Int.toNat i)) : Nat) : Int) then (60 : Int) else ((List.length (g (Int.toNat i)) : Nat) : Int)) - (0 : Nat)) (List.drop (0 : Nat) (g
    (Int.toNat i)))) then bif cpE (List.take (Int.toNat (if (60 : Int) < ((List.length (g (Int.toNat i)) : Nat) : Int) then (60 : Int) else ((List.length (g (Int.toNat i)) : Nat) :
    Int)) - (0 : Nat)) (List.drop (0 : Nat) (g (Int.toNat i)))) != (0 : Int) then true else bif cpV (List.take (Int.toNat (if (60 : Int) < ((List.length (g (Int.toNat i)) : Nat) :
    Int) then (60 : Int) else ((List.length (g (Int.toNat i)) : Nat) : Int)) - (0 : Nat)) (List.drop (0 : Nat) (g (Int.toNat i)))) != rtV (List.take (Int.toNat (if (60 : Int) <
    ((List.length (g (Int.toNat i)) : Nat) : Int) then (60 : Int) else ((List.length (g (Int.toNat i)) : Nat) : Int)) - (0 : Nat)) (List.drop (0 : Nat) (g (Int.toNat i)))) then
    true else bif !rtB (List.take (Int.toNat (if (60 : Int) < ((List.length (g (Int.toNat i)) : Nat) : Int) then (60 : Int) else ((List.length (g (Int.toNat i)) : Nat) : Int)) - (0
    : Nat)) (List.drop (0 : Nat) (g (Int.toNat i)))) then bif cpE (List.take (Int.toNat (if (60 : Int) < ((List.length (g (Int.toNat i)) : Nat) : Int) then (60 : Int) else
    ((List.length (g (Int.toNat i)) : Nat) : Int)) - (0 : Nat)) (List.drop (0 : Nat) (g (Int.toNat i)))) != (2 : Int) then true else cpV (List.take (Int.toNat (if (60 : Int) <
    ((List.length (g (Int.toNat i)) : Nat) : Int) then (60 : Int) else ((List.length (g (Int.toNat i)) : Nat) : Int)) - (0 : Nat)) (List.drop (0 : Nat) (g (Int.toNat i)))) != (0 :
    Int) else false else bif !rtB (List.take (Int.toNat (if (60 : Int) < ((List.length (g (Int.toNat i)) : Nat) : Int) then (60 : Int) else ((List.length (g (Int.toNat i)) : Nat) :
    Int)) - (0 : Nat)) (List.drop (0 : Nat) (g (Int.toNat i)))) then bif cpE (List.take (Int.toNat (if (60 : Int) < ((List.length (g (Int.toNat i)) : Nat) : Int) then (60 : Int)
    else ((List.length (g (Int.toNat i)) : Nat) : Int)) - (0 : Nat)) (List.drop (0 : Nat) (g (Int.toNat i)))) != (2 : Int) then true else cpV (List.take (Int.toNat (if (60 : Int) <
    ((List.length (g (Int.toNat i)) : Nat) : Int) then (60 : Int) else ((List.length (g (Int.toNat i)) : Nat) : Int)) - (0 : Nat)) (List.drop (0 : Nat) (g (Int.toNat i)))) != (0 :
    Int) else false then true else false then true else false) (Tree.leaf (Ex.ret, true, V.cons (V.rsl false (1 : Nat) n fun a => V.cons (V.str false (g a)) V.nil) (V.cons (V.int
    false IntKind.i64 (n : Int)) (V.cons (V.int false IntKind.i64 i) V.nil)), V.nil)) (Tree.node (bif bif i == (30 : Int) then true else false then true else false) (Tree.leaf
    (Ex.exit (2 : Nat), true, V.cons (V.rsl false (1 : Nat) n fun a => V.cons (V.str false (g a)) V.nil) (V.cons (V.int false IntKind.i64 (n : Int)) (V.cons (V.int false
    IntKind.i64 i) V.nil)), V.nil)) (Tree.leaf (Ex.normal, true, V.cons (V.rsl false (1 : Nat) n fun a => V.cons (V.str false (g a)) V.nil) (V.cons (V.int false IntKind.i64 (n :
    Int)) (V.cons (V.int false IntKind.i64 (IntKind.wrap IntKind.i64 (i + (1 : Int)))) V.nil)), V.nil))))) := by kernel_rfl
end Go.Proofs.YtpeekgekmjldlaaDoor
namespace Go.Proofs.YtpeekgekmjldlaaDoor
open Go.Fw
set_option maxRecDepth 100000
set_option linter.unusedVariables false
theorem clAE_ok : (en [c_ctext, c_rctext] []).Ok := en_okl (l := [c_ctext, c_rctext]) ⟨c_ctext_ok, c_rctext_ok, trivial⟩ (ls := []) trivial
theorem clBE_ok : (en [c_cparse, c_rcparse] []).Ok := en_okl (l := [c_cparse, c_rcparse]) ⟨c_cparse_ok, c_rcparse_ok, trivial⟩ (ls := []) trivial
noncomputable def clAG (n : Nat) (g : Nat → List UInt8) (m : Nat) (f : Nat → Int) : Lp := ⟨11, 4, fun _ s => match vw 0 105 [1,18,19,20] [] s with
  | (true, .cons (.rsl _ 1 n' g') (.cons (.rsl _ 1 m' f') (.cons (.int _ .i64 m2) (.cons (.int _ .i64 i0) .nil))), .nil) =>
    bif Nat.beq s.n 0 then .need ((n' = n ∧ g' = rowZ g) ∧ (m' = m ∧ f' = rowI f) ∧ m2 = m ∧ i0 = 0) (.all Int fun i => .leaf (.exit 0, canon 0 105 [1,18,19,20] [] (kCa n g m f i) .nil)) else .stuck
  | _ => .stuck⟩
noncomputable def clBG (n : Nat) (g : Nat → List UInt8) : Lp := ⟨11, 13, fun _ s => match vw 0 105 [58,59,60] [] s with
  | (true, .cons (.rsl _ 1 n' g') (.cons (.int _ .i64 n2) (.cons (.int _ .i64 i0) .nil)), .nil) =>
    bif Nat.beq s.n 0 then .need ((n' = n ∧ g' = rowZ g) ∧ n2 = n ∧ i0 = 0) (.all Int fun i => .leaf (.exit 2, canon 0 105 [58,59,60] [] (kCb n g i) .nil)) else .stuck
  | _ => .stuck⟩
theorem right_b (a : Int) : (bif decide (a ≥ (0 : Int)) then decide (a ≤ (1125899906842624 : Int)) else false) = decide (0 ≤ a ∧ a ≤ 1125899906842624) := by
  by_cases h0 : 0 ≤ a
  · by_cases h1 : a ≤ 1125899906842624
    · rw [decide_eq_true (by omega : a ≥ 0), decide_eq_true h1, decide_eq_true ⟨h0, h1⟩]; rfl
    · rw [decide_eq_true (by omega : a ≥ 0), decide_eq_false h1, decide_eq_false (by omega : ¬ (0 ≤ a ∧ a ≤ 1125899906842624))]; rfl
  · rw [decide_eq_false (by omega : ¬ a ≥ 0), decide_eq_false (by omega : ¬ (0 ≤ a ∧ a ≤ 1125899906842624))]; rfl
theorem clA_good (f : Nat → List UInt8) (a : Int) (R : Bool) (e : Int) (s : List UInt8) (he : e = bif R then 0 else 120) (hs : s = bif R then f a.toNat else []) :
    (bif bif bif R then bif e != (0 : Int) then true else bif !s == f (Int.toNat a) then true else bif !R then bif e != (120 : Int) then true else !s == [] else false else bif !R then bif e != (120 : Int) then true else !s == [] else false then true else false then true else false) = false := by
  subst he; subst hs
  cases R
  · rfl
  · have h : (f a.toNat == f (Int.toNat a)) = true := beq_self_eq_true _
    simp only [cond_true]
    rw [h]; rfl
theorem clB_good (R : Bool) (v w e : Int) (he : e = bif R then 0 else 2) (hv : v = bif R then w else 0) :
    (bif bif bif R then bif e != (0 : Int) then true else bif v != w then true else bif !R then bif e != (2 : Int) then true else v != (0 : Int) else false else bif !R then bif e != (2 : Int) then true else v != (0 : Int) else false then true else false then true else false) = false := by
  subst he; subst hv
  cases R
  · rfl
  · have h : (w != w) = false := by simp
    simp only [cond_true]
    rw [h]; rfl
theorem clAG_ok (n : Nat) (g : Nat → List UInt8) (m : Nat) (f : Nat → Int) : (clAG n g m f).Ok P := by
  refine lp_ok (by kernel_rfl) fun hin B s Q hq => ?_
  simp only [clAG] at hq hin ⊢
  split at hq
  · rename_i q0 n' g' q1 m' f' q2 m2 q3 i0 heq
    cases hn : Nat.beq s.n 0
    · rw [hn] at hq; exact hq.elim
    · rw [hn] at hq
      obtain ⟨⟨⟨rfl, rfl⟩, ⟨rfl, rfl⟩, rfl, rfl⟩, hq⟩ := hq
      have hsame : Same 0 105 [1,18,19,20] [] s (kCa n' g m' f 0) .nil := by
        refine ⟨by rw [heq], by rw [heq]; rfl, by rw [heq]⟩
      refine loop_view (k := 400) (f := 11) clAE_ok hin (fun i : Int => kCa n' g m' f i) (fun _ => .nil) (fun j => 0 ≤ j ∧ j ≤ 30) (fun j => (30 - j).toNat) Q (fun i => clA_body B n' g m' f i) ?_ (Nat.eq_of_beq_eq_true hn) (i0 := 0) ⟨by omega, by omega⟩ hsame
      intro j hj
      refine ⟨fun _ => ⟨rfl, _, _, rfl, rfl, hq j⟩, fun hx => ?_⟩
      have hlt : j < m' := by apply Classical.byContradiction; intro h; simp [h] at hx
      generalize f (Int.toNat j) = a
      have hgood := clA_good tmT a (decide (0 ≤ a ∧ a ≤ 1125899906842624)) (ctE a) (ctS a) rfl rfl
      rw [right_b]
      generalize ctS a = s1 at hgood
      generalize ctE a = e1 at hgood
      generalize tmT = F at hgood
      refine ⟨⟨⟨hj.1, hlt⟩, fun _ hr _ => of_decide_eq_true hr⟩, fun hc => ?_, fun _ => ⟨fun _ => ⟨rfl, _, _, rfl, rfl, hq j⟩, fun h20 => ?_⟩⟩
      · exfalso
        cases h20 : (bif j == (30 : Int) then true else false)
        · rw [h20] at hc
          exact absurd (hgood.symm.trans hc) (by decide)
        · rw [h20] at hc; cases hc
      · have h20' : j ≠ 30 := fun h => by subst h; simp at h20
        rw [IntWalk.i64_in (j + 1) ⟨by omega, by omega⟩]
        exact ⟨rfl, j + 1, ⟨by omega, by omega⟩, by omega, rfl, rfl⟩
  · exact hq.elim
theorem clBG_ok (n : Nat) (g : Nat → List UInt8) : (clBG n g).Ok P := by
  refine lp_ok (by kernel_rfl) fun hin B s Q hq => ?_
  simp only [clBG] at hq hin ⊢
  split at hq
  · rename_i q0 n' g' q2 n2 q3 i0 heq
    cases hn : Nat.beq s.n 0
    · rw [hn] at hq; exact hq.elim
    · rw [hn] at hq
      obtain ⟨⟨⟨rfl, rfl⟩, rfl, rfl⟩, hq⟩ := hq
      have hsame : Same 0 105 [58,59,60] [] s (kCb n' g 0) .nil := by
        refine ⟨by rw [heq], by rw [heq]; rfl, by rw [heq]⟩
      refine loop_view (k := 400) (f := 11) clBE_ok hin (fun i : Int => kCb n' g i) (fun _ => .nil) (fun j => 0 ≤ j ∧ j ≤ 30) (fun j => (30 - j).toNat) Q (fun i => clB_body B n' g i) ?_ (Nat.eq_of_beq_eq_true hn) (i0 := 0) ⟨by omega, by omega⟩ hsame
      intro j hj
      refine ⟨fun _ => ⟨rfl, _, _, rfl, rfl, hq j⟩, fun hx => ?_⟩
      have hlt : j < n' := by apply Classical.byContradiction; intro h; simp [h] at hx
      generalize g (Int.toNat j) = t
      have hlen : (if (60 : Int) < ((List.length t : Nat) : Int) then (60 : Int) else ((List.length t : Nat) : Int)) ≤ 60 ∧ 0 ≤ (if (60 : Int) < ((List.length t : Nat) : Int) then (60 : Int) else ((List.length t : Nat) : Int)) ∧ (if (60 : Int) < ((List.length t : Nat) : Int) then (60 : Int) else ((List.length t : Nat) : Int)) ≤ (List.length t : Nat) := by
        split <;> omega
      generalize (if (60 : Int) < ((List.length t : Nat) : Int) then (60 : Int) else ((List.length t : Nat) : Int)) = e at hlen
      have hr : (List.take (Int.toNat e - 0) (List.drop 0 t)).length ≤ 1000 := by rw [List.length_take]; omega
      generalize List.take (Int.toNat e - 0) (List.drop 0 t) = r at hr
      have hgood := clB_good (rtB r) (cpV r) (rtV r) (cpE r) rfl rfl
      generalize cpV r = v1 at hgood
      generalize cpE r = e1 at hgood
      generalize rtB r = b1 at hgood
      generalize rtV r = w1 at hgood
      refine ⟨⟨⟨hj.1, hlt⟩, fun _ => ⟨⟨hlen.2.1, hlen.2.2⟩, hr⟩⟩, fun hc => ?_, fun _ => ⟨fun _ => ⟨rfl, _, _, rfl, rfl, hq j⟩, fun h20 => ?_⟩⟩
      · exfalso
        cases h20 : (bif j == (30 : Int) then true else false)
        · rw [h20] at hc
          exact absurd (hgood.symm.trans hc) (by decide)
        · rw [h20] at hc; cases hc
      · have h20' : j ≠ 30 := fun h => by subst h; simp at h20
        rw [IntWalk.i64_in (j + 1) ⟨by omega, by omega⟩]
        exact ⟨rfl, j + 1, ⟨by omega, by omega⟩, by omega, rfl, rfl⟩
  · exact hq.elim
theorem ctexts_tree (m : Nat) (f : Nat → Int) (n : Nat) (g : Nat → List UInt8) : evFn (en [c_clk] [clAG n g m f, clBG n g]) 400 11 (.cons (.rsl false 1 m (rowI f)) (.cons (.rsl false 1 n (rowZ g)) .nil)) =
    Tree.need ((n = n ∧ rowZ g = rowZ g) ∧ (m = m ∧ rowI f = rowI f) ∧ (m : Int) = (m : Int) ∧ (0 : Int) = (0 : Int)) (Tree.all Int fun _ => Tree.need ((n = n ∧ rowZ g = rowZ g) ∧ (n : Int) = (n : Int) ∧ (0 : Int) = (0 : Int)) (Tree.all Int fun _ => Tree.leaf (V.bool true true))) := by kernel_rfl
theorem ctexts_holds (m : Nat) (f : Nat → Int) (n : Nat) (g : Nat → List UInt8) : Tree.Hold P (evFn (en [c_clk] [clAG n g m f, clBG n g]) 400 11 (.cons (.rsl false 1 m (rowI f)) (.cons (.rsl false 1 n (rowZ g)) .nil))) fun r => r.soft = .bool false true := by
  constructor
  rw [ctexts_tree]
  exact ⟨⟨⟨rfl, rfl⟩, ⟨rfl, rfl⟩, rfl, rfl⟩, fun _ => ⟨⟨⟨rfl, rfl⟩, rfl, rfl⟩, fun _ => rfl⟩⟩
theorem ctexts_meets (m : Nat) (f : Nat → Int) (n : Nat) (g : Nat → List UInt8) : Meets P 11 (.cons (.rsl false 1 m (rowI f)) (.cons (.rsl false 1 n (rowZ g)) .nil)) (.bool false true) :=
  meets_true (en_okl (l := [c_clk]) ⟨c_clk_ok, trivial⟩ (ls := [clAG n g m f, clBG n g]) ⟨clAG_ok n g m f, clBG_ok n g, trivial⟩) 400 (Has.of hn Tryd.func11 rfl) (ctexts_holds m f n g)
end Go.Proofs.YtpeekgekmjldlaaDoor
