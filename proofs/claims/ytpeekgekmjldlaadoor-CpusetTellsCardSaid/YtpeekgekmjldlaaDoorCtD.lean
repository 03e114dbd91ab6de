/- CpusetTells, within the numbers: a round of the loop, as the evaluator has it. CpusetTells: its inner loop. CpusetTells, within the sets: a round of the loop, as the evaluator has it. CpusetTells: its outer loop, and what it answers. -/
import Derived.Test.YtpeekgekmjldlaaDoorCcP
namespace Go.Proofs.YtpeekgekmjldlaaDoor
open Go.Fw
set_option maxRecDepth 100000
set_option linter.unusedVariables false
theorem tells_body (B : Base) (m : Nat) (f : Nat → Int) (n : Nat) (g : Nat → Int) (i a j : Int) : ((ev (en [c_next, c_rnext, c_uHas, c_vHas] []) 400 14 (loopAt P 14 14) B (canon 0 122 [0,1,6,17,18,19,82,83,84] [] (kIt m f n g i a j) .nil)).bind fun x => Tree.leaf (x.1, vw 0 122 [0,1,6,17,18,19,82,83,84] [] x.2)) =
    Tree.node (bif decide (j < (n : Int)) then false else true) (Tree.leaf (Ex.exit (2 : Nat), true, V.cons (V.rsl false (1 : Nat) m fun a => V.cons (V.int false IntKind.u32 (f a))
    V.nil) (V.cons (V.rsl false (1 : Nat) n fun a => V.cons (V.int false IntKind.i64 (g a)) V.nil) (V.cons (V.int false IntKind.u32 a) (V.cons (V.rsl false (1 : Nat) m fun a =>
    V.cons (V.int false IntKind.u32 (f a)) V.nil) (V.cons (V.int false IntKind.i64 (m : Int)) (V.cons (V.int false IntKind.i64 i) (V.cons (V.rsl false (1 : Nat) n fun a => V.cons
    (V.int false IntKind.i64 (g a)) V.nil) (V.cons (V.int false IntKind.i64 (n : Int)) (V.cons (V.int false IntKind.i64 j) V.nil)))))))), V.nil)) (Tree.need (((0 : Int) ≤ j ∧ j <
    (n : Int)) ∧ ((bif j == (12 : Int) then true else false) = false → (0 : Int) ≤ a ∧ a < (4294967296 : Int))) (Tree.node (bif bif j == (12 : Int) then true else false then false
    else bif bif bif !uHas_0 a (g (Int.toNat j)) == vHas_0 a (g (Int.toNat j)) then true else bif nxI (lst (lowN a)) (g (Int.toNat j)) != nxI (lst (lowN a)) (g (Int.toNat j)) then
    true else !nxB (lst (lowN a)) (g (Int.toNat j)) == nxB (lst (lowN a)) (g (Int.toNat j)) then true else false then true else false) (Tree.leaf (Ex.ret, true, V.cons (V.rsl false
    (1 : Nat) m fun a => V.cons (V.int false IntKind.u32 (f a)) V.nil) (V.cons (V.rsl false (1 : Nat) n fun a => V.cons (V.int false IntKind.i64 (g a)) V.nil) (V.cons (V.int false
    IntKind.u32 a) (V.cons (V.rsl false (1 : Nat) m fun a => V.cons (V.int false IntKind.u32 (f a)) V.nil) (V.cons (V.int false IntKind.i64 (m : Int)) (V.cons (V.int false
    IntKind.i64 i) (V.cons (V.rsl false (1 : Nat) n fun a => V.cons (V.int false IntKind.i64 (g a)) V.nil) (V.cons (V.int false IntKind.i64 (n : Int)) (V.cons (V.int false
    IntKind.i64 j) V.nil)))))))), V.nil)) (Tree.node (bif bif j == (12 : Int) then true else false then true else false) (Tree.leaf (Ex.exit (2 : Nat), true, V.cons (V.rsl false (1
    : Nat) m fun a => V.cons (V.int false IntKind.u32 (f a)) V.nil) (V.cons (V.rsl false (1 : Nat) n fun a => V.cons (V.int false IntKind.i64 (g a)) V.nil) (V.cons (V.int false
    IntKind.u32 a) (V.cons (V.rsl false (1 : Nat) m fun a => V.cons (V.int false IntKind.u32 (f a)) V.nil) (V.cons (V.int false IntKind.i64 (m : Int)) (V.cons (V.int false
    IntKind.i64 i) (V.cons (V.rsl false (1 : Nat) n fun a => V.cons (V.int false IntKind.i64 (g a)) V.nil) (V.cons (V.int false IntKind.i64 (n : Int)) (V.cons (V.int false
    IntKind.i64 j) V.nil)))))))), V.nil)) (Tree.leaf (Ex.normal, true, V.cons (V.rsl false (1 : Nat) m fun a => V.cons (V.int false IntKind.u32 (f a)) V.nil) (V.cons (V.rsl false
    (1 : Nat) n fun a => V.cons (V.int false IntKind.i64 (g a)) V.nil) (V.cons (V.int false IntKind.u32 a) (V.cons (V.rsl false (1 : Nat) m fun a => V.cons (V.int false IntKind.u32
    (f a)) V.nil) (V.cons (V.int false IntKind.i64 (m : Int)) (V.cons (V.int false IntKind.i64 i) (V.cons (V.rsl false (1 : Nat) n fun a => V.cons (V.int false IntKind.i64 (g a))
    V.nil) (V.cons (V.int false IntKind.i64 (n : Int)) (V.cons (V.int false IntKind.i64 (IntKind.wrap IntKind.i64 (j + (1 : Int)))) V.nil)))))))), V.nil))))) := by kernel_rfl
end Go.Proofs.YtpeekgekmjldlaaDoor
namespace Go.Proofs.YtpeekgekmjldlaaDoor
open Go.Fw
set_option maxRecDepth 100000

theorem tellsE_ok : (en [c_next, c_rnext, c_uHas, c_vHas]).Ok := en_ok (l := [c_next, c_rnext, c_uHas, c_vHas]) ⟨c_next_ok, c_rnext_ok, c_uHas_ok, c_vHas_ok, trivial⟩
noncomputable def tellsG (m : Nat) (f : Nat → Int) (n : Nat) (g : Nat → Int) : Lp := ⟨14, 14, fun _ s => match vw 0 122 [0,1,6,17,18,19,82,83,84] [] s with
  | (true, .cons (.rsl _ 1 m1 f1) (.cons (.rsl _ 1 n1 g1) (.cons (.int _ .u32 a) (.cons (.rsl _ 1 m2 f2) (.cons (.int _ .i64 m3) (.cons (.int _ .i64 i) (.cons (.rsl _ 1 n2 g2) (.cons (.int _ .i64 n3) (.cons (.int _ .i64 j0) .nil)))))))), .nil) =>
    bif Nat.beq s.n 0 then .need (((m1 = m ∧ f1 = rowS f) ∧ (n1 = n ∧ g1 = rowN g)) ∧ ((m2 = m ∧ f2 = rowS f) ∧ m3 = m) ∧ ((n2 = n ∧ g2 = rowN g) ∧ n3 = n ∧ j0 = 0) ∧ 0 ≤ a ∧ a < 4294967296) (.all Int fun j => .leaf (.exit 2, canon 0 122 [0,1,6,17,18,19,82,83,84] [] (kIt m f n g i a j) .nil)) else .stuck
  | _ => .stuck⟩
theorem tellsG_ok (m : Nat) (f : Nat → Int) (n : Nat) (g : Nat → Int) : (tellsG m f n g).Ok P := by
  refine lp_ok (by kernel_rfl) fun hin B s Q hq => ?_
  simp only [tellsG] at hq hin ⊢
  split at hq
  · rename_i q0 m1 f1 q1 n1 g1 q2 a q3 m2 f2 q4 m3 q5 i q6 n2 g2 q7 n3 q8 j0 heq
    cases hn : Nat.beq s.n 0
    · rw [hn] at hq; exact hq.elim
    · rw [hn] at hq
      obtain ⟨⟨⟨⟨rfl, rfl⟩, ⟨rfl, rfl⟩⟩, ⟨⟨rfl, rfl⟩, rfl⟩, ⟨⟨rfl, rfl⟩, rfl, rfl⟩, ha0, ha1⟩, hq⟩ := hq
      have hsame : Same 0 122 [0,1,6,17,18,19,82,83,84] [] s (kIt m2 f n2 g i a 0) .nil := by
        refine ⟨by rw [heq], by rw [heq]; rfl, by rw [heq]⟩
      refine loop_view (k := 400) (f := 14) tellsE_ok hin (fun j : Int => kIt m2 f n2 g i a j) (fun _ => .nil) (fun j => 0 ≤ j ∧ j ≤ 12) (fun j => (12 - j).toNat) Q (fun j => tells_body B m2 f n2 g i a j) ?_ (Nat.eq_of_beq_eq_true hn) (i0 := 0) ⟨by omega, by omega⟩ hsame
      intro j hj
      have hhas := has_eq (b := g (Int.toNat j)) ha0 ha1
      refine ⟨fun _ => ⟨rfl, _, _, rfl, rfl, hq j⟩, fun hx => ⟨⟨⟨hj.1, ?_⟩, fun _ => ⟨ha0, ha1⟩⟩, fun hc => ?_, fun _ => ⟨fun _ => ⟨rfl, _, _, rfl, rfl, hq j⟩, fun h12 => ?_⟩⟩⟩
      · apply Classical.byContradiction; intro h; simp [h] at hx
      · exfalso
        rw [hhas] at hc
        generalize vHas_0 a (g (Int.toNat j)) = x1 at hc
        generalize nxI (lst (lowN a)) (g (Int.toNat j)) = x2 at hc
        generalize nxB (lst (lowN a)) (g (Int.toNat j)) = x3 at hc
        have e2 : (x2 != x2) = false := by simp
        cases h12 : (bif j == (12 : Int) then true else false)
        · rw [h12, e2] at hc
          cases x1 <;> cases x3 <;> cases hc
        · rw [h12] at hc; cases hc
      · have h12' : j ≠ 12 := fun h => by subst h; simp at h12
        rw [IntWalk.i64_in (j + 1) ⟨by omega, by omega⟩]
        exact ⟨rfl, j + 1, ⟨by omega, by omega⟩, by omega, rfl, rfl⟩
  · exact hq.elim
end Go.Proofs.YtpeekgekmjldlaaDoor
namespace Go.Proofs.YtpeekgekmjldlaaDoor
open Go.Fw
set_option maxRecDepth 100000
set_option linter.unusedVariables false
theorem tellsO_body (B: Base) (m : Nat) (f : Nat → Int) (n : Nat) (g : Nat → Int) (i : Int) : ((ev (en [c_vRight, c_uCheck, c_list, c_rlist, c_same, c_uCount, c_uWithin, c_rwithin] [tellsG m f
    n g]) 400 14 (loopAt P 14 4) B (canon 0 122 [0,1,17,18,19] [] (kOt m f n g i) .nil)).bind fun x => Tree.leaf (x.1, vw 0 122 [0,1,17,18,19] [] x.2)) = Tree.node (bif
    decide (i < (m : Int)) then false else true) (Tree.leaf (Ex.exit (0 : Nat), true, V.cons (V.rsl false (1 : Nat) m fun a => V.cons (V.int false IntKind.u32 (f a))
    V.nil) (V.cons (V.rsl false (1 : Nat) n fun a => V.cons (V.int false IntKind.i64 (g a)) V.nil) (V.cons (V.rsl false (1 : Nat) m fun a => V.cons (V.int false
    IntKind.u32 (f a)) V.nil) (V.cons (V.int false IntKind.i64 (m : Int)) (V.cons (V.int false IntKind.i64 i) V.nil)))), V.nil)) (Tree.need ((0 : Int) ≤ i ∧ i < (m :
    Int)) (Tree.node (bif i == (20 : Int) then true else false) (Tree.leaf (Ex.exit (0 : Nat), true, V.cons (V.rsl false (1 : Nat) m fun a => V.cons (V.int false
    IntKind.u32 (f a)) V.nil) (V.cons (V.rsl false (1 : Nat) n fun a => V.cons (V.int false IntKind.i64 (g a)) V.nil) (V.cons (V.rsl false (1 : Nat) m fun a => V.cons
    (V.int false IntKind.u32 (f a)) V.nil) (V.cons (V.int false IntKind.i64 (m : Int)) (V.cons (V.int false IntKind.i64 i) V.nil)))), V.nil)) (Tree.node (bif bif
    !(uCheck_0 (f (Int.toNat i)) == (0 : Int)) == vRight_0 (f (Int.toNat i)) then true else bif !vRight_0 (f (Int.toNat i)) then uCheck_0 (f (Int.toNat i)) != (140 : Int)
    else false then true else false) (Tree.leaf (Ex.ret, true, V.cons (V.rsl false (1 : Nat) m fun a => V.cons (V.int false IntKind.u32 (f a)) V.nil) (V.cons (V.rsl false
    (1 : Nat) n fun a => V.cons (V.int false IntKind.i64 (g a)) V.nil) (V.cons (V.rsl false (1 : Nat) m fun a => V.cons (V.int false IntKind.u32 (f a)) V.nil) (V.cons
    (V.int false IntKind.i64 (m : Int)) (V.cons (V.int false IntKind.i64 i) V.nil)))), V.nil)) (Tree.need ((0 : Int) ≤ f (Int.toNat i) ∧ f (Int.toNat i) < (4294967296 :
    Int)) (Tree.need ((∃ h : Nat → Int, (fun j => V.cons (V.int false IntKind.i64 (List.getD (lst (lowN (f (Int.toNat i)))) j (0 : Int))) V.nil) = rowN h ∧ (fun j =>
    V.cons (V.int false IntKind.i64 (List.getD (lst (lowN (f (Int.toNat i)))) j (0 : Int))) V.nil) = rowN h) ∧ List.length (lst (lowN (f (Int.toNat i)))) = List.length
    (lst (lowN (f (Int.toNat i)))) ∧ ((List.length (lst (lowN (f (Int.toNat i)))) : Nat) : Int) < (4611686018427387904 : Int)) (Tree.node false (Tree.leaf (Ex.ret, true,
    V.cons (V.rsl false (1 : Nat) m fun a => V.cons (V.int false IntKind.u32 (f a)) V.nil) (V.cons (V.rsl false (1 : Nat) n fun a => V.cons (V.int false IntKind.i64 (g
    a)) V.nil) (V.cons (V.rsl false (1 : Nat) m fun a => V.cons (V.int false IntKind.u32 (f a)) V.nil) (V.cons (V.int false IntKind.i64 (m : Int)) (V.cons (V.int false
    IntKind.i64 i) V.nil)))), V.nil)) (Tree.need ((0 : Int) ≤ f (Int.toNat i) ∧ f (Int.toNat i) < (4294967296 : Int)) (Tree.node (uCount_0 (f (Int.toNat i)) !=
    ((List.length (lst (lowN (f (Int.toNat i)))) : Nat) : Int)) (Tree.leaf (Ex.ret, true, V.cons (V.rsl false (1 : Nat) m fun a => V.cons (V.int false IntKind.u32 (f a))
    V.nil) (V.cons (V.rsl false (1 : Nat) n fun a => V.cons (V.int false IntKind.i64 (g a)) V.nil) (V.cons (V.rsl false (1 : Nat) m fun a => V.cons (V.int false
    IntKind.u32 (f a)) V.nil) (V.cons (V.int false IntKind.i64 (m : Int)) (V.cons (V.int false IntKind.i64 i) V.nil)))), V.nil)) (Tree.need ((0 : Int) ≤ (0 : Int) ∧ (0 :
    Int) < (m : Int)) (Tree.need ((0 : Int) ≤ (0 : Int) ∧ (0 : Int) < (m : Int)) (Tree.need ((0 : Int) ≤ f (Int.toNat i) ∧ f (Int.toNat i) < (4294967296 : Int))
    (Tree.node (!uWithin_0 (f (Int.toNat i)) (f (Int.toNat (0 : Int))) == wtB (lst (lowN (f (Int.toNat i)))) (f (Int.toNat (0 : Int)))) (Tree.leaf (Ex.ret, true, V.cons
    (V.rsl false (1 : Nat) m fun a => V.cons (V.int false IntKind.u32 (f a)) V.nil) (V.cons (V.rsl false (1 : Nat) n fun a => V.cons (V.int false IntKind.i64 (g a))
    V.nil) (V.cons (V.rsl false (1 : Nat) m fun a => V.cons (V.int false IntKind.u32 (f a)) V.nil) (V.cons (V.int false IntKind.i64 (m : Int)) (V.cons (V.int false
    IntKind.i64 i) V.nil)))), V.nil)) (Tree.need ((0 : Int) ≤ (0 : Int) ∧ (0 : Int) < (m : Int)) (Tree.need ((0 : Int) ≤ (0 : Int) ∧ (0 : Int) < (m : Int)) (Tree.need ((0
    : Int) ≤ f (Int.toNat (0 : Int)) ∧ f (Int.toNat (0 : Int)) < (4294967296 : Int)) (Tree.node (bif !uWithin_0 (f (Int.toNat (0 : Int))) (f (Int.toNat i)) == wtB (lst
    (lowN (f (Int.toNat (0 : Int))))) (f (Int.toNat i)) then true else false) (Tree.leaf (Ex.ret, true, V.cons (V.rsl false (1 : Nat) m fun a => V.cons (V.int false
    IntKind.u32 (f a)) V.nil) (V.cons (V.rsl false (1 : Nat) n fun a => V.cons (V.int false IntKind.i64 (g a)) V.nil) (V.cons (V.rsl false (1 : Nat) m fun a => V.cons
    (V.int false IntKind.u32 (f a)) V.nil) (V.cons (V.int false IntKind.i64 (m : Int)) (V.cons (V.int false IntKind.i64 i) V.nil)))), V.nil)) (Tree.need (((m = m ∧ rowS f
    = rowS f) ∧ n = n ∧ rowN g = rowN g) ∧ ((m = m ∧ rowS f = rowS f) ∧ (m : Int) = (m : Int)) ∧ ((n = n ∧ rowN g = rowN g) ∧ (n : Int) = (n : Int) ∧ (0 : Int) = (0 :
    Int)) ∧ (0 : Int) ≤ f (Int.toNat i) ∧ f (Int.toNat i) < (4294967296 : Int)) (Tree.all Int fun x => Tree.leaf (Ex.normal, true, V.cons (V.rsl false (1 : Nat) m fun a
    => V.cons (V.int false IntKind.u32 (f a)) V.nil) (V.cons (V.rsl false (1 : Nat) n fun a => V.cons (V.int false IntKind.i64 (g a)) V.nil) (V.cons (V.rsl false (1 :
    Nat) m fun a => V.cons (V.int false IntKind.u32 (f a)) V.nil) (V.cons (V.int false IntKind.i64 (m : Int)) (V.cons (V.int false IntKind.i64 (IntKind.wrap IntKind.i64
    (i + (1 : Int)))) V.nil)))), V.nil))))))))))))))))))) := by kernel_rfl
end Go.Proofs.YtpeekgekmjldlaaDoor
namespace Go.Proofs.YtpeekgekmjldlaaDoor
open Go.Fw
set_option maxRecDepth 100000

theorem lst_short (c : Nat) : (lst c).length ≤ 8 := by
  unfold lst
  rw [List.length_map]
  exact Nat.le_trans (List.length_filter_le _ _) (by simp)
theorem tellsOE_ok (m : Nat) (f : Nat → Int) (n : Nat) (g : Nat → Int) : (en [c_vRight, c_uCheck, c_list, c_rlist, c_same, c_uCount, c_uWithin, c_rwithin] [tellsG m f n g]).Ok :=
  en_okl (l := [c_vRight, c_uCheck, c_list, c_rlist, c_same, c_uCount, c_uWithin, c_rwithin]) ⟨c_vRight_ok, c_uCheck_ok, c_list_ok, c_rlist_ok, c_same_ok, c_uCount_ok, c_uWithin_ok, c_rwithin_ok, trivial⟩ (ls := [tellsG m f n g]) ⟨tellsG_ok m f n g, trivial⟩
noncomputable def tellsOG (m : Nat) (f : Nat → Int) (n : Nat) (g : Nat → Int) : Lp := ⟨14, 4, fun _ s => match vw 0 122 [0,1,17,18,19] [] s with
  | (true, .cons (.rsl _ 1 m1 f1) (.cons (.rsl _ 1 n' g') (.cons (.rsl _ 1 m' f') (.cons (.int _ .i64 m2) (.cons (.int _ .i64 i0) .nil)))), .nil) =>
    bif Nat.beq s.n 0 then .need (((m1 = m ∧ f1 = rowS f) ∧ (n' = n ∧ g' = rowN g) ∧ (m' = m ∧ f' = rowS f) ∧ m2 = m) ∧ i0 = 0) (.all Int fun i => .leaf (.exit 0, canon 0 122 [0,1,17,18,19] [] (kOt m f n g i) .nil)) else .stuck
  | _ => .stuck⟩
theorem tells_plain {a : Int} (h0 : 0 ≤ a) (h1 : a < 4294967296) : (bif bif !(uCheck_0 a == (0 : Int)) == vRight_0 a then true else bif !vRight_0 a then uCheck_0 a != (140 : Int) else false then true else false) = false := by
  rw [right_eq, uCheck_0_pe]
  by_cases h : a < 256
  · rw [check_small h0 h, decide_eq_true h]; rfl
  · rw [check_big (by omega) h1, decide_eq_false h]; rfl
theorem tellsOG_ok (m : Nat) (f : Nat → Int) (n : Nat) (g : Nat → Int) (hf : ∀ j, j < m → 0 ≤ f j ∧ f j < 4294967296) : (tellsOG m f n g).Ok P := by
  refine lp_ok (by kernel_rfl) fun hin B s Q hq => ?_
  simp only [tellsOG] at hq hin ⊢
  split at hq
  · rename_i q0 m1 f1 q1 n' g' q2 m' f' q3 m2 q4 i0 heq
    cases hn : Nat.beq s.n 0
    · rw [hn] at hq; exact hq.elim
    · rw [hn] at hq
      obtain ⟨⟨⟨⟨rfl, rfl⟩, ⟨rfl, rfl⟩, ⟨rfl, rfl⟩, rfl⟩, rfl⟩, hq⟩ := hq
      have hsame : Same 0 122 [0,1,17,18,19] [] s (kOt m' f n' g 0) .nil := by
        refine ⟨by rw [heq], by rw [heq]; rfl, by rw [heq]⟩
      refine loop_view (k := 400) (f := 14) (tellsOE_ok m' f n' g) hin (fun i : Int => kOt m' f n' g i) (fun _ => .nil) (fun j => 0 ≤ j ∧ j ≤ 20) (fun j => (20 - j).toNat) Q (fun i => tellsO_body B m' f n' g i) ?_ (Nat.eq_of_beq_eq_true hn) (i0 := 0) ⟨by omega, by omega⟩ hsame
      intro j hj
      refine ⟨fun _ => ⟨rfl, _, _, rfl, rfl, hq j⟩, fun hx => ?_⟩
      have hlt : j < m' := by apply Classical.byContradiction; intro h; simp [h] at hx
      have hr := hf j.toNat (by omega)
      have hr0 := hf 0 (by omega)
      have hm0 : (0 : Int) ≤ 0 ∧ (0 : Int) < m' := ⟨by omega, by omega⟩
      have hl := lst_short (lowN (f (Int.toNat j)))
      refine ⟨⟨hj.1, hlt⟩, fun _ => ⟨rfl, _, _, rfl, rfl, hq j⟩, fun h20 => ⟨fun hbad => ?_, fun _ => ⟨hr, ⟨⟨fun k => (lst (lowN (f (Int.toNat j)))).getD k 0, rfl, rfl⟩, rfl, by omega⟩, fun h => (by cases h), fun _ => ⟨hr, fun hbad => ?_, fun _ => ⟨hm0, hm0, hr, fun hbad => ?_, fun _ => ⟨hm0, hm0, hr0, fun hbad => ?_, fun _ => ⟨⟨⟨⟨rfl, rfl⟩, rfl, rfl⟩, ⟨⟨rfl, rfl⟩, rfl⟩, ⟨⟨rfl, rfl⟩, rfl, rfl⟩, hr⟩, fun _ => ?_⟩⟩⟩⟩⟩⟩⟩
      · exfalso
        have := hbad.symm.trans (tells_plain hr.1 hr.2)
        cases this
      · exfalso
        rw [count_eq] at hbad
        simp at hbad
      · exfalso
        rw [within_eq (b := f (Int.toNat 0)) hr0.1 hr0.2] at hbad
        have e : ∀ b : Bool, (!(b == b)) = true → False := fun b => by cases b <;> intro h <;> cases h
        exact e _ hbad
      · exfalso
        rw [within_eq hr.1 hr.2] at hbad
        have e : ∀ b : Bool, (bif !(b == b) then true else false) = true → False := fun b => by cases b <;> intro h <;> cases h
        exact e _ hbad
      · have h20' : j ≠ 20 := fun h => by subst h; simp at h20
        rw [IntWalk.i64_in (j + 1) ⟨by omega, by omega⟩]
        exact ⟨rfl, j + 1, ⟨by omega, by omega⟩, by omega, rfl, rfl⟩
  · exact hq.elim
theorem tells_tree (m : Nat) (f : Nat → Int) (n : Nat) (g : Nat → Int) : evFn (en [c_sets] [tellsOG m f n g]) 400 14 (.cons (.rsl false 1 m (rowS f)) (.cons (.rsl false 1 n (rowN g)) .nil)) =
    Tree.need (((m = m ∧ rowS f = rowS f) ∧ (n = n ∧ rowN g = rowN g) ∧ (m = m ∧ rowS f = rowS f) ∧ (m : Int) = (m : Int)) ∧ (0 : Int) = (0 : Int)) (Tree.all Int fun _ => Tree.leaf (V.bool true true)) := by kernel_rfl
theorem tells_holds (m : Nat) (f : Nat → Int) (n : Nat) (g : Nat → Int) : Tree.Hold P (evFn (en [c_sets] [tellsOG m f n g]) 400 14 (.cons (.rsl false 1 m (rowS f)) (.cons (.rsl false 1 n (rowN g)) .nil))) fun r => r.soft = .bool false true := by
  constructor
  rw [tells_tree]
  exact ⟨⟨⟨⟨rfl, rfl⟩, ⟨rfl, rfl⟩, ⟨rfl, rfl⟩, rfl⟩, rfl⟩, fun _ => rfl⟩
theorem tells_meets (m : Nat) (f : Nat → Int) (n : Nat) (g : Nat → Int) (hf : ∀ j, j < m → 0 ≤ f j ∧ f j < 4294967296) : Meets P 14 (.cons (.rsl false 1 m (rowS f)) (.cons (.rsl false 1 n (rowN g)) .nil)) (.bool false true) :=
  meets_true (en_okl (l := [c_sets]) ⟨c_sets_ok, trivial⟩ (ls := [tellsOG m f n g]) ⟨tellsOG_ok m f n g hf, trivial⟩) 400 (Has.of hn Tryd.func14 rfl) (tells_holds m f n g)
end Go.Proofs.YtpeekgekmjldlaaDoor
