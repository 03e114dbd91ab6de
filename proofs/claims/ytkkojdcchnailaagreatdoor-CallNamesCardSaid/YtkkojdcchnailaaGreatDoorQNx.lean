/- CallNames: its tree, the plain law, and what it answers. -/
import Derived.Test.YtkkojdcchnailaaGreatDoorQNe
import Derived.Test.YtkkojdcchnailaaGreatDoorQWk
namespace Go.Proofs.YtkkojdcchnailaaGreatDoor
open Go.Fw
set_option maxRecDepth 100000
theorem names_tree (z : Int) (s : List UInt8) : evFn (en [c_wakes, c_names, c_cname, c_ckind]) 400 4 (.cons (.int false .i64 z) (.cons (.str false s) .nil)) =
    Tree.need ((bif decide (z ≥ (1 : Int)) then decide (z ≤ (20 : Int)) else false) = true → (0 : Int) ≤ IntKind.wrap IntKind.i64 (z - (1 : Int)) ∧ IntKind.wrap IntKind.i64 (z - (1
    : Int)) < ((20 : Nat) : Int)) (Tree.node (bif bif !cname_0 z == bif bif decide (z ≥ (1 : Int)) then decide (z ≤ (20 : Int)) else false then nameAt (Int.toNat (IntKind.wrap
    IntKind.i64 (z - (1 : Int)))) else [] then true else bif decide (z ≥ (9 : Int)) then !(bif decide (z ≥ (9 : Int)) then decide (z ≤ (20 : Int)) else false) == decide (z ≤ (20 :
    Int)) else !(bif decide (z ≥ (9 : Int)) then decide (z ≤ (20 : Int)) else false) == false then true else false) (Tree.leaf (V.bool true false)) (Tree.node (bif bif nameAt (0)
    == s then true else false then true else false) (Tree.leaf (V.bool false (bif ckind_1 s then ckind_0 s == (1 : Int) else false))) (Tree.node (bif bif nameAt (1) == s then true
    else false then true else false) (Tree.leaf (V.bool false (bif ckind_1 s then ckind_0 s == (2 : Int) else false))) (Tree.node (bif bif nameAt (2) == s then true else false then
    true else false) (Tree.leaf (V.bool false (bif ckind_1 s then ckind_0 s == (3 : Int) else false))) (Tree.node (bif bif nameAt (3) == s then true else false then true else
    false) (Tree.leaf (V.bool false (bif ckind_1 s then ckind_0 s == (4 : Int) else false))) (Tree.node (bif bif nameAt (4) == s then true else false then true else false)
    (Tree.leaf (V.bool false (bif ckind_1 s then ckind_0 s == (5 : Int) else false))) (Tree.node (bif bif nameAt (5) == s then true else false then true else false) (Tree.leaf
    (V.bool false (bif ckind_1 s then ckind_0 s == (6 : Int) else false))) (Tree.node (bif bif nameAt (6) == s then true else false then true else false) (Tree.leaf (V.bool false
    (bif ckind_1 s then ckind_0 s == (7 : Int) else false))) (Tree.node (bif bif nameAt (7) == s then true else false then true else false) (Tree.leaf (V.bool false (bif ckind_1 s
    then ckind_0 s == (8 : Int) else false))) (Tree.node (bif bif nameAt (8) == s then true else false then true else false) (Tree.leaf (V.bool false (bif ckind_1 s then ckind_0 s
    == (9 : Int) else false))) (Tree.node (bif bif nameAt (9) == s then true else false then true else false) (Tree.leaf (V.bool false (bif ckind_1 s then ckind_0 s == (10 : Int)
    else false))) (Tree.node (bif bif nameAt (10) == s then true else false then true else false) (Tree.leaf (V.bool false (bif ckind_1 s then ckind_0 s == (11 : Int) else false)))
    (Tree.node (bif bif nameAt (11) == s then true else false then true else false) (Tree.leaf (V.bool false (bif ckind_1 s then ckind_0 s == (12 : Int) else false))) (Tree.node
    (bif bif nameAt (12) == s then true else false then true else false) (Tree.leaf (V.bool false (bif ckind_1 s then ckind_0 s == (13 : Int) else false))) (Tree.node (bif bif
    nameAt (13) == s then true else false then true else false) (Tree.leaf (V.bool false (bif ckind_1 s then ckind_0 s == (14 : Int) else false))) (Tree.node (bif bif nameAt (14)
    == s then true else false then true else false) (Tree.leaf (V.bool false (bif ckind_1 s then ckind_0 s == (15 : Int) else false))) (Tree.node (bif bif nameAt (15) == s then
    true else false then true else false) (Tree.leaf (V.bool false (bif ckind_1 s then ckind_0 s == (16 : Int) else false))) (Tree.node (bif bif nameAt (16) == s then true else
    false then true else false) (Tree.leaf (V.bool false (bif ckind_1 s then ckind_0 s == (17 : Int) else false))) (Tree.node (bif bif nameAt (17) == s then true else false then
    true else false) (Tree.leaf (V.bool false (bif ckind_1 s then ckind_0 s == (18 : Int) else false))) (Tree.node (bif bif nameAt (18) == s then true else false then true else
    false) (Tree.leaf (V.bool false (bif ckind_1 s then ckind_0 s == (19 : Int) else false))) (Tree.node (bif bif nameAt (19) == s then true else false then true else false)
    (Tree.leaf (V.bool false (bif ckind_1 s then ckind_0 s == (20 : Int) else false))) (Tree.leaf (V.bool false (bif !ckind_1 s then ckind_0 s == (0 : Int) else
    false)))))))))))))))))))))))) := by kernel_rfl
theorem cname_ok (z : Int) : cname_0 z = bif bif decide (z ≥ (1 : Int)) then decide (z ≤ (20 : Int)) else false then nameAt (Int.toNat (IntKind.wrap IntKind.i64 (z - (1 : Int)))) else [] := by
  rcases (show z < 1 ∨ z = 1 ∨ z = 2 ∨ z = 3 ∨ z = 4 ∨ z = 5 ∨ z = 6 ∨ z = 7 ∨ z = 8 ∨ z = 9 ∨ z = 10 ∨ z = 11 ∨ z = 12 ∨ z = 13 ∨ z = 14 ∨ z = 15 ∨ z = 16 ∨ z = 17 ∨ z = 18 ∨ z = 19 ∨ z = 20 ∨ 20 < z by omega) with h | rfl | rfl | rfl | rfl | rfl | rfl | rfl | rfl | rfl | rfl | rfl | rfl | rfl | rfl | rfl | rfl | rfl | rfl | rfl | rfl | h
  · rw [cname_0_eq]
    have h1 : decide (z < (1 : Int)) = true := decide_eq_true h
    have h2 : decide (z ≥ (1 : Int)) = false := decide_eq_false (by omega)
    rw [h1, h2]; rfl
  · rw [cname_0_eq]; rfl
  · rw [cname_0_eq]; rfl
  · rw [cname_0_eq]; rfl
  · rw [cname_0_eq]; rfl
  · rw [cname_0_eq]; rfl
  · rw [cname_0_eq]; rfl
  · rw [cname_0_eq]; rfl
  · rw [cname_0_eq]; rfl
  · rw [cname_0_eq]; rfl
  · rw [cname_0_eq]; rfl
  · rw [cname_0_eq]; rfl
  · rw [cname_0_eq]; rfl
  · rw [cname_0_eq]; rfl
  · rw [cname_0_eq]; rfl
  · rw [cname_0_eq]; rfl
  · rw [cname_0_eq]; rfl
  · rw [cname_0_eq]; rfl
  · rw [cname_0_eq]; rfl
  · rw [cname_0_eq]; rfl
  · rw [cname_0_eq]; rfl
  · rw [cname_0_eq]
    have h1 : decide (z < (1 : Int)) = false := decide_eq_false (by omega)
    have h2 : decide (z > (20 : Int)) = true := decide_eq_true h
    have h3 : decide (z ≥ (1 : Int)) = true := decide_eq_true (by omega)
    have h4 : decide (z ≤ (20 : Int)) = false := decide_eq_false (by omega)
    rw [h1, h2, h3, h4]; rfl
theorem first_ok (z : Int) : (bif bif !cname_0 z == bif bif decide (z ≥ (1 : Int)) then decide (z ≤ (20 : Int)) else false then nameAt (Int.toNat (IntKind.wrap IntKind.i64 (z - (1 : Int)))) else [] then true else bif decide (z ≥ (9 : Int)) then !(bif decide (z ≥ (9 : Int)) then decide (z ≤ (20 : Int)) else false) == decide (z ≤ (20 : Int)) else !(bif decide (z ≥ (9 : Int)) then decide (z ≤ (20 : Int)) else false) == false then true else false) = false := by
  rw [cname_ok]
  cases decide (z ≥ (9 : Int)) <;> simp
theorem at0 (s : List UInt8) (h : (bif bif nameAt 0 == s then true else false then true else false) = true) : (bif ckind_1 s then ckind_0 s == (1 : Int) else false) = true := by
  have e : nameAt 0 = s := by cases hb : nameAt 0 == s <;> rw [hb] at h; cases h; exact eq_of_beq hb
  subst e; rw [ckind_0_eq, ckind_1_eq]; rfl
theorem at1 (s : List UInt8) (h : (bif bif nameAt 1 == s then true else false then true else false) = true) : (bif ckind_1 s then ckind_0 s == (2 : Int) else false) = true := by
  have e : nameAt 1 = s := by cases hb : nameAt 1 == s <;> rw [hb] at h; cases h; exact eq_of_beq hb
  subst e; rw [ckind_0_eq, ckind_1_eq]; rfl
theorem at2 (s : List UInt8) (h : (bif bif nameAt 2 == s then true else false then true else false) = true) : (bif ckind_1 s then ckind_0 s == (3 : Int) else false) = true := by
  have e : nameAt 2 = s := by cases hb : nameAt 2 == s <;> rw [hb] at h; cases h; exact eq_of_beq hb
  subst e; rw [ckind_0_eq, ckind_1_eq]; rfl
theorem at3 (s : List UInt8) (h : (bif bif nameAt 3 == s then true else false then true else false) = true) : (bif ckind_1 s then ckind_0 s == (4 : Int) else false) = true := by
  have e : nameAt 3 = s := by cases hb : nameAt 3 == s <;> rw [hb] at h; cases h; exact eq_of_beq hb
  subst e; rw [ckind_0_eq, ckind_1_eq]; rfl
theorem at4 (s : List UInt8) (h : (bif bif nameAt 4 == s then true else false then true else false) = true) : (bif ckind_1 s then ckind_0 s == (5 : Int) else false) = true := by
  have e : nameAt 4 = s := by cases hb : nameAt 4 == s <;> rw [hb] at h; cases h; exact eq_of_beq hb
  subst e; rw [ckind_0_eq, ckind_1_eq]; rfl
theorem at5 (s : List UInt8) (h : (bif bif nameAt 5 == s then true else false then true else false) = true) : (bif ckind_1 s then ckind_0 s == (6 : Int) else false) = true := by
  have e : nameAt 5 = s := by cases hb : nameAt 5 == s <;> rw [hb] at h; cases h; exact eq_of_beq hb
  subst e; rw [ckind_0_eq, ckind_1_eq]; rfl
theorem at6 (s : List UInt8) (h : (bif bif nameAt 6 == s then true else false then true else false) = true) : (bif ckind_1 s then ckind_0 s == (7 : Int) else false) = true := by
  have e : nameAt 6 = s := by cases hb : nameAt 6 == s <;> rw [hb] at h; cases h; exact eq_of_beq hb
  subst e; rw [ckind_0_eq, ckind_1_eq]; rfl
theorem at7 (s : List UInt8) (h : (bif bif nameAt 7 == s then true else false then true else false) = true) : (bif ckind_1 s then ckind_0 s == (8 : Int) else false) = true := by
  have e : nameAt 7 = s := by cases hb : nameAt 7 == s <;> rw [hb] at h; cases h; exact eq_of_beq hb
  subst e; rw [ckind_0_eq, ckind_1_eq]; rfl
theorem at8 (s : List UInt8) (h : (bif bif nameAt 8 == s then true else false then true else false) = true) : (bif ckind_1 s then ckind_0 s == (9 : Int) else false) = true := by
  have e : nameAt 8 = s := by cases hb : nameAt 8 == s <;> rw [hb] at h; cases h; exact eq_of_beq hb
  subst e; rw [ckind_0_eq, ckind_1_eq]; rfl
theorem at9 (s : List UInt8) (h : (bif bif nameAt 9 == s then true else false then true else false) = true) : (bif ckind_1 s then ckind_0 s == (10 : Int) else false) = true := by
  have e : nameAt 9 = s := by cases hb : nameAt 9 == s <;> rw [hb] at h; cases h; exact eq_of_beq hb
  subst e; rw [ckind_0_eq, ckind_1_eq]; rfl
theorem at10 (s : List UInt8) (h : (bif bif nameAt 10 == s then true else false then true else false) = true) : (bif ckind_1 s then ckind_0 s == (11 : Int) else false) = true := by
  have e : nameAt 10 = s := by cases hb : nameAt 10 == s <;> rw [hb] at h; cases h; exact eq_of_beq hb
  subst e; rw [ckind_0_eq, ckind_1_eq]; rfl
theorem at11 (s : List UInt8) (h : (bif bif nameAt 11 == s then true else false then true else false) = true) : (bif ckind_1 s then ckind_0 s == (12 : Int) else false) = true := by
  have e : nameAt 11 = s := by cases hb : nameAt 11 == s <;> rw [hb] at h; cases h; exact eq_of_beq hb
  subst e; rw [ckind_0_eq, ckind_1_eq]; rfl
theorem at12 (s : List UInt8) (h : (bif bif nameAt 12 == s then true else false then true else false) = true) : (bif ckind_1 s then ckind_0 s == (13 : Int) else false) = true := by
  have e : nameAt 12 = s := by cases hb : nameAt 12 == s <;> rw [hb] at h; cases h; exact eq_of_beq hb
  subst e; rw [ckind_0_eq, ckind_1_eq]; rfl
theorem at13 (s : List UInt8) (h : (bif bif nameAt 13 == s then true else false then true else false) = true) : (bif ckind_1 s then ckind_0 s == (14 : Int) else false) = true := by
  have e : nameAt 13 = s := by cases hb : nameAt 13 == s <;> rw [hb] at h; cases h; exact eq_of_beq hb
  subst e; rw [ckind_0_eq, ckind_1_eq]; rfl
theorem at14 (s : List UInt8) (h : (bif bif nameAt 14 == s then true else false then true else false) = true) : (bif ckind_1 s then ckind_0 s == (15 : Int) else false) = true := by
  have e : nameAt 14 = s := by cases hb : nameAt 14 == s <;> rw [hb] at h; cases h; exact eq_of_beq hb
  subst e; rw [ckind_0_eq, ckind_1_eq]; rfl
theorem at15 (s : List UInt8) (h : (bif bif nameAt 15 == s then true else false then true else false) = true) : (bif ckind_1 s then ckind_0 s == (16 : Int) else false) = true := by
  have e : nameAt 15 = s := by cases hb : nameAt 15 == s <;> rw [hb] at h; cases h; exact eq_of_beq hb
  subst e; rw [ckind_0_eq, ckind_1_eq]; rfl
theorem at16 (s : List UInt8) (h : (bif bif nameAt 16 == s then true else false then true else false) = true) : (bif ckind_1 s then ckind_0 s == (17 : Int) else false) = true := by
  have e : nameAt 16 = s := by cases hb : nameAt 16 == s <;> rw [hb] at h; cases h; exact eq_of_beq hb
  subst e; rw [ckind_0_eq, ckind_1_eq]; rfl
theorem at17 (s : List UInt8) (h : (bif bif nameAt 17 == s then true else false then true else false) = true) : (bif ckind_1 s then ckind_0 s == (18 : Int) else false) = true := by
  have e : nameAt 17 = s := by cases hb : nameAt 17 == s <;> rw [hb] at h; cases h; exact eq_of_beq hb
  subst e; rw [ckind_0_eq, ckind_1_eq]; rfl
theorem at18 (s : List UInt8) (h : (bif bif nameAt 18 == s then true else false then true else false) = true) : (bif ckind_1 s then ckind_0 s == (19 : Int) else false) = true := by
  have e : nameAt 18 = s := by cases hb : nameAt 18 == s <;> rw [hb] at h; cases h; exact eq_of_beq hb
  subst e; rw [ckind_0_eq, ckind_1_eq]; rfl
theorem at19 (s : List UInt8) (h : (bif bif nameAt 19 == s then true else false then true else false) = true) : (bif ckind_1 s then ckind_0 s == (20 : Int) else false) = true := by
  have e : nameAt 19 = s := by cases hb : nameAt 19 == s <;> rw [hb] at h; cases h; exact eq_of_beq hb
  subst e; rw [ckind_0_eq, ckind_1_eq]; rfl
theorem ne_of {j : Nat} {l s : List UInt8} (h : (bif bif nameAt j == s then true else false then true else false) = false) (hl : nameAt j = l) : (s == l) = false := by
  have e : nameAt j ≠ s := fun e => by rw [e] at h; simp at h
  rw [hl] at e
  exact beq_eq_false_iff_ne.2 (Ne.symm e)
theorem none_ok (s : List UInt8) (h0 : (bif bif nameAt 0 == s then true else false then true else false) = false) (h1 : (bif bif nameAt 1 == s then true else false then true else false) = false) (h2 : (bif bif nameAt 2 == s then true else false then true else false) = false) (h3 : (bif bif nameAt 3 == s then true else false then true else false) = false) (h4 : (bif bif nameAt 4 == s then true else false then true else false) = false) (h5 : (bif bif nameAt 5 == s then true else false then true else false) = false) (h6 : (bif bif nameAt 6 == s then true else false then true else false) = false) (h7 : (bif bif nameAt 7 == s then true else false then true else false) = false) (h8 : (bif bif nameAt 8 == s then true else false then true else false) = false) (h9 : (bif bif nameAt 9 == s then true else false then true else false) = false) (h10 : (bif bif nameAt 10 == s then true else false then true else false) = false) (h11 : (bif bif nameAt 11 == s then true else false then true else false) = false) (h12 : (bif bif nameAt 12 == s then true else false then true else false) = false) (h13 : (bif bif nameAt 13 == s then true else false then true else false) = false) (h14 : (bif bif nameAt 14 == s then true else false then true else false) = false) (h15 : (bif bif nameAt 15 == s then true else false then true else false) = false) (h16 : (bif bif nameAt 16 == s then true else false then true else false) = false) (h17 : (bif bif nameAt 17 == s then true else false then true else false) = false) (h18 : (bif bif nameAt 18 == s then true else false then true else false) = false) (h19 : (bif bif nameAt 19 == s then true else false then true else false) = false) : ckind_1 s = false ∧ ckind_0 s = 0 := by
  have e0 : (s == [(99 : UInt8), (114 : UInt8), (101 : UInt8), (97 : UInt8), (116 : UInt8), (101 : UInt8)]) = false := ne_of h0 rfl
  have e1 : (s == [(100 : UInt8), (101 : UInt8), (115 : UInt8), (116 : UInt8), (114 : UInt8), (111 : UInt8), (121 : UInt8)]) = false := ne_of h1 rfl
  have e2 : (s == [(97 : UInt8), (100 : UInt8), (100 : UInt8)]) = false := ne_of h2 rfl
  have e3 : (s == [(100 : UInt8), (114 : UInt8), (111 : UInt8), (112 : UInt8)]) = false := ne_of h3 rfl
  have e4 : (s == [(117 : UInt8), (112 : UInt8)]) = false := ne_of h4 rfl
  have e5 : (s == [(100 : UInt8), (111 : UInt8), (119 : UInt8), (110 : UInt8)]) = false := ne_of h5 rfl
  have e6 : (s == [(112 : UInt8), (97 : UInt8), (117 : UInt8), (115 : UInt8), (101 : UInt8)]) = false := ne_of h6 rfl
  have e7 : (s == [(117 : UInt8), (110 : UInt8), (112 : UInt8), (97 : UInt8), (117 : UInt8), (115 : UInt8), (101 : UInt8)]) = false := ne_of h7 rfl
  have e8 : (s == [(98 : UInt8), (108 : UInt8), (111 : UInt8), (99 : UInt8), (107 : UInt8)]) = false := ne_of h8 rfl
  have e9 : (s == [(112 : UInt8), (111 : UInt8), (108 : UInt8), (108 : UInt8)]) = false := ne_of h9 rfl
  have e10 : (s == [(121 : UInt8), (105 : UInt8), (101 : UInt8), (108 : UInt8), (100 : UInt8)]) = false := ne_of h10 rfl
  have e11 : (s == [(111 : UInt8), (112 : UInt8), (101 : UInt8), (110 : UInt8)]) = false := ne_of h11 rfl
  have e12 : (s == [(108 : UInt8), (105 : UInt8), (110 : UInt8), (107 : UInt8)]) = false := ne_of h12 rfl
  have e13 : (s == [(99 : UInt8), (108 : UInt8), (111 : UInt8), (115 : UInt8), (101 : UInt8)]) = false := ne_of h13 rfl
  have e14 : (s == [(115 : UInt8), (101 : UInt8), (110 : UInt8), (100 : UInt8)]) = false := ne_of h14 rfl
  have e15 : (s == [(109 : UInt8), (97 : UInt8), (115 : UInt8), (107 : UInt8)]) = false := ne_of h15 rfl
  have e16 : (s == [(99 : UInt8), (108 : UInt8), (101 : UInt8), (97 : UInt8), (114 : UInt8)]) = false := ne_of h16 rfl
  have e17 : (s == [(98 : UInt8), (105 : UInt8), (110 : UInt8), (100 : UInt8)]) = false := ne_of h17 rfl
  have e18 : (s == [(115 : UInt8), (116 : UInt8), (97 : UInt8), (114 : UInt8), (116 : UInt8)]) = false := ne_of h18 rfl
  have e19 : (s == [(115 : UInt8), (116 : UInt8), (111 : UInt8), (112 : UInt8)]) = false := ne_of h19 rfl
  rw [ckind_0_eq, ckind_1_eq]
  rw [e0, e1, e2, e3, e4, e5, e6, e7, e8, e9, e10, e11, e12, e13, e14, e15, e16, e17, e18, e19]
  exact ⟨rfl, rfl⟩
theorem last_ok (s : List UInt8) (h0 : (bif bif nameAt 0 == s then true else false then true else false) = false) (h1 : (bif bif nameAt 1 == s then true else false then true else false) = false) (h2 : (bif bif nameAt 2 == s then true else false then true else false) = false) (h3 : (bif bif nameAt 3 == s then true else false then true else false) = false) (h4 : (bif bif nameAt 4 == s then true else false then true else false) = false) (h5 : (bif bif nameAt 5 == s then true else false then true else false) = false) (h6 : (bif bif nameAt 6 == s then true else false then true else false) = false) (h7 : (bif bif nameAt 7 == s then true else false then true else false) = false) (h8 : (bif bif nameAt 8 == s then true else false then true else false) = false) (h9 : (bif bif nameAt 9 == s then true else false then true else false) = false) (h10 : (bif bif nameAt 10 == s then true else false then true else false) = false) (h11 : (bif bif nameAt 11 == s then true else false then true else false) = false) (h12 : (bif bif nameAt 12 == s then true else false then true else false) = false) (h13 : (bif bif nameAt 13 == s then true else false then true else false) = false) (h14 : (bif bif nameAt 14 == s then true else false then true else false) = false) (h15 : (bif bif nameAt 15 == s then true else false then true else false) = false) (h16 : (bif bif nameAt 16 == s then true else false then true else false) = false) (h17 : (bif bif nameAt 17 == s then true else false then true else false) = false) (h18 : (bif bif nameAt 18 == s then true else false then true else false) = false) (h19 : (bif bif nameAt 19 == s then true else false then true else false) = false) : (bif !ckind_1 s then ckind_0 s == (0 : Int) else false) = true := by
  obtain ⟨a1, a2⟩ := none_ok s h0 h1 h2 h3 h4 h5 h6 h7 h8 h9 h10 h11 h12 h13 h14 h15 h16 h17 h18 h19
  rw [a1, a2]; rfl
theorem names_holds (z : Int) (s : List UInt8) : Tree.Hold P (evFn (en [c_wakes, c_names, c_cname, c_ckind]) 400 4 (.cons (.int false .i64 z) (.cons (.str false s) .nil))) fun r => r.soft = .bool false true := by
  constructor
  rw [names_tree]
  refine ⟨fun h => ?_, fun h => ?_, fun _ => ?_⟩
  · have h1 : 1 ≤ z ∧ z ≤ 20 := by
      cases h1 : decide (z ≥ (1 : Int)) <;> rw [h1] at h
      · cases h
      · exact ⟨of_decide_eq_true h1, of_decide_eq_true h⟩
    rw [IntWalk.i64_in (z - 1) ⟨by omega, by omega⟩]
    exact ⟨by omega, by omega⟩
  · rw [first_ok] at h; cases h
  · exact ⟨fun h => congrArg (V.bool false) (at0 s h), fun h0 => ⟨fun h => congrArg (V.bool false) (at1 s h), fun h1 => ⟨fun h => congrArg (V.bool false) (at2 s h), fun h2 => ⟨fun h => congrArg (V.bool false) (at3 s h), fun h3 => ⟨fun h => congrArg (V.bool false) (at4 s h), fun h4 => ⟨fun h => congrArg (V.bool false) (at5 s h), fun h5 => ⟨fun h => congrArg (V.bool false) (at6 s h), fun h6 => ⟨fun h => congrArg (V.bool false) (at7 s h), fun h7 => ⟨fun h => congrArg (V.bool false) (at8 s h), fun h8 => ⟨fun h => congrArg (V.bool false) (at9 s h), fun h9 => ⟨fun h => congrArg (V.bool false) (at10 s h), fun h10 => ⟨fun h => congrArg (V.bool false) (at11 s h), fun h11 => ⟨fun h => congrArg (V.bool false) (at12 s h), fun h12 => ⟨fun h => congrArg (V.bool false) (at13 s h), fun h13 => ⟨fun h => congrArg (V.bool false) (at14 s h), fun h14 => ⟨fun h => congrArg (V.bool false) (at15 s h), fun h15 => ⟨fun h => congrArg (V.bool false) (at16 s h), fun h16 => ⟨fun h => congrArg (V.bool false) (at17 s h), fun h17 => ⟨fun h => congrArg (V.bool false) (at18 s h), fun h18 => ⟨fun h => congrArg (V.bool false) (at19 s h), fun h19 => congrArg (V.bool false) (last_ok s h0 h1 h2 h3 h4 h5 h6 h7 h8 h9 h10 h11 h12 h13 h14 h15 h16 h17 h18 h19)⟩⟩⟩⟩⟩⟩⟩⟩⟩⟩⟩⟩⟩⟩⟩⟩⟩⟩⟩⟩
theorem names_meets (z : Int) (s : List UInt8) : Meets P 4 (.cons (.int false .i64 z) (.cons (.str false s) .nil)) (.bool false true) :=
  meets_true (en_ok (l := [c_wakes, c_names, c_cname, c_ckind]) ⟨c_wakes_ok, c_names_ok, c_cname_ok, c_ckind_ok, trivial⟩) 400 (Has.of hn Tryz.func4 rfl) (names_holds z s)
end Go.Proofs.YtkkojdcchnailaaGreatDoor
