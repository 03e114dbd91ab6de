/- CpusetOf: few, and the families of states. CpusetOf, within the rows: a round of the loop, as the evaluator has it. CpusetOf, within the counts: a round of the loop, as the evaluator has it. CpusetOf: its loops, and what it answers. -/
import Derived.Test.YtpeekgekmjldlaaDoorCsF
import Derived.Test.YtpeekgekmjldlaaDoorCsG
namespace Go.Proofs.YtpeekgekmjldlaaDoor
open Go.Fw
set_option maxRecDepth 100000
/-- So many at most. -/
def few30 (n : Nat) : Nat := Int.toNat (if (30 : Int) < (n : Int) then 30 else (n : Int))
theorem few30_le (n : Nat) : few30 n ≤ 30 ∧ few30 n ≤ n := by
  unfold few30
  split <;> omega
theorem few_tree (n : Nat) (g : Nat → Int) : evFn (en []) 400 39 (.cons (.rsl false 1 n (rowN g)) .nil) =
    Tree.need ((0 : Int) ≤ (if (30 : Int) < (n : Int) then (30 : Int) else (n : Int)) ∧ (if (30 : Int) < (n : Int) then (30 : Int) else (n : Int)) ≤ (n : Int))
      (Tree.need (True ∧ fits ((0 : Nat) + (few30 n - (0 : Nat))) (8 : Nat) ∧ ∀ (j : Nat), j < few30 n - (0 : Nat) → V.allCell (rowN g ((0 : Nat) + j)) = true ∧ V.clean (rowN g ((0 : Nat) + j)) = true)
        (Tree.need ((0 : Nat) + ((0 : Nat) + (few30 n - (0 : Nat))) ≤ (0 : Nat) + (few30 n - (0 : Nat)))
          (Tree.leaf (V.rsl false (1 : Nat) ((0 : Nat) + (few30 n - (0 : Nat))) fun j => V.cons (V.int false IntKind.i64 (g ((0 : Nat) + ((0 : Nat) + j)))) V.nil)))) := by kernel_rfl
theorem few_meets (n : Nat) (g : Nat → Int) : Meets P 39 (.cons (.rsl false 1 n (rowN g)) .nil) (.rsl false 1 (few30 n) (rowN g)) := by
  have h30 := few30_le n
  refine meets (E := en []) en0_ok 400 (Has.of hn Tryd.func39 rfl) (few_tree n g) ⟨by constructor <;> split <;> omega, ⟨trivial, ⟨by omega, by omega⟩, fun j _ => ⟨rfl, rfl⟩⟩, by omega, rfl, ?_⟩
  simp only [Nat.zero_add, Nat.sub_zero]
noncomputable def c_few : Con := { g := 39, al := true, ans := fun x => match x with
  | .cons (.rsl _ 1 n g) .nil => some (.where_ (g = rowN (fun j => ((g j).nth 0).toInt)) (.rsl false 1 (few30 n) (rowN (fun j => ((g j).nth 0).toInt))))
  | _ => none }
theorem c_few_ok : c_few.Ok P := by
  intro x
  dsimp only [c_few]
  split
  · rename_i v h
    split at h <;> cases h
  · rename_i p v h
    split at h
    · rename_i st n g
      injection h with h; injection h with h1 h2; subst h1; subst h2
      intro hg
      have h := few_meets n (fun j => ((g j).nth 0).toInt)
      refine Meets.of_soft (args := .cons (.rsl st 1 n g) .nil) ?_
      have e : (V.cons (.rsl st 1 n g) .nil).soft = .cons (.rsl false 1 n (rowN (fun j => ((g j).nth 0).toInt))) .nil := by
        show V.cons (.rsl false 1 n fun j => (g j).soft) .nil = _
        have : (fun j => (g j).soft) = rowN (fun j => ((g j).nth 0).toInt) := by
          conv => lhs; rw [hg]
          rfl
        rw [this]
      rw [e]; exact h
    · cases h
  · trivial
noncomputable def c_ofA : Con := { c_of with al := true }
theorem c_ofA_ok : c_ofA.Ok P := c_of_ok
noncomputable def c_rofA : Con := { c_rof with al := true }
theorem c_rofA_ok : c_rofA.Ok P := c_rof_ok
def c_sameA : Con := { c_same with al := true }
theorem c_sameA_ok : c_sameA.Ok P := c_same_ok
/-- Rows of rows of numbers. -/
abbrev rowRN (nn : Nat → Nat) (gg : Nat → Nat → Int) : Nat → V := fun j => .cons (.rsl false 1 (nn j) (rowN (gg j))) .nil
/-- Within the rows: the counts, the rows, where they stand. -/
abbrev kOa (n : Nat) (g : Nat → Int) (m : Nat) (nn : Nat → Nat) (gg : Nat → Nat → Int) (i : Int) : V :=
  .cons (.rsl false 1 n (rowN g)) (.cons (.rsl false 1 m (rowRN nn gg)) (.cons (.int false .i64 m) (.cons (.int false .i64 i) .nil)))
/-- Within the counts. -/
abbrev kOc (n : Nat) (g : Nat → Int) (i : Int) : V := .cons (.rsl false 1 n (rowN g)) (.cons (.int false .i64 n) (.cons (.int false .i64 i) .nil))

/-! ### The program's sets and the document's are the same -/
def orQ (s x : Int) : Int := IntKind.wrap .u32 ((BitVec.ofInt (IntKind.bits .u32) s ||| BitVec.ofInt (IntKind.bits .u32) (uBit_0_p x)).toNat : Int)
theorem step_small : ∀ c, c < 2048 → (decide (orQ (Int.ofNat (c / 8)) (Int.ofNat (c % 8)) = (bif !vHas_0_p (Int.ofNat (c / 8)) (Int.ofNat (c % 8)) then IntKind.wrap .u32 (Int.ofNat (c / 8) + IntKind.wrap .u32 ((1 : Int) * (2 : Int) ^ min (Int.toNat (Int.ofNat (c % 8))) (IntKind.bits .u32))) else Int.ofNat (c / 8))) &&
    (decide (0 ≤ orQ (Int.ofNat (c / 8)) (Int.ofNat (c % 8))) && decide (orQ (Int.ofNat (c / 8)) (Int.ofNat (c % 8)) < 256))) = true := forBelow_of (by kernel_rfl)
theorem bit_is {i : Nat} (hi : i < 8) : uBit_0_p (Int.ofNat i) = ((2 ^ i : Nat) : Int) := by
  have := forBelow_of (f := fun i => uBit_0_p (Int.ofNat i) == ((2 ^ i : Nat) : Int)) (n := 8) (by kernel_rfl) i hi
  simpa using this
theorem bad_same (g : Nat → Int) (n : Nat) : badU g n = badV g n := by
  induction n with
  | zero => rfl
  | succ n ih =>
    show (badU g n || (uBit_0 (g n) == 0)) = (badV g n || !vCpu_0 (g n))
    rw [ih, cpu_eq, uBit_0_pe]
    congr 1
    by_cases h : 0 ≤ g n ∧ g n < 8
    · obtain ⟨i, hi⟩ := Int.eq_ofNat_of_zero_le h.1
      have hi8 : i < 8 := by omega
      rw [hi, show ((i : Nat) : Int) = Int.ofNat i from rfl, bit_is hi8, decide_eq_true (by constructor; exact Int.natCast_nonneg i; show (i : Int) < 8; omega)]
      have hp : 0 < 2 ^ i := Nat.pow_pos (by decide)
      cases he : (((2 ^ i : Nat) : Int) == 0)
      · rfl
      · have := eq_of_beq he; omega
    · rw [bit_out h, decide_eq_false h]; rfl
theorem set_same (g : Nat → Int) (n : Nat) (hb : badV g n = false) : setU g n = setV g n ∧ 0 ≤ setV g n ∧ setV g n < 256 := by
  induction n with
  | zero => exact ⟨rfl, Int.le_refl 0, (show (0 : Int) < 256 by omega)⟩
  | succ n ih =>
    have hb : (badV g n || !vCpu_0 (g n)) = false := hb
    simp only [Bool.or_eq_false_iff] at hb
    obtain ⟨h1, h2, h3⟩ := ih hb.1
    have hc : decide (0 ≤ g n ∧ g n < 8) = true := by rw [← cpu_eq]; simpa using hb.2
    have hc := of_decide_eq_true hc
    obtain ⟨i, hi⟩ := Int.eq_ofNat_of_zero_le hc.1
    obtain ⟨c, hcc⟩ := Int.eq_ofNat_of_zero_le h2
    have hi8 : i < 8 := by omega
    have hc8 : c < 256 := by omega
    have key := step_small (8 * c + i) (by omega)
    have e1 : (8 * c + i) / 8 = c := by omega
    have e2 : (8 * c + i) % 8 = i := by omega
    rw [e1, e2] at key
    simp only [Bool.and_eq_true, decide_eq_true_eq] at key
    have hu : setU g (n + 1) = orQ (Int.ofNat c) (Int.ofNat i) := by
      show orS (setU g n) (g n) = _
      rw [h1, hcc, hi]; unfold orS orQ; rw [uBit_0_pe]
      rw [show ((c : Nat) : Int) = Int.ofNat c from rfl, show ((i : Nat) : Int) = Int.ofNat i from rfl]
    have hv : setV g (n + 1) = orQ (Int.ofNat c) (Int.ofNat i) := by
      show addS (setV g n) (g n) = _
      rw [hcc, hi, key.1]; unfold addS; rw [vHas_0_pe]
      rw [show ((c : Nat) : Int) = Int.ofNat c from rfl, show ((i : Nat) : Int) = Int.ofNat i from rfl]
    rw [hu, hv]
    exact ⟨rfl, key.2⟩
theorem of_same (g : Nat → Int) (n : Nat) : ofA g n = rofA g n := by
  have h := fun hb => (set_same g n hb).1
  unfold ofA rofA
  rw [bad_same]
  revert h
  generalize setU g n = x
  generalize setV g n = y
  generalize badV g n = b
  intro h
  cases b
  · exact h rfl
  · rfl
end Go.Proofs.YtpeekgekmjldlaaDoor
namespace Go.Proofs.YtpeekgekmjldlaaDoor
open Go.Fw
set_option maxRecDepth 100000
set_option linter.unusedVariables false
theorem rows_body (B: Base) (n : Nat) (g : Nat → Int) (m : Nat) (nn : Nat → Nat) (gg : Nat → Nat → Int) (i : Int) : ((ev (en [c_few, c_ofA, c_rofA, c_sameA] []) 400 10 (loopAt P 10 4) B
    (canon 0 106 [1,18,19,20] [] (kOa n g m nn gg i) .nil)).bind fun x => Tree.leaf (x.1, vw 0 106 [1,18,19,20] [] x.2)) = Tree.node (bif decide (i < (m : Int)) then
    false else true) (Tree.leaf (Ex.exit (0 : Nat), true, V.cons (V.rsl false (1 : Nat) n fun a => V.cons (V.int false IntKind.i64 (g a)) V.nil) (V.cons (V.rsl false (1 :
    Nat) m fun a => V.cons (V.rsl false (1 : Nat) (nn a) fun a_1 => V.cons (V.int false IntKind.i64 (gg a a_1)) V.nil) V.nil) (V.cons (V.int false IntKind.i64 (m : Int))
    (V.cons (V.int false IntKind.i64 i) V.nil))), V.nil)) (Tree.need (((0 : Int) ≤ i ∧ i < (m : Int)) ∧ ((bif i == (10 : Int) then true else false) = false → (rowN (gg
    (Int.toNat i)) = rowN (gg (Int.toNat i))) ∧ ((rowN (gg (Int.toNat i)) = rowN (gg (Int.toNat i))) ∧ ((few30 (nn (Int.toNat i)) : Nat) : Int) < (4611686018427387904 :
    Int)) ∧ (rowN (gg (Int.toNat i)) = rowN (gg (Int.toNat i))) ∧ ((rowN (gg (Int.toNat i)) = rowN (gg (Int.toNat i))) ∧ ((few30 (nn (Int.toNat i)) : Nat) : Int) <
    (4611686018427387904 : Int)) ∧ ((!badV (gg (Int.toNat i)) (few30 (nn (Int.toNat i)))) = true → (ofE (gg (Int.toNat i)) (few30 (nn (Int.toNat i))) != (0 : Int)) =
    false → (ofA (gg (Int.toNat i)) (few30 (nn (Int.toNat i))) != rofA (gg (Int.toNat i)) (few30 (nn (Int.toNat i)))) = false → ((!!badV (gg (Int.toNat i)) (few30 (nn
    (Int.toNat i)))) = true → (ofE (gg (Int.toNat i)) (few30 (nn (Int.toNat i))) != (2 : Int)) = false → (ofA (gg (Int.toNat i)) (few30 (nn (Int.toNat i))) != (0 : Int))
    = false → (rowN (gg (Int.toNat i)) = rowN (gg (Int.toNat i))) ∧ (∃ f, rowN (gg (Int.toNat i)) = rowN f ∧ rowN (gg (Int.toNat i)) = rowN f) ∧ few30 (nn (Int.toNat i))
    = few30 (nn (Int.toNat i)) ∧ ((few30 (nn (Int.toNat i)) : Nat) : Int) < (4611686018427387904 : Int)) ∧ ((!!badV (gg (Int.toNat i)) (few30 (nn (Int.toNat i)))) = false
    → (rowN (gg (Int.toNat i)) = rowN (gg (Int.toNat i))) ∧ (∃ f, rowN (gg (Int.toNat i)) = rowN f ∧ rowN (gg (Int.toNat i)) = rowN f) ∧ few30 (nn (Int.toNat i)) = few30
    (nn (Int.toNat i)) ∧ ((few30 (nn (Int.toNat i)) : Nat) : Int) < (4611686018427387904 : Int))) ∧ ((!badV (gg (Int.toNat i)) (few30 (nn (Int.toNat i)))) = false →
    ((!!badV (gg (Int.toNat i)) (few30 (nn (Int.toNat i)))) = true → (ofE (gg (Int.toNat i)) (few30 (nn (Int.toNat i))) != (2 : Int)) = false → (ofA (gg (Int.toNat i))
    (few30 (nn (Int.toNat i))) != (0 : Int)) = false → (rowN (gg (Int.toNat i)) = rowN (gg (Int.toNat i))) ∧ (∃ f, rowN (gg (Int.toNat i)) = rowN f ∧ rowN (gg (Int.toNat
    i)) = rowN f) ∧ few30 (nn (Int.toNat i)) = few30 (nn (Int.toNat i)) ∧ ((few30 (nn (Int.toNat i)) : Nat) : Int) < (4611686018427387904 : Int)) ∧ ((!!badV (gg
    (Int.toNat i)) (few30 (nn (Int.toNat i)))) = false → (rowN (gg (Int.toNat i)) = rowN (gg (Int.toNat i))) ∧ (∃ f, rowN (gg (Int.toNat i)) = rowN f ∧ rowN (gg
    (Int.toNat i)) = rowN f) ∧ few30 (nn (Int.toNat i)) = few30 (nn (Int.toNat i)) ∧ ((few30 (nn (Int.toNat i)) : Nat) : Int) < (4611686018427387904 : Int))))) (Tree.node
    (bif bif i == (10 : Int) then true else false then false else bif bif bif !badV (gg (Int.toNat i)) (few30 (nn (Int.toNat i))) then bif ofE (gg (Int.toNat i)) (few30
    (nn (Int.toNat i))) != (0 : Int) then true else bif ofA (gg (Int.toNat i)) (few30 (nn (Int.toNat i))) != rofA (gg (Int.toNat i)) (few30 (nn (Int.toNat i))) then true
    else bif !!badV (gg (Int.toNat i)) (few30 (nn (Int.toNat i))) then bif ofE (gg (Int.toNat i)) (few30 (nn (Int.toNat i))) != (2 : Int) then true else bif ofA (gg
    (Int.toNat i)) (few30 (nn (Int.toNat i))) != (0 : Int) then true else !true else !true else bif !!badV (gg (Int.toNat i)) (few30 (nn (Int.toNat i))) then bif ofE (gg
    (Int.toNat i)) (few30 (nn (Int.toNat i))) != (2 : Int) then true else bif ofA (gg (Int.toNat i)) (few30 (nn (Int.toNat i))) != (0 : Int) then true else !true else
    !true then true else false then true else false) (Tree.leaf (Ex.ret, true, V.cons (V.rsl false (1 : Nat) n fun a => V.cons (V.int false IntKind.i64 (g a)) V.nil)
    (V.cons (V.rsl false (1 : Nat) m fun a => V.cons (V.rsl false (1 : Nat) (nn a) fun a_1 => V.cons (V.int false IntKind.i64 (gg a a_1)) V.nil) V.nil) (V.cons (V.int
    false IntKind.i64 (m : Int)) (V.cons (V.int false IntKind.i64 i) V.nil))), V.nil)) (Tree.node (bif bif i == (10 : Int) then true else false then true else false)
    (Tree.leaf (Ex.exit (0 : Nat), true, V.cons (V.rsl false (1 : Nat) n fun a => V.cons (V.int false IntKind.i64 (g a)) V.nil) (V.cons (V.rsl false (1 : Nat) m fun a =>
    V.cons (V.rsl false (1 : Nat) (nn a) fun a_1 => V.cons (V.int false IntKind.i64 (gg a a_1)) V.nil) V.nil) (V.cons (V.int false IntKind.i64 (m : Int)) (V.cons (V.int
    false IntKind.i64 i) V.nil))), V.nil)) (Tree.leaf (Ex.normal, true, V.cons (V.rsl false (1 : Nat) n fun a => V.cons (V.int false IntKind.i64 (g a)) V.nil) (V.cons
    (V.rsl false (1 : Nat) m fun a => V.cons (V.rsl false (1 : Nat) (nn a) fun a_1 => V.cons (V.int false IntKind.i64 (gg a a_1)) V.nil) V.nil) (V.cons (V.int false
    IntKind.i64 (m : Int)) (V.cons (V.int false IntKind.i64 (IntKind.wrap IntKind.i64 (i + (1 : Int)))) V.nil))), V.nil))))) := by kernel_rfl
end Go.Proofs.YtpeekgekmjldlaaDoor
namespace Go.Proofs.YtpeekgekmjldlaaDoor
open Go.Fw
set_option maxRecDepth 100000
set_option linter.unusedVariables false
theorem counts_body (B : Base) (n : Nat) (g : Nat → Int) (i : Int) : ((ev (en [c_uFirst] []) 400 10 (loopAt P 10 14) B (canon 0 106 [70,71,72] [] (kOc n g i) .nil)).bind fun x => Tree.leaf (x.1, vw 0 106 [70,71,72] [] x.2)) =
    Tree.node (bif decide (i < (n : Int)) then false else true) (Tree.leaf (Ex.exit (2 : Nat), true, V.cons (V.rsl false (1 : Nat) n fun a => V.cons (V.int false IntKind.i64 (g a))
    V.nil) (V.cons (V.int false IntKind.i64 (n : Int)) (V.cons (V.int false IntKind.i64 i) V.nil)), V.nil)) (Tree.need (((0 : Int) ≤ i ∧ i < (n : Int)) ∧ ((bif i == (20 : Int) then
    true else false) = false → (bif decide (g (Int.toNat i) < (0 : Int)) then true else decide (g (Int.toNat i) > (8 : Int))) = false → (uFirst_1 (g (Int.toNat i)) != (0 : Int)) =
    false → (0 : Int) ≤ g (Int.toNat i))) (Tree.node (bif bif i == (20 : Int) then true else false then false else bif bif bif decide (g (Int.toNat i) < (0 : Int)) then true else
    decide (g (Int.toNat i) > (8 : Int)) then bif bif bif uFirst_1 (g (Int.toNat i)) != (2 : Int) then true else uFirst_0 (g (Int.toNat i)) != (0 : Int) then true else false then
    true else false else bif bif bif uFirst_1 (g (Int.toNat i)) != (0 : Int) then true else uFirst_0 (g (Int.toNat i)) != IntKind.wrap IntKind.u32 (IntKind.wrap IntKind.u32 ((1 :
    Int) * (2 : Int) ^ min (Int.toNat (g (Int.toNat i))) (IntKind.bits IntKind.u32)) - (1 : Int)) then true else false then true else false then true else false) (Tree.leaf
    (Ex.ret, true, V.cons (V.rsl false (1 : Nat) n fun a => V.cons (V.int false IntKind.i64 (g a)) V.nil) (V.cons (V.int false IntKind.i64 (n : Int)) (V.cons (V.int false
    IntKind.i64 i) V.nil)), V.nil)) (Tree.node (bif bif i == (20 : Int) then true else false then true else false) (Tree.leaf (Ex.exit (2 : Nat), true, V.cons (V.rsl false (1 :
    Nat) n fun a => V.cons (V.int false IntKind.i64 (g a)) V.nil) (V.cons (V.int false IntKind.i64 (n : Int)) (V.cons (V.int false IntKind.i64 i) V.nil)), V.nil)) (Tree.leaf
    (Ex.normal, true, V.cons (V.rsl false (1 : Nat) n fun a => V.cons (V.int false IntKind.i64 (g a)) V.nil) (V.cons (V.int false IntKind.i64 (n : Int)) (V.cons (V.int false
    IntKind.i64 (IntKind.wrap IntKind.i64 (i + (1 : Int)))) V.nil)), V.nil))))) := by kernel_rfl
end Go.Proofs.YtpeekgekmjldlaaDoor
namespace Go.Proofs.YtpeekgekmjldlaaDoor
open Go.Fw
set_option maxRecDepth 100000

theorem rowsE_ok : (en [c_few, c_ofA, c_rofA, c_sameA]).Ok := en_ok (l := [c_few, c_ofA, c_rofA, c_sameA]) ⟨c_few_ok, c_ofA_ok, c_rofA_ok, c_sameA_ok, trivial⟩
noncomputable def rowsG (n : Nat) (g : Nat → Int) (m : Nat) (nn : Nat → Nat) (gg : Nat → Nat → Int) : Lp := ⟨10, 4, fun _ s => match vw 0 106 [1,18,19,20] [] s with
  | (true, .cons (.rsl _ 1 n1 g1) (.cons (.rsl _ 1 m1 f1) (.cons (.int _ .i64 m2) (.cons (.int _ .i64 i0) .nil))), .nil) =>
    bif Nat.beq s.n 0 then .need ((n1 = n ∧ g1 = rowN g) ∧ (m1 = m ∧ f1 = rowRN nn gg) ∧ m2 = m ∧ i0 = 0) (.all Int fun i => .leaf (.exit 0, canon 0 106 [1,18,19,20] [] (kOa n g m nn gg i) .nil)) else .stuck
  | _ => .stuck⟩
theorem of_facts (g : Nat → Int) (n : Nat) : (badV g n = true → rofA g n = 0) ∧ ofE g n = bif badV g n then 2 else 0 := by
  unfold rofA ofE
  rw [bad_same]
  generalize badV g n = b
  exact ⟨fun h => by rw [h]; rfl, rfl⟩
theorem rows_plain (b : Bool) (A R E : Int) (c : Bool) (hA : A = R) (hR : b = true → R = 0) (hE : E = bif b then 2 else 0) : (bif c then false else bif bif bif !b then bif E != (0 : Int) then true else bif A != R then true else bif !!b then bif E != (2 : Int) then true else bif A != (0 : Int) then true else !true else !true else bif !!b then bif E != (2 : Int) then true else bif A != (0 : Int) then true else !true else !true then true else false then true else false) = false := by
  subst hA; subst hE
  have e : (A != A) = false := by simp
  rw [e]
  cases b
  · cases c <;> rfl
  · rw [hR rfl]; cases c <;> rfl
theorem rowsG_ok (n : Nat) (g : Nat → Int) (m : Nat) (nn : Nat → Nat) (gg : Nat → Nat → Int) : (rowsG n g m nn gg).Ok P := by
  refine lp_ok (by kernel_rfl) fun hin B s Q hq => ?_
  simp only [rowsG] at hq hin ⊢
  split at hq
  · rename_i q0 n1 g1 q1 m1 f1 q2 m2 q3 i0 heq
    cases hn : Nat.beq s.n 0
    · rw [hn] at hq; exact hq.elim
    · rw [hn] at hq
      obtain ⟨⟨⟨rfl, rfl⟩, ⟨rfl, rfl⟩, rfl, rfl⟩, hq⟩ := hq
      have hsame : Same 0 106 [1,18,19,20] [] s (kOa n1 g m1 nn gg 0) .nil := by
        refine ⟨by rw [heq], by rw [heq]; rfl, by rw [heq]⟩
      refine loop_view (k := 400) (f := 10) rowsE_ok hin (fun i : Int => kOa n1 g m1 nn gg i) (fun _ => .nil) (fun j => 0 ≤ j ∧ j ≤ 10) (fun j => (10 - j).toNat) Q (fun i => rows_body B n1 g m1 nn gg i) ?_ (Nat.eq_of_beq_eq_true hn) (i0 := 0) ⟨by omega, by omega⟩ hsame
      intro j hj
      refine ⟨fun _ => ⟨rfl, _, _, rfl, rfl, hq j⟩, fun hx => ?_⟩
      have hlt : j < m1 := by apply Classical.byContradiction; intro h; simp [h] at hx
      have h30 := few30_le (nn (Int.toNat j))
      have hb : ((few30 (nn (Int.toNat j)) : Nat) : Int) < 4611686018427387904 := by omega
      have hA := of_same (gg (Int.toNat j)) (few30 (nn (Int.toNat j)))
      obtain ⟨hR, hE⟩ := of_facts (gg (Int.toNat j)) (few30 (nn (Int.toNat j)))
      generalize few30 (nn (Int.toNat j)) = k at hb hA hR hE ⊢
      generalize gg (Int.toNat j) = G at hA hR hE ⊢
      have hplain := fun c => rows_plain (badV G k) (ofA G k) (rofA G k) (ofE G k) c hA hR hE
      generalize badV G k = b at hplain ⊢
      generalize ofA G k = a at hplain ⊢
      generalize rofA G k = r at hplain ⊢
      generalize ofE G k = e at hplain ⊢
      refine ⟨⟨⟨hj.1, hlt⟩, fun _ => ⟨rfl, ⟨rfl, hb⟩, rfl, ⟨rfl, hb⟩, fun _ _ _ => ⟨fun _ _ _ => ⟨rfl, ⟨_, rfl, rfl⟩, rfl, hb⟩, fun _ => ⟨rfl, ⟨_, rfl, rfl⟩, rfl, hb⟩⟩, fun _ => ⟨fun _ _ _ => ⟨rfl, ⟨_, rfl, rfl⟩, rfl, hb⟩, fun _ => ⟨rfl, ⟨_, rfl, rfl⟩, rfl, hb⟩⟩⟩⟩, fun hbad => ?_, fun _ => ⟨fun _ => ⟨rfl, _, _, rfl, rfl, hq j⟩, fun h10 => ?_⟩⟩
      · exfalso
        have := hbad.symm.trans (hplain _)
        cases this
      · have h10' : j ≠ 10 := fun h => by subst h; simp at h10
        rw [IntWalk.i64_in (j + 1) ⟨by omega, by omega⟩]
        exact ⟨rfl, j + 1, ⟨by omega, by omega⟩, by omega, rfl, rfl⟩
  · exact hq.elim

theorem countsE_ok : (en [c_uFirst]).Ok := en_ok (l := [c_uFirst]) ⟨c_uFirst_ok, trivial⟩
noncomputable def countsG (n : Nat) (g : Nat → Int) : Lp := ⟨10, 14, fun _ s => match vw 0 106 [70,71,72] [] s with
  | (true, .cons (.rsl _ 1 n1 g1) (.cons (.int _ .i64 n2) (.cons (.int _ .i64 i0) .nil)), .nil) =>
    bif Nat.beq s.n 0 then .need ((n1 = n ∧ g1 = rowN g) ∧ n2 = n ∧ i0 = 0) (.all Int fun i => .leaf (.exit 2, canon 0 106 [70,71,72] [] (kOc n g i) .nil)) else .stuck
  | _ => .stuck⟩
theorem counts_plain (x : Int) (c : Bool) : (bif c then false else bif bif bif decide (x < (0 : Int)) then true else decide (x > (8 : Int)) then bif bif bif uFirst_1 x != (2 : Int) then true else uFirst_0 x != (0 : Int) then true else false then true else false else bif bif bif uFirst_1 x != (0 : Int) then true else uFirst_0 x != IntKind.wrap IntKind.u32 (IntKind.wrap IntKind.u32 ((1 : Int) * (2 : Int) ^ min (Int.toNat x) (IntKind.bits IntKind.u32)) - (1 : Int)) then true else false then true else false then true else false) = false := by
  rw [uFirst_0_pe, uFirst_1_pe]
  unfold uFirst_0_p uFirst_1_p
  generalize (bif decide (x < (0 : Int)) then true else decide (x > (8 : Int))) = b
  generalize IntKind.wrap IntKind.u32 (IntKind.wrap IntKind.u32 ((1 : Int) * (2 : Int) ^ min (Int.toNat x) (IntKind.bits IntKind.u32)) - (1 : Int)) = y
  cases b <;> cases c <;> simp
theorem countsG_ok (n : Nat) (g : Nat → Int) : (countsG n g).Ok P := by
  refine lp_ok (by kernel_rfl) fun hin B s Q hq => ?_
  simp only [countsG] at hq hin ⊢
  split at hq
  · rename_i q0 n1 g1 q2 n2 q3 i0 heq
    cases hn : Nat.beq s.n 0
    · rw [hn] at hq; exact hq.elim
    · rw [hn] at hq
      obtain ⟨⟨⟨rfl, rfl⟩, rfl, rfl⟩, hq⟩ := hq
      have hsame : Same 0 106 [70,71,72] [] s (kOc n1 g 0) .nil := by
        refine ⟨by rw [heq], by rw [heq]; rfl, by rw [heq]⟩
      refine loop_view (k := 400) (f := 10) countsE_ok hin (fun i : Int => kOc n1 g i) (fun _ => .nil) (fun j => 0 ≤ j ∧ j ≤ 20) (fun j => (20 - j).toNat) Q (fun i => counts_body B n1 g i) ?_ (Nat.eq_of_beq_eq_true hn) (i0 := 0) ⟨by omega, by omega⟩ hsame
      intro j hj
      refine ⟨fun _ => ⟨rfl, _, _, rfl, rfl, hq j⟩, fun hx => ?_⟩
      have hlt : j < n1 := by apply Classical.byContradiction; intro h; simp [h] at hx
      have hplain := fun c => counts_plain (g (Int.toNat j)) c
      have hge : (bif decide (g (Int.toNat j) < (0 : Int)) then true else decide (g (Int.toNat j) > (8 : Int))) = false → 0 ≤ g (Int.toNat j) := fun h => by
        cases hd : decide (g (Int.toNat j) < 0)
        · have := of_decide_eq_false hd; omega
        · rw [hd] at h; cases h
      generalize uFirst_0 (g (Int.toNat j)) = x0 at hplain ⊢
      generalize uFirst_1 (g (Int.toNat j)) = x1 at hplain ⊢
      refine ⟨⟨⟨hj.1, hlt⟩, fun _ h _ => hge h⟩, fun hbad => ?_, fun _ => ⟨fun _ => ⟨rfl, _, _, rfl, rfl, hq j⟩, fun h20 => ?_⟩⟩
      · exfalso
        have := hbad.symm.trans (hplain _)
        cases this
      · have h20' : j ≠ 20 := fun h => by subst h; simp at h20
        rw [IntWalk.i64_in (j + 1) ⟨by omega, by omega⟩]
        exact ⟨rfl, j + 1, ⟨by omega, by omega⟩, by omega, rfl, rfl⟩
  · exact hq.elim
theorem ofLaw_tree (n : Nat) (g : Nat → Int) (m : Nat) (nn : Nat → Nat) (gg : Nat → Nat → Int) : evFn (en [c_sets] [rowsG n g m nn gg, countsG n g]) 400 10 (.cons (.rsl false 1 m (rowRN nn gg)) (.cons (.rsl false 1 n (rowN g)) .nil)) =
    Tree.need ((n = n ∧ rowN g = rowN g) ∧ (m = m ∧ rowRN nn gg = rowRN nn gg) ∧ (m : Int) = (m : Int) ∧ (0 : Int) = (0 : Int)) (Tree.all Int fun _ => Tree.need ((n = n ∧ rowN g = rowN g) ∧ (n : Int) = (n : Int) ∧ (0 : Int) = (0 : Int)) (Tree.all Int fun _ => Tree.leaf (V.bool true true))) := by kernel_rfl
theorem ofLaw_holds (n : Nat) (g : Nat → Int) (m : Nat) (nn : Nat → Nat) (gg : Nat → Nat → Int) : Tree.Hold P (evFn (en [c_sets] [rowsG n g m nn gg, countsG n g]) 400 10 (.cons (.rsl false 1 m (rowRN nn gg)) (.cons (.rsl false 1 n (rowN g)) .nil))) fun r => r.soft = .bool false true := by
  constructor
  rw [ofLaw_tree]
  exact ⟨⟨⟨rfl, rfl⟩, ⟨rfl, rfl⟩, rfl, rfl⟩, fun _ => ⟨⟨⟨rfl, rfl⟩, rfl, rfl⟩, fun _ => rfl⟩⟩
theorem ofLaw_meets (m : Nat) (nn : Nat → Nat) (gg : Nat → Nat → Int) (n : Nat) (g : Nat → Int) : Meets P 10 (.cons (.rsl false 1 m (rowRN nn gg)) (.cons (.rsl false 1 n (rowN g)) .nil)) (.bool false true) :=
  meets_true (en_okl (l := [c_sets]) ⟨c_sets_ok, trivial⟩ (ls := [rowsG n g m nn gg, countsG n g]) ⟨rowsG_ok n g m nn gg, countsG_ok n g, trivial⟩) 400 (Has.of hn Tryd.func10 rfl) (ofLaw_holds n g m nn gg)
end Go.Proofs.YtpeekgekmjldlaaDoor
