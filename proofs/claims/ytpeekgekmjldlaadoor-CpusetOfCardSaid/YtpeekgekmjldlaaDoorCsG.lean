/- Of: a round of the loop, as the evaluator has it. the documents Of: a round of the loop, as the evaluator has it. Contracts of Of, the program's and the document's: so many numbers, one behind the other. -/
import Derived.Test.YtpeekgekmjldlaaDoorCsF
namespace Go.Proofs.YtpeekgekmjldlaaDoor
open Go.Fw
set_option maxRecDepth 100000
set_option linter.unusedVariables false
theorem of_body (B : Base) (r0 r1 s : Int) (n : Nat) (g : Nat → Int) (i : Int) : ((ev (en [c_uBit] []) 400 40 (loopAt P 40 3) B (canon 0 23 [2,3,4,8,9,10] [] (kOf r0 r1 s n g i) .nil)).bind fun x => Tree.leaf (x.1, vw 0 23 [2,3,4,8,9,10] [] x.2)) =
    Tree.node (bif decide (i < (n : Int)) then false else true) (Tree.leaf (Ex.exit (0 : Nat), true, V.cons (V.int false IntKind.u32 r0) (V.cons (V.int false IntKind.i64 r1)
    (V.cons (V.int false IntKind.u32 s) (V.cons (V.rsl false (1 : Nat) n fun a => V.cons (V.int false IntKind.i64 (g a)) V.nil) (V.cons (V.int false IntKind.i64 (n : Int)) (V.cons
    (V.int false IntKind.i64 i) V.nil))))), V.nil)) (Tree.need ((0 : Int) ≤ i ∧ i < (n : Int)) (Tree.node (bif bif uBit_0 (g (Int.toNat i)) == (0 : Int) then true else false then
    true else false) (Tree.leaf (Ex.ret, true, V.cons (V.int true IntKind.u32 (0 : Int)) (V.cons (V.int true IntKind.i64 (2 : Int)) (V.cons (V.int false IntKind.u32 s) (V.cons
    (V.rsl false (1 : Nat) n fun a => V.cons (V.int false IntKind.i64 (g a)) V.nil) (V.cons (V.int false IntKind.i64 (n : Int)) (V.cons (V.int false IntKind.i64 i) V.nil))))),
    V.nil)) (Tree.leaf (Ex.normal, true, V.cons (V.int false IntKind.u32 r0) (V.cons (V.int false IntKind.i64 r1) (V.cons (V.int false IntKind.u32 (IntKind.wrap IntKind.u32
    ((BitVec.toNat (BitVec.ofInt (IntKind.bits IntKind.u32) s ||| BitVec.ofInt (IntKind.bits IntKind.u32) (uBit_0 (g (Int.toNat i)))) : Nat) : Int))) (V.cons (V.rsl false (1 : Nat)
    n fun a => V.cons (V.int false IntKind.i64 (g a)) V.nil) (V.cons (V.int false IntKind.i64 (n : Int)) (V.cons (V.int false IntKind.i64 (IntKind.wrap IntKind.i64 (i + (1 :
    Int)))) V.nil))))), V.nil)))) := by kernel_rfl
end Go.Proofs.YtpeekgekmjldlaaDoor
namespace Go.Proofs.YtpeekgekmjldlaaDoor
open Go.Fw
set_option maxRecDepth 100000
set_option linter.unusedVariables false
theorem rof_body (B : Base) (r0 : Int) (r1 : Bool) (s : Int) (n : Nat) (g : Nat → Int) (i : Int) : ((ev (en [c_vCpu, c_vHas] []) 400 41 (loopAt P 41 3) B (canon 0 26 [2,3,4,7,8,9] [] (kRf r0 r1 s n g i) .nil)).bind fun x => Tree.leaf (x.1, vw 0 26 [2,3,4,7,8,9] [] x.2)) =
    Tree.node (bif decide (i < (n : Int)) then false else true) (Tree.leaf (Ex.exit (0 : Nat), true, V.cons (V.int false IntKind.u32 r0) (V.cons (V.bool false r1) (V.cons (V.int
    false IntKind.u32 s) (V.cons (V.rsl false (1 : Nat) n fun a => V.cons (V.int false IntKind.i64 (g a)) V.nil) (V.cons (V.int false IntKind.i64 (n : Int)) (V.cons (V.int false
    IntKind.i64 i) V.nil))))), V.nil)) (Tree.need (((0 : Int) ≤ i ∧ i < (n : Int)) ∧ ((bif !vCpu_0 (g (Int.toNat i)) then true else false) = false → (!vHas_0 s (g (Int.toNat i))) =
    true → (0 : Int) ≤ g (Int.toNat i))) (Tree.node (bif bif !vCpu_0 (g (Int.toNat i)) then true else false then true else false) (Tree.leaf (Ex.ret, true, V.cons (V.int true
    IntKind.u32 (0 : Int)) (V.cons (V.bool true false) (V.cons (V.int false IntKind.u32 s) (V.cons (V.rsl false (1 : Nat) n fun a => V.cons (V.int false IntKind.i64 (g a)) V.nil)
    (V.cons (V.int false IntKind.i64 (n : Int)) (V.cons (V.int false IntKind.i64 i) V.nil))))), V.nil)) (Tree.leaf (Ex.normal, true, V.cons (V.int false IntKind.u32 r0) (V.cons
    (V.bool false r1) (V.cons (V.int false IntKind.u32 (bif !vHas_0 s (g (Int.toNat i)) then IntKind.wrap IntKind.u32 (s + IntKind.wrap IntKind.u32 ((1 : Int) * (2 : Int) ^ min
    (Int.toNat (g (Int.toNat i))) (IntKind.bits IntKind.u32))) else s)) (V.cons (V.rsl false (1 : Nat) n fun a => V.cons (V.int false IntKind.i64 (g a)) V.nil) (V.cons (V.int false
    IntKind.i64 (n : Int)) (V.cons (V.int false IntKind.i64 (IntKind.wrap IntKind.i64 (i + (1 : Int)))) V.nil))))), V.nil)))) := by kernel_rfl
end Go.Proofs.YtpeekgekmjldlaaDoor
namespace Go.Proofs.YtpeekgekmjldlaaDoor
open Go.Fw
set_option maxRecDepth 100000

/-- A set with one more; whether one of a row is no number; the set of a row. -/
noncomputable def orS (s x : Int) : Int := IntKind.wrap .u32 ((BitVec.ofInt (IntKind.bits .u32) s ||| BitVec.ofInt (IntKind.bits .u32) (uBit_0 x)).toNat : Int)
noncomputable def badU (g : Nat → Int) (n : Nat) : Bool := Nat.rec false (fun k r => r || (uBit_0 (g k) == 0)) n
noncomputable def setU (g : Nat → Int) (n : Nat) : Int := Nat.rec 0 (fun k s => orS s (g k)) n
theorem badU_mono {g : Nat → Int} {k n : Nat} (h : badU g k = true) (hkn : k ≤ n) : badU g n = true := by
  induction n with
  | zero => have : k = 0 := by omega
            subst this; exact h
  | succ n ih =>
    show (badU g n || (uBit_0 (g n) == 0)) = true
    by_cases e : k = n + 1
    · subst e; exact h
    · rw [ih (by omega)]; rfl
theorem ofE_ok : (en [c_uBit]).Ok := en_ok (l := [c_uBit]) ⟨c_uBit_ok, trivial⟩
noncomputable def ofG (n : Nat) (g : Nat → Int) : Lp := ⟨40, 3, fun _ s => match vw 0 23 [2,3,4,8,9,10] [] s with
  | (true, .cons (.int _ .u32 a0) (.cons (.int _ .i64 a1) (.cons (.int _ .u32 a2) (.cons (.rsl _ 1 n1 g1) (.cons (.int _ .i64 n2) (.cons (.int _ .i64 i0) .nil))))), .nil) =>
    bif Nat.beq s.n 0 then .need (a0 = 0 ∧ a1 = 0 ∧ a2 = 0 ∧ (n1 = n ∧ g1 = rowN g) ∧ n2 = n ∧ i0 = 0)
      (.node (badU g n) (.all (Int × Int) fun x => .leaf (.ret, canon 0 23 [2,3,4,8,9,10] [] (kOf 0 2 x.1 n g x.2) .nil)) (.leaf (.exit 0, canon 0 23 [2,3,4,8,9,10] [] (kOf 0 0 (setU g n) n g n) .nil))) else .stuck
  | _ => .stuck⟩
theorem ofG_ok (n : Nat) (g : Nat → Int) (hb : (n : Int) < 4611686018427387904) : (ofG n g).Ok P := by
  refine lp_ok (by kernel_rfl) fun hin B s Q hq => ?_
  simp only [ofG] at hq hin ⊢
  split at hq
  · rename_i q0 a0 q1 a1 q2 a2 q3 n1 g1 q4 n2 q5 i0 heq
    cases hn : Nat.beq s.n 0
    · rw [hn] at hq; exact hq.elim
    · rw [hn] at hq
      obtain ⟨⟨rfl, rfl, rfl, ⟨rfl, rfl⟩, rfl, rfl⟩, hq1, hq2⟩ := hq
      have hsame : Same 0 23 [2,3,4,8,9,10] [] s (kOf 0 0 0 n1 g 0) .nil := by
        refine ⟨by rw [heq], by rw [heq]; rfl, by rw [heq]⟩
      refine loop_view (k := 400) (f := 40) ofE_ok hin (fun i : Int => kOf 0 0 (setU g i.toNat) n1 g i) (fun _ => .nil) (fun j => 0 ≤ j ∧ j ≤ n1 ∧ badU g j.toNat = false) (fun j => ((n1 : Int) - j).toNat) Q (fun i => of_body B 0 0 (setU g i.toNat) n1 g i) ?_ (Nat.eq_of_beq_eq_true hn) (i0 := 0) ⟨by omega, by omega, rfl⟩ hsame
      intro j hj
      refine ⟨fun hx => ?_, fun hx => ?_⟩
      · have hge : j = n1 := by
          apply Classical.byContradiction; intro h
          have : j < n1 := by omega
          simp [this] at hx
        have e : j.toNat = n1 := by omega
        refine ⟨rfl, _, _, rfl, rfl, ?_⟩
        rw [e, hge]
        exact hq2 (by rw [← e]; exact hj.2.2)
      have hlt : j < n1 := by apply Classical.byContradiction; intro h; simp [h] at hx
      have e1 : (j + 1).toNat = j.toNat + 1 := by omega
      refine ⟨⟨hj.1, hlt⟩, fun hbad => ?_, fun hok => ?_⟩
      · refine ⟨rfl, kOf 0 2 (setU g j.toNat) n1 g j, .nil, rfl, rfl, ?_⟩
        refine hq1 ?_ (setU g j.toNat, j)
        refine badU_mono (k := j.toNat + 1) ?_ (by omega)
        show (badU g j.toNat || (uBit_0 (g j.toNat) == 0)) = true
        cases hz : (uBit_0 (g j.toNat) == 0)
        · rw [hz] at hbad; cases hbad
        · simp
      · rw [IntWalk.i64_in (j + 1) ⟨by omega, by omega⟩]
        refine ⟨rfl, j + 1, ⟨by omega, by omega, ?_⟩, by omega, ?_, rfl⟩
        · rw [e1]
          show (badU g j.toNat || (uBit_0 (g j.toNat) == 0)) = false
          rw [hj.2.2]
          cases hz : (uBit_0 (g j.toNat) == 0)
          · rfl
          · rw [hz] at hok; cases hok
        · rw [e1]; rfl
  · exact hq.elim
noncomputable def ofA (g : Nat → Int) (n : Nat) : Int := bif badU g n then 0 else setU g n
noncomputable def ofE (g : Nat → Int) (n : Nat) : Int := bif badU g n then 2 else 0
theorem of_tree (n : Nat) (g : Nat → Int) : evFn (en [] [ofG n g]) 400 40 (.cons (.rsl false 1 n (rowN g)) .nil) =
    Tree.need ((0 : Int) = 0 ∧ (0 : Int) = 0 ∧ (0 : Int) = 0 ∧ (n = n ∧ rowN g = rowN g) ∧ (n : Int) = (n : Int) ∧ (0 : Int) = 0)
      (Tree.node (badU g n) (Tree.all (Int × Int) fun _ => Tree.leaf (.tup (.cons (.int false .u32 0) (.cons (.int false .i64 2) .nil)))) (Tree.leaf (.tup (.cons (.int false .u32 (setU g n)) (.cons (.int true .i64 0) .nil))))) := by kernel_rfl
theorem of_meets (n : Nat) (g : Nat → Int) (hb : (n : Int) < 4611686018427387904) : Meets P 40 (.cons (.rsl false 1 n (rowN g)) .nil) (.tup (.cons (.int false .u32 (ofA g n)) (.cons (.int false .i64 (ofE g n)) .nil))) := by
  refine meets (E := en [] [ofG n g]) (en_okl (l := []) trivial (ls := [ofG n g]) ⟨ofG_ok n g hb, trivial⟩) 400 (Has.of hn Tryd.func40 rfl) (of_tree n g) ⟨⟨rfl, rfl, rfl, ⟨rfl, rfl⟩, rfl, rfl⟩, fun h => fun _ => ⟨rfl, ?_⟩, fun h => ⟨rfl, ?_⟩⟩
  · unfold ofA ofE; rw [h]; rfl
  · unfold ofA ofE; rw [h]; rfl
noncomputable def c_of : Con := { g := 40, ans := fun x => match x with
  | .cons (.rsl _ 1 n g) .nil => some (.where_ (g = rowN (fun j => ((g j).nth 0).toInt) ∧ (n : Int) < 4611686018427387904) (.tup (.cons (.int false .u32 (ofA (fun j => ((g j).nth 0).toInt) n)) (.cons (.int false .i64 (ofE (fun j => ((g j).nth 0).toInt) n)) .nil))))
  | _ => none }
theorem c_of_ok : c_of.Ok P := by
  intro x
  dsimp only [c_of]
  split
  · rename_i v h
    split at h <;> cases h
  · rename_i p v h
    split at h
    · rename_i st n g
      injection h with h; injection h with h1 h2; subst h1; subst h2
      rintro ⟨hg, hb⟩
      have h := of_meets n (fun j => ((g j).nth 0).toInt) hb
      rw [← hg] at h
      exact Meets.of_soft (args := .cons (.rsl st 1 n g) .nil) (by
        have e : (V.cons (.rsl st 1 n g) .nil).soft = .cons (.rsl false 1 n g) .nil := by
          show V.cons (.rsl false 1 n fun j => (g j).soft) .nil = _
          have : (fun j => (g j).soft) = g := by rw [hg]; rfl
          rw [this]
        rw [e]; exact h)
    · cases h
  · trivial

/-- The document's. -/
noncomputable def addS (s x : Int) : Int := bif !vHas_0 s x then IntKind.wrap .u32 (s + IntKind.wrap .u32 ((1 : Int) * (2 : Int) ^ min (Int.toNat x) (IntKind.bits .u32))) else s
noncomputable def badV (g : Nat → Int) (n : Nat) : Bool := Nat.rec false (fun k r => r || !vCpu_0 (g k)) n
noncomputable def setV (g : Nat → Int) (n : Nat) : Int := Nat.rec 0 (fun k s => addS s (g k)) n
theorem badV_mono {g : Nat → Int} {k n : Nat} (h : badV g k = true) (hkn : k ≤ n) : badV g n = true := by
  induction n with
  | zero => have : k = 0 := by omega
            subst this; exact h
  | succ n ih =>
    show (badV g n || !vCpu_0 (g n)) = true
    by_cases e : k = n + 1
    · subst e; exact h
    · rw [ih (by omega)]; rfl
theorem rofE_ok : (en [c_vCpu, c_vHas]).Ok := en_ok (l := [c_vCpu, c_vHas]) ⟨c_vCpu_ok, c_vHas_ok, trivial⟩
noncomputable def rofG (n : Nat) (g : Nat → Int) : Lp := ⟨41, 3, fun _ s => match vw 0 26 [2,3,4,7,8,9] [] s with
  | (true, .cons (.int _ .u32 a0) (.cons (.bool _ a1) (.cons (.int _ .u32 a2) (.cons (.rsl _ 1 n1 g1) (.cons (.int _ .i64 n2) (.cons (.int _ .i64 i0) .nil))))), .nil) =>
    bif Nat.beq s.n 0 then .need (a0 = 0 ∧ a1 = false ∧ a2 = 0 ∧ (n1 = n ∧ g1 = rowN g) ∧ n2 = n ∧ i0 = 0)
      (.node (badV g n) (.all (Int × Int) fun x => .leaf (.ret, canon 0 26 [2,3,4,7,8,9] [] (kRf 0 false x.1 n g x.2) .nil)) (.leaf (.exit 0, canon 0 26 [2,3,4,7,8,9] [] (kRf 0 false (setV g n) n g n) .nil))) else .stuck
  | _ => .stuck⟩
theorem rofG_ok (n : Nat) (g : Nat → Int) (hb : (n : Int) < 4611686018427387904) : (rofG n g).Ok P := by
  refine lp_ok (by kernel_rfl) fun hin B s Q hq => ?_
  simp only [rofG] at hq hin ⊢
  split at hq
  · rename_i q0 a0 q1 a1 q2 a2 q3 n1 g1 q4 n2 q5 i0 heq
    cases hn : Nat.beq s.n 0
    · rw [hn] at hq; exact hq.elim
    · rw [hn] at hq
      obtain ⟨⟨rfl, rfl, rfl, ⟨rfl, rfl⟩, rfl, rfl⟩, hq1, hq2⟩ := hq
      have hsame : Same 0 26 [2,3,4,7,8,9] [] s (kRf 0 false 0 n1 g 0) .nil := by
        refine ⟨by rw [heq], by rw [heq]; rfl, by rw [heq]⟩
      refine loop_view (k := 400) (f := 41) rofE_ok hin (fun i : Int => kRf 0 false (setV g i.toNat) n1 g i) (fun _ => .nil) (fun j => 0 ≤ j ∧ j ≤ n1 ∧ badV g j.toNat = false) (fun j => ((n1 : Int) - j).toNat) Q (fun i => rof_body B 0 false (setV g i.toNat) n1 g i) ?_ (Nat.eq_of_beq_eq_true hn) (i0 := 0) ⟨by omega, by omega, rfl⟩ hsame
      intro j hj
      refine ⟨fun hx => ?_, fun hx => ?_⟩
      · have hge : j = n1 := by
          apply Classical.byContradiction; intro h
          have : j < n1 := by omega
          simp [this] at hx
        have e : j.toNat = n1 := by omega
        refine ⟨rfl, _, _, rfl, rfl, ?_⟩
        rw [e, hge]
        exact hq2 (by rw [← e]; exact hj.2.2)
      have hlt : j < n1 := by apply Classical.byContradiction; intro h; simp [h] at hx
      have e1 : (j + 1).toNat = j.toNat + 1 := by omega
      have hcpu : (bif !vCpu_0 (g (Int.toNat j)) then true else false) = false → 0 ≤ g (Int.toNat j) := fun h => by
        have hc := cpu_eq (g (Int.toNat j))
        cases hv : vCpu_0 (g (Int.toNat j))
        · rw [hv] at h; cases h
        · rw [hv] at hc; exact (of_decide_eq_true hc.symm).1
      refine ⟨⟨⟨hj.1, hlt⟩, fun h _ => hcpu h⟩, fun hbad => ?_, fun hok => ?_⟩
      · refine ⟨rfl, kRf 0 false (setV g j.toNat) n1 g j, .nil, rfl, rfl, ?_⟩
        refine hq1 ?_ (setV g j.toNat, j)
        refine badV_mono (k := j.toNat + 1) ?_ (by omega)
        show (badV g j.toNat || !vCpu_0 (g j.toNat)) = true
        cases hz : (!vCpu_0 (g j.toNat))
        · rw [hz] at hbad; cases hbad
        · simp
      · rw [IntWalk.i64_in (j + 1) ⟨by omega, by omega⟩]
        refine ⟨rfl, j + 1, ⟨by omega, by omega, ?_⟩, by omega, ?_, rfl⟩
        · rw [e1]
          show (badV g j.toNat || !vCpu_0 (g j.toNat)) = false
          rw [hj.2.2]
          cases hz : (!vCpu_0 (g j.toNat))
          · rfl
          · rw [hz] at hok; cases hok
        · rw [e1]; rfl
  · exact hq.elim
noncomputable def rofA (g : Nat → Int) (n : Nat) : Int := bif badV g n then 0 else setV g n
theorem rof_tree (n : Nat) (g : Nat → Int) : evFn (en [] [rofG n g]) 400 41 (.cons (.rsl false 1 n (rowN g)) .nil) =
    Tree.need ((0 : Int) = 0 ∧ false = false ∧ (0 : Int) = 0 ∧ (n = n ∧ rowN g = rowN g) ∧ (n : Int) = (n : Int) ∧ (0 : Int) = 0)
      (Tree.node (badV g n) (Tree.all (Int × Int) fun _ => Tree.leaf (.tup (.cons (.int false .u32 0) (.cons (.bool false false) .nil)))) (Tree.leaf (.tup (.cons (.int false .u32 (setV g n)) (.cons (.bool true true) .nil))))) := by kernel_rfl
theorem rof_meets (n : Nat) (g : Nat → Int) (hb : (n : Int) < 4611686018427387904) : Meets P 41 (.cons (.rsl false 1 n (rowN g)) .nil) (.tup (.cons (.int false .u32 (rofA g n)) (.cons (.bool false (!badV g n)) .nil))) := by
  refine meets (E := en [] [rofG n g]) (en_okl (l := []) trivial (ls := [rofG n g]) ⟨rofG_ok n g hb, trivial⟩) 400 (Has.of hn Tryd.func41 rfl) (rof_tree n g) ⟨⟨rfl, rfl, rfl, ⟨rfl, rfl⟩, rfl, rfl⟩, fun h => fun _ => ⟨rfl, ?_⟩, fun h => ⟨rfl, ?_⟩⟩
  · unfold rofA; rw [h]; rfl
  · unfold rofA; rw [h]; rfl
noncomputable def c_rof : Con := { g := 41, ans := fun x => match x with
  | .cons (.rsl _ 1 n g) .nil => some (.where_ (g = rowN (fun j => ((g j).nth 0).toInt) ∧ (n : Int) < 4611686018427387904) (.tup (.cons (.int false .u32 (rofA (fun j => ((g j).nth 0).toInt) n)) (.cons (.bool false (!badV (fun j => ((g j).nth 0).toInt) n)) .nil))))
  | _ => none }
theorem c_rof_ok : c_rof.Ok P := by
  intro x
  dsimp only [c_rof]
  split
  · rename_i v h
    split at h <;> cases h
  · rename_i p v h
    split at h
    · rename_i st n g
      injection h with h; injection h with h1 h2; subst h1; subst h2
      rintro ⟨hg, hb⟩
      have h := rof_meets n (fun j => ((g j).nth 0).toInt) hb
      rw [← hg] at h
      exact Meets.of_soft (args := .cons (.rsl st 1 n g) .nil) (by
        have e : (V.cons (.rsl st 1 n g) .nil).soft = .cons (.rsl false 1 n g) .nil := by
          show V.cons (.rsl false 1 n fun j => (g j).soft) .nil = _
          have : (fun j => (g j).soft) = g := by rw [hg]; rfl
          rw [this]
        rw [e]; exact h)
    · cases h
  · trivial
end Go.Proofs.YtpeekgekmjldlaaDoor
