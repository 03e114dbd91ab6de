/- Cpuset: Parse at whatever text: the states of its range over the pieces of a text. Cpuset, Parse's inner loop: a round of the loop, as the evaluator has it. Cpuset: Parse's inner loop: it ends. Cpuset, Parse's pieces: a round of the loop, as the evaluator has it. Cpuset: Parse at whatever text that is no set's: an error. Cpuset: Parse at whatever text, as the evaluator has it. Cpuset: Parse at every text, as a contract. CpusetTexts: the states of its loops. CpusetTexts, the sets: a round of the loop, as the evaluator has it. CpusetTexts, the texts: a round of the loop, as the evaluator has it. CpusetTexts: its loops, and what it answers. -/
import Derived.Test.YtpeekgekmjldlaaDoorCwA
import Derived.Test.YtpeekgekmjldlaaDoorSl
import Derived.Test.YtpeekgekmjldlaaDoorSm
import Derived.Test.YtpeekgekmjldlaaDoorGwAa
import Derived.Test.YtpeekgekmjldlaaDoorCwC
import Derived.Test.YtpeekgekmjldlaaDoorCwB
import Derived.Test.YtpeekgekmjldlaaDoorCcL
namespace Go.Proofs.YtpeekgekmjldlaaDoor
open Go.Fw
set_option maxRecDepth 100000
set_option linter.unusedVariables false
theorem ixb_lt (c : UInt8) : ∀ (l : List UInt8) (i : Int), ixb c l i = -1 ∨ (i ≤ ixb c l i ∧ ixb c l i < i + l.length) := by
  intro l
  induction l with
  | nil => intro i; exact .inl rfl
  | cons b l ih =>
    intro i
    unfold ixb
    cases Nat.beq b.toNat c.toNat
    · rcases ih (i + 1) with h | h
      · exact .inl h
      · refine .inr ?_
        simp only [List.length_cons, cond_false]
        omega
    · refine .inr ?_
      simp only [List.length_cons, cond_true]
      omega
/-- The search for a sign. -/
def c_idx : Con := { g := 111, al := true, ans := fun x => match x with
  | .cons (.str st s) (.cons (.str true [c]) .nil) => some (.sure (.int st .i64 (ixb c s 0)))
  | _ => none }
theorem c_idx_ok : c_idx.Ok P := by
  intro x
  dsimp only [c_idx]
  split
  · rename_i h
    split at h
    · rename_i st s c
      injection h with h; injection h with h; subst h
      refine ⟨Has.of hn Tryd.func111 rfl, fun F w xs _ _ ha => ?_⟩
      simp only [RL, R] at ha
      obtain ⟨_, _, h1, rfl, _, _, rfl, rfl, rfl⟩ := ha
      have hx : xs = #[.string ⟨s.toArray⟩, .string ⟨#[c]⟩] := Array.toList_inj.1 h1
      subst hx
      refine (Tryd.stringslite_Index_one ⟨s.toArray⟩ c w).mono fun e w' he => ?_
      obtain ⟨rfl, rfl⟩ := he
      refine ⟨_, F, rfl, Later.refl F w', ?_⟩
      simp only [R]
      rw [ixb_eq]
      congr 1
      split
      · rename_i h; exact h
      · show _ = 0 + Lib.indexByte s c
        omega
    · cases h
  · rename_i h
    split at h <;> cases h
  · trivial
/-- A piece's first and last number. -/
noncomputable def num_T (r : List UInt8) : Tree V := evFn (en [c_idx, c_atoi]) 400 70 (.cons (.str false r) .nil)
noncomputable def num_V (r : List UInt8) : V := (num_T r).join
noncomputable def numA (r : List UInt8) : Int := ((num_V r).at 0).toInt
noncomputable def numB (r : List UInt8) : Int := ((num_V r).at 1).toInt
def ifcB : V → Bool
  | .ifc _ b => b
  | _ => false
noncomputable def numE (r : List UInt8) : Bool := ifcB ((num_V r).at 2)
theorem num_pre (r : List UInt8) (h : r.length ≤ 1000) : (num_T r).Pre := by
  constructor
  have e : Tree.pre (num_T r) = ((decide (ixb (45 : UInt8) r (0 : Int) ≥ (0 : Int)) = true → ((0 : Int) ≤ ixb (45 : UInt8) r (0 : Int) ∧ ixb (45 : UInt8) r (0 : Int) ≤ (r.length : Int)) ∧ (0 : Int) ≤ IntKind.wrap IntKind.i64 (ixb (45 : UInt8) r (0 : Int) + 1) ∧ IntKind.wrap IntKind.i64 (ixb (45 : UInt8) r (0 : Int) + 1) ≤ (r.length : Int)) ∧
    (((bif decide (ixb (45 : UInt8) r (0 : Int) ≥ (0 : Int)) then true else false) = true → List.length (List.take (Int.toNat (ixb (45 : UInt8) r (0 : Int)) - (0 : Nat)) (List.drop (0 : Nat) r)) ≤ (281474976710656 : Nat) ∧
      (((bif bif false then atoiB (List.take (Int.toNat (ixb (45 : UInt8) r (0 : Int)) - (0 : Nat)) (List.drop (0 : Nat) r)) else !atoiB (List.take (Int.toNat (ixb (45 : UInt8) r (0 : Int)) - (0 : Nat)) (List.drop (0 : Nat) r)) then true else false) = true → True) ∧
       ((bif bif false then atoiB (List.take (Int.toNat (ixb (45 : UInt8) r (0 : Int)) - (0 : Nat)) (List.drop (0 : Nat) r)) else !atoiB (List.take (Int.toNat (ixb (45 : UInt8) r (0 : Int)) - (0 : Nat)) (List.drop (0 : Nat) r)) then true else false) = false →
        List.length (List.take (List.length r - Int.toNat (IntKind.wrap IntKind.i64 (ixb (45 : UInt8) r (0 : Int) + 1))) (List.drop (Int.toNat (IntKind.wrap IntKind.i64 (ixb (45 : UInt8) r (0 : Int) + 1))) r)) ≤ (281474976710656 : Nat) ∧ True))) ∧
     ((bif decide (ixb (45 : UInt8) r (0 : Int) ≥ (0 : Int)) then true else false) = false → List.length r ≤ (281474976710656 : Nat) ∧ True))) := by kernel_rfl
  rw [e]
  have hx := ixb_lt 45 r 0
  generalize ixb 45 r 0 = k at hx
  have hw : k = -1 ∨ IntKind.wrap IntKind.i64 (k + 1) = k + 1 := by
    rcases hx with h1 | h1
    · exact .inl h1
    · exact .inr (IntWalk.i64_in (k + 1) ⟨by omega, by omega⟩)
  refine ⟨fun hk => ?_, fun _ => ⟨?_, fun _ => trivial, fun _ => ⟨?_, trivial⟩⟩, fun _ => ⟨by omega, trivial⟩⟩
  · have hk : k ≥ 0 := by simpa using hk
    have hw : IntKind.wrap IntKind.i64 (k + 1) = k + 1 := by rcases hw with h1 | h1; omega; exact h1
    rw [hw]
    omega
  · exact Nat.le_trans (by rw [List.length_take, List.length_drop]; omega : _ ≤ 1000) (by decide)
  · exact Nat.le_trans (by rw [List.length_take, List.length_drop]; omega : _ ≤ 1000) (by decide)
theorem num_meets (r : List UInt8) (h : r.length ≤ 1000) : Meets P 70 (.cons (.str false r) .nil) (.tup (.cons (.int false .i64 (numA r)) (.cons (.int false .i64 (numB r)) (.cons (.ifc false (numE r)) .nil)))) :=
  meets_tree (T := num_T r) (en_ok (l := [c_idx, c_atoi]) ⟨c_idx_ok, c_atoi_ok, trivial⟩) 400 (Has.of hn Tryd.func70 rfl) (by kernel_rfl) (num_pre r h) (by kernel_rfl) (by kernel_rfl)
noncomputable def c_num : Con := { g := 70, ans := fun x => match x with
  | .cons (.str _ r) .nil => some (.where_ (r.length ≤ 1000) (.tup (.cons (.int false .i64 (numA r)) (.cons (.int false .i64 (numB r)) (.cons (.ifc false (numE r)) .nil)))))
  | _ => none }
theorem c_num_ok : c_num.Ok P := by
  intro x
  dsimp only [c_num]
  split
  · rename_i v h
    split at h <;> cases h
  · rename_i p v h
    split at h
    · rename_i st r
      injection h with h; injection h with h1 h2; subst h1; subst h2
      exact fun hp => Meets.of_soft (args := .cons (.str st r) .nil) (num_meets r hp)
    · cases h
  · trivial
/-- The first range over a function in a piece of code: what it assigns, what it does. -/
def rangeIn : Code → Option (Code × Code)
  | .rangeFunc _ _ a b => some (a, b)
  | .seq a b => match rangeIn a with
    | some x => some x
    | none => rangeIn b
  | .block _ b => rangeIn b
  | .cond _ a b => match rangeIn a with
    | some x => some x
    | none => rangeIn b
  | .loop b => rangeIn b
  | .scope b => rangeIn b
  | _ => none
noncomputable def bodyAt (g : Nat) : Code :=
  match P.funcs[g]? with
  | some fn => match fn.body with
    | some c => c
    | none => .skip
  | none => .skip
noncomputable def pAsg : Code := match rangeIn (bodyAt 37) with | some x => x.1 | none => .skip
noncomputable def pBd : Code := match rangeIn (bodyAt 37) with | some x => x.2 | none => .skip
noncomputable def pRv (st : Nat) (pd : Option Ex) : RV := ⟨37, [17], pAsg, pBd, 59, st, pd⟩
def pRs (t : List UInt8) : V := .cons (.str false t) (.cons (.ptr true 0 0 0 0) (.cons (.ptr true 1 0 0 0) (.cons (.ptr true 2 0 0 0) .nil)))
/-- The variables: both answers, the set; the text that is left, the sign between, 0. -/
def pBs (a e s : Int) (x : List UInt8) : V := .cons (.agg (.cons (.int false .u32 a) .nil)) (.cons (.agg (.cons (.int false .i64 e) .nil)) (.cons (.agg (.cons (.int false .u32 s) .nil))
  (.cons (.agg (.cons (.str false x) .nil)) (.cons (.agg (.cons (.str true [44]) .nil)) (.cons (.agg (.cons (.int true .i64 0) .nil)) .nil)))))
/-- The temporaries of the function that goes through the pieces. -/
def pTs : V := .cons (.yld 6) (.cons (.ptr true 4 0 0 0) (.cons (.ptr true 3 0 0 0) (.cons (.ptr true 5 0 0 0) .nil)))
/-- Those of a round's inner loop. -/
def qTs (l n : Int) : V := .cons (.ptr true 2 0 0 0) (.cons (.int false .i64 l) (.cons (.int false .i64 n) .nil))
noncomputable abbrev pCan {B : Base} (t : List UInt8) (st : Nat) (pd : Option Ex) (a e s : Int) (x : List UInt8) : St B := canonY 7 52 [0,1,2,3] [0,1,2,3,4,5] 6 [0,2,3,4] pTs (pBs a e s x) (pRv st pd) (pRs t)
noncomputable abbrev qCan {B : Base} (t : List UInt8) (pd : Option Ex) (a e s : Int) (x : List UInt8) (l n : Int) : St B := canonY 7 59 [4,7,9] [0,1,2,3,4,5] 6 [0,2,3,4] (qTs l n) (pBs a e s x) (pRv 1 pd) (pRs t)
/-- The inner loop: whatever set comes of it. -/
noncomputable def lpIn : Lp := ⟨37, 10, fun _ s => match vwY 7 59 [4,7,9] [0,1,2,3,4,5] 6 [0,2,3,4] s with
  | (true, .cons (.ptr _ 2 0 0 0) (.cons (.int _ .i64 l) (.cons (.int _ .i64 n) .nil)),
      .cons (.agg (.cons (.int _ .u32 a) .nil)) (.cons (.agg (.cons (.int _ .i64 e) .nil)) (.cons (.agg (.cons (.int _ .u32 st) .nil)) (.cons (.agg (.cons (.str _ x) .nil)) (.cons (.agg (.cons (.str _ sep) .nil)) (.cons (.agg (.cons (.int _ .i64 z) .nil)) .nil))))),
      some rv, .cons (.str _ t) (.cons (.ptr _ 0 0 0 0) (.cons (.ptr _ 1 0 0 0) (.cons (.ptr _ 2 0 0 0) .nil)))) =>
    bif Nat.beq s.n 7 then .need ((rv = pRv 1 rv.pend ∧ sep = [44] ∧ z = 0) ∧ 0 ≤ n ∧ n ≤ 8 ∧ l ≤ 7 ∧ 0 ≤ st ∧ st < 4294967296) (.all Int fun s' => .all Int fun n' => .given (0 ≤ s' ∧ s' < 4294967296) (.leaf (.exit 2, qCan t rv.pend a e s' x l n'))) else .stuck
  | _ => .stuck⟩
end Go.Proofs.YtpeekgekmjldlaaDoor
namespace Go.Proofs.YtpeekgekmjldlaaDoor
open Go.Fw
set_option maxRecDepth 100000
set_option linter.unusedVariables false
theorem pIn_body (B : Base) (t : List UInt8) (pd : Option Ex) (a e s : Int) (x : List UInt8) (l n : Int) : ((ev (en [c_idx, c_num, c_text] []) 400 37 (loopAt P 37 10) B (qCan t pd a e s x l n)).bind fun x => Tree.leaf (x.1, vwY 7 59 [4,7,9] [0,1,2,3,4,5] 6 [0,2,3,4] x.2)) =
    Tree.node (bif decide (n ≤ l) then false else true) (Tree.leaf (Ex.exit (2 : Nat), true, V.cons (V.ptr true (2 : Nat) (0 : Nat) (0 : Nat) (0 : Nat)) (V.cons (V.int false
    IntKind.i64 l) (V.cons (V.int false IntKind.i64 n) V.nil)), V.cons (V.agg (V.cons (V.int false IntKind.u32 a) V.nil)) (V.cons (V.agg (V.cons (V.int false IntKind.i64 e) V.nil))
    (V.cons (V.agg (V.cons (V.int false IntKind.u32 s) V.nil)) (V.cons (V.agg (V.cons (V.str false x) V.nil)) (V.cons (V.agg (V.cons (V.str true [(44 : UInt8)]) V.nil)) (V.cons
    (V.agg (V.cons (V.int true IntKind.i64 (0 : Int)) V.nil)) V.nil))))), some (RV.mk (37 : FuncId) [(17 : Nat)] pAsg pBd (59 : Nat) (1 : Nat) pd), V.cons (V.str false t) (V.cons
    (V.ptr true (0 : Nat) (0 : Nat) (0 : Nat) (0 : Nat)) (V.cons (V.ptr true (1 : Nat) (0 : Nat) (0 : Nat) (0 : Nat)) (V.cons (V.ptr true (2 : Nat) (0 : Nat) (0 : Nat) (0 : Nat))
    V.nil))))) (Tree.need ((bif bif decide (n < (0 : Int)) then true else decide (n ≥ (8 : Int)) then true else false) = false → (0 : Int) ≤ n) (Tree.leaf (Ex.normal, true, V.cons
    (V.ptr true (2 : Nat) (0 : Nat) (0 : Nat) (0 : Nat)) (V.cons (V.int false IntKind.i64 l) (V.cons (V.int false IntKind.i64 (IntKind.wrap IntKind.i64 (n + (1 : Int)))) V.nil)),
    V.cons (V.agg (V.cons (V.int false IntKind.u32 a) V.nil)) (V.cons (V.agg (V.cons (V.int false IntKind.i64 e) V.nil)) (V.cons (V.agg (V.cons (V.int false IntKind.u32 (bif bif
    bif decide (n < (0 : Int)) then true else decide (n ≥ (8 : Int)) then true else false then IntKind.wrap IntKind.u32 ((BitVec.toNat (BitVec.ofInt (IntKind.bits IntKind.u32) s
    ||| BitVec.ofInt (IntKind.bits IntKind.u32) (0 : Int)) : Nat) : Int) else IntKind.wrap IntKind.u32 ((BitVec.toNat (BitVec.ofInt (IntKind.bits IntKind.u32) s ||| BitVec.ofInt
    (IntKind.bits IntKind.u32) (IntKind.wrap IntKind.u32 ((1 : Int) * (2 : Int) ^ min (Int.toNat n) (IntKind.bits IntKind.u32)))) : Nat) : Int))) V.nil)) (V.cons (V.agg (V.cons
    (V.str false x) V.nil)) (V.cons (V.agg (V.cons (V.str true [(44 : UInt8)]) V.nil)) (V.cons (V.agg (V.cons (V.int true IntKind.i64 (0 : Int)) V.nil)) V.nil))))), some (RV.mk (37
    : FuncId) [(17 : Nat)] pAsg pBd (59 : Nat) (1 : Nat) pd), V.cons (V.str false t) (V.cons (V.ptr true (0 : Nat) (0 : Nat) (0 : Nat) (0 : Nat)) (V.cons (V.ptr true (1 : Nat) (0 :
    Nat) (0 : Nat) (0 : Nat)) (V.cons (V.ptr true (2 : Nat) (0 : Nat) (0 : Nat) (0 : Nat)) V.nil)))))) := by kernel_rfl
end Go.Proofs.YtpeekgekmjldlaaDoor
namespace Go.Proofs.YtpeekgekmjldlaaDoor
open Go.Fw
set_option maxRecDepth 100000
theorem u32_in (x : Int) : 0 ≤ IntKind.wrap .u32 x ∧ IntKind.wrap .u32 x < 4294967296 := by
  have h : IntKind.wrap .u32 x = x % 4294967296 := by unfold IntKind.wrap; simp [IntKind.signed, IntKind.bits]
  rw [h]; omega
theorem parseE_ok : (en [c_idx, c_num, c_text] []).Ok := en_okl (l := [c_idx, c_num, c_text]) ⟨c_idx_ok, c_num_ok, c_text_ok, trivial⟩ (ls := []) trivial
theorem lpIn_ok : lpIn.Ok P := by
  refine lp_ok (by kernel_rfl) fun hin B s Q hq => ?_
  simp only [lpIn] at hq hin ⊢
  split at hq
  · rename_i q0 q1 l q2 n q3 a q4 e q5 st q6 x q7 sep q8 z rv q9 t q10 q11 q12 heq
    cases hn : Nat.beq s.n 7
    · rw [hn] at hq; exact hq.elim
    · rw [hn] at hq
      obtain ⟨⟨⟨hrv, rfl, rfl⟩, hn0, hn8, hl7, hs0, hs1⟩, hq⟩ := hq
      have hsame : SameY 7 59 [4,7,9] [0,1,2,3,4,5] 6 [0,2,3,4] s (qTs l n) (pBs a e st x) (pRv 1 rv.pend) (pRs t) := by
        refine ⟨by rw [heq], by rw [heq]; rfl, by rw [heq]; rfl, by rw [heq]; exact congrArg some hrv, by rw [heq]; rfl⟩
      generalize rv.pend = pd at hq hsame
      refine loop_viewY (k := 400) (f := 37) parseE_ok hin (fun i : Int × Int => qTs l i.2) (fun i => pBs a e i.1 x) (fun _ => pRv 1 pd) (fun _ => pRs t) (fun i => (0 ≤ i.1 ∧ i.1 < 4294967296) ∧ 0 ≤ i.2 ∧ i.2 ≤ 8) (fun i => (9 - i.2).toNat) Q
        (fun i => pIn_body B t pd a e i.1 x l i.2) ?_ (Nat.eq_of_beq_eq_true hn) (i0 := (st, n)) ⟨⟨hs0, hs1⟩, hn0, hn8⟩ hsame
      rintro ⟨s', n'⟩ ⟨hs', hn0', hn8'⟩
      refine ⟨fun _ => ⟨rfl, _, _, _, _, rfl, rfl, rfl, rfl, hq s' n' hs'⟩, fun hx => ⟨fun _ => hn0', ?_⟩⟩
      have hle : n' ≤ l := by
        apply Classical.byContradiction; intro h; simp [h] at hx
      have hw := IntWalk.i64_in (n' + 1) ⟨by omega, by omega⟩
      refine ⟨rfl, (_, n' + 1), ⟨?_, by omega, by omega⟩, by show (9 - (n' + 1)).toNat < (9 - n').toNat; omega, ?_, rfl, rfl, rfl⟩
      · dsimp only
        generalize (bif bif decide (n' < (0 : Int)) then true else decide (n' ≥ (8 : Int)) then true else false) = c
        cases c <;> exact u32_in _
      · rw [hw]; rfl
  · exact hq.elim
theorem parseE1_ok : (en [c_idx, c_num, c_text] [lpIn]).Ok := en_okl (l := [c_idx, c_num, c_text]) ⟨c_idx_ok, c_num_ok, c_text_ok, trivial⟩ (ls := [lpIn]) ⟨lpIn_ok, trivial⟩
end Go.Proofs.YtpeekgekmjldlaaDoor
namespace Go.Proofs.YtpeekgekmjldlaaDoor
open Go.Fw
set_option maxRecDepth 100000
set_option linter.unusedVariables false
theorem pSp_body (B : Base) (t : List UInt8) (pd : Option Ex) (a e s : Int) (y : List UInt8) : ((ev (en [c_idx, c_num, c_text] [lpIn]) 400 100 (loopAt P 100 5) B (pCan t 0 pd a e s y)).bind fun x => Tree.leaf (x.1, vwY 7 52 [0,1,2,3] [0,1,2,3,4,5] 6 [0,2,3,4] x.2)) =
    Tree.node (bif decide (ixb (44 : UInt8) y (0 : Int) < (0 : Int)) then true else false) (Tree.leaf (Ex.exit (2 : Nat), true, V.cons (V.yld (6 : Nat)) (V.cons (V.ptr true (4 :
    Nat) (0 : Nat) (0 : Nat) (0 : Nat)) (V.cons (V.ptr true (3 : Nat) (0 : Nat) (0 : Nat) (0 : Nat)) (V.cons (V.ptr true (5 : Nat) (0 : Nat) (0 : Nat) (0 : Nat)) V.nil))), V.cons
    (V.agg (V.cons (V.int false IntKind.u32 a) V.nil)) (V.cons (V.agg (V.cons (V.int false IntKind.i64 e) V.nil)) (V.cons (V.agg (V.cons (V.int false IntKind.u32 s) V.nil)) (V.cons
    (V.agg (V.cons (V.str false y) V.nil)) (V.cons (V.agg (V.cons (V.str true [(44 : UInt8)]) V.nil)) (V.cons (V.agg (V.cons (V.int true IntKind.i64 (0 : Int)) V.nil)) V.nil))))),
    some (RV.mk (37 : FuncId) [(17 : Nat)] pAsg pBd (59 : Nat) (0 : Nat) pd), V.cons (V.str false t) (V.cons (V.ptr true (0 : Nat) (0 : Nat) (0 : Nat) (0 : Nat)) (V.cons (V.ptr
    true (1 : Nat) (0 : Nat) (0 : Nat) (0 : Nat)) (V.cons (V.ptr true (2 : Nat) (0 : Nat) (0 : Nat) (0 : Nat)) V.nil))))) (Tree.need ((0 : Int) ≤ IntKind.wrap IntKind.i64 (ixb (44
    : UInt8) y (0 : Int) + (0 : Int)) ∧ IntKind.wrap IntKind.i64 (ixb (44 : UInt8) y (0 : Int) + (0 : Int)) ≤ ((List.length y : Nat) : Int)) (Tree.need (∀ (c : Code), c ∈ loopsOf
    pAsg ++ loopsOf pBd → ∀ (g : (B : Base) → St B → Tree (Ex × St B)), loopOf (en [c_idx, c_num, c_text] [lpIn]) (37 : FuncId) c = some g → InFn P (37 : FuncId) c) (Tree.need
    (List.length (List.take (Int.toNat (IntKind.wrap IntKind.i64 (ixb (44 : UInt8) y (0 : Int) + (0 : Int))) - (0 : Nat)) (List.drop (0 : Nat) y)) ≤ (1000 : Nat)) (Tree.need ((bif
    false then numE (List.take (Int.toNat (IntKind.wrap IntKind.i64 (ixb (44 : UInt8) y (0 : Int) + (0 : Int))) - (0 : Nat)) (List.drop (0 : Nat) y)) else !numE (List.take
    (Int.toNat (IntKind.wrap IntKind.i64 (ixb (44 : UInt8) y (0 : Int) + (0 : Int))) - (0 : Nat)) (List.drop (0 : Nat) y))) = false → (bif bif decide (numA (List.take (Int.toNat
    (IntKind.wrap IntKind.i64 (ixb (44 : UInt8) y (0 : Int) + (0 : Int))) - (0 : Nat)) (List.drop (0 : Nat) y)) < (0 : Int)) then true else decide (numA (List.take (Int.toNat
    (IntKind.wrap IntKind.i64 (ixb (44 : UInt8) y (0 : Int) + (0 : Int))) - (0 : Nat)) (List.drop (0 : Nat) y)) ≥ (8 : Int)) then true else false) = false → (0 : Int) ≤ numA
    (List.take (Int.toNat (IntKind.wrap IntKind.i64 (ixb (44 : UInt8) y (0 : Int) + (0 : Int))) - (0 : Nat)) (List.drop (0 : Nat) y)) ∧ ((IntKind.wrap IntKind.u32 ((1 : Int) * (2 :
    Int) ^ min (Int.toNat (numA (List.take (Int.toNat (IntKind.wrap IntKind.i64 (ixb (44 : UInt8) y (0 : Int) + (0 : Int))) - (0 : Nat)) (List.drop (0 : Nat) y)))) (IntKind.bits
    IntKind.u32)) == (0 : Int)) = false → (bif bif decide (numB (List.take (Int.toNat (IntKind.wrap IntKind.i64 (ixb (44 : UInt8) y (0 : Int) + (0 : Int))) - (0 : Nat)) (List.drop
    (0 : Nat) y)) < (0 : Int)) then true else decide (numB (List.take (Int.toNat (IntKind.wrap IntKind.i64 (ixb (44 : UInt8) y (0 : Int) + (0 : Int))) - (0 : Nat)) (List.drop (0 :
    Nat) y)) ≥ (8 : Int)) then true else false) = false → (0 : Int) ≤ numB (List.take (Int.toNat (IntKind.wrap IntKind.i64 (ixb (44 : UInt8) y (0 : Int) + (0 : Int))) - (0 : Nat))
    (List.drop (0 : Nat) y)))) (Tree.node (bif bif bif false then numE (List.take (Int.toNat (IntKind.wrap IntKind.i64 (ixb (44 : UInt8) y (0 : Int) + (0 : Int))) - (0 : Nat))
    (List.drop (0 : Nat) y)) else !numE (List.take (Int.toNat (IntKind.wrap IntKind.i64 (ixb (44 : UInt8) y (0 : Int) + (0 : Int))) - (0 : Nat)) (List.drop (0 : Nat) y)) then true
    else bif bif bif decide (numA (List.take (Int.toNat (IntKind.wrap IntKind.i64 (ixb (44 : UInt8) y (0 : Int) + (0 : Int))) - (0 : Nat)) (List.drop (0 : Nat) y)) < (0 : Int))
    then true else decide (numA (List.take (Int.toNat (IntKind.wrap IntKind.i64 (ixb (44 : UInt8) y (0 : Int) + (0 : Int))) - (0 : Nat)) (List.drop (0 : Nat) y)) ≥ (8 : Int)) then
    true else false then true else bif IntKind.wrap IntKind.u32 ((1 : Int) * (2 : Int) ^ min (Int.toNat (numA (List.take (Int.toNat (IntKind.wrap IntKind.i64 (ixb (44 : UInt8) y (0
    : Int) + (0 : Int))) - (0 : Nat)) (List.drop (0 : Nat) y)))) (IntKind.bits IntKind.u32)) == (0 : Int) then true else bif bif bif decide (numB (List.take (Int.toNat
    (IntKind.wrap IntKind.i64 (ixb (44 : UInt8) y (0 : Int) + (0 : Int))) - (0 : Nat)) (List.drop (0 : Nat) y)) < (0 : Int)) then true else decide (numB (List.take (Int.toNat
    (IntKind.wrap IntKind.i64 (ixb (44 : UInt8) y (0 : Int) + (0 : Int))) - (0 : Nat)) (List.drop (0 : Nat) y)) ≥ (8 : Int)) then true else false then true else IntKind.wrap
    IntKind.u32 ((1 : Int) * (2 : Int) ^ min (Int.toNat (numB (List.take (Int.toNat (IntKind.wrap IntKind.i64 (ixb (44 : UInt8) y (0 : Int) + (0 : Int))) - (0 : Nat)) (List.drop (0
    : Nat) y)))) (IntKind.bits IntKind.u32)) == (0 : Int) then true else false) (Tree.leaf (Ex.ret, true, V.cons (V.yld (6 : Nat)) (V.cons (V.ptr true (4 : Nat) (0 : Nat) (0 : Nat)
    (0 : Nat)) (V.cons (V.ptr true (3 : Nat) (0 : Nat) (0 : Nat) (0 : Nat)) (V.cons (V.ptr true (5 : Nat) (0 : Nat) (0 : Nat) (0 : Nat)) V.nil))), V.cons (V.agg (V.cons (V.int true
    IntKind.u32 (0 : Int)) V.nil)) (V.cons (V.agg (V.cons (V.int true IntKind.i64 (2 : Int)) V.nil)) (V.cons (V.agg (V.cons (V.int false IntKind.u32 s) V.nil)) (V.cons (V.agg
    (V.cons (V.str false y) V.nil)) (V.cons (V.agg (V.cons (V.str true [(44 : UInt8)]) V.nil)) (V.cons (V.agg (V.cons (V.int true IntKind.i64 (0 : Int)) V.nil)) V.nil))))), some
    (RV.mk (37 : FuncId) [(17 : Nat)] pAsg pBd (59 : Nat) (bif Ex.isNormal Ex.ret then (0 : Nat) else (2 : Nat)) (some Ex.ret)), V.cons (V.str false t) (V.cons (V.ptr true (0 :
    Nat) (0 : Nat) (0 : Nat) (0 : Nat)) (V.cons (V.ptr true (1 : Nat) (0 : Nat) (0 : Nat) (0 : Nat)) (V.cons (V.ptr true (2 : Nat) (0 : Nat) (0 : Nat) (0 : Nat)) V.nil)))))
    (Tree.need ((RV.mk (37 : FuncId) [(17 : Nat)] pAsg pBd (59 : Nat) (1 : Nat) pd = pRv (1 : Nat) pd ∧ [(44 : UInt8)] = [(44 : UInt8)] ∧ (0 : Int) = (0 : Int)) ∧ (0 : Int) ≤ numA
    (List.take (Int.toNat (IntKind.wrap IntKind.i64 (ixb (44 : UInt8) y (0 : Int) + (0 : Int))) - (0 : Nat)) (List.drop (0 : Nat) y)) ∧ numA (List.take (Int.toNat (IntKind.wrap
    IntKind.i64 (ixb (44 : UInt8) y (0 : Int) + (0 : Int))) - (0 : Nat)) (List.drop (0 : Nat) y)) ≤ (8 : Int) ∧ numB (List.take (Int.toNat (IntKind.wrap IntKind.i64 (ixb (44 :
    UInt8) y (0 : Int) + (0 : Int))) - (0 : Nat)) (List.drop (0 : Nat) y)) ≤ (7 : Int) ∧ (0 : Int) ≤ s ∧ s < (4294967296 : Int)) (Tree.all Int fun x => Tree.all Int fun x_1 =>
    Tree.given ((0 : Int) ≤ x ∧ x < (4294967296 : Int)) (Tree.need ((0 : Int) ≤ IntKind.wrap IntKind.i64 (ixb (44 : UInt8) y (0 : Int) + Int.ofNat (nat_lit 0 + (1 : Nat))) ∧
    IntKind.wrap IntKind.i64 (ixb (44 : UInt8) y (0 : Int) + Int.ofNat (nat_lit 0 + (1 : Nat))) ≤ ((List.length y : Nat) : Int)) (Tree.leaf (Ex.normal, true, V.cons (V.yld (6 :
    Nat)) (V.cons (V.ptr true (4 : Nat) (0 : Nat) (0 : Nat) (0 : Nat)) (V.cons (V.ptr true (3 : Nat) (0 : Nat) (0 : Nat) (0 : Nat)) (V.cons (V.ptr true (5 : Nat) (0 : Nat) (0 :
    Nat) (0 : Nat)) V.nil))), V.cons (V.agg (V.cons (V.int false IntKind.u32 a) V.nil)) (V.cons (V.agg (V.cons (V.int false IntKind.i64 e) V.nil)) (V.cons (V.agg (V.cons (V.int
    false IntKind.u32 x) V.nil)) (V.cons (V.agg (V.cons (V.str false (List.take (List.length y - Int.toNat (IntKind.wrap IntKind.i64 (ixb (44 : UInt8) y (0 : Int) + Int.ofNat
    (nat_lit 0 + (1 : Nat))))) (List.drop (Int.toNat (IntKind.wrap IntKind.i64 (ixb (44 : UInt8) y (0 : Int) + Int.ofNat (nat_lit 0 + (1 : Nat))))) y))) V.nil)) (V.cons (V.agg
    (V.cons (V.str true [(44 : UInt8)]) V.nil)) (V.cons (V.agg (V.cons (V.int true IntKind.i64 (0 : Int)) V.nil)) V.nil))))), some (RV.mk (37 : FuncId) [(17 : Nat)] pAsg pBd (59 :
    Nat) (bif Ex.isNormal Ex.normal then (0 : Nat) else (2 : Nat)) (some Ex.normal)), V.cons (V.str false t) (V.cons (V.ptr true (0 : Nat) (0 : Nat) (0 : Nat) (0 : Nat)) (V.cons
    (V.ptr true (1 : Nat) (0 : Nat) (0 : Nat) (0 : Nat)) (V.cons (V.ptr true (2 : Nat) (0 : Nat) (0 : Nat) (0 : Nat)) V.nil))))))))))))) := by kernel_rfl
end Go.Proofs.YtpeekgekmjldlaaDoor
namespace Go.Proofs.YtpeekgekmjldlaaDoor
open Go.Fw
set_option maxRecDepth 100000
set_option linter.unusedVariables false
/-- The pieces: each is one of two ends. -/
noncomputable def lpSp : Lp := ⟨100, 5, fun _ s => match vwY 7 52 [0,1,2,3] [0,1,2,3,4,5] 6 [0,2,3,4] s with
  | (true, .cons (.yld 6) (.cons (.ptr _ 4 0 0 0) (.cons (.ptr _ 3 0 0 0) (.cons (.ptr _ 5 0 0 0) .nil))),
      .cons (.agg (.cons (.int _ .u32 a) .nil)) (.cons (.agg (.cons (.int _ .i64 e) .nil)) (.cons (.agg (.cons (.int _ .u32 st) .nil)) (.cons (.agg (.cons (.str _ x) .nil)) (.cons (.agg (.cons (.str _ sep) .nil)) (.cons (.agg (.cons (.int _ .i64 z) .nil)) .nil))))),
      some rv, .cons (.str _ t) (.cons (.ptr _ 0 0 0 0) (.cons (.ptr _ 1 0 0 0) (.cons (.ptr _ 2 0 0 0) .nil)))) =>
    bif Nat.beq s.n 7 then .need ((rv = pRv 0 rv.pend ∧ sep = [44] ∧ z = 0) ∧ x.length ≤ 1000 ∧ 0 ≤ st ∧ st < 4294967296) (.all (List UInt8) fun y => .given (y.length ≤ 1000) (.all Int fun s' => .given (0 ≤ s' ∧ s' < 4294967296) (.all (Option Ex) fun pd => .all Bool fun c =>
      .node c (.leaf (.exit 2, pCan t 0 pd a e s' y)) (.leaf (.ret, pCan t 2 (some .ret) 0 2 s' y))))) else .stuck
  | _ => .stuck⟩
theorem c8 {v : Int} (h : (bif bif decide (v < (0 : Int)) then true else decide (v ≥ (8 : Int)) then true else false) = false) : 0 ≤ v ∧ v < 8 := by
  by_cases h1 : v < 0
  · simp [h1] at h
  · by_cases h2 : v ≥ 8
    · simp [h1, h2] at h
    · omega
theorem cond5 {e c1 b1 c2 b2 : Bool} (h : (bif bif bif false then e else !e then true else bif c1 then true else bif b1 then true else bif c2 then true else b2 then true else false) = false) : c1 = false ∧ c2 = false := by
  cases e <;> cases c1 <;> cases b1 <;> cases c2 <;> cases b2 <;> first | exact ⟨rfl, rfl⟩ | cases h
theorem in37 : ∀ c ∈ loopsOf pAsg ++ loopsOf pBd, InFn P 37 c := by
  intro c hc
  have e : loopsOf pAsg ++ loopsOf pBd = loopsAll (bodyAt 37) := by kernel_rfl
  rw [e] at hc
  exact ⟨Tryd.f37, bodyAt 37, Tryd.func37, by kernel_rfl, hc⟩
theorem lpSp_ok : lpSp.Ok P := by
  refine lp_ok (by kernel_rfl) fun hin B s Q hq => ?_
  simp only [lpSp] at hq hin ⊢
  split at hq
  · rename_i q0 q1 q2 q3 a q4 e q5 st q6 x q7 sep q8 z rv q9 t q10 q11 q12 heq
    cases hn : Nat.beq s.n 7
    · rw [hn] at hq; exact hq.elim
    · rw [hn] at hq
      obtain ⟨⟨⟨hrv, rfl, rfl⟩, hlen, hs0, hs1⟩, hq⟩ := hq
      have hsame : SameY 7 52 [0,1,2,3] [0,1,2,3,4,5] 6 [0,2,3,4] s pTs (pBs a e st x) (pRv 0 rv.pend) (pRs t) := by
        refine ⟨by rw [heq], by rw [heq]; rfl, by rw [heq]; rfl, by rw [heq]; exact congrArg some hrv, by rw [heq]; rfl⟩
      generalize rv.pend = pd at hsame
      refine loop_viewY (k := 400) (f := 100) parseE1_ok hin (fun _ : (List UInt8 × Int) × Option Ex => pTs) (fun i => pBs a e i.1.2 i.1.1) (fun i => pRv 0 i.2) (fun _ => pRs t) (fun i => i.1.1.length ≤ 1000 ∧ 0 ≤ i.1.2 ∧ i.1.2 < 4294967296) (fun i => i.1.1.length) Q
        (fun i => pSp_body B t i.2 a e i.1.2 i.1.1) ?_ (Nat.eq_of_beq_eq_true hn) (i0 := ((x, st), pd)) ⟨hlen, hs0, hs1⟩ hsame
      rintro ⟨⟨y, s'⟩, pd'⟩ ⟨hl, h0, h1⟩
      dsimp only at hl h0 h1 ⊢
      have hx := ixb_lt 44 y 0
      generalize ixb 44 y 0 = k at hx
      have hq1 := hq y hl s' ⟨h0, h1⟩ pd'
      refine ⟨fun hc => ⟨rfl, _, _, _, _, rfl, rfl, rfl, rfl, (hq1 true).1 rfl⟩, fun hc => ?_⟩
      have hk : ¬ k < 0 := fun h => by rw [decide_eq_true h] at hc; cases hc
      have hw0 : IntKind.wrap IntKind.i64 (k + 0) = k := by rw [Int.add_zero]; exact IntWalk.i64_in k ⟨by omega, by omega⟩
      have hw1 : IntKind.wrap IntKind.i64 (k + Int.ofNat (nat_lit 0 + (1 : Nat))) = k + 1 := IntWalk.i64_in (k + 1) ⟨by omega, by omega⟩
      rw [hw0, hw1]
      generalize hr : List.take (Int.toNat k - (0 : Nat)) (List.drop (0 : Nat) y) = r
      have hrl : r.length ≤ 1000 := by rw [← hr, List.length_take, List.length_drop]; omega
      generalize numA r = fa
      generalize numB r = fb
      generalize numE r = fe
      refine ⟨⟨by omega, by omega⟩, fun c hc _ _ => in37 c hc, hrl, fun _ => ?_, fun _ => ⟨rfl, pTs, pBs 0 2 s' y, pRv 2 (some .ret), pRs t, rfl, rfl, rfl, rfl, (hq1 false).2 rfl⟩, fun hc2 => ?_⟩
      · exact fun ha => ⟨(c8 ha).1, fun _ hb => (c8 hb).1⟩
      · obtain ⟨ha, hb⟩ := cond5 hc2
        have ha := c8 ha
        have hb := c8 hb
        refine ⟨⟨⟨rfl, rfl, rfl⟩, ha.1, by omega, by omega, h0, h1⟩, fun s2 n2 hs2 => ⟨by omega, ?_⟩⟩
        refine ⟨rfl, ((List.take (List.length y - Int.toNat (k + 1)) (List.drop (Int.toNat (k + 1)) y), s2), some .normal), ⟨?_, hs2⟩, ?_, rfl, rfl, rfl, rfl⟩
        · dsimp only; rw [List.length_take, List.length_drop]; omega
        · dsimp only; rw [List.length_take, List.length_drop]; omega
  · exact hq.elim
end Go.Proofs.YtpeekgekmjldlaaDoor
namespace Go.Proofs.YtpeekgekmjldlaaDoor
open Go.Fw
set_option maxRecDepth 100000
set_option linter.unusedVariables false
theorem parse_tree (r : List UInt8) : evFn (en [c_idx, c_num, c_text] [lpIn, lpSp]) 400 37 (.cons (.str false r) .nil) =
    Tree.node (bif r == [(110 : UInt8), (111 : UInt8), (110 : UInt8), (101 : UInt8)] then true else false) (Tree.leaf (V.tup (V.cons (V.int true IntKind.u32 (0 : Int)) (V.cons
    (V.int true IntKind.i64 (0 : Int)) V.nil)))) (Tree.need ((pRv (0 : Nat) none = pRv (0 : Nat) none ∧ [(44 : UInt8)] = [(44 : UInt8)] ∧ (0 : Int) = (0 : Int)) ∧ List.length r ≤
    (1000 : Nat) ∧ (0 : Int) ≤ (0 : Int) ∧ (0 : Int) < (4294967296 : Int)) (Tree.all (List UInt8) fun x => Tree.given (List.length x ≤ (1000 : Nat)) (Tree.all Int fun x_1 =>
    Tree.given ((0 : Int) ≤ x_1 ∧ x_1 < (4294967296 : Int)) (Tree.all (Option Ex) fun x_2 => Tree.all Bool fun x_3 => Tree.node x_3 (Tree.need (∀ (c : Code), c ∈ loopsOf pAsg ++
    loopsOf pBd → ∀ (g : (B : Base) → St B → Tree (Ex × St B)), loopOf (en [c_idx, c_num, c_text] [lpIn, lpSp]) (37 : FuncId) c = some g → InFn P (37 : FuncId) c) (Tree.need
    (List.length x ≤ (1000 : Nat)) (Tree.need ((bif false then numE x else !numE x) = false → (bif bif decide (numA x < (0 : Int)) then true else decide (numA x ≥ (8 : Int)) then
    true else false) = false → (0 : Int) ≤ numA x ∧ ((IntKind.wrap IntKind.u32 ((1 : Int) * (2 : Int) ^ min (Int.toNat (numA x)) (IntKind.bits IntKind.u32)) == (0 : Int)) = false →
    (bif bif decide (numB x < (0 : Int)) then true else decide (numB x ≥ (8 : Int)) then true else false) = false → (0 : Int) ≤ numB x)) (Tree.node (bif bif bif false then numE x
    else !numE x then true else bif bif bif decide (numA x < (0 : Int)) then true else decide (numA x ≥ (8 : Int)) then true else false then true else bif IntKind.wrap IntKind.u32
    ((1 : Int) * (2 : Int) ^ min (Int.toNat (numA x)) (IntKind.bits IntKind.u32)) == (0 : Int) then true else bif bif bif decide (numB x < (0 : Int)) then true else decide (numB x
    ≥ (8 : Int)) then true else false then true else IntKind.wrap IntKind.u32 ((1 : Int) * (2 : Int) ^ min (Int.toNat (numB x)) (IntKind.bits IntKind.u32)) == (0 : Int) then true
    else false) (Tree.leaf (V.tup (V.cons (V.int true IntKind.u32 (0 : Int)) (V.cons (V.int true IntKind.i64 (2 : Int)) V.nil)))) (Tree.need ((RV.mk (37 : FuncId) [(17 : Nat)] pAsg
    pBd (59 : Nat) (1 : Nat) x_2 = pRv (1 : Nat) x_2 ∧ [(44 : UInt8)] = [(44 : UInt8)] ∧ (0 : Int) = (0 : Int)) ∧ (0 : Int) ≤ numA x ∧ numA x ≤ (8 : Int) ∧ numB x ≤ (7 : Int) ∧ (0
    : Int) ≤ x_1 ∧ x_1 < (4294967296 : Int)) (Tree.all Int fun x => Tree.all Int fun x_4 => Tree.given ((0 : Int) ≤ x ∧ x < (4294967296 : Int)) (Tree.need ((0 : Int) ≤ x ∧ x <
    (4294967296 : Int)) (Tree.node (bif bif textE x != (0 : Int) then true else !textS x == r then true else false) (Tree.leaf (V.tup (V.cons (V.int true IntKind.u32 (0 : Int))
    (V.cons (V.int true IntKind.i64 (2 : Int)) V.nil)))) (Tree.leaf (V.tup (V.cons (V.int false IntKind.u32 x) (V.cons (V.int true IntKind.i64 (0 : Int)) V.nil))))))))))))
    (Tree.leaf (V.tup (V.cons (V.int false IntKind.u32 (0 : Int)) (V.cons (V.int false IntKind.i64 (2 : Int)) V.nil)))))))) := by kernel_rfl
end Go.Proofs.YtpeekgekmjldlaaDoor
namespace Go.Proofs.YtpeekgekmjldlaaDoor
open Go.Fw
set_option maxRecDepth 100000
set_option linter.unusedVariables false
theorem prB_false (t : List UInt8) : ∀ k i, prB t k i = false → prN t k i = 0 ∧ ∀ c, i ≤ c → c < i + k → txt c ≠ t := by
  intro k
  induction k with
  | zero => intro i _; exact ⟨rfl, fun c h1 h2 => by omega⟩
  | succ k ih =>
    intro i h
    simp only [prB, prN] at h ⊢
    cases hb : (txt i == t)
    · rw [hb] at h
      obtain ⟨h1, h2⟩ := ih (i + 1) h
      refine ⟨h1, fun c hc1 hc2 e => ?_⟩
      rcases Nat.eq_or_lt_of_le hc1 with e1 | e1
      · subst e1; rw [e, beq_self_eq_true] at hb; cases hb
      · exact h2 c e1 (by omega) e
    · rw [hb] at h; cases h
theorem prB_true (t : List UInt8) : ∀ k i, prB t k i = true → ∃ c, i ≤ c ∧ c < i + k ∧ txt c = t ∧ prN t k i = Int.ofNat c := by
  intro k
  induction k with
  | zero => intro i h; cases h
  | succ k ih =>
    intro i h
    simp only [prB, prN] at h ⊢
    cases hb : (txt i == t)
    · rw [hb] at h
      obtain ⟨c, h1, h2, h3, h4⟩ := ih (i + 1) h
      exact ⟨c, by omega, by omega, h3, h4⟩
    · exact ⟨i, by omega, by omega, eq_of_beq hb, rfl⟩
theorem meets_hold {E : Env} (hE : E.Ok) (k : Nat) {g : FuncId} {args v : V} (hhas : Has E.P g) (h : Tree.Hold E.P (evFn E k g args) fun r => r.soft.clean = true ∧ r.soft = v.soft) : Meets E.P g args v :=
  meets hE k hhas rfl h.h
theorem sameI_refl (n : Nat) : sameI (Int.ofNat n) (Int.ofNat n) = true := by
  unfold sameI
  exact decide_eq_true rfl
noncomputable def parErr : V := .tup (.cons (.int false .u32 0) (.cons (.int false .i64 2) .nil))
theorem parseE2_ok : (en [c_idx, c_num, c_text] [lpIn, lpSp]).Ok := en_okl (l := [c_idx, c_num, c_text]) ⟨c_idx_ok, c_num_ok, c_text_ok, trivial⟩ (ls := [lpIn, lpSp]) ⟨lpIn_ok, lpSp_ok, trivial⟩
theorem parse_hold (r : List UInt8) (hl : r.length ≤ 1000) (hr : prB r 256 0 = false) : Tree.Hold P (evFn (en [c_idx, c_num, c_text] [lpIn, lpSp]) 400 37 (.cons (.str false r) .nil)) fun v => v.soft.clean = true ∧ v.soft = parErr.soft := by
  constructor
  rw [parse_tree]
  obtain ⟨_, hno⟩ := prB_false r 256 0 hr
  refine ⟨fun h => ?_, fun _ => ⟨⟨⟨rfl, rfl, rfl⟩, hl, by omega, by omega⟩, fun y hy s hs pd c => ⟨fun _ => ?_, fun _ => ⟨rfl, rfl⟩⟩⟩⟩
  · exfalso
    have h0 := hno 0 (by omega) (by omega)
    cases hb : (r == [(110 : UInt8), (111 : UInt8), (110 : UInt8), (101 : UInt8)])
    · rw [hb] at h; cases h
    · exact h0 (eq_of_beq hb).symm
  · generalize numA y = fa
    generalize numB y = fb
    generalize numE y = fe
    refine ⟨fun c hc _ _ => in37 c hc, hy, fun _ ha => ⟨(c8 ha).1, fun _ hb => (c8 hb).1⟩, fun _ => ⟨rfl, rfl⟩, fun hc2 => ?_⟩
    obtain ⟨ha, hb⟩ := cond5 hc2
    have ha := c8 ha
    have hb := c8 hb
    refine ⟨⟨⟨rfl, rfl, rfl⟩, ha.1, by omega, by omega, hs⟩, fun s2 n2 hs2 => ⟨hs2, fun _ => ⟨rfl, rfl⟩, fun hc3 => ?_⟩⟩
    exfalso
    unfold textE textS at hc3
    by_cases h256 : s2 < 256
    · rw [decide_eq_true h256] at hc3
      have h1 := hno s2.toNat (by omega) (by omega)
      have h2 : (txt s2.toNat == r) = false := by
        cases hb : (txt s2.toNat == r)
        · rfl
        · exact absurd (eq_of_beq hb) h1
      simp only [cond_true] at hc3
      rw [h2] at hc3
      cases hc3
    · rw [decide_eq_false h256] at hc3
      cases hc3
theorem parse_err (r : List UInt8) (hl : r.length ≤ 1000) (hr : prB r 256 0 = false) : Meets P 37 (.cons (.str false r) .nil) parErr :=
  meets_hold parseE2_ok 400 (Has.of hn Tryd.func37 rfl) (parse_hold r hl hr)
def parE (t : List UInt8) : Int := bif prB t 256 0 then 0 else 2
def c_parse : Con := { g := 37, ans := fun x => match x with
  | .cons (.str _ t) .nil => some (.where_ (t.length ≤ 1000) (.tup (.cons (.int false .u32 (prN t 256 0)) (.cons (.int false .i64 (parE t)) .nil))))
  | _ => none }
theorem c_parse_ok : c_parse.Ok P := by
  intro x
  dsimp only [c_parse]
  split
  · rename_i v h
    split at h <;> cases h
  · rename_i p v h
    split at h
    · rename_i st t
      injection h with h; injection h with h1 h2; subst h1; subst h2
      intro hp
      refine Meets.of_soft (args := .cons (.str st t) .nil) ?_
      show Meets P 37 (.cons (.str false t) .nil) _
      unfold parE
      cases hb : prB t 256 0
      · rw [(prB_false t 256 0 hb).1]
        exact parse_err t hp hb
      · obtain ⟨c, _, hc, rfl, e⟩ := prB_true t 256 0 hb
        rw [e]
        have h := parse_lit (c := c) (by omega)
        unfold txtA at h
        exact Meets.hard (Meets.same h (v' := .tup (.cons (.int false .u32 (Int.ofNat c)) (.cons (.int false .i64 0) .nil))) (by show ((true && sameI (Int.ofNat c) (Int.ofNat c)) && true) = true; rw [sameI_refl]; rfl))
    · cases h
  · trivial
end Go.Proofs.YtpeekgekmjldlaaDoor
namespace Go.Proofs.YtpeekgekmjldlaaDoor
open Go.Fw
/-- A row of texts. -/
abbrev rowX (g : Nat → List UInt8) : Nat → V := fun a => .cons (.str false (g a)) .nil
abbrev kXa (n : Nat) (g : Nat → List UInt8) (m : Nat) (f : Nat → Int) (i : Int) : V :=
  .cons (.rsl false 1 n (rowX g)) (.cons (.rsl false 1 m (rowS f)) (.cons (.int false .i64 m) (.cons (.int false .i64 i) .nil)))
abbrev kXb (n : Nat) (g : Nat → List UInt8) (i : Int) : V :=
  .cons (.rsl false 1 n (rowX g)) (.cons (.int false .i64 n) (.cons (.int false .i64 i) .nil))
end Go.Proofs.YtpeekgekmjldlaaDoor
namespace Go.Proofs.YtpeekgekmjldlaaDoor
open Go.Fw
set_option maxRecDepth 100000
set_option linter.unusedVariables false
theorem txA_body (B : Base) (n : Nat) (g : Nat → List UInt8) (m : Nat) (f : Nat → Int) (i : Int) : ((ev (en [c_text, c_vRight, c_rtext]) 400 8 (loopAt P 8 4) B (canon 0 105 [1,18,19,20] [] (kXa n g m f i) .nil)).bind fun x => Tree.leaf (x.1, vw 0 105 [1,18,19,20] [] x.2)) =
    Tree.node (bif decide (i < (m : Int)) then false else true) (Tree.leaf (Ex.exit (0 : Nat), true, V.cons (V.rsl false (1 : Nat) n fun a => V.cons (V.str false (g a)) V.nil)
    (V.cons (V.rsl false (1 : Nat) m fun a => V.cons (V.int false IntKind.u32 (f a)) V.nil) (V.cons (V.int false IntKind.i64 (m : Int)) (V.cons (V.int false IntKind.i64 i)
    V.nil))), V.nil)) (Tree.need (((0 : Int) ≤ i ∧ i < (m : Int)) ∧ ((bif i == (20 : Int) then true else false) = false → ((0 : Int) ≤ f (Int.toNat i) ∧ f (Int.toNat i) <
    (4294967296 : Int)) ∧ (vRight_0 (f (Int.toNat i)) = true → (textE (f (Int.toNat i)) != (0 : Int)) = false → (0 : Int) ≤ f (Int.toNat i) ∧ f (Int.toNat i) < (256 : Int))))
    (Tree.node (bif bif i == (20 : Int) then true else false then false else bif bif bif vRight_0 (f (Int.toNat i)) then bif textE (f (Int.toNat i)) != (0 : Int) then true else bif
    !textS (f (Int.toNat i)) == txt (Int.toNat (f (Int.toNat i))) then true else bif !vRight_0 (f (Int.toNat i)) then bif textE (f (Int.toNat i)) != (140 : Int) then true else
    !textS (f (Int.toNat i)) == [] else false else bif !vRight_0 (f (Int.toNat i)) then bif textE (f (Int.toNat i)) != (140 : Int) then true else !textS (f (Int.toNat i)) == []
    else false then true else false then true else false) (Tree.leaf (Ex.ret, true, V.cons (V.rsl false (1 : Nat) n fun a => V.cons (V.str false (g a)) V.nil) (V.cons (V.rsl false
    (1 : Nat) m fun a => V.cons (V.int false IntKind.u32 (f a)) V.nil) (V.cons (V.int false IntKind.i64 (m : Int)) (V.cons (V.int false IntKind.i64 i) V.nil))), V.nil)) (Tree.node
    (bif bif i == (20 : Int) then true else false then true else false) (Tree.leaf (Ex.exit (0 : Nat), true, V.cons (V.rsl false (1 : Nat) n fun a => V.cons (V.str false (g a))
    V.nil) (V.cons (V.rsl false (1 : Nat) m fun a => V.cons (V.int false IntKind.u32 (f a)) V.nil) (V.cons (V.int false IntKind.i64 (m : Int)) (V.cons (V.int false IntKind.i64 i)
    V.nil))), V.nil)) (Tree.leaf (Ex.normal, true, V.cons (V.rsl false (1 : Nat) n fun a => V.cons (V.str false (g a)) V.nil) (V.cons (V.rsl false (1 : Nat) m fun a => V.cons
    (V.int false IntKind.u32 (f a)) V.nil) (V.cons (V.int false IntKind.i64 (m : Int)) (V.cons (V.int false IntKind.i64 (IntKind.wrap IntKind.i64 (i + (1 : Int)))) V.nil))),
    V.nil))))) := by kernel_rfl
end Go.Proofs.YtpeekgekmjldlaaDoor
namespace Go.Proofs.YtpeekgekmjldlaaDoor
open Go.Fw
set_option maxRecDepth 100000
set_option linter.unusedVariables false
theorem txB_body (B : Base) (n : Nat) (g : Nat → List UInt8) (i : Int) : ((ev (en [c_parse, c_rparse]) 400 8 (loopAt P 8 13) B (canon 0 105 [58,59,60] [] (kXb n g i) .nil)).bind fun x => Tree.leaf (x.1, vw 0 105 [58,59,60] [] x.2)) =
    Tree.node (bif decide (i < (n : Int)) then false else true) (Tree.leaf (Ex.exit (2 : Nat), true, V.cons (V.rsl false (1 : Nat) n fun a => V.cons (V.str false (g a)) V.nil)
    (V.cons (V.int false IntKind.i64 (n : Int)) (V.cons (V.int false IntKind.i64 i) V.nil)), V.nil)) (Tree.need (((0 : Int) ≤ i ∧ i < (n : Int)) ∧ ((bif i == (12 : Int) then true
    else false) = false → (((0 : Int) ≤ if (60 : Int) < ((List.length (g (Int.toNat i)) : Nat) : Int) then (60 : Int) else ((List.length (g (Int.toNat i)) : Nat) : Int)) ∧ (if (60
    : Int) < ((List.length (g (Int.toNat i)) : Nat) : Int) then (60 : Int) else ((List.length (g (Int.toNat i)) : Nat) : Int)) ≤ ((List.length (g (Int.toNat i)) : Nat) : Int)) ∧
    List.length (List.take (Int.toNat (if (60 : Int) < ((List.length (g (Int.toNat i)) : Nat) : Int) then (60 : Int) else ((List.length (g (Int.toNat i)) : Nat) : Int)) - (0 :
    Nat)) (List.drop (0 : Nat) (g (Int.toNat i)))) ≤ (1000 : Nat))) (Tree.node (bif bif i == (12 : Int) then true else false then false else bif bif bif prB (List.take (Int.toNat
    (if (60 : Int) < ((List.length (g (Int.toNat i)) : Nat) : Int) then (60 : Int) else ((List.length (g (Int.toNat i)) : Nat) : Int)) - (0 : Nat)) (List.drop (0 : Nat) (g
    (Int.toNat i)))) (256 : Nat) (0 : Nat) then bif parE (List.take (Int.toNat (if (60 : Int) < ((List.length (g (Int.toNat i)) : Nat) : Int) then (60 : Int) else ((List.length (g
    (Int.toNat i)) : Nat) : Int)) - (0 : Nat)) (List.drop (0 : Nat) (g (Int.toNat i)))) != (0 : Int) then true else bif prN (List.take (Int.toNat (if (60 : Int) < ((List.length (g
    (Int.toNat i)) : Nat) : Int) then (60 : Int) else ((List.length (g (Int.toNat i)) : Nat) : Int)) - (0 : Nat)) (List.drop (0 : Nat) (g (Int.toNat i)))) (256 : Nat) (0 : Nat) !=
    prN (List.take (Int.toNat (if (60 : Int) < ((List.length (g (Int.toNat i)) : Nat) : Int) then (60 : Int) else ((List.length (g (Int.toNat i)) : Nat) : Int)) - (0 : Nat))
    (List.drop (0 : Nat) (g (Int.toNat i)))) (256 : Nat) (0 : Nat) then true else bif !prB (List.take (Int.toNat (if (60 : Int) < ((List.length (g (Int.toNat i)) : Nat) : Int) then
    (60 : Int) else ((List.length (g (Int.toNat i)) : Nat) : Int)) - (0 : Nat)) (List.drop (0 : Nat) (g (Int.toNat i)))) (256 : Nat) (0 : Nat) then bif parE (List.take (Int.toNat
    (if (60 : Int) < ((List.length (g (Int.toNat i)) : Nat) : Int) then (60 : Int) else ((List.length (g (Int.toNat i)) : Nat) : Int)) - (0 : Nat)) (List.drop (0 : Nat) (g
    (Int.toNat i)))) != (2 : Int) then true else prN (List.take (Int.toNat (if (60 : Int) < ((List.length (g (Int.toNat i)) : Nat) : Int) then (60 : Int) else ((List.length (g
    (Int.toNat i)) : Nat) : Int)) - (0 : Nat)) (List.drop (0 : Nat) (g (Int.toNat i)))) (256 : Nat) (0 : Nat) != (0 : Int) else false else bif !prB (List.take (Int.toNat (if (60 :
    Int) < ((List.length (g (Int.toNat i)) : Nat) : Int) then (60 : Int) else ((List.length (g (Int.toNat i)) : Nat) : Int)) - (0 : Nat)) (List.drop (0 : Nat) (g (Int.toNat i))))
    (256 : Nat) (0 : Nat) then bif parE (List.take (Int.toNat (if (60 : Int) < ((List.length (g (Int.toNat i)) : Nat) : Int) then (60 : Int) else ((List.length (g (Int.toNat i)) :
    Nat) : Int)) - (0 : Nat)) (List.drop (0 : Nat) (g (Int.toNat i)))) != (2 : Int) then true else prN (List.take (Int.toNat (if (60 : Int) < ((List.length (g (Int.toNat i)) : Nat)
    : Int) then (60 : Int) else ((List.length (g (Int.toNat i)) : Nat) : Int)) - (0 : Nat)) (List.drop (0 : Nat) (g (Int.toNat i)))) (256 : Nat) (0 : Nat) != (0 : Int) else false
    then true else false then true else false) (Tree.leaf (Ex.ret, true, V.cons (V.rsl false (1 : Nat) n fun a => V.cons (V.str false (g a)) V.nil) (V.cons (V.int false IntKind.i64
    (n : Int)) (V.cons (V.int false IntKind.i64 i) V.nil)), V.nil)) (Tree.node (bif bif i == (12 : Int) then true else false then true else false) (Tree.leaf (Ex.exit (2 : Nat),
    true, V.cons (V.rsl false (1 : Nat) n fun a => V.cons (V.str false (g a)) V.nil) (V.cons (V.int false IntKind.i64 (n : Int)) (V.cons (V.int false IntKind.i64 i) V.nil)),
    V.nil)) (Tree.leaf (Ex.normal, true, V.cons (V.rsl false (1 : Nat) n fun a => V.cons (V.str false (g a)) V.nil) (V.cons (V.int false IntKind.i64 (n : Int)) (V.cons (V.int false
    IntKind.i64 (IntKind.wrap IntKind.i64 (i + (1 : Int)))) V.nil)), V.nil))))) := by kernel_rfl
end Go.Proofs.YtpeekgekmjldlaaDoor
namespace Go.Proofs.YtpeekgekmjldlaaDoor
open Go.Fw
set_option maxRecDepth 100000

theorem txAE_ok : (en [c_text, c_vRight, c_rtext] []).Ok := en_okl (l := [c_text, c_vRight, c_rtext]) ⟨c_text_ok, c_vRight_ok, c_rtext_ok, trivial⟩ (ls := []) trivial
theorem txBE_ok : (en [c_parse, c_rparse] []).Ok := en_okl (l := [c_parse, c_rparse]) ⟨c_parse_ok, c_rparse_ok, trivial⟩ (ls := []) trivial
noncomputable def txAG (n : Nat) (g : Nat → List UInt8) (m : Nat) (f : Nat → Int) : Lp := ⟨8, 4, fun _ s => match vw 0 105 [1,18,19,20] [] s with
  | (true, .cons (.rsl _ 1 n' g') (.cons (.rsl _ 1 m' f') (.cons (.int _ .i64 m2) (.cons (.int _ .i64 i0) .nil))), .nil) =>
    bif Nat.beq s.n 0 then .need ((n' = n ∧ g' = rowX g) ∧ (m' = m ∧ f' = rowS f) ∧ m2 = m ∧ i0 = 0) (.all Int fun i => .leaf (.exit 0, canon 0 105 [1,18,19,20] [] (kXa n g m f i) .nil)) else .stuck
  | _ => .stuck⟩
noncomputable def txBG (n : Nat) (g : Nat → List UInt8) : Lp := ⟨8, 13, fun _ s => match vw 0 105 [58,59,60] [] s with
  | (true, .cons (.rsl _ 1 n' g') (.cons (.int _ .i64 n2) (.cons (.int _ .i64 i0) .nil)), .nil) =>
    bif Nat.beq s.n 0 then .need ((n' = n ∧ g' = rowX g) ∧ n2 = n ∧ i0 = 0) (.all Int fun i => .leaf (.exit 2, canon 0 105 [58,59,60] [] (kXb n g i) .nil)) else .stuck
  | _ => .stuck⟩
theorem txA_good {a : Int} (_h0 : 0 ≤ a) : (bif bif bif vRight_0 a then bif textE a != (0 : Int) then true else bif !textS a == txt (Int.toNat a) then true else bif !vRight_0 a then bif textE a != (140 : Int) then true else !textS a == [] else false else bif !vRight_0 a then bif textE a != (140 : Int) then true else !textS a == [] else false then true else false then true else false) = false := by
  rw [right_eq]
  unfold textE textS
  by_cases h : a < 256
  · rw [decide_eq_true h]
    have e : (txt (Int.toNat a) == txt (Int.toNat a)) = true := beq_self_eq_true _
    simp only [cond_true]
    rw [e]; rfl
  · rw [decide_eq_false h]; rfl
theorem txB_good (t : List UInt8) : (bif bif bif prB t (256 : Nat) (0 : Nat) then bif parE t != (0 : Int) then true else bif prN t (256 : Nat) (0 : Nat) != prN t (256 : Nat) (0 : Nat) then true else bif !prB t (256 : Nat) (0 : Nat) then bif parE t != (2 : Int) then true else prN t (256 : Nat) (0 : Nat) != (0 : Int) else false else bif !prB t (256 : Nat) (0 : Nat) then bif parE t != (2 : Int) then true else prN t (256 : Nat) (0 : Nat) != (0 : Int) else false then true else false then true else false) = false := by
  have e : (prN t 256 0 != prN t 256 0) = false := by simp
  unfold parE
  cases hb : prB t 256 0
  · rw [(prB_false t 256 0 hb).1]; rfl
  · rw [e]; rfl
theorem txAG_ok (n : Nat) (g : Nat → List UInt8) (m : Nat) (f : Nat → Int) (hf : ∀ j, j < m → 0 ≤ f j ∧ f j < 4294967296) : (txAG n g m f).Ok P := by
  refine lp_ok (by kernel_rfl) fun hin B s Q hq => ?_
  simp only [txAG] at hq hin ⊢
  split at hq
  · rename_i q0 n' g' q1 m' f' q2 m2 q3 i0 heq
    cases hn : Nat.beq s.n 0
    · rw [hn] at hq; exact hq.elim
    · rw [hn] at hq
      obtain ⟨⟨⟨rfl, rfl⟩, ⟨rfl, rfl⟩, rfl, rfl⟩, hq⟩ := hq
      have hsame : Same 0 105 [1,18,19,20] [] s (kXa n' g m' f 0) .nil := by
        refine ⟨by rw [heq], by rw [heq]; rfl, by rw [heq]⟩
      refine loop_view (k := 400) (f := 8) txAE_ok hin (fun i : Int => kXa n' g m' f i) (fun _ => .nil) (fun j => 0 ≤ j ∧ j ≤ 20) (fun j => (20 - j).toNat) Q (fun i => txA_body B n' g m' f i) ?_ (Nat.eq_of_beq_eq_true hn) (i0 := 0) ⟨by omega, by omega⟩ hsame
      intro j hj
      refine ⟨fun _ => ⟨rfl, _, _, rfl, rfl, hq j⟩, fun hx => ?_⟩
      have hlt : j < m' := by apply Classical.byContradiction; intro h; simp [h] at hx
      have hr := hf j.toNat (by omega)
      have hgood := txA_good hr.1
      refine ⟨⟨⟨hj.1, hlt⟩, fun _ => ⟨hr, fun hv _ => ⟨hr.1, by rw [right_eq] at hv; exact of_decide_eq_true hv⟩⟩⟩, fun hc => ?_, fun _ => ⟨fun _ => ⟨rfl, _, _, rfl, rfl, hq j⟩, fun h20 => ?_⟩⟩
      · exfalso
        cases h20 : (bif j == (20 : Int) then true else false)
        · rw [h20] at hc
          exact absurd (hgood.symm.trans hc) (by decide)
        · rw [h20] at hc; cases hc
      · have h20' : j ≠ 20 := fun h => by subst h; simp at h20
        rw [IntWalk.i64_in (j + 1) ⟨by omega, by omega⟩]
        exact ⟨rfl, j + 1, ⟨by omega, by omega⟩, by omega, rfl, rfl⟩
  · exact hq.elim
theorem txBG_ok (n : Nat) (g : Nat → List UInt8) : (txBG n g).Ok P := by
  refine lp_ok (by kernel_rfl) fun hin B s Q hq => ?_
  simp only [txBG] at hq hin ⊢
  split at hq
  · rename_i q0 n' g' q2 n2 q3 i0 heq
    cases hn : Nat.beq s.n 0
    · rw [hn] at hq; exact hq.elim
    · rw [hn] at hq
      obtain ⟨⟨⟨rfl, rfl⟩, rfl, rfl⟩, hq⟩ := hq
      have hsame : Same 0 105 [58,59,60] [] s (kXb n' g 0) .nil := by
        refine ⟨by rw [heq], by rw [heq]; rfl, by rw [heq]⟩
      refine loop_view (k := 400) (f := 8) txBE_ok hin (fun i : Int => kXb n' g i) (fun _ => .nil) (fun j => 0 ≤ j ∧ j ≤ 12) (fun j => (12 - j).toNat) Q (fun i => txB_body B n' g i) ?_ (Nat.eq_of_beq_eq_true hn) (i0 := 0) ⟨by omega, by omega⟩ hsame
      intro j hj
      refine ⟨fun _ => ⟨rfl, _, _, rfl, rfl, hq j⟩, fun hx => ?_⟩
      have hlt : j < n' := by apply Classical.byContradiction; intro h; simp [h] at hx
      generalize g (Int.toNat j) = t
      have hlen : (if (60 : Int) < ((List.length t : Nat) : Int) then (60 : Int) else ((List.length t : Nat) : Int)) ≤ 60 ∧ 0 ≤ (if (60 : Int) < ((List.length t : Nat) : Int) then (60 : Int) else ((List.length t : Nat) : Int)) ∧ (if (60 : Int) < ((List.length t : Nat) : Int) then (60 : Int) else ((List.length t : Nat) : Int)) ≤ (List.length t : Nat) := by
        split <;> omega
      generalize (if (60 : Int) < ((List.length t : Nat) : Int) then (60 : Int) else ((List.length t : Nat) : Int)) = e at hlen
      have hr : (List.take (Int.toNat e - 0) (List.drop 0 t)).length ≤ 1000 := by rw [List.length_take]; omega
      generalize List.take (Int.toNat e - 0) (List.drop 0 t) = r at hr
      have hgood := txB_good r
      refine ⟨⟨⟨hj.1, hlt⟩, fun _ => ⟨⟨hlen.2.1, hlen.2.2⟩, hr⟩⟩, fun hc => ?_, fun _ => ⟨fun _ => ⟨rfl, _, _, rfl, rfl, hq j⟩, fun h20 => ?_⟩⟩
      · exfalso
        cases h20 : (bif j == (12 : Int) then true else false)
        · rw [h20] at hc
          exact absurd (hgood.symm.trans hc) (by decide)
        · rw [h20] at hc; cases hc
      · have h20' : j ≠ 12 := fun h => by subst h; simp at h20
        rw [IntWalk.i64_in (j + 1) ⟨by omega, by omega⟩]
        exact ⟨rfl, j + 1, ⟨by omega, by omega⟩, by omega, rfl, rfl⟩
  · exact hq.elim
theorem texts_tree (m : Nat) (f : Nat → Int) (n : Nat) (g : Nat → List UInt8) : evFn (en [c_sets] [txAG n g m f, txBG n g]) 400 8 (.cons (.rsl false 1 m (rowS f)) (.cons (.rsl false 1 n (rowX g)) .nil)) =
    Tree.need ((n = n ∧ rowX g = rowX g) ∧ (m = m ∧ rowS f = rowS f) ∧ (m : Int) = (m : Int) ∧ (0 : Int) = (0 : Int)) (Tree.all Int fun _ => Tree.need ((n = n ∧ rowX g = rowX g) ∧ (n : Int) = (n : Int) ∧ (0 : Int) = (0 : Int)) (Tree.all Int fun _ => Tree.leaf (V.bool true true))) := by kernel_rfl
theorem texts_holds (m : Nat) (f : Nat → Int) (n : Nat) (g : Nat → List UInt8) : Tree.Hold P (evFn (en [c_sets] [txAG n g m f, txBG n g]) 400 8 (.cons (.rsl false 1 m (rowS f)) (.cons (.rsl false 1 n (rowX g)) .nil))) fun r => r.soft = .bool false true := by
  constructor
  rw [texts_tree]
  exact ⟨⟨⟨rfl, rfl⟩, ⟨rfl, rfl⟩, rfl, rfl⟩, fun _ => ⟨⟨⟨rfl, rfl⟩, rfl, rfl⟩, fun _ => rfl⟩⟩
theorem texts_meets (m : Nat) (f : Nat → Int) (n : Nat) (g : Nat → List UInt8) (hf : ∀ j, j < m → 0 ≤ f j ∧ f j < 4294967296) : Meets P 8 (.cons (.rsl false 1 m (rowS f)) (.cons (.rsl false 1 n (rowX g)) .nil)) (.bool false true) :=
  meets_true (en_okl (l := [c_sets]) ⟨c_sets_ok, trivial⟩ (ls := [txAG n g m f, txBG n g]) ⟨txAG_ok n g m f hf, txBG_ok n g, trivial⟩) 400 (Has.of hn Tryd.func8 rfl) (texts_holds m f n g)
end Go.Proofs.YtpeekgekmjldlaaDoor
