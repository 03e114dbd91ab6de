/- The evaluator's data: abstract values, trees of decisions, an abstract heap, and how they stand to the model's values and worlds. Definitions only, and small facts on them. -/
import Derived.WalkKit
import Derived.Laws.Cells
import Derived.ChangeKeysEq
namespace Go.Fw

/-- An abstract value. 'st': it is known as a literal. 'cons', 'nil': rows of values (cells, arguments). -/
inductive V where
  | junk
  | undef
  | nil
  | cons (h t : V)
  | int (st : Bool) (k : IntKind) (n : Int)
  | bool (st : Bool) (b : Bool)
  | str (st : Bool) (s : List UInt8)
  | agg (cs : V)
  | tup (vs : V)
  | ptr (st : Bool) (b es i o : Nat)
  | rptr (st : Bool) (es n : Nat) (get : Nat → V) (i o : Nat)
  | nilptr
  | rsl (st : Bool) (es n : Nat) (get : Nat → V)
  | osl (st : Bool) (b es i n : Nat)
  | nilsl
  | fn (f : Fn) (first cap : V)
  | nilfn
  | nilmap
  | nilif

/-- A tree with a value at each place; the place's number is walked by its digits. -/
inductive PT (α : Type) where
  | nil
  | node (v : α) (l r : PT α)

section
variable {α : Type}
def PT.get (d : α) : PT α → Nat → α
  | .nil, _ => d
  | .node v l r, i => bif Nat.beq i 0 then v else bif Nat.beq (i % 2) 1 then l.get d (i / 2) else r.get d (i / 2 - 1)
def PT.set : PT α → Nat → α → PT α
  | .nil, _, _ => .nil
  | .node v l r, i, x => bif Nat.beq i 0 then .node x l r else bif Nat.beq (i % 2) 1 then .node v (l.set (i / 2) x) r else .node v l (r.set (i / 2 - 1) x)
def PT.full (d : α) : Nat → PT α
  | 0 => .nil
  | k + 1 => .node d (PT.full d k) (PT.full d k)

theorem PT.get_full (d : α) : ∀ (k i : Nat), (PT.full d k).get d i = d := by
  intro k
  induction k with
  | zero => intro i; rfl
  | succ k ih =>
    intro i
    simp only [PT.full, PT.get]
    cases Nat.beq i 0 <;> simp only [cond_true, cond_false]
    cases Nat.beq (i % 2) 1 <;> simp only [cond_true, cond_false] <;> exact ih _
theorem PT.get_set_ne (d : α) (x : α) : ∀ (t : PT α) (i j : Nat), i ≠ j → (t.set i x).get d j = t.get d j := by
  intro t
  induction t with
  | nil => intro i j _; rfl
  | node v l r ihl ihr =>
    intro i j h
    simp only [PT.set]
    cases hi : Nat.beq i 0
    · simp only [cond_false]
      cases hp : Nat.beq (i % 2) 1
      · simp only [cond_false, PT.get]
        cases hj : Nat.beq j 0
        · simp only [cond_false]
          cases hq : Nat.beq (j % 2) 1
          · simp only [cond_false]
            refine ihr _ _ ?_
            have hi' : i ≠ 0 := by intro e; rw [e] at hi; cases hi
            have hj' : j ≠ 0 := by intro e; rw [e] at hj; cases hj
            have hp' : i % 2 ≠ 1 := by intro e; rw [e] at hp; cases hp
            have hq' : j % 2 ≠ 1 := by intro e; rw [e] at hq; cases hq
            omega
          · rfl
        · rfl
      · simp only [cond_true, PT.get]
        cases hj : Nat.beq j 0
        · simp only [cond_false]
          cases hq : Nat.beq (j % 2) 1
          · rfl
          · simp only [cond_true]
            refine ihl _ _ ?_
            have hp' : i % 2 = 1 := Nat.eq_of_beq_eq_true hp
            have hq' : j % 2 = 1 := Nat.eq_of_beq_eq_true hq
            omega
        · rfl
    · simp only [cond_true, PT.get]
      have hi' : i = 0 := Nat.eq_of_beq_eq_true hi
      cases hj : Nat.beq j 0
      · rfl
      · exact absurd (hi'.trans (Nat.eq_of_beq_eq_true hj).symm) h
theorem PT.get_set_eq (d : α) (x : α) : ∀ (t : PT α) (i : Nat), (t.set i x).get d i = x ∨ (t.set i x).get d i = d := by
  intro t
  induction t with
  | nil => intro i; exact .inr rfl
  | node v l r ihl ihr =>
    intro i
    simp only [PT.set]
    cases hi : Nat.beq i 0
    · simp only [cond_false]
      cases hp : Nat.beq (i % 2) 1
      · simp only [cond_false, PT.get, hi, hp]; exact ihr _
      · simp only [cond_true, cond_false, PT.get, hi, hp]; exact ihl _
    · simp only [cond_true, PT.get, hi]; exact .inl trivial
theorem PT.get_set_in (d : α) (x : α) : ∀ (t : PT α) (i : Nat), t.get d i ≠ d → (t.set i x).get d i = x := by
  intro t
  induction t with
  | nil => intro i h; exact absurd rfl h
  | node v l r ihl ihr =>
    intro i h
    simp only [PT.set]
    cases hi : Nat.beq i 0
    · simp only [PT.get, hi, cond_false] at h ⊢
      cases hp : Nat.beq (i % 2) 1
      · simp only [cond_false, PT.get, hi, hp] at h ⊢; exact ihr _ h
      · simp only [cond_true, cond_false, PT.get, hi, hp] at h ⊢; exact ihl _ h
    · simp only [cond_true, PT.get, hi]
def PT.inb : PT α → Nat → Bool
  | .nil, _ => false
  | .node _ l r, i => bif Nat.beq i 0 then true else bif Nat.beq (i % 2) 1 then l.inb (i / 2) else r.inb (i / 2 - 1)
theorem PT.inb_set (x : α) : ∀ (t : PT α) (i j : Nat), (t.set i x).inb j = t.inb j := by
  intro t
  induction t with
  | nil => intro i j; rfl
  | node v l r ihl ihr =>
    intro i j
    simp only [PT.set]
    cases hi : Nat.beq i 0
    · simp only [cond_false]
      cases hp : Nat.beq (i % 2) 1
      · simp only [cond_false, PT.inb, ihr]
      · simp only [cond_true, PT.inb, ihl]
    · simp only [cond_true, PT.inb]
theorem PT.get_set (d : α) (x : α) : ∀ (t : PT α) (i : Nat) (c : Bool), t.inb i = c → (t.set i x).get d i = bif c then x else d := by
  intro t
  induction t with
  | nil => intro i c h; subst h; rfl
  | node v l r ihl ihr =>
    intro i c h
    simp only [PT.set]
    cases hi : Nat.beq i 0
    · simp only [PT.inb, hi, cond_false] at h ⊢
      cases hp : Nat.beq (i % 2) 1
      · simp only [hp, cond_false, PT.get, hi] at h ⊢; exact ihr _ _ h
      · simp only [hp, cond_true, cond_false, PT.get, hi] at h ⊢; exact ihl _ _ h
    · simp only [PT.inb, hi, cond_true] at h
      subst h
      simp only [cond_true, PT.get, hi]
end

/-! ### Rows of values -/
def V.nth : V → Nat → V
  | .cons h t, i => bif Nat.beq i 0 then h else t.nth (i - 1)
  | _, _ => .junk
def V.len : V → Nat
  | .cons _ t => t.len + 1
  | _ => 0
def V.drop : V → Nat → V
  | .cons h t, i => bif Nat.beq i 0 then .cons h t else t.drop (i - 1)
  | v, _ => v
def V.take : V → Nat → V
  | .cons h t, i => bif Nat.beq i 0 then .nil else .cons h (t.take (i - 1))
  | _, _ => .nil
def V.app : V → V → V
  | .cons h t, y => .cons h (t.app y)
  | _, y => y
/-- 'vs' laid over 'cs' from place 'o' on. -/
def V.splice : V → Nat → V → V
  | .cons h t, o, vs => bif Nat.beq o 0 then (match vs with | .cons x r => .cons x (t.splice 0 r) | _ => .cons h t) else .cons h (t.splice (o - 1) vs)
  | v, _, _ => v
def V.cells : V → V
  | .agg cs => cs
  | v => .cons v .nil
def V.ofList : List V → V
  | [] => .nil
  | v :: l => .cons v (V.ofList l)
/-- A row of values: it ends in 'nil'. -/
def V.isRow : V → Bool
  | .nil => true
  | .cons _ t => t.isRow
  | _ => false
/-- No part of it names a block of the abstract heap. -/
def V.clean : V → Bool
  | .cons h t => h.clean && t.clean
  | .agg cs => cs.clean
  | .tup vs => vs.clean
  | .ptr .. | .osl .. => false
  | .fn _ a b => a.clean && b.clean
  | _ => true

/-- It is one value of the model's, or a row of its cells. -/
def V.solid : V → Bool
  | .junk | .nil | .cons _ _ => false
  | _ => true
/-- It is what one cell of memory holds. -/
def V.cell : V → Bool
  | .junk | .nil | .cons _ _ | .undef | .agg _ | .tup _ => false
  | _ => true
def V.allCell : V → Bool
  | .nil => true
  | .cons h t => h.cell && t.allCell
  | _ => false

def V.ofLeaf : Value → V
  | .int k n => .int true k n
  | .bool b => .bool true b
  | .string s => .str true s.data.toList
  | .pointer none => .nilptr
  | .slice none 0 0 => .nilsl
  | .map none => .nilmap
  | .nilFunc => .nilfn
  | .nilIface => .nilif
  | .func f first cap => match first.toList, cap.toList with | [], [] => .fn f .nil .nil | _, _ => .junk
  | _ => .junk
def V.ofValue : Value → V
  | .agg cs => .agg (V.ofList (cs.toList.map V.ofLeaf))
  | v => V.ofLeaf v

/-! ### Literal numbers are brought to literals as they arise -/
def forceNat {β : Type} (m : Nat) (f : Nat → β) : β := Nat.rec (f 0) (fun k _ => f (k + 1)) m
theorem forceNat_eq {β : Type} (m : Nat) (f : Nat → β) : forceNat m f = f m := by cases m <;> rfl
def forceInt {β : Type} (n : Int) (f : Int → β) : β :=
  match n with
  | .ofNat m => forceNat m fun m => f (.ofNat m)
  | .negSucc m => forceNat m fun m => f (.negSucc m)
theorem forceInt_eq {β : Type} (n : Int) (f : Int → β) : forceInt n f = f n := by
  cases n <;> simp only [forceInt, forceNat_eq]
def mkInt (st : Bool) (k : IntKind) (n : Int) : V :=
  match st with
  | true => forceInt n fun n => .int true k n
  | false => .int false k n
theorem mkInt_eq (st : Bool) (k : IntKind) (n : Int) : mkInt st k n = .int st k n := by
  cases st <;> simp only [mkInt, forceInt_eq]
def mkBool (st : Bool) (b : Bool) : V :=
  match st with
  | true => match b with | true => .bool true true | false => .bool true false
  | false => .bool false b
theorem mkBool_eq (st : Bool) (b : Bool) : mkBool st b = .bool st b := by
  cases st <;> cases b <;> rfl

/-! ### The abstract heap -/
inductive Blk where
  | none
  | var (cs : V)
  | arr (es n : Nat) (get : Nat → V)

structure St where
  t : PT V
  h : PT Blk
  n : Nat
  N : Nat

abbrev St.tmp (s : St) (i : Nat) : V := s.t.get .junk i
abbrev St.blk (s : St) (b : Nat) : Blk := s.h.get .none b
def St.put (s : St) (dst : Option Tmp) (v : V) : St :=
  match dst with
  | some d => { s with t := s.t.set d v }
  | none => s

/-- How a piece of code is left. -/
inductive Ex where
  | normal
  | exit (id : Nat)
  | ret
def Ex.toExit : Ex → Exit
  | .normal => .normal
  | .exit id => .exit id
  | .ret => .ret

/-- What comes, by the tests that are not known ahead. -/
inductive Tree (α : Type) where
  | leaf (a : α)
  | stuck
  | node (b : Bool) (t f : Tree α)
  | need (p : Prop) (t : Tree α)
  | loop (body : Code) (s : St) (k : Ex × St → Tree α)

def Tree.bind {α β : Type} : Tree α → (α → Tree β) → Tree β
  | .leaf a, k => k a
  | .stuck, _ => .stuck
  | .node b t f, k => .node b (t.bind k) (f.bind k)
  | .need p t, k => .need p (t.bind k)
  | .loop body s g, k => .loop body s fun x => (g x).bind k

/-- No loop is left in it. -/
def Tree.flat {α : Type} : Tree α → Bool
  | .leaf _ => true
  | .stuck => true
  | .node _ t f => t.flat && f.flat
  | .need _ t => t.flat
  | .loop .. => false

/-! ### What abstract values stand for -/
section
variable (F : Nat → Prop) (w : World)
mutual
def R : V → Nat → (Nat → Option Nat) → Value → Prop
  | .junk, _, _, _ => True
  | .undef, _, _, x => x = Go.undef
  | .nil, _, _, _ => False
  | .cons _ _, _, _, _ => False
  | .int _ k n, _, _, x => x = .int k n
  | .bool _ b, _, _, x => x = .bool b
  | .str _ s, _, _, x => x = .string ⟨s.toArray⟩
  | .agg cs, n, m, x => ∃ xs, x = .agg xs ∧ RL cs n m xs.toList
  | .tup vs, n, m, x => ∃ xs, x = .tuple xs ∧ RL vs n m xs.toList
  | .ptr _ b es i o, n, m, x => b < n ∧ ∃ B, x = .pointer (some ⟨B, i * es + o, none⟩) ∧ ∀ B', m b = some B' → B' = B
  | .rptr _ es n' get i o, _, _, x => i < n' ∧ ∃ B off, x = .pointer (some ⟨B, off + i * es + o, none⟩) ∧ F B ∧ ∃ c el fr, w.heap[B]? = some (.cells c el fr) ∧
      ∀ j, j < n' → ∃ xs, RL (get j) 0 (fun _ => none) xs ∧ xs.length = es ∧ ∀ q, q < es → c[off + j * es + q]? = xs[q]?
  | .nilptr, _, _, x => x = .pointer none
  | .rsl _ es n' get, _, _, x => ∃ a cap, x = .slice a n' cap ∧ n' ≤ cap ∧ (n' = 0 ∨ ∃ B off, a = some ⟨B, off, none⟩ ∧ F B ∧ ∃ c el fr, w.heap[B]? = some (.cells c el fr) ∧
      ∀ j, j < n' → ∃ xs, RL (get j) 0 (fun _ => none) xs ∧ xs.length = es ∧ ∀ q, q < es → c[off + j * es + q]? = xs[q]?)
  | .osl _ b es i n', n, m, x => b < n ∧ ∃ a cap, x = .slice a n' cap ∧ n' ≤ cap ∧ (n' = 0 ∨ ∃ B, a = some ⟨B, i * es, none⟩ ∧ ∀ B', m b = some B' → B' = B)
  | .nilsl, _, _, x => x = .slice none 0 0
  | .fn f first cap, n, m, x => ∃ xs ys, x = .func f xs ys ∧ RL first n m xs.toList ∧ RL cap n m ys.toList
  | .nilfn, _, _, x => x = .nilFunc
  | .nilmap, _, _, x => x = .map none
  | .nilif, _, _, x => x = .nilIface
def RL : V → Nat → (Nat → Option Nat) → List Value → Prop
  | .nil, _, _, xs => xs = []
  | .cons h t, n, m, xs => ∃ x r, xs = x :: r ∧ R h n m x ∧ RL t n m r
  | _, _, _, _ => False
end
end

end Go.Fw
