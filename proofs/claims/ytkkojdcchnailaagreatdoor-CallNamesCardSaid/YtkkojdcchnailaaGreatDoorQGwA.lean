/- The evaluator's data: abstract values, trees of decisions, an abstract heap, and how they stand to the model's values and worlds. Definitions only, and small facts on them. -/
import Derived.WalkKit
import Derived.Laws.Cells
import Derived.ChangeKeysEq
import Derived.CallsIn
import Derived.TacticsIn
import Derived.OrdersIn
import Derived.Test.YtkkojdcchnailaaGreatDoorQGwMa
namespace Go.Fw

/-- An abstract value. 'st': it is known as a literal. 'cons', 'nil': rows of values (cells, arguments). -/
inductive V where
  | junk
  | undef
  | nil
  | cons (h t : V)
  | int (st : Bool) (k : IntKind) (n : Int)
  | bool (st : Bool) (b : Bool)
  | str (st : Bool) (s : List UInt8)
  | agg (cs : V)
  | tup (vs : V)
  | ptr (st : Bool) (b es i o : Nat)
  | rptr (st : Bool) (es n : Nat) (get : Nat → V) (i o : Nat)
  | nilptr
  | rsl (st : Bool) (es n : Nat) (get : Nat → V)
  | osl (st : Bool) (b es i n : Nat)
  /-- So, with room for 'c' rows in all at least. -/
  | osp (st : Bool) (b es i n c : Nat)
  | nilsl
  | fn (f : Fn) (first cap : V)
  | nilfn
  | nilmap
  | nilif
  | yld (b : Nat)
  | mp (b : Nat)
  | ifc (st b : Bool)
  /-- No rows, and no room; whether it is known that it is not nil. -/
  | esl (nn : Bool) (es : Nat)
  | rmp (st : Bool) (kd : MK) (has : Value → Bool) (get : Value → V)

/-- Values at some places; a place's number is walked by its digits. -/
inductive PT (α : Type) where
  | nil
  | fill (v : α)
  | node (v : Option α) (l r : PT α)

section
variable {α β : Type}
def PT.get : PT α → Nat → Option α
  | .nil, _ => none
  | .fill v, _ => some v
  | .node v l r, i => bif Nat.beq i 0 then v else bif Nat.beq (i % 2) 1 then l.get (i / 2) else r.get (i / 2 - 1)
def PT.setF (k : Nat) : PT α → Nat → α → PT α := Nat.rec (fun t _ _ => t) (fun _ ih t i x =>
  match t with
  | .nil => bif Nat.beq i 0 then .node (some x) .nil .nil else bif Nat.beq (i % 2) 1 then .node none (ih .nil (i / 2) x) .nil else .node none .nil (ih .nil (i / 2 - 1) x)
  | .fill v => bif Nat.beq i 0 then .node (some x) (.fill v) (.fill v) else bif Nat.beq (i % 2) 1 then .node (some v) (ih (.fill v) (i / 2) x) (.fill v) else .node (some v) (.fill v) (ih (.fill v) (i / 2 - 1) x)
  | .node v l r => bif Nat.beq i 0 then .node (some x) l r else bif Nat.beq (i % 2) 1 then .node v (ih l (i / 2) x) r else .node v l (ih r (i / 2 - 1) x)) k
def PT.set (t : PT α) (i : Nat) (x : α) : PT α := PT.setF (i + 1) t i x
/-- The second's places over a value at each place. -/
def PT.overFill (v : α) : PT α → PT α
  | .nil => .fill v
  | .fill x => .fill x
  | .node v' l r => .node (match v' with | some x => some x | none => some v) (l.overFill v) (r.overFill v)
/-- The second's places over the first's. -/
def PT.over : PT α → PT α → PT α
  | .nil, u => u
  | .fill v, u => u.overFill v
  | .node v l r, u => match u with
    | .nil => .node v l r
    | .fill x => .fill x
    | .node v' l' r' => .node (match v' with | some x => some x | none => v) (l.over l') (r.over r')
/-- At each place what 'f' says of its number. -/
def PT.idx (f : Nat → β) : PT α → Nat → Nat → PT β
  | .nil, _, _ => .nil
  | .fill _, _, _ => .nil
  | .node v l r, a, b => .node (match v with | some _ => some (f b) | none => none) (l.idx f (2 * a) (a + b)) (r.idx f (2 * a) (2 * a + b))
/-- The places of both, each with what 'f' says of its number. -/
def PT.both (f : Nat → β) : PT α → PT α → Nat → Nat → PT β
  | .nil, u, a, b => u.idx f a b
  | .fill _, _, _, _ => .nil
  | .node v l r, u, a, b => match u with
    | .nil => (PT.node v l r).idx f a b
    | .fill _ => .nil
    | .node v' l' r' => .node (match v with | some _ => some (f b) | none => match v' with | some _ => some (f b) | none => none) (l.both f l' (2 * a) (a + b)) (r.both f r' (2 * a) (2 * a + b))
/-- All places' numbers are of a kind. -/
def PT.allK (p : Nat → Bool) : PT α → Nat → Nat → Bool
  | .nil, _, _ => true
  | .fill _, _, _ => false
  | .node v l r, a, b => (match v with | some _ => p b | none => true) && (l.allK p (2 * a) (a + b) && r.allK p (2 * a) (2 * a + b))
def PT.fin : PT α → Bool
  | .nil => true
  | .fill _ => false
  | .node _ l r => l.fin && r.fin
theorem PT.fin_allK (p : Nat → Bool) : ∀ (t : PT α) (a b : Nat), t.allK p a b = true → t.fin = true := by
  intro t
  induction t with
  | nil => intro a b _; rfl
  | fill v => intro a b h; cases h
  | node v l r ihl ihr =>
    intro a b h
    simp only [PT.allK, Bool.and_eq_true] at h
    simp only [PT.fin, Bool.and_eq_true]
    exact ⟨ihl _ _ h.2.1, ihr _ _ h.2.2⟩

theorem PT.get_setF (x : α) : ∀ (k : Nat) (t : PT α) (i j : Nat), i < k → (PT.setF k t i x).get j = if j = i then some x else t.get j := by
  intro k
  induction k with
  | zero => intro t i j h; omega
  | succ k ih =>
    intro t i j h
    have e : PT.setF (k + 1) t i x = (match t with
      | .nil => bif Nat.beq i 0 then .node (some x) .nil .nil else bif Nat.beq (i % 2) 1 then .node none (PT.setF k .nil (i / 2) x) .nil else .node none .nil (PT.setF k .nil (i / 2 - 1) x)
      | .fill v => bif Nat.beq i 0 then .node (some x) (.fill v) (.fill v) else bif Nat.beq (i % 2) 1 then .node (some v) (PT.setF k (.fill v) (i / 2) x) (.fill v) else .node (some v) (.fill v) (PT.setF k (.fill v) (i / 2 - 1) x)
      | .node v l r => bif Nat.beq i 0 then .node (some x) l r else bif Nat.beq (i % 2) 1 then .node v (PT.setF k l (i / 2) x) r else .node v l (PT.setF k r (i / 2 - 1) x)) := by cases t <;> rfl
    rw [e]
    have hb : ∀ a b : Nat, Nat.beq a b = decide (a = b) := fun a b => by
      cases h : Nat.beq a b
      · exact (decide_eq_false fun e => by subst e; simp at h).symm
      · exact (decide_eq_true (Nat.eq_of_beq_eq_true h)).symm
    cases t with
    | nil =>
      dsimp only
      rw [hb i 0, hb (i % 2) 1]
      by_cases h0 : i = 0
      · simp only [h0, decide_true, cond_true, PT.get, hb]
        by_cases hj : j = 0 <;> simp [hj]
      · by_cases h1 : i % 2 = 1
        · simp only [h0, h1, decide_false, decide_true, cond_true, cond_false, PT.get, hb]
          rw [ih _ _ _ (by omega)]
          by_cases hj : j = 0
          · simp [hj]; omega
          · by_cases hj1 : j % 2 = 1
            · have e : (j / 2 = i / 2) ↔ (j = i) := by omega
              simp [hj, hj1, e, PT.get]
            · have : j ≠ i := by omega
              simp [hj, hj1, this]
        · simp only [h0, h1, decide_false, cond_false, PT.get, hb]
          rw [ih _ _ _ (by omega)]
          by_cases hj : j = 0
          · simp [hj]; omega
          · by_cases hj1 : j % 2 = 1
            · have : j ≠ i := by omega
              simp [hj, hj1, this]
            · have e : (j / 2 - 1 = i / 2 - 1) ↔ (j = i) := by omega
              simp [hj, hj1, e, PT.get]
    | fill v =>
      dsimp only
      rw [hb i 0, hb (i % 2) 1]
      by_cases h0 : i = 0
      · simp only [h0, decide_true, cond_true, PT.get, hb]
        by_cases hj : j = 0 <;> simp [hj]
      · by_cases h1 : i % 2 = 1
        · simp only [h0, h1, decide_false, decide_true, cond_true, cond_false, PT.get, hb]
          rw [ih _ _ _ (by omega)]
          by_cases hj : j = 0
          · simp [hj]; omega
          · by_cases hj1 : j % 2 = 1
            · have e : (j / 2 = i / 2) ↔ (j = i) := by omega
              simp [hj, hj1, e, PT.get]
            · have : j ≠ i := by omega
              simp [hj, hj1, this]
        · simp only [h0, h1, decide_false, cond_false, PT.get, hb]
          rw [ih _ _ _ (by omega)]
          by_cases hj : j = 0
          · simp [hj]; omega
          · by_cases hj1 : j % 2 = 1
            · have : j ≠ i := by omega
              simp [hj, hj1, this]
            · have e : (j / 2 - 1 = i / 2 - 1) ↔ (j = i) := by omega
              simp [hj, hj1, e, PT.get]
    | node v l r =>
      dsimp only
      rw [hb i 0, hb (i % 2) 1]
      by_cases h0 : i = 0
      · simp only [h0, decide_true, cond_true, PT.get, hb]
        by_cases hj : j = 0 <;> simp [hj]
      · by_cases h1 : i % 2 = 1
        · simp only [h0, h1, decide_false, decide_true, cond_true, cond_false, PT.get, hb]
          rw [ih _ _ _ (by omega)]
          by_cases hj : j = 0
          · simp [hj]; omega
          · by_cases hj1 : j % 2 = 1
            · have e : (j / 2 = i / 2) ↔ (j = i) := by omega
              simp [hj, hj1, e]
            · have : j ≠ i := by omega
              simp [hj, hj1, this]
        · simp only [h0, h1, decide_false, cond_false, PT.get, hb]
          rw [ih _ _ _ (by omega)]
          by_cases hj : j = 0
          · simp [hj]; omega
          · by_cases hj1 : j % 2 = 1
            · have : j ≠ i := by omega
              simp [hj, hj1, this]
            · have e : (j / 2 - 1 = i / 2 - 1) ↔ (j = i) := by omega
              simp [hj, hj1, e]
theorem PT.get_set (t : PT α) (i : Nat) (x : α) (j : Nat) : (t.set i x).get j = if j = i then some x else t.get j := PT.get_setF x (i + 1) t i j (Nat.lt_succ_self i)
theorem PT.get_set_ne (t : PT α) {i j : Nat} (x : α) (h : j ≠ i) : (t.set i x).get j = t.get j := by rw [PT.get_set, if_neg h]
theorem PT.get_set_eq (t : PT α) (i : Nat) (x : α) : (t.set i x).get i = some x := by rw [PT.get_set, if_pos rfl]
theorem PT.get_over : ∀ (t u : PT α) (i : Nat), (t.over u).get i = match u.get i with | some x => some x | none => t.get i := by
  intro t
  induction t with
  | nil => intro u i; simp only [PT.over, PT.get]; cases u.get i <;> rfl
  | fill v =>
    intro u
    show ∀ i, (u.overFill v).get i = match u.get i with | some x => some x | none => some v
    induction u with
    | nil => intro i; rfl
    | fill x => intro i; rfl
    | node v' l r ihl ihr =>
      intro i
      simp only [PT.overFill, PT.get]
      cases Nat.beq i 0
      · cases Nat.beq (i % 2) 1
        · simp only [cond_false]; exact ihr _
        · simp only [cond_false, cond_true]; exact ihl _
      · simp only [cond_true]
  | node v l r ihl ihr =>
    intro u i
    cases u with
    | nil => simp only [PT.over, PT.get]
    | fill x => simp only [PT.over, PT.get]
    | node v' l' r' =>
      simp only [PT.over, PT.get]
      cases Nat.beq i 0
      · cases Nat.beq (i % 2) 1
        · simp only [cond_false]; exact ihr _ _
        · simp only [cond_false, cond_true]; exact ihl _ _
      · simp only [cond_true]
theorem place0 (a b i : Nat) (h : Nat.beq i 0 = true) : a * i + b = b := by rw [Nat.eq_of_beq_eq_true h]; simp
theorem place1 (a b i : Nat) (h : Nat.beq (i % 2) 1 = true) : a * i + b = 2 * a * (i / 2) + (a + b) := by
  have := Nat.eq_of_beq_eq_true h
  have e : i = 2 * (i / 2) + 1 := by omega
  generalize i / 2 = k at e
  subst e
  rw [Nat.mul_add, Nat.mul_one, ← Nat.mul_assoc, Nat.mul_comm a 2]
  omega
theorem place2 (a b i : Nat) (h0 : Nat.beq i 0 = false) (h : Nat.beq (i % 2) 1 = false) : a * i + b = 2 * a * (i / 2 - 1) + (2 * a + b) := by
  have h0' : i ≠ 0 := fun e => by subst e; cases h0
  have h1' : i % 2 ≠ 1 := fun e => by rw [e] at h; cases h
  have e : i = 2 * (i / 2 - 1) + 2 := by omega
  generalize i / 2 - 1 = k at e
  subst e
  rw [Nat.mul_add, ← Nat.mul_assoc, Nat.mul_comm a 2]
  omega
theorem PT.get_idx (f : Nat → β) : ∀ (t : PT α) (a b i : Nat), t.fin = true → (t.idx f a b).get i = match t.get i with | some _ => some (f (a * i + b)) | none => none := by
  intro t
  induction t with
  | nil => intro a b i _; rfl
  | fill v => intro a b i h; cases h
  | node v l r ihl ihr =>
    intro a b i hf
    simp only [PT.fin, Bool.and_eq_true] at hf
    simp only [PT.idx, PT.get]
    cases h0 : Nat.beq i 0
    · cases h1 : Nat.beq (i % 2) 1
      · simp only [cond_false]; rw [ihr _ _ _ hf.2, place2 a b i h0 h1]
      · simp only [cond_false, cond_true]; rw [ihl _ _ _ hf.1, place1 a b i h1]
    · simp only [cond_true]; rw [place0 a b i h0]
theorem PT.get_both (f : Nat → β) : ∀ (t u : PT α) (a b i : Nat), t.fin = true → u.fin = true → (t.both f u a b).get i = match t.get i, u.get i with | none, none => none | _, _ => some (f (a * i + b)) := by
  intro t
  induction t with
  | nil => intro u a b i _ hu; simp only [PT.both, PT.get]; rw [PT.get_idx _ _ _ _ _ hu]; cases u.get i <;> rfl
  | fill v => intro u a b i h; cases h
  | node v l r ihl ihr =>
    intro u a b i ht hu
    cases u with
    | nil => simp only [PT.both]; rw [PT.get_idx _ _ _ _ _ ht]; simp only [PT.get]; split <;> simp_all
    | fill v => cases hu
    | node v' l' r' =>
      simp only [PT.fin, Bool.and_eq_true] at ht hu
      simp only [PT.both, PT.get]
      cases h0 : Nat.beq i 0
      · cases h1 : Nat.beq (i % 2) 1
        · simp only [cond_false]; rw [ihr _ _ _ _ ht.2 hu.2, place2 a b i h0 h1]
        · simp only [cond_false, cond_true]; rw [ihl _ _ _ _ ht.1 hu.1, place1 a b i h1]
      · simp only [cond_true]; rw [place0 a b i h0]; cases v <;> cases v' <;> rfl
theorem PT.allK_get (p : Nat → Bool) : ∀ (t : PT α) (a b : Nat), t.allK p a b = true → ∀ i x, t.get i = some x → p (a * i + b) = true := by
  intro t
  induction t with
  | nil => intro a b _ i x h; cases h
  | fill v => intro a b h; cases h
  | node v l r ihl ihr =>
    intro a b h i x hx
    simp only [PT.allK, Bool.and_eq_true] at h
    simp only [PT.get] at hx
    cases h0 : Nat.beq i 0
    · rw [h0] at hx
      cases h1 : Nat.beq (i % 2) 1
      · rw [h1] at hx; rw [place2 a b i h0 h1]; exact ihr _ _ h.2.2 _ _ hx
      · rw [h1] at hx; rw [place1 a b i h1]; exact ihl _ _ h.2.1 _ _ hx
    · rw [h0] at hx
      simp only [cond_true] at hx
      subst hx
      rw [place0 a b i h0]
      exact h.1
end

/-! ### Rows of values -/
def V.nth : V → Nat → V
  | .cons h t, i => bif Nat.beq i 0 then h else t.nth (i - 1)
  | _, _ => .junk
def V.len : V → Nat
  | .cons _ t => t.len + 1
  | _ => 0
def V.drop : V → Nat → V
  | .cons h t, i => bif Nat.beq i 0 then .cons h t else t.drop (i - 1)
  | v, _ => v
def V.take : V → Nat → V
  | .cons h t, i => bif Nat.beq i 0 then .nil else .cons h (t.take (i - 1))
  | _, _ => .nil
def V.app : V → V → V
  | .cons h t, y => .cons h (t.app y)
  | _, y => y
/-- 'vs' laid over 'cs' from place 'o' on. -/
def V.splice : V → Nat → V → V
  | .cons h t, o, vs => bif Nat.beq o 0 then (match vs with | .cons x r => .cons x (t.splice 0 r) | _ => .cons h t) else .cons h (t.splice (o - 1) vs)
  | v, _, _ => v
def V.cells : V → V
  | .agg cs => cs
  | v => .cons v .nil
def V.ofList : List V → V
  | [] => .nil
  | v :: l => .cons v (V.ofList l)
/-- A row of values: it ends in 'nil'. -/
def V.isRow : V → Bool
  | .nil => true
  | .cons _ t => t.isRow
  | _ => false
/-- No part of it names a block of the abstract heap. -/
def V.clean : V → Bool
  | .cons h t => h.clean && t.clean
  | .agg cs => cs.clean
  | .tup vs => vs.clean
  | .ptr .. | .osl .. | .osp .. | .yld _ | .mp _ => false
  | .fn _ a b => a.clean && b.clean
  | _ => true

/-- It is one value of the model's, or a row of its cells. -/
def V.solid : V → Bool
  | .junk | .nil | .cons _ _ => false
  | _ => true
/-- It is what one cell of memory holds. -/
def V.cell : V → Bool
  | .junk | .nil | .cons _ _ | .undef | .agg _ | .tup _ => false
  | _ => true
def V.allCell : V → Bool
  | .nil => true
  | .cons h t => h.cell && t.allCell
  | _ => false

def V.ofLeaf : Value → V
  | .int k n => .int true k n
  | .bool b => .bool true b
  | .string s => .str true s.data.toList
  | .pointer none => .nilptr
  | .slice none 0 0 => .nilsl
  | .map none => .nilmap
  | .nilFunc => .nilfn
  | .nilIface => .nilif
  | .func f first cap => match first.toList, cap.toList with | [], [] => .fn f .nil .nil | _, _ => .junk
  | _ => .junk
def V.ofValue : Value → V
  | .agg cs => .agg (V.ofList (cs.toList.map V.ofLeaf))
  | v => V.ofLeaf v

/-! ### Literal numbers are brought to literals as they arise -/
universe u
def forceNat {β : Type u} (m : Nat) (f : Nat → β) : β := Nat.rec (f 0) (fun k _ => f (k + 1)) m
theorem forceNat_eq {β : Type u} (m : Nat) (f : Nat → β) : forceNat m f = f m := by cases m <;> rfl
def forceInt {β : Type u} (n : Int) (f : Int → β) : β :=
  match n with
  | .ofNat m => forceNat m fun m => f (.ofNat m)
  | .negSucc m => forceNat m fun m => f (.negSucc m)
theorem forceInt_eq {β : Type u} (n : Int) (f : Int → β) : forceInt n f = f n := by
  cases n <;> simp only [forceInt, forceNat_eq]
def mkInt (st : Bool) (k : IntKind) (n : Int) : V :=
  match st with
  | true => forceInt n fun n => .int true k n
  | false => .int false k n
theorem mkInt_eq (st : Bool) (k : IntKind) (n : Int) : mkInt st k n = .int st k n := by
  cases st <;> simp only [mkInt, forceInt_eq]
def mkBool (st : Bool) (b : Bool) : V :=
  match st with
  | true => match b with | true => .bool true true | false => .bool true false
  | false => .bool false b
theorem mkBool_eq (st : Bool) (b : Bool) : mkBool st b = .bool st b := by
  cases st <;> cases b <;> rfl

/-- How a piece of code is left. -/
inductive Ex where
  | normal
  | exit (id : Nat)
  | ret
def Ex.toExit : Ex → Exit
  | .normal => .normal
  | .exit id => .exit id
  | .ret => .ret

/-! ### The abstract heap -/
/-- 'none': not laid yet; 'any': nothing is known of it. -/
inductive Blk where
  | none
  | any
  | var (cs : V)
  | arr (es n : Nat) (get : Nat → V)
  /-- A map: its keys' kind; whether all that was put there is known by literal keys; whether a key is there, and what stands there. -/
  | mapV (kd : MK) (st : Bool) (f : Value → Bool × V) (ks : Ks)
  /-- A range over a map: which map's name ('none': the nil map), since when, which entries came, when the last one did. -/
  | iter (mb : Option Nat) (since : Nat) (seen : List Nat) (last : Nat)
  /-- A range over a function: of which function, its code, the temporaries it began with, how it stands (0: ready, 1: in a round, 2: done), how it was left. -/
  | rng (f : FuncId) (ps : List Nat) (asg bd : Code) (row : Nat → V) (N : Nat) (st : Nat) (pend : Option Ex)

/-- What a state is told against. -/
structure Base where
  t : Nat → V
  h : Nat → Blk
structure St (B : Base) where
  t : PT V
  h : PT Blk
  n : Nat
  N : Nat

def look {α : Type} (d : Nat → α) (t : PT α) (i : Nat) : α :=
  match t.get i with
  | some v => v
  | none => d i
theorem look_set {α : Type} (d : Nat → α) (t : PT α) (i : Nat) (x : α) (j : Nat) : look d (t.set i x) j = if j = i then x else look d t j := by
  unfold look
  rw [PT.get_set]
  by_cases h : j = i <;> simp [h]
theorem look_set_ne {α : Type} (d : Nat → α) (t : PT α) {i j : Nat} (x : α) (h : j ≠ i) : look d (t.set i x) j = look d t j := by rw [look_set, if_neg h]
theorem look_set_eq {α : Type} (d : Nat → α) (t : PT α) (i : Nat) (x : α) : look d (t.set i x) i = x := by rw [look_set, if_pos rfl]
section
variable {B : Base}
abbrev St.tmp (s : St B) (i : Nat) : V := look B.t s.t i
abbrev St.blk (s : St B) (b : Nat) : Blk := look B.h s.h b
def St.put (s : St B) (dst : Option Tmp) (v : V) : St B :=
  match dst with
  | some d => { s with t := s.t.set d v }
  | none => s
/-- The same state, told against itself. -/
def St.bs (s : St B) : Base := ⟨s.tmp, s.blk⟩
def St.sub (s : St B) : St s.bs := ⟨.nil, .nil, s.n, s.N⟩
end

/-- What comes, by the tests that are not known ahead. -/
inductive Tree (α : Type) : Type 1 where
  | leaf (a : α)
  | stuck
  | node (b : Bool) (t f : Tree α)
  | need (p : Prop) (t : Tree α)
  | all (σ : Type) (t : σ → Tree α)
  | given (p : Prop) (t : Tree α)

def Tree.bind {α β : Type} : Tree α → (α → Tree β) → Tree β
  | .leaf a, k => k a
  | .stuck, _ => .stuck
  | .node b t f, k => .node b (t.bind k) (f.bind k)
  | .need p t, k => .need p (t.bind k)
  | .all σ t, k => .all σ fun x => (t x).bind k
  | .given p t, k => .given p (t.bind k)

/-- Nothing in it is left open. -/
def Tree.flat {α : Type} : Tree α → Bool
  | .leaf _ => true
  | .stuck => true
  | .node _ t f => t.flat && f.flat
  | .need _ t => t.flat
  | .all .. => false
  | .given .. => false

/-! ### What abstract values stand for -/
section
variable (F : Nat → Prop) (w : World)
mutual
def R : V → Nat → (Nat → Option Nat) → Value → Prop
  | .junk, _, _, _ => True
  | .undef, _, _, x => x = Go.undef
  | .nil, _, _, _ => False
  | .cons _ _, _, _, _ => False
  | .int _ k n, _, _, x => x = .int k n
  | .bool _ b, _, _, x => x = .bool b
  | .str _ s, _, _, x => x = .string ⟨s.toArray⟩
  | .agg cs, n, m, x => ∃ xs, x = .agg xs ∧ RL cs n m xs.toList
  | .tup vs, n, m, x => ∃ xs, x = .tuple xs ∧ RL vs n m xs.toList
  | .ptr _ b es i o, n, m, x => b < n ∧ ∃ B, x = .pointer (some ⟨B, i * es + o, none⟩) ∧ m b = some B
  | .rptr _ es n' get i o, _, _, x => i < n' ∧ ∃ B off, x = .pointer (some ⟨B, off + i * es + o, none⟩) ∧ F B ∧ ∃ c el fr, w.heap[B]? = some (.cells c el fr) ∧
      ∀ j, j < n' → ∃ xs, RL (get j) 0 (fun _ => none) xs ∧ xs.length = es ∧ ∀ q, q < es → c[off + j * es + q]? = xs[q]?
  | .nilptr, _, _, x => x = .pointer none
  | .rsl _ es n' get, _, _, x => ∃ a cap, x = .slice a n' cap ∧ n' ≤ cap ∧ (n' = 0 ∨ ∃ B off, a = some ⟨B, off, none⟩ ∧ F B ∧ ∃ c el fr, w.heap[B]? = some (.cells c el fr) ∧
      ∀ j, j < n' → ∃ xs, RL (get j) 0 (fun _ => none) xs ∧ xs.length = es ∧ ∀ q, q < es → c[off + j * es + q]? = xs[q]?)
  | .osl _ b es i n', n, m, x => b < n ∧ ∃ a cap, x = .slice a n' cap ∧ n' ≤ cap ∧ (cap = 0 ∨ ∃ B c el fr, a = some ⟨B, i * es, none⟩ ∧ m b = some B ∧ w.heap[B]? = some (.cells c el fr) ∧ (i + cap) * es ≤ c.size)
  | .osp _ b es i n' c', n, m, x => b < n ∧ ∃ a cap, x = .slice a n' cap ∧ n' ≤ c' ∧ c' ≤ cap ∧ (cap = 0 ∨ ∃ B c el fr, a = some ⟨B, i * es, none⟩ ∧ m b = some B ∧ w.heap[B]? = some (.cells c el fr) ∧ (i + cap) * es ≤ c.size)
  | .nilsl, _, _, x => x = .slice none 0 0
  | .fn f first cap, n, m, x => ∃ xs ys, x = .func f xs ys ∧ RL first n m xs.toList ∧ RL cap n m ys.toList
  | .nilfn, _, _, x => x = .nilFunc
  | .nilmap, _, _, x => x = .map none
  | .nilif, _, _, x => x = .nilIface
  | .yld b, n, m, x => b < n ∧ ∃ l, x = .func (.yield l) #[] #[] ∧ m b = some l
  | .mp b, n, m, x => b < n ∧ ∃ B, x = .map (some B) ∧ m b = some B
  | .esl nn _, _, _, x => ∃ a, x = .slice a 0 0 ∧ (nn = true → a ≠ none)
  | .rmp _ kd has get, _, _, x => ∃ B, x = .map (some B) ∧ F B ∧ ∃ (es : Array MapEntry) (clock : Nat), w.heap[B]? = some (.map es clock) ∧ Entries kd es.toList ∧
      ∀ k, kd.is k = true → has k = (mapGet k es.toList).isSome ∧ ∀ v, mapGet k es.toList = some v → R (get k) 0 (fun _ => none) v
  | .ifc _ b, _, _, x => (b = true ∧ x = .nilIface) ∨ (b = false ∧ ∃ t v, x = .iface t v)
def RL : V → Nat → (Nat → Option Nat) → List Value → Prop
  | .nil, _, _, xs => xs = []
  | .cons h t, n, m, xs => ∃ x r, xs = x :: r ∧ R h n m x ∧ RL t n m r
  | _, _, _, _ => False
end
end

end Go.Fw
