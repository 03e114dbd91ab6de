/- The evaluator once more, laid out for the kernel: what depends on the code alone stands in boxes, which the kernel opens once. It is the same function. -/
import Derived.Test.YtkkojdcchnailaaGreatDoorQGwC
namespace Go.Fw
universe u

/-- What is made ready once. -/
structure Box (α : Type u) where
  f : α

/-! ### Trees, numbers, places -/
noncomputable def Tree.bnd {α β : Type} (T : Tree α) (k : α → Tree β) : Tree β :=
  Tree.rec (motive := fun _ => Tree β) (fun a => k a) .stuck (fun b _ _ t f => .node b t f) (fun p _ t => .need p t) (fun σ _ t => .all σ t) (fun p _ t => .given p t) T
theorem Tree.bnd_eq {α β : Type} (T : Tree α) (k : α → Tree β) : T.bnd k = T.bind k := by
  induction T with
  | leaf a => rfl
  | stuck => rfl
  | node b t f iht ihf => show Tree.node b (t.bnd k) (f.bnd k) = _; rw [iht, ihf]; rfl
  | need p t ih => show Tree.need p (t.bnd k) = _; rw [ih]; rfl
  | all σ t ih => show Tree.all σ (fun x => (t x).bnd k) = _; rw [funext ih]; rfl
  | given p t ih => show Tree.given p (t.bnd k) = _; rw [ih]; rfl
def wrapF (k : IntKind) (n : Int) : Int :=
  match n with
  | .ofNat m => match k with
    | .i64 => bif Nat.ble m 9223372036854775807 then .ofNat m else k.wrap n
    | .u32 => bif Nat.ble m 4294967295 then .ofNat m else k.wrap n
    | .u64 => bif Nat.ble m 18446744073709551615 then .ofNat m else k.wrap n
    | .u8 => bif Nat.ble m 255 then .ofNat m else k.wrap n
    | k => k.wrap n
  | .negSucc m => match k with
    | .i64 => bif Nat.ble m 9223372036854775807 then .negSucc m else k.wrap n
    | k => k.wrap n
theorem i64_nat {m : Nat} (h : Nat.ble m 9223372036854775807 = true) : Int.ofNat m = IntKind.i64.wrap (Int.ofNat m) := by
  have h := Nat.le_of_ble_eq_true h
  exact (IntWalk.i64_in (m : Int) ⟨by omega, by omega⟩).symm
theorem i64_neg {m : Nat} (h : Nat.ble m 9223372036854775807 = true) : Int.negSucc m = IntKind.i64.wrap (Int.negSucc m) := by
  have h := Nat.le_of_ble_eq_true h
  have e := Int.negSucc_eq m
  exact (IntWalk.i64_in _ ⟨by omega, by omega⟩).symm
theorem u32_nat {m : Nat} (h : Nat.ble m 4294967295 = true) : Int.ofNat m = IntKind.u32.wrap (Int.ofNat m) := by
  have h := Nat.le_of_ble_eq_true h
  exact (IntWalk.u32_in (m : Int) ⟨by omega, by omega⟩).symm
theorem u64_nat {m : Nat} (h : Nat.ble m 18446744073709551615 = true) : Int.ofNat m = IntKind.u64.wrap (Int.ofNat m) := by
  have h := Nat.le_of_ble_eq_true h
  exact (IntWalk.u64_in (m : Int) ⟨by omega, by omega⟩).symm
theorem u8_nat {m : Nat} (h : Nat.ble m 255 = true) : Int.ofNat m = IntKind.u8.wrap (Int.ofNat m) := by
  have h := Nat.le_of_ble_eq_true h
  exact (IntWalk.u8_in (m : Int) ⟨by omega, by omega⟩).symm
theorem bif_same {α : Type} {b : Bool} {x y : α} (h : b = true → x = y) : (bif b then x else y) = y := by
  cases b with
  | true => exact h rfl
  | false => rfl
theorem wrapF_eq (k : IntKind) (n : Int) : wrapF k n = k.wrap n := by
  cases n with
  | ofNat m =>
    cases k
    case i64 => exact bif_same i64_nat
    case u32 => exact bif_same u32_nat
    case u64 => exact bif_same u64_nat
    case u8 => exact bif_same u8_nat
    all_goals rfl
  | negSucc m =>
    cases k
    case i64 => exact bif_same i64_neg
    all_goals rfl
/-- A number of a kind, brought into its range. -/
def mkW (st : Bool) (k : IntKind) (n : Int) : V :=
  match st with
  | true => forceInt (wrapF k n) fun n => .int true k n
  | false => .int false k (k.wrap n)
theorem mkW_eq (st : Bool) (k : IntKind) (n : Int) : mkW st k n = mkInt st k (k.wrap n) := by
  cases st <;> simp only [mkW, mkInt, wrapF_eq]
def ltF (a b : Int) : Bool :=
  match a with
  | .ofNat m => match b with | .ofNat n => Nat.blt m n | .negSucc _ => false
  | .negSucc m => match b with | .ofNat _ => true | .negSucc n => Nat.blt n m
def eqF (a b : Int) : Bool :=
  match a with
  | .ofNat m => match b with | .ofNat n => Nat.beq m n | .negSucc _ => false
  | .negSucc m => match b with | .ofNat _ => false | .negSucc n => Nat.beq m n
theorem blt_dec (a b : Nat) : Nat.blt a b = decide (a < b) := by
  cases h : Nat.blt a b
  · exact (decide_eq_false fun h' => by rw [← Nat.blt_eq] at h'; rw [h'] at h; cases h).symm
  · exact (decide_eq_true (by rw [← Nat.blt_eq]; exact h)).symm
theorem beq_dec (a b : Nat) : Nat.beq a b = decide (a = b) := by
  cases h : Nat.beq a b
  · exact (decide_eq_false fun e => by subst e; simp at h).symm
  · exact (decide_eq_true (Nat.eq_of_beq_eq_true h)).symm
theorem ltF_eq (a b : Int) : ltF a b = decide (a < b) := by
  cases a with
  | ofNat m =>
    cases b with
    | ofNat n => show Nat.blt m n = decide ((m : Int) < (n : Int)); rw [blt_dec]; apply decide_eq_decide.2; omega
    | negSucc n => have := Int.negSucc_eq n; exact (decide_eq_false (show ¬ (m : Int) < Int.negSucc n by omega)).symm
  | negSucc m =>
    have hm := Int.negSucc_eq m
    cases b with
    | ofNat n => exact (decide_eq_true (show Int.negSucc m < (n : Int) by omega)).symm
    | negSucc n => have := Int.negSucc_eq n; show Nat.blt n m = _; rw [blt_dec]; apply decide_eq_decide.2; omega
theorem eqF_eq (a b : Int) : eqF a b = (a == b) := by
  have e : (a == b) = decide (a = b) := by cases h : decide (a = b) <;> simp_all
  rw [e]
  cases a with
  | ofNat m =>
    cases b with
    | ofNat n => show Nat.beq m n = decide ((m : Int) = (n : Int)); rw [beq_dec]; apply decide_eq_decide.2; omega
    | negSucc n => exact (decide_eq_false (fun h => by cases h)).symm
  | negSucc m =>
    cases b with
    | ofNat n => exact (decide_eq_false (fun h => by cases h)).symm
    | negSucc n => show Nat.beq m n = _; rw [beq_dec]; apply decide_eq_decide.2; exact ⟨fun h => by rw [h], fun h => by injection h⟩
/-- A truth, told by what is quick where all is literal. -/
def mkQ (st : Bool) (quick slow : Bool) : V :=
  match st with
  | true => match quick with | true => .bool true true | false => .bool true false
  | false => .bool false slow
theorem mkQ_eq {st quick slow : Bool} (h : quick = slow) : mkQ st quick slow = mkBool st slow := by subst h; cases st <;> cases quick <;> rfl

/-- The way to a place. -/
noncomputable def pathF (k : Nat) : Nat → List Bool := Nat.rec (fun _ => []) (fun _ ih i => bif Nat.beq i 0 then [] else bif Nat.beq (i % 2) 1 then true :: ih (i / 2) else false :: ih (i / 2 - 1)) k
noncomputable def pathOf (i : Nat) : List Bool := pathF (i + 1) i
noncomputable def getP {α : Type} (p : List Bool) : PT α → Option α :=
  List.rec (motive := fun _ => PT α → Option α)
    (fun t => PT.casesOn (motive := fun _ => Option α) t none (fun v => some v) (fun v _ _ => v))
    (fun b _ ih t => PT.casesOn (motive := fun _ => Option α) t none (fun v => some v) (fun _ l r => Bool.casesOn (motive := fun _ => Option α) b (ih r) (ih l))) p
noncomputable def setP {α : Type} (p : List Bool) : PT α → α → PT α :=
  List.rec (motive := fun _ => PT α → α → PT α)
    (fun t x => PT.casesOn (motive := fun _ => PT α) t (.node (some x) .nil .nil) (fun v => .node (some x) (.fill v) (.fill v)) (fun _ l r => .node (some x) l r))
    (fun b _ ih t x => PT.casesOn (motive := fun _ => PT α) t
      (Bool.casesOn (motive := fun _ => PT α) b (.node none .nil (ih .nil x)) (.node none (ih .nil x) .nil))
      (fun v => Bool.casesOn (motive := fun _ => PT α) b (.node (some v) (.fill v) (ih (.fill v) x)) (.node (some v) (ih (.fill v) x) (.fill v)))
      (fun v l r => Bool.casesOn (motive := fun _ => PT α) b (.node v l (ih r x)) (.node v (ih l x) r))) p
theorem getP_eq {α : Type} : ∀ (k : Nat) (t : PT α) (i : Nat), i < k → getP (pathF k i) t = t.get i := by
  intro k
  induction k with
  | zero => intro t i h; omega
  | succ k ih =>
    intro t i h
    show getP (bif Nat.beq i 0 then [] else bif Nat.beq (i % 2) 1 then true :: pathF k (i / 2) else false :: pathF k (i / 2 - 1)) t = _
    cases h0 : Nat.beq i 0
    · have hi : i ≠ 0 := fun e => by subst e; cases h0
      cases h1 : Nat.beq (i % 2) 1
      · simp only [cond_false]
        cases t with
        | nil => rfl
        | fill v => rfl
        | node v l r => show getP (pathF k (i / 2 - 1)) r = _; rw [ih r _ (by omega)]; simp only [PT.get, h0, h1, cond_false]
      · simp only [cond_false, cond_true]
        cases t with
        | nil => rfl
        | fill v => rfl
        | node v l r => show getP (pathF k (i / 2)) l = _; rw [ih l _ (by omega)]; simp only [PT.get, h0, h1, cond_false, cond_true]
    · simp only [cond_true]
      cases t with
      | nil => rfl
      | fill v => rfl
      | node v l r => simp only [PT.get, h0, cond_true]; rfl
theorem setP_eq {α : Type} (x : α) : ∀ (k : Nat) (t : PT α) (i : Nat), i < k → setP (pathF k i) t x = PT.setF k t i x := by
  intro k
  induction k with
  | zero => intro t i h; omega
  | succ k ih =>
    intro t i h
    show setP (bif Nat.beq i 0 then [] else bif Nat.beq (i % 2) 1 then true :: pathF k (i / 2) else false :: pathF k (i / 2 - 1)) t x = _
    have e : PT.setF (k + 1) t i x = (match t with
      | .nil => bif Nat.beq i 0 then .node (some x) .nil .nil else bif Nat.beq (i % 2) 1 then .node none (PT.setF k .nil (i / 2) x) .nil else .node none .nil (PT.setF k .nil (i / 2 - 1) x)
      | .fill v => bif Nat.beq i 0 then .node (some x) (.fill v) (.fill v) else bif Nat.beq (i % 2) 1 then .node (some v) (PT.setF k (.fill v) (i / 2) x) (.fill v) else .node (some v) (.fill v) (PT.setF k (.fill v) (i / 2 - 1) x)
      | .node v l r => bif Nat.beq i 0 then .node (some x) l r else bif Nat.beq (i % 2) 1 then .node v (PT.setF k l (i / 2) x) r else .node v l (PT.setF k r (i / 2 - 1) x)) := by cases t <;> rfl
    rw [e]
    cases h0 : Nat.beq i 0
    · have hi : i ≠ 0 := fun e => by subst e; cases h0
      cases h1 : Nat.beq (i % 2) 1
      · simp only [cond_false]
        cases t with
        | nil => show PT.node none .nil (setP (pathF k (i / 2 - 1)) .nil x) = _; rw [ih _ _ (by omega)]
        | fill v => show PT.node (some v) (.fill v) (setP (pathF k (i / 2 - 1)) (.fill v) x) = _; rw [ih _ _ (by omega)]
        | node v l r => show PT.node v l (setP (pathF k (i / 2 - 1)) r x) = _; rw [ih _ _ (by omega)]
      · simp only [cond_false, cond_true]
        cases t with
        | nil => show PT.node none (setP (pathF k (i / 2)) .nil x) .nil = _; rw [ih _ _ (by omega)]
        | fill v => show PT.node (some v) (setP (pathF k (i / 2)) (.fill v) x) (.fill v) = _; rw [ih _ _ (by omega)]
        | node v l r => show PT.node v (setP (pathF k (i / 2)) l x) r = _; rw [ih _ _ (by omega)]
    · simp only [cond_true]
      cases t <;> rfl
/-- The same, the way made ready once. -/
noncomputable def getB {α : Type} (p : List Bool) : Box (PT α → Option α) :=
  List.rec (motive := fun _ => Box (PT α → Option α)) ⟨fun t => PT.rec (motive := fun _ => Option α) none (fun v => some v) (fun v _ _ _ _ => v) t⟩
    (fun b _ ih => Bool.rec (motive := fun _ => Box (PT α → Option α)) ⟨fun t => PT.rec (motive := fun _ => Option α) none (fun v => some v) (fun _ _ r _ _ => ih.f r) t⟩ ⟨fun t => PT.rec (motive := fun _ => Option α) none (fun v => some v) (fun _ l _ _ _ => ih.f l) t⟩ b) p
theorem getB_eq {α : Type} : ∀ (p : List Bool) (t : PT α), (getB p).f t = getP p t := by
  intro p
  induction p with
  | nil => intro t; cases t <;> rfl
  | cons b p ih => intro t; cases b <;> cases t <;> first | rfl | exact ih _
noncomputable def setB {α : Type} (p : List Bool) : Box (PT α → α → PT α) :=
  List.rec (motive := fun _ => Box (PT α → α → PT α)) ⟨fun t x => PT.rec (motive := fun _ => PT α) (.node (some x) .nil .nil) (fun v => .node (some x) (.fill v) (.fill v)) (fun _ l r _ _ => .node (some x) l r) t⟩
    (fun b _ ih => Bool.rec (motive := fun _ => Box (PT α → α → PT α))
      ⟨fun t x => PT.rec (motive := fun _ => PT α) (.node none .nil (ih.f .nil x)) (fun v => .node (some v) (.fill v) (ih.f (.fill v) x)) (fun v l r _ _ => .node v l (ih.f r x)) t⟩
      ⟨fun t x => PT.rec (motive := fun _ => PT α) (.node none (ih.f .nil x) .nil) (fun v => .node (some v) (ih.f (.fill v) x) (.fill v)) (fun v l r _ _ => .node v (ih.f l x) r) t⟩ b) p
theorem setB_eq {α : Type} : ∀ (p : List Bool) (t : PT α) (x : α), (setB p).f t x = setP p t x := by
  intro p
  induction p with
  | nil => intro t x; cases t <;> rfl
  | cons b p ih =>
    intro t x
    cases b <;> cases t
    · show PT.node none .nil ((setB p).f .nil x) = _; rw [ih]; rfl
    · rename_i v; show PT.node (some v) (.fill v) ((setB p).f (.fill v) x) = _; rw [ih]; rfl
    · rename_i v l r; show PT.node v l ((setB p).f r x) = _; rw [ih]; rfl
    · show PT.node none ((setB p).f .nil x) .nil = _; rw [ih]; rfl
    · rename_i v; show PT.node (some v) ((setB p).f (.fill v) x) (.fill v) = _; rw [ih]; rfl
    · rename_i v l r; show PT.node v ((setB p).f l x) r = _; rw [ih]; rfl
noncomputable def lookS {α : Type} (d : Nat → α) (t : PT α) (i : Nat) : α := Option.rec (motive := fun _ => α) (d i) (fun v => v) ((getB (pathOf i)).f t)
theorem lookS_eq {α : Type} (d : Nat → α) (t : PT α) (i : Nat) : lookS d t i = look d t i := by
  unfold lookS look pathOf
  rw [getB_eq, getP_eq _ _ _ (Nat.lt_succ_self i)]
  cases t.get i <;> rfl
theorem setP_set {α : Type} (t : PT α) (i : Nat) (x : α) : (setB (pathOf i)).f t x = t.set i x := by rw [setB_eq]; exact setP_eq x (i + 1) t i (Nat.lt_succ_self i)
/-- A choice, without detours. -/
noncomputable def cnd {α : Type u} (b : Bool) (x y : α) : α := Bool.rec (motive := fun _ => α) y x b
theorem cnd_eq {α : Type u} (b : Bool) (x y : α) : cnd b x y = bif b then x else y := by cases b <;> rfl

/-! ### Operands, results -/
noncomputable def stOp (x : Operand) : Box ((B : Base) → St B → V) :=
  match x with
  | .tmp t => ⟨fun B s => Option.rec (motive := fun _ => V) (B.t t) (fun v => v) ((getB (pathOf t)).f s.t)⟩
  | .const v => ⟨fun _ _ => V.ofValue v⟩
  | x => ⟨fun _ s => opnd s x⟩
theorem stOp_eq (x : Operand) (B : Base) (s : St B) : (stOp x).f B s = opnd s x := by
  cases x <;> first | rfl | exact lookS_eq _ _ _
noncomputable def stPut (d : Option Tmp) : Box ((B : Base) → St B → V → St B) :=
  match d with
  | some d => ⟨fun _ s v => { s with t := (setB (pathOf d)).f s.t v }⟩
  | none => ⟨fun _ s _ => s⟩
theorem stPut_eq (d : Option Tmp) (B : Base) (s : St B) (v : V) : (stPut d).f B s v = s.put d v := by
  cases d with
  | none => rfl
  | some d => simp only [stPut, St.put, setP_set]

/-! ### Operations -/
/-- Two numbers, by what is done to them. -/
noncomputable def stInt (op : BinOp) : Box (Bool → Bool → IntKind → Int → Int → Tree V) :=
  match op with
  | .add => ⟨fun s s' k a b => .leaf (mkW (s && s') k (a + b))⟩
  | .sub => ⟨fun s s' k a b => .leaf (mkW (s && s') k (a - b))⟩
  | .mul => ⟨fun s s' k a b => .leaf (mkW (s && s') k (a * b))⟩
  | .eql => ⟨fun s s' _ a b => .leaf (mkQ (s && s') (eqF a b) (a == b))⟩
  | .neq => ⟨fun s s' _ a b => .leaf (mkQ (s && s') (!eqF a b) (a != b))⟩
  | .lss => ⟨fun s s' _ a b => .leaf (mkQ (s && s') (ltF a b) (decide (a < b)))⟩
  | .leq => ⟨fun s s' _ a b => .leaf (mkQ (s && s') (!ltF b a) (decide (a ≤ b)))⟩
  | .gtr => ⟨fun s s' _ a b => .leaf (mkQ (s && s') (ltF b a) (decide (a > b)))⟩
  | .geq => ⟨fun s s' _ a b => .leaf (mkQ (s && s') (!ltF a b) (decide (a ≥ b)))⟩
  | op => ⟨fun s s' k a b => evInt op s s' k a b⟩
theorem stInt_eq (op : BinOp) (s s' : Bool) (k : IntKind) (a b : Int) : (stInt op).f s s' k a b = evInt op s s' k a b := by
  cases op <;> simp only [stInt, evInt, intBit, intCmp, mkW_eq]
  · rw [mkQ_eq (eqF_eq a b)]
  · rw [mkQ_eq (quick := !eqF a b) (slow := a != b) (by rw [eqF_eq]; rfl)]
  · rw [mkQ_eq (ltF_eq a b)]
  · rw [mkQ_eq (quick := !ltF b a) (slow := decide (a ≤ b)) (by rw [ltF_eq]; by_cases h : a ≤ b <;> simp [h] <;> omega)]
  · rw [mkQ_eq (ltF_eq b a)]
  · rw [mkQ_eq (quick := !ltF a b) (slow := decide (a ≥ b)) (by rw [ltF_eq]; by_cases h : b ≤ a <;> simp [h] <;> omega)]
def kindF (k k' : IntKind) : Bool := Nat.beq k.ctorIdx k'.ctorIdx
theorem kindF_eq (k k' : IntKind) : kindF k k' = decide (k = k') := by cases k <;> cases k' <;> rfl
noncomputable def stBin (P : Program) (op : BinOp) (t : TypeId) : Box (V → V → Tree V) :=
  match isShift op with
  | true => ⟨fun x y => evBin P op t x y⟩
  | false => ⟨fun x y => match x with
    | .int s k a => match y with
      | .int s' k' b => cnd (kindF k k') ((stInt op).f s s' k a b) .stuck
      | _ => .stuck
    | x => evBin P op t x y⟩
theorem stBin_eq (P : Program) (op : BinOp) (t : TypeId) (x y : V) : (stBin P op t).f x y = evBin P op t x y := by
  unfold stBin
  cases h : isShift op
  · cases x <;> try rfl
    rename_i s k a
    cases y <;> try rfl
    rename_i s' k' b
    simp only [evBin, h, stInt_eq, kindF_eq, cnd_eq]
    by_cases e : k = k' <;> simp [e]
  · rfl
noncomputable def stIfc (P : Program) (op : BinOp) (t : TypeId) (x y : Operand) : Box (V → V → Tree V) :=
  match P.underlying t with
  | some (.interface _) => ⟨fun a b => match evIfc P op t x y a b with
    | some T => T
    | none => evBin P op t a b⟩
  | _ => stBin P op t
theorem stIfc_eq (P : Program) (op : BinOp) (t : TypeId) (x y : Operand) (a b : V) : some ((stIfc P op t x y).f a b) = (match evIfc P op t x y a b with
    | some T => some T
    | none => some (evBin P op t a b)) := by
  unfold stIfc
  split
  · dsimp only; cases evIfc P op t x y a b <;> rfl
  · rename_i h
    have : evIfc P op t x y a b = none := by
      unfold evIfc
      split
      · rename_i m hm; exact absurd hm (h _)
      · rfl
    rw [this, stBin_eq]
/-- The cell at a place. -/
noncomputable def nthO (o : Nat) : V → Option V := Nat.rec (motive := fun _ => V → Option V)
  (fun v => match v with | .cons h _ => some h | _ => none) (fun _ ih v => match v with | .cons _ t => ih t | _ => none) o
theorem nthO_eq : ∀ (o : Nat) (v : V), nthO o v = bif Nat.blt o v.len then some (v.nth o) else none := by
  intro o
  induction o with
  | zero =>
    intro v
    cases v <;> rfl
  | succ o ih =>
    intro v
    cases v <;> try rfl
    rename_i h t
    show nthO o t = bif Nat.blt (o + 1) (t.len + 1) then some (V.nth (.cons h t) (o + 1)) else none
    rw [ih t]
    rfl
noncomputable def takeO (z : Nat) : V → Option V := Nat.rec (motive := fun _ => V → Option V)
  (fun _ => some .nil) (fun _ ih v => match v with | .cons h t => (match ih t with | some r => some (.cons h r) | none => none) | _ => none) z
theorem takeO_eq : ∀ (z : Nat) (v : V), takeO z v = bif Nat.ble z v.len then some (v.take z) else none := by
  intro z
  induction z with
  | zero =>
    intro v
    have : Nat.ble 0 v.len = true := by cases v.len <;> rfl
    rw [this]
    cases v <;> rfl
  | succ z ih =>
    intro v
    cases v <;> try rfl
    rename_i h t
    show (match takeO z t with | some r => some (.cons h r) | none => none) = bif Nat.ble (z + 1) (t.len + 1) then some (V.take (.cons h t) (z + 1)) else none
    rw [ih t]
    have e : Nat.ble (z + 1) (t.len + 1) = Nat.ble z t.len := rfl
    rw [e]
    cases Nat.ble z t.len <;> rfl
noncomputable def dropO (o : Nat) : V → V := Nat.rec (motive := fun _ => V → V) (fun v => v) (fun _ ih v => match v with | .cons _ t => ih t | v => v) o
theorem dropO_eq : ∀ (o : Nat) (v : V), dropO o v = v.drop o := by
  intro o
  induction o with
  | zero => intro v; cases v <;> rfl
  | succ o ih =>
    intro v
    cases v <;> try rfl
    rename_i h t
    show dropO o t = V.drop (.cons h t) (o + 1)
    rw [ih t]; rfl
theorem drop_len : ∀ (o : Nat) (v : V), (v.drop o).len = v.len - o := by
  intro o
  induction o with
  | zero => intro v; cases v <;> rfl
  | succ o ih =>
    intro v
    cases v <;> try (simp [V.drop, V.len]; done)
    rename_i h t
    simp only [V.drop, V.len]
    rw [show Nat.beq (o + 1) 0 = false from rfl]
    simp only [cond_false, Nat.add_sub_cancel]
    rw [ih t]; omega
/-- A part of a row of cells. -/
noncomputable def stPart (P : Program) (t : TypeId) : Box (V → Nat → Option V) :=
  match tyAgg P t with
  | some true => match tySize P t with
    | some (z + 1) => ⟨fun cs o => match takeO (z + 1) (dropO o cs) with | some r => some (.agg r) | none => none⟩
    | _ => ⟨fun cs o => partOf P t cs o⟩
  | some false => ⟨fun cs o => nthO o cs⟩
  | none => ⟨fun _ _ => none⟩
theorem stPart_eq (P : Program) (t : TypeId) (cs : V) (o : Nat) : (stPart P t).f cs o = partOf P t cs o := by
  unfold stPart
  cases h : tyAgg P t with
  | none => simp only [partOf, h]
  | some b =>
    cases b with
    | false => simp only [partOf, h]; exact nthO_eq o cs
    | true =>
      dsimp only
      cases hz : tySize P t with
      | none => rfl
      | some z =>
        cases z with
        | zero => rfl
        | succ z =>
          simp only [partOf, h, hz, takeO_eq, dropO_eq, drop_len]
          have e : Nat.ble (z + 1) (cs.len - o) = Nat.ble (o + (z + 1)) cs.len := by
            cases h1 : Nat.ble (o + (z + 1)) cs.len
            · cases h2 : Nat.ble (z + 1) (cs.len - o)
              · rfl
              · have := Nat.le_of_ble_eq_true h2
                rw [Nat.ble_eq_true_of_le (by omega)] at h1; cases h1
            · have := Nat.le_of_ble_eq_true h1
              exact Nat.ble_eq_true_of_le (by omega)
          rw [e]
          cases Nat.ble (o + (z + 1)) cs.len <;> rfl
noncomputable def stLoad (P : Program) (t : TypeId) : Box ((Nat → Blk) → V → Tree V) := ⟨fun h x =>
  match x with
  | .ptr st b es i o => match h b with
    | .var cs => bif st then (match (stPart P t).f cs (i * es + o) with | some v => .leaf v | none => .stuck) else .stuck
    | .arr es' n get => bif Nat.beq es es' then atIdx st i n (match (stPart P t).f (get i) o with | some v => .leaf v | none => .stuck) else .stuck
    | _ => .stuck
  | .rptr _ _ _ get i o => match (stPart P t).f (get i) o with | some v => .leaf v | none => .stuck
  | _ => .stuck⟩
theorem stLoad_eq (P : Program) (t : TypeId) (h : Nat → Blk) (x : V) : (stLoad P t).f h x = evLoad P h t x := by
  have e : ∀ o : Option V, (match o with | some v => Tree.leaf v | none => .stuck) = Tree.ofOpt o := fun o => by cases o <;> rfl
  simp only [stLoad, evLoad, stPart_eq, e]
  rfl
noncomputable def stFieldAddr (P : Program) (t : TypeId) (f : Nat) : Box (V → Tree V) :=
  match fieldOff P t f with
  | some (off, _) => ⟨fun x => match x with
    | .ptr st b es i o => .leaf (.ptr st b es i (o + off))
    | .rptr st es n get i o => .leaf (.rptr st es n get i (o + off))
    | _ => .stuck⟩
  | none => ⟨fun _ => .stuck⟩
theorem stFieldAddr_eq (P : Program) (t : TypeId) (x : V) (f : Nat) : (stFieldAddr P t f).f x = evFieldAddr P t x f := by
  unfold stFieldAddr evFieldAddr
  cases fieldOff P t f <;> rfl
noncomputable def stField (P : Program) (t : TypeId) (f : Nat) : Box (V → Tree V) :=
  match P.underlying t with
  | some (.struct fields) => match fields[f]? with
    | some fd => ⟨fun x => match x with
      | .agg cs => match (stPart P fd.type).f cs fd.offset with | some v => .leaf v | none => .stuck
      | _ => .stuck⟩
    | none => ⟨fun _ => .stuck⟩
  | _ => ⟨fun _ => .stuck⟩
theorem stField_eq (P : Program) (t : TypeId) (x : V) (f : Nat) : (stField P t f).f x = evField P t x f := by
  have e : ∀ o : Option V, (match o with | some v => Tree.leaf v | none => .stuck) = Tree.ofOpt o := fun o => by cases o <;> rfl
  unfold stField evField
  split
  · rename_i fields hu
    simp only [hu]
    cases fields[f]? with
    | none => rfl
    | some fd => simp only [stPart_eq, e]; rfl
  · rename_i h
    split
    · rename_i fields hu; exact absurd hu (h fields)
    · rfl
noncomputable def stIndexAddr (P : Program) (t : TypeId) : Box (V → V → Tree V) :=
  match P.underlying t with
  | some (.slice e) => match tySize P e with
    | some z => ⟨fun x ix => match ix with
      | .int s _ j => match x with
        | .rsl st es n get => bif Nat.beq z es then atInt (st && s) j n fun q => .leaf (.rptr (st && s) es n get q 0) else .stuck
        | .osl st b es i n => bif Nat.beq z es then atInt (st && s) j n fun q => .leaf (.ptr (st && s) b es (i + q) 0) else .stuck
        | _ => .stuck
      | _ => .stuck⟩
    | none => ⟨fun x ix => evIndexAddr P t x ix⟩
  | _ => ⟨fun x ix => evIndexAddr P t x ix⟩
theorem stIndexAddr_eq (P : Program) (t : TypeId) (x ix : V) : (stIndexAddr P t).f x ix = evIndexAddr P t x ix := by
  unfold stIndexAddr
  split
  · rename_i e hu
    cases hz : tySize P e with
    | none => rfl
    | some z =>
      unfold evIndexAddr
      simp only [hu, hz]
      cases ix <;> rfl
  · rfl
noncomputable def stStore (P : Program) (t : TypeId) : Box ((Nat → Blk) → PT Blk → V → V → Tree (PT Blk)) :=
  match tySize P t with
  | some z => ⟨fun g h x v => bif Nat.beq v.cells.len z && (v.cells.allCell && v.solid) then
      match x with
      | .ptr st b es i o => (evStoreB (lookS g h b) st es i o z v).bnd fun blk => .leaf (h.set b blk)
      | _ => .stuck
    else .stuck⟩
  | none => ⟨fun _ _ _ _ => .stuck⟩
theorem stStore_eq (P : Program) (t : TypeId) (g : Nat → Blk) (h : PT Blk) (x v : V) : (stStore P t).f g h x v = evStore P g h t x v := by
  unfold stStore evStore
  cases tySize P t with
  | none => rfl
  | some z => simp only [lookS_eq, Tree.bnd_eq]; rfl

/-- Is a function one of these? -/
noncomputable def among (gs : List FuncId) (g : FuncId) : Bool := List.rec false (fun x _ ih => bif Nat.beq g x then true else ih) gs
noncomputable def argsS (l : List Operand) : Box ((B : Base) → St B → V) :=
  List.rec ⟨fun _ _ => .nil⟩ (fun x _ ih => ⟨fun B s => .cons ((stOp x).f B s) (ih.f B s)⟩) l
theorem argsS_eq (l : List Operand) (B : Base) (s : St B) : (argsS l).f B s = .ofList (l.map (opnd s)) := by
  induction l with
  | nil => rfl
  | cons x l ih => show V.cons ((stOp x).f B s) ((argsS l).f B s) = _; rw [ih, stOp_eq]; rfl
theorem ofList_app (l : List V) : (V.ofList l).app .nil = V.ofList l := by
  induction l with
  | nil => rfl
  | cons v l ih => show V.cons v ((V.ofList l).app .nil) = _; rw [ih]; rfl
theorem nil_app (v : V) : V.nil.app v = v := rfl

abbrev OperF := CallF → (B : Base) → St B → (St B → Tree (St B)) → Tree (St B)
/-- One operation as the text has it, with what comes behind it. -/
def slowOper (E : Env) (o : Oper) : OperF := fun call _ s k => (evOp E call s o.op).bind fun r => k ({ s with h := r.2.1, n := r.2.2 }.put o.dst r.1)
noncomputable def quietOper (T : (B : Base) → St B → Tree V) (d : Option Tmp) : OperF := fun _ B s k => (T B s).bnd fun v => k ((stPut d).f B s v)
theorem quietOper_eq {E : Env} {o : Oper} {T : (B : Base) → St B → Tree V} {call : CallF} {B : Base} {s : St B} {k : St B → Tree (St B)} (h : evQ E (opnd s) s.blk o.op = some (T B s)) : quietOper T o.dst call B s k = slowOper E o call B s k := by
  unfold quietOper slowOper evOp
  rw [h]
  simp only [Tree.bnd_eq, stPut_eq]
  generalize T B s = T'
  induction T' with
  | leaf a => rfl
  | stuck => rfl
  | node b t f iht ihf => simp only [Tree.bind]; rw [iht, ihf]
  | need p t ih => simp only [Tree.bind]; rw [ih]
  | all σ t ih => simp only [Tree.bind]; congr 1; funext x; exact ih x
  | given p t ih => simp only [Tree.bind]; rw [ih]
noncomputable def stCallOper (E : Env) (gs : List FuncId) (o : Oper) (c : Call) : Box OperF :=
  match c.callee with
  | .builtin b => match b with
    | .len => ⟨quietOper (fun B s => match evBuiltin E.P .len c.argTypes.toList ((argsS c.args.toList).f B s) with | some T => T | none => .stuck) o.dst⟩
    | _ => ⟨slowOper E o⟩
  | .value f => match f with
    | .func g => match among gs g with
      | false => ⟨fun call B s k => (call B.h (.inl g) ((argsS c.args.toList).f B s) s.h s.n).bnd fun r => k ((stPut o.dst).f B { s with h := r.2.1, n := r.2.2 } r.1)⟩
      | true => ⟨slowOper E o⟩
    | f => ⟨fun call B s k => match (stOp f).f B s with
      | .fn (.func g) first cap => bif among gs g then slowOper E o call B s k else
          (call B.h (.inl g) (first.app (((argsS c.args.toList).f B s).app cap)) s.h s.n).bnd fun r => k ((stPut o.dst).f B { s with h := r.2.1, n := r.2.2 } r.1)
      | .yld b => (call B.h (.inr b) ((argsS c.args.toList).f B s) s.h s.n).bnd fun r => k ((stPut o.dst).f B { s with h := r.2.1, n := r.2.2 } r.1)
      | _ => slowOper E o call B s k⟩
  | _ => ⟨slowOper E o⟩
noncomputable def stOper (E : Env) (gs : List FuncId) (o : Oper) : Box OperF :=
  match o.op with
  | .move x => ⟨fun _ B s k => k ((stPut o.dst).f B s ((stOp x).f B s))⟩
  | .assign x => ⟨fun _ B s k => k ((stPut o.dst).f B s ((stOp x).f B s))⟩
  | .load t a => ⟨quietOper (fun B s => (stLoad E.P t).f (lookS B.h s.h) ((stOp a).f B s)) o.dst⟩
  | .binOp op t x y _ => ⟨quietOper (fun B s => (stIfc E.P op t x y).f ((stOp x).f B s) ((stOp y).f B s)) o.dst⟩
  | .unOp op _ x => ⟨quietOper (fun B s => evUn op ((stOp x).f B s)) o.dst⟩
  | .fieldAddr t x f => ⟨quietOper (fun B s => (stFieldAddr E.P t f).f ((stOp x).f B s)) o.dst⟩
  | .field t x f => ⟨quietOper (fun B s => (stField E.P t f).f ((stOp x).f B s)) o.dst⟩
  | .indexAddr t x ix => ⟨quietOper (fun B s => (stIndexAddr E.P t).f ((stOp x).f B s).plain1 ((stOp ix).f B s)) o.dst⟩
  | .index t x ix => ⟨quietOper (fun B s => evIndex E.P t ((stOp x).f B s) ((stOp ix).f B s)) o.dst⟩
  | .extract x i => ⟨quietOper (fun B s => evExtract ((stOp x).f B s) i) o.dst⟩
  | .nilCheck x => ⟨quietOper (fun B s => evNilCheck ((stOp x).f B s)) o.dst⟩
  | .pick c x y => ⟨quietOper (fun B s => evPick ((stOp c).f B s) ((stOp x).f B s) ((stOp y).f B s)) o.dst⟩
  | .store t a x => ⟨fun _ B s k => ((stStore E.P t).f B.h s.h ((stOp a).f B s) ((stOp x).f B s)).bnd fun h => k ((stPut o.dst).f B { s with h := h } .undef)⟩
  | .call c => stCallOper E gs o c
  | _ => ⟨slowOper E o⟩
/-- Of functions that are none of these, nothing is known ahead. -/
def Among (E : Env) (gs : List FuncId) : Prop := ∀ g args, among gs g = false → E.Γ g args = none
theorem callee_none {E : Env} {gs : List FuncId} (hΓ : Among E gs) {ρ : Operand → V} {h : Nat → Blk} {c : Call} {f : Operand} (hc : c.callee = .value f) (hf : ∀ g out, callee (ρ f) (.ofList (c.args.toList.map ρ)) = some (g, out) → among gs g = false) :
    evQ E ρ h (.call c) = none ∧ evFrozen E ρ h f c = none := by
  simp only [evQ, evFrozen, hc]
  cases hcal : callee (ρ f) (.ofList (c.args.toList.map ρ)) with
  | none => exact ⟨rfl, rfl⟩
  | some r =>
    obtain ⟨g, out⟩ := r
    dsimp only
    rw [hΓ g _ (hf g out hcal), hΓ g _ (hf g out hcal)]
    refine ⟨rfl, ?_⟩
    cases out.clean
    · cases (freeze h out).clean <;> rfl
    · rfl
theorem stOper_eq {E : Env} {gs : List FuncId} (hΓ : Among E gs) (o : Oper) (call : CallF) (B : Base) (s : St B) (k : St B → Tree (St B)) : (stOper E gs o).f call B s k = slowOper E o call B s k := by
  unfold stOper
  have hblk : lookS B.h s.h = s.blk := funext fun b => lookS_eq _ _ _
  split
  case h_1 x ho => simp only [slowOper, ho, evOp, evQ, Tree.bind, stPut_eq, stOp_eq]
  case h_2 x ho => simp only [slowOper, ho, evOp, evQ, Tree.bind, stPut_eq, stOp_eq]
  case h_3 t a ho => dsimp only; exact quietOper_eq (by rw [ho]; simp only [evQ, stLoad_eq, stOp_eq, hblk])
  case h_4 op t x y _ ho => dsimp only; exact quietOper_eq (by rw [ho]; simp only [evQ, stOp_eq]; exact (stIfc_eq _ _ _ _ _ _ _).symm)
  case h_5 op _ x ho => dsimp only; exact quietOper_eq (by rw [ho]; simp only [evQ, stOp_eq])
  case h_6 t x f ho => dsimp only; exact quietOper_eq (by rw [ho]; simp only [evQ, stOp_eq, stFieldAddr_eq])
  case h_7 t x f ho => dsimp only; exact quietOper_eq (by rw [ho]; simp only [evQ, stOp_eq, stField_eq])
  case h_8 t x f ho => dsimp only; exact quietOper_eq (by rw [ho]; simp only [evQ, stOp_eq, stIndexAddr_eq])
  case h_9 t x ix ho => dsimp only; exact quietOper_eq (by rw [ho]; simp only [evQ, stOp_eq])
  case h_10 x i ho => dsimp only; exact quietOper_eq (by rw [ho]; simp only [evQ, stOp_eq])
  case h_11 x ho => dsimp only; exact quietOper_eq (by rw [ho]; simp only [evQ, stOp_eq])
  case h_12 c x y ho => dsimp only; exact quietOper_eq (by rw [ho]; simp only [evQ, stOp_eq])
  case h_13 t a x ho =>
    simp only [slowOper, ho, evOp, evQ, stStore_eq, stOp_eq, stPut_eq, Tree.bnd_eq]
    generalize evStore E.P B.h s.h t (opnd s a) (opnd s x) = T'
    induction T' with
    | leaf a => rfl
    | stuck => rfl
    | node b t f iht ihf => simp only [Tree.bind]; rw [iht, ihf]
    | need p t ih => simp only [Tree.bind]; rw [ih]
    | all σ t ih => simp only [Tree.bind]; congr 1; funext x; exact ih x
    | given p t ih => simp only [Tree.bind]; rw [ih]
  case h_14 c ho =>
    unfold stCallOper
    split
    case h_1 b hc =>
      split
      · dsimp only
        refine quietOper_eq ?_
        rw [ho]
        simp only [evQ, hc, argsS_eq]
        rfl
      · rfl
    case h_2 f hc =>
      split
      case h_1 g =>
        cases ha : among gs g
        · obtain ⟨e1, e2⟩ := callee_none hΓ (ρ := opnd s) (h := s.blk) hc (fun g' out h => by
            simp only [opnd, callee] at h
            injection h with h; injection h with h1 h2; subst h1; exact ha)
          simp only [slowOper, ho, evOp, e1, hc, e2, argsS_eq, Tree.bnd_eq, stPut_eq]
          simp only [calleeY, opnd, callee, nil_app, ofList_app]
        · rfl
      case h_2 f hf =>
        dsimp only
        rw [stOp_eq, argsS_eq]
        split
        · rename_i g first cap hv
          cases ha : among gs g
          · obtain ⟨e1, e2⟩ := callee_none hΓ (ρ := opnd s) (h := s.blk) hc (fun g' out h => by
              rw [hv] at h
              simp only [callee] at h
              injection h with h; injection h with h1 h2; subst h1; exact ha)
            simp only [cond_false, slowOper, ho, evOp, e1, hc, e2, Tree.bnd_eq, stPut_eq]
            rw [hv]
            simp only [calleeY, callee]
          · rfl
        · rename_i b hv
          obtain ⟨e1, e2⟩ := callee_none hΓ (ρ := opnd s) (h := s.blk) hc (fun g' out h => by
            rw [hv] at h
            simp only [callee] at h
            cases h)
          simp only [slowOper, ho, evOp, e1, hc, e2, Tree.bnd_eq, stPut_eq]
          rw [hv]
          simp only [calleeY]
        · rfl
    case h_3 => rfl
  case h_15 => rfl
noncomputable def stOps (E : Env) (gs : List FuncId) (ops : Array Oper) (l : List Oper) : Box (CallF → (B : Base) → St B → Tree (St B)) :=
  List.rec (motive := fun _ => Box (CallF → (B : Base) → St B → Tree (St B))) ⟨fun _ _ s => .leaf s⟩ (fun o _ ih => match o.guard with
    | none => ⟨fun call B s => (stOper E gs o).f call B s fun s' => ih.f call B s'⟩
    | some _ => ⟨fun call B s => match guardOf ops (lookS B.t s.t) o with
      | .bad => .stuck
      | .yes => (stOper E gs o).f call B s fun s' => ih.f call B s'
      | .no => ih.f call B ((stPut o.dst).f B s .undef)
      | .dyn d b want => match want with
        | true => .node b ((stOper E gs o).f call B (s.know d true) fun s' => ih.f call B s') (ih.f call B ((s.know d false).put o.dst .undef))
        | false => .node b (ih.f call B ((s.know d true).put o.dst .undef)) ((stOper E gs o).f call B (s.know d false) fun s' => ih.f call B s')⟩) l
theorem stOps_eq {E : Env} {gs : List FuncId} (hΓ : Among E gs) (ops : Array Oper) (call : CallF) (B : Base) : ∀ (l : List Oper) (s : St B), (stOps E gs ops l).f call B s = evOps E call ops l s := by
  intro l
  induction l with
  | nil => intro s; rfl
  | cons o rest ih =>
    intro s
    have go : ∀ s : St B, ((stOper E gs o).f call B s fun s' => (stOps E gs ops rest).f call B s') = (evOp E call s o.op).bind fun r => evOps E call ops rest ({ s with h := r.2.1, n := r.2.2 }.put o.dst r.1) := by
      intro s
      rw [stOper_eq hΓ]
      unfold slowOper
      congr 1
      funext r
      exact ih _
    have ht : lookS B.t s.t = s.tmp := funext fun b => lookS_eq _ _ _
    have e : (stOps E gs ops (o :: rest)).f call B s = (match o.guard with
      | none => (stOper E gs o).f call B s fun s' => (stOps E gs ops rest).f call B s'
      | some _ => match guardOf ops (lookS B.t s.t) o with
        | .bad => .stuck
        | .yes => (stOper E gs o).f call B s fun s' => (stOps E gs ops rest).f call B s'
        | .no => (stOps E gs ops rest).f call B ((stPut o.dst).f B s .undef)
        | .dyn d b want => match want with
          | true => .node b ((stOper E gs o).f call B (s.know d true) fun s' => (stOps E gs ops rest).f call B s') ((stOps E gs ops rest).f call B ((s.know d false).put o.dst .undef))
          | false => .node b ((stOps E gs ops rest).f call B ((s.know d true).put o.dst .undef)) ((stOper E gs o).f call B (s.know d false) fun s' => (stOps E gs ops rest).f call B s')) := by
      unfold stOps
      dsimp only
      cases o.guard <;> rfl
    rw [e]
    simp only [go]
    simp only [evOps, ih, ht, stPut_eq]
    cases hg : o.guard with
    | none => simp only [guardOf, hg]
    | some g => rfl

/-! ### Regions that draw their order -/
/-- Operations that change nothing, and look at no block but by loading. -/
def quietD : Op → Bool
  | .move _ | .assign _ | .load _ _ | .binOp .. | .unOp .. | .fieldAddr .. | .field .. | .indexAddr .. | .index .. | .extract .. | .pick .. => true
  | _ => false
/-- What a quiet operation comes to. -/
noncomputable def stTree (E : Env) (o : Op) : Box ((B : Base) → St B → Tree V) :=
  match o with
  | .move x => ⟨fun B s => .leaf ((stOp x).f B s)⟩
  | .assign x => ⟨fun B s => .leaf ((stOp x).f B s)⟩
  | .load t a => ⟨fun B s => (stLoad E.P t).f (lookS B.h s.h) ((stOp a).f B s)⟩
  | .binOp op t x y _ => ⟨fun B s => (stIfc E.P op t x y).f ((stOp x).f B s) ((stOp y).f B s)⟩
  | .unOp op _ x => ⟨fun B s => evUn op ((stOp x).f B s)⟩
  | .fieldAddr t x f => ⟨fun B s => (stFieldAddr E.P t f).f ((stOp x).f B s)⟩
  | .field t x f => ⟨fun B s => (stField E.P t f).f ((stOp x).f B s)⟩
  | .indexAddr t x ix => ⟨fun B s => (stIndexAddr E.P t).f ((stOp x).f B s).plain1 ((stOp ix).f B s)⟩
  | .index t x ix => ⟨fun B s => evIndex E.P t ((stOp x).f B s) ((stOp ix).f B s)⟩
  | .extract x i => ⟨fun B s => evExtract ((stOp x).f B s) i⟩
  | .pick c x y => ⟨fun B s => evPick ((stOp c).f B s) ((stOp x).f B s) ((stOp y).f B s)⟩
  | _ => ⟨fun _ _ => .stuck⟩
theorem opndK_nil {B : Base} (s : St B) (x : Operand) : opndK s [] x = opnd s x := by cases x <;> rfl
theorem stTree_eq {E : Env} {call : CallF} {B : Base} {s : St B} {nb sz nm : Nat} {o : Op} (h : quietD o = true) : evD E call s nb sz nm [] o = ((stTree E o).f B s).bind fun v => .leaf (v, none) := by
  have hblk : lookS B.h s.h = s.blk := funext fun b => lookS_eq _ _ _
  have hK : opndK s [] = opnd s := funext fun x => opndK_nil s x
  cases o <;> try (cases h; done)
  all_goals simp only [evD, evDQ, hK, stTree, stOp_eq, stLoad_eq, hblk, stFieldAddr_eq, stField_eq, stIndexAddr_eq]
  case binOp op t x y t' =>
    have := stIfc_eq E.P op t x y (opnd s x) (opnd s y)
    simp only [evQ]
    cases hi : evIfc E.P op t x y (opnd s x) (opnd s y) with
    | none => rw [hi] at this; injection this with this; rw [this]
    | some T => rw [hi] at this; injection this with this; rw [this]
  all_goals rfl
abbrev StepD' := CallF → Nat → List (Nat × Ft) → (B : Base) → St B → Tree (St B)
noncomputable def stOpsD (E : Env) (ops : Array Oper) (bf : List Nat) (l : List Oper) : Nat → Box StepD' :=
  List.rec (motive := fun _ => Nat → Box StepD') (fun _ => ⟨fun _ _ _ _ s => .leaf s⟩) (fun o rest ih j => match o.guard with
    | none => match isBig o.op with
      | true => ⟨fun call nb fps B s => match argsClean s o.op with
        | true => evOpsD E call ops bf nb (o :: rest) j fps [] s
        | false => match evOp E call s.sub o.op with
          | .leaf r => bif dstOk s.N o then
              (bif quietR s.n r && freeOf ops bf nb j fps quietFt then (ih (j + 1)).f call nb ((j, quietFt) :: fps) B ((stPut o.dst).f B s r.1)
              else bif bigAt ops bf j o && freeOf ops bf nb j fps (bigFt r.2.1) then (ih (j + 1)).f call nb ((j, bigFt r.2.1) :: fps) B ((stPut o.dst).f B { s with h := s.h.over r.2.1, n := r.2.2 } r.1)
              else evOpsD E call ops bf nb (o :: rest) j fps [] s)
            else evOpsD E call ops bf nb (o :: rest) j fps [] s
          | _ => evOpsD E call ops bf nb (o :: rest) j fps [] s⟩
      | false => match quietD o.op with
        | true => ⟨fun call nb fps B s => match (stTree E o.op).f B s with
          | .leaf v => bif freeOf ops bf nb j fps (foot s (nb + j) o.op) && dstOk s.N o then (ih (j + 1)).f call nb ((j, foot s (nb + j) o.op) :: fps) B ((stPut o.dst).f B s v) else .stuck
          | _ => evOpsD E call ops bf nb (o :: rest) j fps [] s⟩
        | false => ⟨fun call nb fps B s => match evD E call s nb ops.size (nb + j) [] o.op with
          | .leaf r => bif freeOf ops bf nb j fps (foot s (nb + j) o.op) && dstOk s.N o then (ih (j + 1)).f call nb ((j, foot s (nb + j) o.op) :: fps) B ((stPut o.dst).f B (s.wr r.2) r.1) else .stuck
          | _ => evOpsD E call ops bf nb (o :: rest) j fps [] s⟩
    | some _ => ⟨fun call nb fps _ s => evOpsD E call ops bf nb (o :: rest) j fps [] s⟩) l
theorem stOpsD_eq (E : Env) (ops : Array Oper) (bf : List Nat) (call : CallF) (nb : Nat) (B : Base) : ∀ (l : List Oper) (j : Nat) (fps : List (Nat × Ft)) (s : St B), (stOpsD E ops bf l j).f call nb fps B s = evOpsD E call ops bf nb l j fps [] s := by
  intro l
  induction l with
  | nil => intro j fps s; rfl
  | cons o rest ih =>
    intro j fps s
    have hk : ∀ o : Oper, knOf ops o [] = [] := fun o => rfl
    have hk2 : knCut o [] = [] := by unfold knCut; cases o.dst <;> rfl
    have e1 : stOpsD E ops bf (o :: rest) j = (match o.guard with
    | none => match isBig o.op with
      | true => ⟨fun call nb fps B s => match argsClean s o.op with
        | true => evOpsD E call ops bf nb (o :: rest) j fps [] s
        | false => match evOp E call s.sub o.op with
          | .leaf r => bif dstOk s.N o then
              (bif quietR s.n r && freeOf ops bf nb j fps quietFt then (stOpsD E ops bf rest (j + 1)).f call nb ((j, quietFt) :: fps) B ((stPut o.dst).f B s r.1)
              else bif bigAt ops bf j o && freeOf ops bf nb j fps (bigFt r.2.1) then (stOpsD E ops bf rest (j + 1)).f call nb ((j, bigFt r.2.1) :: fps) B ((stPut o.dst).f B { s with h := s.h.over r.2.1, n := r.2.2 } r.1)
              else evOpsD E call ops bf nb (o :: rest) j fps [] s)
            else evOpsD E call ops bf nb (o :: rest) j fps [] s
          | _ => evOpsD E call ops bf nb (o :: rest) j fps [] s⟩
      | false => match quietD o.op with
        | true => ⟨fun call nb fps B s => match (stTree E o.op).f B s with
          | .leaf v => bif freeOf ops bf nb j fps (foot s (nb + j) o.op) && dstOk s.N o then (stOpsD E ops bf rest (j + 1)).f call nb ((j, foot s (nb + j) o.op) :: fps) B ((stPut o.dst).f B s v) else .stuck
          | _ => evOpsD E call ops bf nb (o :: rest) j fps [] s⟩
        | false => ⟨fun call nb fps B s => match evD E call s nb ops.size (nb + j) [] o.op with
          | .leaf r => bif freeOf ops bf nb j fps (foot s (nb + j) o.op) && dstOk s.N o then (stOpsD E ops bf rest (j + 1)).f call nb ((j, foot s (nb + j) o.op) :: fps) B ((stPut o.dst).f B (s.wr r.2) r.1) else .stuck
          | _ => evOpsD E call ops bf nb (o :: rest) j fps [] s⟩
    | some _ => ⟨fun call nb fps _ s => evOpsD E call ops bf nb (o :: rest) j fps [] s⟩) := rfl
    rw [e1]
    cases hg : o.guard with
    | some g => rfl
    | none =>
      dsimp only
      cases hb : isBig o.op
      · dsimp only
        cases hq : quietD o.op
        · dsimp only
          split
          · rename_i r hv
            rw [ih, stPut_eq]
            simp only [evOpsD, guardOf, hg, hb, hk, hk2, hv, Tree.flat, Bool.true_and, Bool.false_and, cond_false]
            rfl
          · rfl
        · dsimp only
          split
          · rename_i v hv
            have hD : evD E call s nb ops.size (nb + j) [] o.op = .leaf (v, none) := by rw [stTree_eq hq, hv]; rfl
            rw [ih, stPut_eq]
            simp only [evOpsD, guardOf, hg, hb, hk, hk2, hD, Tree.flat, Bool.true_and, Bool.false_and, cond_false]
            rfl
          · rfl
      · dsimp only
        cases hac : argsClean s o.op
        · dsimp only
          split
          · rename_i r hv
            cases hd : dstOk s.N o
            · rfl
            cases hqu : (quietR s.n r && freeOf ops bf nb j fps quietFt)
            · cases hbg : (bigAt ops bf j o && freeOf ops bf nb j fps (bigFt r.2.1))
              · rfl
              · simp only [cond_true, cond_false]
                rw [ih, stPut_eq]
                simp only [evOpsD, guardOf, hg, hb, hk, hk2, hv, hac, hd, Tree.flat, Tree.isStuck, Tree.bind, hqu, hbg, Bool.true_and, Bool.not_false, Bool.true_or, cond_true, cond_false]
            · simp only [cond_true]
              rw [ih, stPut_eq]
              simp only [evOpsD, guardOf, hg, hb, hk, hk2, hv, hac, hd, Tree.flat, Tree.isStuck, Tree.bind, hqu, Bool.true_and, Bool.not_false, Bool.true_or, cond_true]
          · rfl
        · rfl

/-! ### Code -/
/-- One above the greatest number of a temporary that is written. -/
noncomputable def topOf (l : List Oper) : Nat := List.rec 0 (fun o _ ih => match o.dst with | some d => (bif Nat.ble ih (d + 1) then d + 1 else ih) | none => ih) l
theorem ble_dec (a b : Nat) : Nat.ble a b = decide (a ≤ b) := by
  cases h : Nat.ble a b
  · exact (decide_eq_false fun h' => by rw [Nat.ble_eq_true_of_le h'] at h; cases h).symm
  · exact (decide_eq_true (Nat.le_of_ble_eq_true h)).symm
theorem top_aux (a d N : Nat) : (Nat.blt d N && Nat.ble a N) = Nat.ble (bif Nat.ble a (d + 1) then d + 1 else a) N := by
  rw [blt_dec, ble_dec, ble_dec]
  by_cases h1 : a ≤ d + 1
  · simp only [h1, decide_true, cond_true, ble_dec]
    by_cases h2 : d < N
    · simp [h2, show d + 1 ≤ N by omega, show a ≤ N by omega]
    · simp [h2]; omega
  · simp only [h1, decide_false, cond_false, ble_dec]
    by_cases h2 : d < N
    · simp [h2]
    · simp [h2, show ¬ a ≤ N by omega]
theorem topOf_ok (N : Nat) : ∀ l : List Oper, l.all (dstOk N) = Nat.ble (topOf l) N := by
  intro l
  induction l with
  | nil => symm; exact Nat.ble_eq_true_of_le (Nat.zero_le N)
  | cons o l ih =>
    rw [List.all_cons, ih]
    have e : topOf (o :: l) = (match o.dst with | some d => (bif Nat.ble (topOf l) (d + 1) then d + 1 else topOf l) | none => topOf l) := rfl
    rw [e]
    unfold dstOk
    cases o.dst with
    | none => simp
    | some d => exact top_aux (topOf l) d N
noncomputable def setArgsS : V → Nat → PT V → PT V := fun v => V.rec (motive := fun _ => Nat → PT V → PT V)
  (fun _ T => T) (fun _ T => T) (fun _ T => T) (fun h _ _ ih i T => ih (i + 1) ((setB (pathOf i)).f T h)) (fun _ _ _ _ T => T) (fun _ _ _ T => T) (fun _ _ _ T => T) (fun _ _ _ T => T) (fun _ _ _ T => T)
  (fun _ _ _ _ _ _ T => T) (fun _ _ _ _ _ _ _ _ T => T) (fun _ T => T) (fun _ _ _ _ _ _ T => T) (fun _ _ _ _ _ _ T => T) (fun _ _ _ _ _ _ _ T => T) (fun _ T => T) (fun _ _ _ _ _ _ T => T) (fun _ T => T) (fun _ T => T) (fun _ T => T) (fun _ _ T => T) (fun _ _ T => T) (fun _ _ _ T => T) (fun _ _ _ T => T) (fun _ _ _ _ _ _ T => T) v
theorem setArgsS_eq : ∀ (v : V) (i : Nat) (T : PT V), setArgsS v i T = setArgs v i T := by
  intro v
  induction v with
  | cons h t ih1 ih2 => intro i T; show setArgsS t (i + 1) ((setB (pathOf i)).f T h) = setArgs t (i + 1) (T.set i h); rw [ih2, setP_set]
  | _ => intro i T; rfl
noncomputable def enterS (hb : Nat → Blk) (args : V) (ntmps : Nat) (h : PT Blk) (n : Nat) : St (Base.fn hb) := { t := setArgsS args 0 .nil, h, n, N := args.len + (ntmps - args.len) }
theorem enterS_eq (hb : Nat → Blk) (args : V) (ntmps : Nat) (h : PT Blk) (n : Nat) : enterS hb args ntmps h n = enter hb args ntmps h n := by unfold enterS enter; rw [setArgsS_eq]
/-- What is answered. -/
noncomputable def stResult (P : Program) (r : ResultVar) : Box ((B : Base) → St B → Tree V) :=
  match r with
  | .tmp t => ⟨fun B s => .leaf (lookS B.t s.t t)⟩
  | .cell a t => ⟨fun B s => (stLoad P t).f (lookS B.h s.h) (lookS B.t s.t a)⟩
noncomputable def stResults (P : Program) (l : List ResultVar) : Box ((B : Base) → St B → Tree V) :=
  List.rec (motive := fun _ => Box ((B : Base) → St B → Tree V)) ⟨fun _ _ => .leaf .nil⟩ (fun r _ ih => ⟨fun B s => ((stResult P r).f B s).bnd fun v => (ih.f B s).bnd fun vs => .leaf (.cons v vs)⟩) l
theorem stResults_eq (P : Program) (B : Base) (s : St B) : ∀ l : List ResultVar, (stResults P l).f B s = resultsOf P s l := by
  intro l
  have hblk : lookS B.h s.h = s.blk := funext fun b => lookS_eq _ _ _
  have hone : ∀ r, (stResult P r).f B s = resultOf P s r := fun r => by
    cases r <;> simp only [stResult, resultOf, lookS_eq, stLoad_eq, hblk]
  induction l with
  | nil => rfl
  | cons r l ih =>
    show (((stResult P r).f B s).bnd fun v => ((stResults P l).f B s).bnd fun vs => Tree.leaf (V.cons v vs)) = _
    simp only [Tree.bnd_eq, hone, ih, resultsOf]
noncomputable def stCall (E : Env) (g : FuncId) : Box (RecF → (Nat → Blk) → V → PT Blk → Nat → Tree (V × PT Blk × Nat)) :=
  match E.P.funcs[g]? with
  | some fn => match fn.body with
    | some c => ⟨fun rec_ hb args h n => (rec_ g c (Base.fn hb) (enterS hb args.plain fn.ntmps h n)).bnd fun x => match x.1 with
        | .exit _ => .stuck
        | _ => ((stResults E.P fn.results.toList).f _ x.2).bnd fun vs => .leaf ((single vs).plain, x.2.h, x.2.n)⟩
    | none => ⟨fun _ _ _ _ _ => .stuck⟩
  | none => ⟨fun _ _ _ _ _ => .stuck⟩
noncomputable def yieldS (E : Env) (rec_ : RecF) (hb : Nat → Blk) (b : Nat) (args : V) (h : PT Blk) (n : Nat) : Tree (V × PT Blk × Nat) :=
  match lookS hb h b with
  | .rng f ps asg bd row N st _ =>
    withNeed (bif (loopsOf asg ++ loopsOf bd).all fun c => (loopOf E f c).isNone then none else some (∀ c ∈ loopsOf asg ++ loopsOf bd, ∀ g, loopOf E f c = some g → InFn E.P f c))
    (bif (Nat.beq st 0 && (Nat.beq args.len ps.length && ps.all fun p => Nat.blt p N)) && (noRange asg && noRange bd) then
      (rec_ f asg ⟨row, hb⟩ { t := putArgs ps args .nil, h, n, N }).bnd fun x => match x.1 with
        | .normal => match lookS hb x.2.h b with
          | .rng f' ps' asg' bd' row' N' st' pd' => bif Nat.beq st' 0 then
              (rec_ f bd ⟨row, hb⟩ { x.2 with h := (setB (pathOf b)).f x.2.h (.rng f' ps' asg' bd' row' N' 1 pd') }).bnd fun y => match lookS hb y.2.h b with
                | .rng f2 ps2 asg2 bd2 row2 N2 st2 _ => bif Nat.beq st2 1 then
                    .leaf (.bool true y.1.isNormal, (setB (pathOf b)).f y.2.h (.rng f2 ps2 asg2 bd2 row2 N2 (bif y.1.isNormal then 0 else 2) (some y.1)), y.2.n) else .stuck
                | _ => .stuck
            else .stuck
          | _ => .stuck
        | _ => .stuck
    else .stuck)
  | _ => .stuck
theorem yieldS_eq (E : Env) (rec_ : RecF) (hb : Nat → Blk) (b : Nat) (args : V) (h : PT Blk) (n : Nat) : yieldS E rec_ hb b args h n = evYield E rec_ hb b args h n := by
  unfold yieldS evYield
  simp only [lookS_eq, Tree.bnd_eq, setP_set]
  rfl
noncomputable def callS (E : Env) (rec_ : RecF) : CallF := fun hb g args h n =>
  match g with
  | .inr b => yieldS E rec_ hb b args h n
  | .inl g => (stCall E g).f rec_ hb args h n
theorem callS_eq (E : Env) (rec_ : RecF) : callS E rec_ = evCall E rec_ := by
  funext hb g args h n
  cases g with
  | inr b => exact yieldS_eq E rec_ hb b args h n
  | inl g =>
    show (stCall E g).f rec_ hb args h n = _
    unfold stCall
    simp only [evCall]
    cases E.P.funcs[g]? with
    | none => rfl
    | some fn =>
      dsimp only
      cases fn.body with
      | none => rfl
      | some c =>
        simp only [Tree.bnd_eq, enterS_eq, stResults_eq]
        rfl
abbrev StepS := RecF → (B : Base) → St B → Tree (Ex × St B)
noncomputable def stRegion (E : Env) (gs : List FuncId) (ops : Array Oper) (draw : Bool) : Box StepS :=
  match draw with
  | false => ⟨fun rec_ B s => cnd (Nat.ble (topOf ops.toList) s.N) (((stOps E gs ops ops.toList).f (callS E rec_) B s).bnd fun s' => .leaf (.normal, s')) .stuck⟩
  | true => forceList (bfs ops.toList []) fun bf => match drawOk ops bf with
    | true => ⟨fun rec_ B s => ((stOpsD E ops bf ops.toList 0).f (callS E rec_) s.n [] B (s.keepNames ops)).bnd fun s' => .leaf (.normal, s')⟩
    | false => ⟨fun _ _ _ => .stuck⟩
theorem stRegion_eq {E : Env} {gs : List FuncId} (hΓ : Among E gs) (ops : Array Oper) (draw : Bool) (rec_ : RecF) (B : Base) (s : St B) : (stRegion E gs ops draw).f rec_ B s = evRegion E (evCall E rec_) ops draw s := by
  cases draw with
  | false => simp only [stRegion, evRegion, topOf_ok, stOps_eq hΓ, Tree.bnd_eq, callS_eq, cnd_eq]
  | true =>
    simp only [stRegion, evRegion, forceList_eq]
    cases drawOk ops (bfs ops.toList [])
    · rfl
    · simp only [cond_true, Tree.bnd_eq, callS_eq]
      rw [stOpsD_eq]
noncomputable def stStep (E : Env) (gs : List FuncId) (f : FuncId) (c : Code) : Box StepS :=
  match c with
  | .skip => ⟨fun _ _ s => .leaf (.normal, s)⟩
  | .label _ => ⟨fun _ _ s => .leaf (.normal, s)⟩
  | .exit id => ⟨fun _ _ s => .leaf (.exit id, s)⟩
  | .ret => ⟨fun _ _ s => .leaf (.ret, s)⟩
  | .region _ ops draw => match E.mg && ops.toList.any (fun o => o.guard.isSome) with
    | true => ⟨fun rec_ _ s => merged s fun s => (stRegion E gs ops draw).f rec_ _ s⟩
    | false => stRegion E gs ops draw
  | .seq a b => ⟨fun rec_ B s => (rec_ f a B s).bnd fun x => match x.1 with
    | .normal => rec_ f b B x.2
    | e => .leaf (e, x.2)⟩
  | .cond c a b => ⟨fun rec_ B s => match (stOp c).f B s with
    | .bool true t => match t with
      | true => rec_ f a B s
      | false => rec_ f b B s
    | .bool false t => match E.mg with
      | true => merged s fun s => .node t (rec_ f a _ (s.knowAt c true)) (rec_ f b _ (s.knowAt c false))
      | false => .node t (rec_ f a B (s.knowAt c true)) (rec_ f b B (s.knowAt c false))
    | _ => .stuck⟩
  | .block id b => match E.mg with
    | true => ⟨fun rec_ _ s => merged s fun s => (rec_ f b _ s).bnd (leave id)⟩
    | false => ⟨fun rec_ B s => (rec_ f b B s).bnd (leave id)⟩
  | .loop b => match loopOf E f b with
    | some g => ⟨fun _ B s => g B s⟩
    | none => ⟨fun rec_ B s => (rec_ f b B s).bnd fun x => match x.1 with
      | .normal => rec_ f (.loop b) B x.2
      | e => .leaf (e, x.2)⟩
  | .rangeFunc g ps asg bd => ⟨fun rec_ B s => match calleeY ((stOp g).f B s) (.cons (.yld s.n) .nil) with
    | some (.inl g', args) => ((stCall E g').f rec_ B.h args (s.h.set s.n (.rng f ps.toList asg bd s.tmp s.N 0 none)) (s.n + 1)).bnd fun r =>
        match lookS B.h r.2.1 s.n with
        | .rng _ _ _ _ _ _ st pend => bif Nat.beq st 1 then .stuck else .leaf (pend.getD .normal, { s with h := r.2.1.set s.n .any, n := r.2.2 })
        | _ => .stuck
    | _ => .stuck⟩
  | _ => ⟨fun _ _ _ => .stuck⟩
theorem stStep_eq {E : Env} {gs : List FuncId} (hΓ : Among E gs) (f : FuncId) (c : Code) (rec_ : RecF) (B : Base) (s : St B) : (stStep E gs f c).f rec_ B s = evStep E rec_ f c B s := by
  cases c <;> simp only [stStep, evStep] <;> try rfl
  case region id ops draw =>
    cases E.mg && ops.toList.any (fun o => o.guard.isSome)
    · exact stRegion_eq hΓ ops draw rec_ B s
    · dsimp only
      congr 1
      funext s
      exact stRegion_eq hΓ ops draw rec_ _ s
  case seq a b => rw [Tree.bnd_eq]; rfl
  case cond c a b => rw [stOp_eq]; rfl
  case block id b =>
    cases E.mg
    · dsimp only; rw [Tree.bnd_eq]
    · dsimp only
      congr 1
      funext s
      rw [Tree.bnd_eq]
  case loop b =>
    cases loopOf E f b with
    | none => dsimp only; rw [Tree.bnd_eq]; rfl
    | some g => rfl
  case rangeFunc g ps asg bd =>
    rw [stOp_eq]
    cases calleeY (opnd s g) (.cons (.yld s.n) .nil) with
    | none => rfl
    | some r =>
      obtain ⟨g', args⟩ := r
      cases g' with
      | inr b => rfl
      | inl g' =>
        dsimp only
        rw [Tree.bnd_eq]
        have : (stCall E g').f rec_ B.h args (s.h.set s.n (.rng f ps.toList asg bd s.tmp s.N 0 none)) (s.n + 1) = evCall E rec_ B.h (.inl g') args (s.h.set s.n (.rng f ps.toList asg bd s.tmp s.N 0 none)) (s.n + 1) := by
          rw [← callS_eq]; rfl
        rw [this]
        simp only [lookS_eq]
        rfl
noncomputable def evS (E : Env) (gs : List FuncId) (k : Nat) : RecF := Nat.rec (motive := fun _ => RecF) (fun _ _ _ _ => .stuck) (fun _ ih f c B s => (stStep E gs f c).f ih B s) k
theorem evS_eq {E : Env} {gs : List FuncId} (hΓ : Among E gs) : ∀ k, evS E gs k = ev E k := by
  intro k
  induction k with
  | zero => rfl
  | succ k ih =>
    funext f c B s
    show (stStep E gs f c).f (evS E gs k) B s = evStep E (ev E k) f c B s
    rw [stStep_eq hΓ, ih]
noncomputable def evFnS (E : Env) (gs : List FuncId) (k : Nat) (g : FuncId) (args : V) : Tree V := (callS E (evS E gs k) (fun _ => .none) (.inl g) args .nil 0).bnd fun r => pubT (lookS (fun _ => .none) r.2.1) r.1
theorem evFnS_eq {E : Env} {gs : List FuncId} (hΓ : Among E gs) (k : Nat) (g : FuncId) (args : V) : evFnS E gs k g args = evFn E k g args := by
  unfold evFnS evFn
  rw [Tree.bnd_eq, callS_eq, evS_eq hΓ]
  congr 1
  funext r
  rw [show lookS (fun _ => Blk.none) r.2.1 = look (fun _ => .none) r.2.1 from funext fun b => lookS_eq _ _ _]
end Go.Fw
