/- The evaluator once more, laid out for the kernel: what depends on the code alone stands in boxes, which the kernel opens once. It is the same function. -/
import Derived.Test.YtnjjailadijdlaaGreatDoorMAb
import Derived.Test.YtnjjailadijdlaaGreatDoorMAm
import Derived.Test.YtnjjailadijdlaaGreatDoorMAl
set_option maxRecDepth 100000
set_option linter.unusedVariables false
set_option linter.unusedSimpArgs false
noncomputable section
namespace Go.Fw
universe u
structure Box (α:Type u) where
 f:α
def Tree.bnd {α β:Type} (T:Tree α) (k:α->Tree β):Tree β:=
 Tree.rec (motive:=fun _=>Tree β) (fun a=>k a) .stuck (fun b _ _ t f=>.node b t f) (fun p _ t=>.need p t) (fun σ _ t=>.all σ t) (fun p _ t=>.given p t) (fun _ _ t f=>.both t f) T
theorem Tree.X4 {α β:Type} (T:Tree α) (k:α->Tree β):T.bnd k = T.bind k:=by
 induction T with
 | leaf a=>rfl
 | stuck=>rfl
 | node b t f iht ihf=>show Tree.node b (t.bnd k) (f.bnd k) = _; rw [iht,ihf]; rfl
 | need p t ih=>show Tree.need p (t.bnd k) = _; rw [ih]; rfl
 | all σ t ih=>show Tree.all σ (fun x=>(t x).bnd k) = _; rw [funext ih]; rfl
 | given p t ih=>show Tree.given p (t.bnd k) = _; rw [ih]; rfl
 | both t f iht ihf=>show Tree.both (t.bnd k) (f.bnd k) = _; rw [iht,ihf]; rfl
def wrapF (k:IntKind) (n:Int):Int:=
 match n with
 | .ofNat m=>match k with
  | .i64=>bif Nat.ble m 9223372036854775807 then .ofNat m else k.wrap n
  | .u32=>bif Nat.ble m 4294967295 then .ofNat m else k.wrap n
  | .u64=>bif Nat.ble m 18446744073709551615 then .ofNat m else k.wrap n
  | .u8=>bif Nat.ble m 255 then .ofNat m else k.wrap n
  | k=>k.wrap n
 | .negSucc m=>match k with
  | .i64=>bif Nat.ble m 9223372036854775807 then .negSucc m else k.wrap n
  | k=>k.wrap n
theorem i64_nat {m:Nat} (h:Nat.ble m 9223372036854775807 = true):Int.ofNat m = IntKind.i64.wrap (Int.ofNat m):=by
 have h:=Nat.le_of_ble_eq_true h
 exact (IntWalk.i64_in (m:Int) ⟨by omega,by omega⟩).symm
theorem i64_neg {m:Nat} (h:Nat.ble m 9223372036854775807 = true):Int.negSucc m = IntKind.i64.wrap (Int.negSucc m):=by
 have h:=Nat.le_of_ble_eq_true h
 have e:=Int.negSucc_eq m
 exact (IntWalk.i64_in _ ⟨by omega,by omega⟩).symm
theorem u32_nat {m:Nat} (h:Nat.ble m 4294967295 = true):Int.ofNat m = IntKind.u32.wrap (Int.ofNat m):=by
 have h:=Nat.le_of_ble_eq_true h
 exact (IntWalk.u32_in (m:Int) ⟨by omega,by omega⟩).symm
theorem u64_nat {m:Nat} (h:Nat.ble m 18446744073709551615 = true):Int.ofNat m = IntKind.u64.wrap (Int.ofNat m):=by
 have h:=Nat.le_of_ble_eq_true h
 exact (IntWalk.u64_in (m:Int) ⟨by omega,by omega⟩).symm
theorem u8_nat {m:Nat} (h:Nat.ble m 255 = true):Int.ofNat m = IntKind.u8.wrap (Int.ofNat m):=by
 have h:=Nat.le_of_ble_eq_true h
 exact (IntWalk.u8_in (m:Int) ⟨by omega,by omega⟩).symm
theorem ZbI {α:Type} {b:Bool} {x y:α} (h:b = true->x = y):(bif b then x else y) = y:=by
 cases b with
 | true=>exact h rfl
 | false=>rfl
theorem wrapF_eq (k:IntKind) (n:Int):wrapF k n = k.wrap n:=by
 cases n with
 | ofNat m=>
  cases k
  case i64=>exact ZbI i64_nat
  case u32=>exact ZbI u32_nat
  case u64=>exact ZbI u64_nat
  case u8=>exact ZbI u8_nat
  all_goals rfl
 | negSucc m=>
  cases k
  case i64=>exact ZbI i64_neg
  all_goals rfl
def mkW (st:Bool) (k:IntKind) (n:Int):V:=
 match st with
 | true=>Zdy (wrapF k n) fun n=>.int true k n
 | false=>.int false k (k.wrap n)
theorem mkW_eq (st:Bool) (k:IntKind) (n:Int):mkW st k n = mkInt st k (k.wrap n):=by
 cases st <;> simp only [mkW,mkInt,wrapF_eq]
def ltF (a b:Int):Bool:=
 match a with
 | .ofNat m=>match b with | .ofNat n=>Nat.blt m n | .negSucc _=>false
 | .negSucc m=>match b with | .ofNat _=>true | .negSucc n=>Nat.blt n m
def eqF (a b:Int):Bool:=
 match a with
 | .ofNat m=>match b with | .ofNat n=>Nat.beq m n | .negSucc _=>false
 | .negSucc m=>match b with | .ofNat _=>false | .negSucc n=>Nat.beq m n
theorem Zeh (a b:Nat):Nat.blt a b = decide (a < b):=by
 cases h:Nat.blt a b
 ·exact (decide_eq_false fun h'=>by rw [<- Nat.blt_eq] at h'; rw [h'] at h; cases h).symm
 ·exact (decide_eq_true (by rw [<- Nat.blt_eq]; exact h)).symm
theorem beq_dec (a b:Nat):Nat.beq a b = decide (a = b):=by
 cases h:Nat.beq a b
 ·exact (decide_eq_false fun e=>by subst e; simp at h).symm
 ·exact (decide_eq_true (Nat.eq_of_beq_eq_true h)).symm
theorem Zb5 (a b:Int):ltF a b = decide (a < b):=by
 cases a with
 | ofNat m=>
  cases b with
  | ofNat n=>show Nat.blt m n = decide ((m:Int) < (n:Int)); rw [Zeh]; apply decide_eq_decide.2; omega
  | negSucc n=>have:=Int.negSucc_eq n; exact (decide_eq_false (show ¬ (m:Int) < Int.negSucc n by omega)).symm
 | negSucc m=>
  have hm:=Int.negSucc_eq m
  cases b with
  | ofNat n=>exact (decide_eq_true (show Int.negSucc m < (n:Int) by omega)).symm
  | negSucc n=>have:=Int.negSucc_eq n; show Nat.blt n m = _; rw [Zeh]; apply decide_eq_decide.2; omega
theorem eqF_eq (a b:Int):eqF a b = (a==b):=by
 have e:(a==b) = decide (a = b):=by cases h:decide (a = b) <;> simp_all
 rw [e]
 cases a with
 | ofNat m=>
  cases b with
  | ofNat n=>show Nat.beq m n = decide ((m:Int) = (n:Int)); rw [beq_dec]; apply decide_eq_decide.2; omega
  | negSucc n=>exact (decide_eq_false (fun h=>by cases h)).symm
 | negSucc m=>
  cases b with
  | ofNat n=>exact (decide_eq_false (fun h=>by cases h)).symm
  | negSucc n=>show Nat.beq m n = _; rw [beq_dec]; apply decide_eq_decide.2; exact ⟨fun h=>by rw [h],fun h=>by injection h⟩
def mkQ (st:Bool) (quick slow:Bool):V:=
 match st with
 | true=>match quick with | true=>.bool true true | false=>.bool true false
 | false=>.bool false slow
theorem UE {st quick slow:Bool} (h:quick = slow):mkQ st quick slow = WL st slow:=by subst h; cases st <;> cases quick <;> rfl
def WS (k:Nat):Nat->List Bool:=Nat.rec (fun _=>[]) (fun _ ih i=>bif Nat.beq i 0 then [] else bif Nat.beq (i % 2) 1 then true :: ih (i / 2) else false :: ih (i / 2 - 1)) k
def pathOf (i:Nat):List Bool:=WS (i + 1) i
def getP {α:Type} (p:List Bool):PT α->Option α:=
 List.rec (motive:=fun _=>PT α->Option α)
  (fun t=>PT.casesOn (motive:=fun _=>Option α) t none (fun v=>some v) (fun v _ _=>v))
  (fun b _ ih t=>PT.casesOn (motive:=fun _=>Option α) t none (fun v=>some v) (fun _ l r=>Bool.casesOn (motive:=fun _=>Option α) b (ih r) (ih l))) p
def setP {α:Type} (p:List Bool):PT α->α->PT α:=
 List.rec (motive:=fun _=>PT α->α->PT α)
  (fun t x=>PT.casesOn (motive:=fun _=>PT α) t (.node (some x) .nil .nil) (fun v=>.node (some x) (.fill v) (.fill v)) (fun _ l r=>.node (some x) l r))
  (fun b _ ih t x=>PT.casesOn (motive:=fun _=>PT α) t
   (Bool.casesOn (motive:=fun _=>PT α) b (.node none .nil (ih .nil x)) (.node none (ih .nil x) .nil))
   (fun v=>Bool.casesOn (motive:=fun _=>PT α) b (.node (some v) (.fill v) (ih (.fill v) x)) (.node (some v) (ih (.fill v) x) (.fill v)))
   (fun v l r=>Bool.casesOn (motive:=fun _=>PT α) b (.node v l (ih r x)) (.node v (ih l x) r))) p
theorem getP_eq {α:Type}:∀ (k:Nat) (t:PT α) (i:Nat),i < k->getP (WS k i) t = t.get i:=by
 intro k
 induction k with
 | zero=>intro t i h; omega
 | succ k ih=>
  intro t i h
  show getP (bif Nat.beq i 0 then [] else bif Nat.beq (i % 2) 1 then true :: WS k (i / 2) else false :: WS k (i / 2 - 1)) t = _
  cases h0:Nat.beq i 0
  ·have hi:i ≠ 0:=fun e=>by subst e; cases h0
   cases h1:Nat.beq (i % 2) 1
   ·simp only [cond_false]
    cases t with
    | nil=>rfl
    | fill v=>rfl
    | node v l r=>show getP (WS k (i / 2 - 1)) r = _; rw [ih r _ (by omega)]; simp only [PT.get,h0,h1,cond_false]
   ·simp only [cond_false,cond_true]
    cases t with
    | nil=>rfl
    | fill v=>rfl
    | node v l r=>show getP (WS k (i / 2)) l = _; rw [ih l _ (by omega)]; simp only [PT.get,h0,h1,cond_false,cond_true]
  ·simp only [cond_true]
   cases t with
   | nil=>rfl
   | fill v=>rfl
   | node v l r=>simp only [PT.get,h0,cond_true]; rfl
theorem setP_eq {α:Type} (x:α):∀ (k:Nat) (t:PT α) (i:Nat),i < k->setP (WS k i) t x = PT.Wj k t i x:=by
 intro k
 induction k with
 | zero=>intro t i h; omega
 | succ k ih=>
  intro t i h
  show setP (bif Nat.beq i 0 then [] else bif Nat.beq (i % 2) 1 then true :: WS k (i / 2) else false :: WS k (i / 2 - 1)) t x = _
  have e:PT.Wj (k + 1) t i x = (match t with
   | .nil=>bif Nat.beq i 0 then .node (some x) .nil .nil else bif Nat.beq (i % 2) 1 then .node none (PT.Wj k .nil (i / 2) x) .nil else .node none .nil (PT.Wj k .nil (i / 2 - 1) x)
   | .fill v=>bif Nat.beq i 0 then .node (some x) (.fill v) (.fill v) else bif Nat.beq (i % 2) 1 then .node (some v) (PT.Wj k (.fill v) (i / 2) x) (.fill v) else .node (some v) (.fill v) (PT.Wj k (.fill v) (i / 2 - 1) x)
   | .node v l r=>bif Nat.beq i 0 then .node (some x) l r else bif Nat.beq (i % 2) 1 then .node v (PT.Wj k l (i / 2) x) r else .node v l (PT.Wj k r (i / 2 - 1) x)):=by cases t <;> rfl
  rw [e]
  cases h0:Nat.beq i 0
  ·have hi:i ≠ 0:=fun e=>by subst e; cases h0
   cases h1:Nat.beq (i % 2) 1
   ·simp only [cond_false]
    cases t with
    | nil=>show PT.node none .nil (setP (WS k (i / 2 - 1)) .nil x) = _; rw [ih _ _ (by omega)]
    | fill v=>show PT.node (some v) (.fill v) (setP (WS k (i / 2 - 1)) (.fill v) x) = _; rw [ih _ _ (by omega)]
    | node v l r=>show PT.node v l (setP (WS k (i / 2 - 1)) r x) = _; rw [ih _ _ (by omega)]
   ·simp only [cond_false,cond_true]
    cases t with
    | nil=>show PT.node none (setP (WS k (i / 2)) .nil x) .nil = _; rw [ih _ _ (by omega)]
    | fill v=>show PT.node (some v) (setP (WS k (i / 2)) (.fill v) x) (.fill v) = _; rw [ih _ _ (by omega)]
    | node v l r=>show PT.node v (setP (WS k (i / 2)) l x) r = _; rw [ih _ _ (by omega)]
  ·simp only [cond_true]
   cases t <;> rfl
def getB {α:Type} (p:List Bool):Box (PT α->Option α):=
 List.rec (motive:=fun _=>Box (PT α->Option α)) ⟨fun t=>PT.rec (motive:=fun _=>Option α) none (fun v=>some v) (fun v _ _ _ _=>v) t⟩
  (fun b _ ih=>Bool.rec (motive:=fun _=>Box (PT α->Option α)) ⟨fun t=>PT.rec (motive:=fun _=>Option α) none (fun v=>some v) (fun _ _ r _ _=>ih.f r) t⟩ ⟨fun t=>PT.rec (motive:=fun _=>Option α) none (fun v=>some v) (fun _ l _ _ _=>ih.f l) t⟩ b) p
theorem getB_eq {α:Type}:∀ (p:List Bool) (t:PT α),(getB p).f t = getP p t:=by
 intro p
 induction p with
 | nil=>intro t; cases t <;> rfl
 | cons b p ih=>intro t; cases b <;> cases t <;> first | rfl | exact ih _
def Qt {α:Type} (p:List Bool):Box (PT α->α->PT α):=
 List.rec (motive:=fun _=>Box (PT α->α->PT α)) ⟨fun t x=>PT.rec (motive:=fun _=>PT α) (.node (some x) .nil .nil) (fun v=>.node (some x) (.fill v) (.fill v)) (fun _ l r _ _=>.node (some x) l r) t⟩
  (fun b _ ih=>Bool.rec (motive:=fun _=>Box (PT α->α->PT α))
   ⟨fun t x=>PT.rec (motive:=fun _=>PT α) (.node none .nil (ih.f .nil x)) (fun v=>.node (some v) (.fill v) (ih.f (.fill v) x)) (fun v l r _ _=>.node v l (ih.f r x)) t⟩
   ⟨fun t x=>PT.rec (motive:=fun _=>PT α) (.node none (ih.f .nil x) .nil) (fun v=>.node (some v) (ih.f (.fill v) x) (.fill v)) (fun v l r _ _=>.node v (ih.f l x) r) t⟩ b) p
theorem setB_eq {α:Type}:∀ (p:List Bool) (t:PT α) (x:α),(Qt p).f t x = setP p t x:=by
 intro p
 induction p with
 | nil=>intro t x; cases t <;> rfl
 | cons b p ih=>
  intro t x
  cases b <;> cases t
  ·show PT.node none .nil ((Qt p).f .nil x) = _; rw [ih]; rfl
  ·rename_i v; show PT.node (some v) (.fill v) ((Qt p).f (.fill v) x) = _; rw [ih]; rfl
  ·rename_i v l r; show PT.node v l ((Qt p).f r x) = _; rw [ih]; rfl
  ·show PT.node none ((Qt p).f .nil x) .nil = _; rw [ih]; rfl
  ·rename_i v; show PT.node (some v) ((Qt p).f (.fill v) x) (.fill v) = _; rw [ih]; rfl
  ·rename_i v l r; show PT.node v ((Qt p).f l x) r = _; rw [ih]; rfl
def XJ {α:Type} (d:Nat->α) (t:PT α) (i:Nat):α:=Option.rec (motive:=fun _=>α) (d i) (fun v=>v) ((getB (pathOf i)).f t)
theorem JO {α:Type} (d:Nat->α) (t:PT α) (i:Nat):XJ d t i = look d t i:=by
 unfold XJ look pathOf
 rw [getB_eq,getP_eq _ _ _ (Nat.lt_succ_self i)]
 cases t.get i <;> rfl
theorem Zfw {α:Type} (t:PT α) (i:Nat) (x:α):(Qt (pathOf i)).f t x = t.set i x:=by rw [setB_eq]; exact setP_eq x (i + 1) t i (Nat.lt_succ_self i)
def cnd {α:Type u} (b:Bool) (x y:α):α:=Bool.rec (motive:=fun _=>α) y x b
theorem cnd_eq {α:Type u} (b:Bool) (x y:α):cnd b x y = bif b then x else y:=by cases b <;> rfl
def stOp (x:Operand):Box ((B:Base)->St B->V):=
 match x with
 | .tmp t=>⟨fun B s=>Option.rec (motive:=fun _=>V) (B.t t) (fun v=>v) ((getB (pathOf t)).f s.t)⟩
 | .const v=>⟨fun _ _=>V.ofValue v⟩
 | x=>⟨fun _ s=>Zg s x⟩
theorem X8 (x:Operand) (B:Base) (s:St B):(stOp x).f B s = Zg s x:=by
 cases x <;> first | rfl | exact JO _ _ _
def Wp (d:Option Tmp):Box ((B:Base)->St B->V->St B):=
 match d with
 | some d=>⟨fun _ s v=>{ s with t:=(Qt (pathOf d)).f s.t v }⟩
 | none=>⟨fun _ s _=>s⟩
theorem Jq (d:Option Tmp) (B:Base) (s:St B) (v:V):(Wp d).f B s v = s.put d v:=by
 cases d with
 | none=>rfl
 | some d=>simp only [Wp,St.put,Zfw]
def stInt (op:BinOp):Box (Bool->Bool->IntKind->Int->Int->Tree V):=
 match op with
 | .add=>⟨fun s s' k a b=>.leaf (mkW (s&&s') k (a + b))⟩
 | .sub=>⟨fun s s' k a b=>.leaf (mkW (s&&s') k (a - b))⟩
 | .mul=>⟨fun s s' k a b=>.leaf (mkW (s&&s') k (a * b))⟩
 | .eql=>⟨fun s s' _ a b=>.leaf (mkQ (s&&s') (eqF a b) (a==b))⟩
 | .neq=>⟨fun s s' _ a b=>.leaf (mkQ (s&&s') (!eqF a b) (a != b))⟩
 | .lss=>⟨fun s s' _ a b=>.leaf (mkQ (s&&s') (ltF a b) (decide (a < b)))⟩
 | .leq=>⟨fun s s' _ a b=>.leaf (mkQ (s&&s') (!ltF b a) (decide (a<=b)))⟩
 | .gtr=>⟨fun s s' _ a b=>.leaf (mkQ (s&&s') (ltF b a) (decide (a > b)))⟩
 | .geq=>⟨fun s s' _ a b=>.leaf (mkQ (s&&s') (!ltF a b) (decide (a >= b)))⟩
 | op=>⟨fun s s' k a b=>evInt op s s' k a b⟩
theorem stInt_eq (op:BinOp) (s s':Bool) (k:IntKind) (a b:Int):(stInt op).f s s' k a b = evInt op s s' k a b:=by
 cases op <;> simp only [stInt,evInt,intBit,intCmp,mkW_eq]
 ·rw [UE (eqF_eq a b)]
 ·rw [UE (quick:=!eqF a b) (slow:=a != b) (by rw [eqF_eq]; rfl)]
 ·rw [UE (Zb5 a b)]
 ·rw [UE (quick:=!ltF b a) (slow:=decide (a<=b)) (by rw [Zb5]; by_cases h:a<=b <;> simp [h] <;> omega)]
 ·rw [UE (Zb5 b a)]
 ·rw [UE (quick:=!ltF a b) (slow:=decide (a >= b)) (by rw [Zb5]; by_cases h:b<=a <;> simp [h] <;> omega)]
def kindF (k k':IntKind):Bool:=Nat.beq k.ctorIdx k'.ctorIdx
theorem kindF_eq (k k':IntKind):kindF k k' = decide (k = k'):=by cases k <;> cases k' <;> rfl
def stBin (P:Program) (op:BinOp) (t:TypeId):Box (V->V->Tree V):=
 match Gj op with
 | true=>⟨fun x y=>Q6 P op t x y⟩
 | false=>⟨fun x y=>match x with
  | .int s k a=>match y with
   | .int s' k' b=>cnd (kindF k k') ((stInt op).f s s' k a b) .stuck
   | _=>.stuck
  | x=>Q6 P op t x y⟩
theorem stBin_eq (P:Program) (op:BinOp) (t:TypeId) (x y:V):(stBin P op t).f x y = Q6 P op t x y:=by
 unfold stBin
 cases h:Gj op
 ·cases x <;> try rfl
  rename_i s k a
  cases y <;> try rfl
  rename_i s' k' b
  simp only [Q6,h,stInt_eq,kindF_eq,cnd_eq]
  by_cases e:k = k' <;> simp [e]
 ·rfl
def stIfc (P:Program) (op:BinOp) (t:TypeId) (x y:Operand):Box (V->V->Tree V):=
 match P.underlying t with
 | some (.interface _)=>⟨fun a b=>match J5 P op t x y a b with
  | some T=>T
  | none=>Q6 P op t a b⟩
 | _=>stBin P op t
theorem Zhr (P:Program) (op:BinOp) (t:TypeId) (x y:Operand) (a b:V):some ((stIfc P op t x y).f a b) = (match J5 P op t x y a b with
  | some T=>some T
  | none=>some (Q6 P op t a b)):=by
 unfold stIfc
 split
 ·dsimp only; cases J5 P op t x y a b <;> rfl
 ·rename_i h
  have:J5 P op t x y a b = none:=by
   unfold J5
   split
   ·rename_i m hm; exact absurd hm (h _)
   ·rfl
  rw [this,stBin_eq]
def nthO (o:Nat):V->Option V:=Nat.rec (motive:=fun _=>V->Option V)
 (fun v=>match v with | .cons h _=>some h | _=>none) (fun _ ih v=>match v with | .cons _ t=>ih t | _=>none) o
theorem nthO_eq:∀ (o:Nat) (v:V),nthO o v = bif Nat.blt o v.len then some (v.nth o) else none:=by
 intro o
 induction o with
 | zero=>
  intro v
  cases v <;> rfl
 | succ o ih=>
  intro v
  cases v <;> try rfl
  rename_i h t
  show nthO o t = bif Nat.blt (o + 1) (t.len + 1) then some (V.nth (.cons h t) (o + 1)) else none
  rw [ih t]
  rfl
def takeO (z:Nat):V->Option V:=Nat.rec (motive:=fun _=>V->Option V)
 (fun _=>some .nil) (fun _ ih v=>match v with | .cons h t=>(match ih t with | some r=>some (.cons h r) | none=>none) | _=>none) z
theorem takeO_eq:∀ (z:Nat) (v:V),takeO z v = bif Nat.ble z v.len then some (v.take z) else none:=by
 intro z
 induction z with
 | zero=>
  intro v
  have:Nat.ble 0 v.len = true:=by cases v.len <;> rfl
  rw [this]
  cases v <;> rfl
 | succ z ih=>
  intro v
  cases v <;> try rfl
  rename_i h t
  show (match takeO z t with | some r=>some (.cons h r) | none=>none) = bif Nat.ble (z + 1) (t.len + 1) then some (V.take (.cons h t) (z + 1)) else none
  rw [ih t]
  have e:Nat.ble (z + 1) (t.len + 1) = Nat.ble z t.len:=rfl
  rw [e]
  cases Nat.ble z t.len <;> rfl
def dropO (o:Nat):V->V:=Nat.rec (motive:=fun _=>V->V) (fun v=>v) (fun _ ih v=>match v with | .cons _ t=>ih t | v=>v) o
theorem dropO_eq:∀ (o:Nat) (v:V),dropO o v = v.drop o:=by
 intro o
 induction o with
 | zero=>intro v; cases v <;> rfl
 | succ o ih=>
  intro v
  cases v <;> try rfl
  rename_i h t
  show dropO o t = V.drop (.cons h t) (o + 1)
  rw [ih t]; rfl
theorem drop_len:∀ (o:Nat) (v:V),(v.drop o).len = v.len - o:=by
 intro o
 induction o with
 | zero=>intro v; cases v <;> rfl
 | succ o ih=>
  intro v
  cases v <;> try (simp [V.drop,V.len]; done)
  rename_i h t
  simp only [V.drop,V.len]
  rw [show Nat.beq (o + 1) 0 = false from rfl]
  simp only [cond_false,Nat.add_sub_cancel]
  rw [ih t]; omega
def Uz (P:Program) (t:TypeId):Box (V->Nat->Option V):=
 match K4 P t with
 | some true=>match ZB P t with
  | some (z + 1)=>⟨fun cs o=>match takeO (z + 1) (dropO o cs) with | some r=>some (.agg r) | none=>none⟩
  | _=>⟨fun cs o=>partOf P t cs o⟩
 | some false=>⟨fun cs o=>nthO o cs⟩
 | none=>⟨fun _ _=>none⟩
theorem ZhJ (P:Program) (t:TypeId) (cs:V) (o:Nat):(Uz P t).f cs o = partOf P t cs o:=by
 unfold Uz
 cases h:K4 P t with
 | none=>simp only [partOf,h]
 | some b=>
  cases b with
  | false=>simp only [partOf,h]; exact nthO_eq o cs
  | true=>
   dsimp only
   cases hz:ZB P t with
   | none=>rfl
   | some z=>
    cases z with
    | zero=>rfl
    | succ z=>
     simp only [partOf,h,hz,takeO_eq,dropO_eq,drop_len]
     have e:Nat.ble (z + 1) (cs.len - o) = Nat.ble (o + (z + 1)) cs.len:=by
      cases h1:Nat.ble (o + (z + 1)) cs.len
      ·cases h2:Nat.ble (z + 1) (cs.len - o)
       ·rfl
       ·have:=Nat.le_of_ble_eq_true h2
        rw [Nat.ble_eq_true_of_le (by omega)] at h1; cases h1
      ·have:=Nat.le_of_ble_eq_true h1
       exact Nat.ble_eq_true_of_le (by omega)
     rw [e]
     cases Nat.ble (o + (z + 1)) cs.len <;> rfl
def Zay (P:Program) (t:TypeId):Box ((Nat->Blk)->V->Tree V):=⟨fun h x=>
 match x with
 | .ptr st b es i o=>match h b with
  | .var cs=>bif st then (match (Uz P t).f cs (i * es + o) with | some v=>.leaf v | none=>.stuck) else .stuck
  | .arr es' n get=>bif Nat.beq es es' then atIdx st i n (match (Uz P t).f (get i) o with | some v=>.leaf v | none=>.stuck) else .stuck
  | _=>.stuck
 | .rptr _ _ _ get i o=>match (Uz P t).f (get i) o with | some v=>.leaf v | none=>.stuck
 | _=>.stuck⟩
theorem Zew (P:Program) (t:TypeId) (h:Nat->Blk) (x:V):(Zay P t).f h x = JX P h t x:=by
 have e:∀ o:Option V,(match o with | some v=>Tree.leaf v | none=>.stuck) = Tree.KJ o:=fun o=>by cases o <;> rfl
 simp only [Zay,JX,ZhJ,e]
 rfl
def Zd1 (P:Program) (t:TypeId) (f:Nat):Box (V->Tree V):=
 match Zaq P t f with
 | some (off,_)=>⟨fun x=>match x with
  | .ptr st b es i o=>.leaf (.ptr st b es i (o + off))
  | .rptr st es n get i o=>.leaf (.rptr st es n get i (o + off))
  | _=>.stuck⟩
 | none=>⟨fun _=>.stuck⟩
theorem Zg4 (P:Program) (t:TypeId) (x:V) (f:Nat):(Zd1 P t f).f x = Zas P t x f:=by
 unfold Zd1 Zas
 cases Zaq P t f <;> rfl
def Zdv (P:Program) (t:TypeId) (f:Nat):Box (V->Tree V):=
 match P.underlying t with
 | some (.struct fields)=>match fields[f]? with
  | some fd=>⟨fun x=>match x with
   | .agg cs=>match (Uz P fd.type).f cs fd.offset with | some v=>.leaf v | none=>.stuck
   | _=>.stuck⟩
  | none=>⟨fun _=>.stuck⟩
 | _=>⟨fun _=>.stuck⟩
theorem Zh6 (P:Program) (t:TypeId) (x:V) (f:Nat):(Zdv P t f).f x = Zaa P t x f:=by
 have e:∀ o:Option V,(match o with | some v=>Tree.leaf v | none=>.stuck) = Tree.KJ o:=fun o=>by cases o <;> rfl
 unfold Zdv Zaa
 split
 ·rename_i fields hu
  simp only [hu]
  cases fields[f]? with
  | none=>rfl
  | some fd=>simp only [ZhJ,e]; rfl
 ·rename_i h
  split
  ·rename_i fields hu; exact absurd hu (h fields)
  ·rfl
def Zcn (P:Program) (t:TypeId):Box (V->V->Tree V):=
 match P.underlying t with
 | some (.slice e)=>match ZB P e with
  | some z=>⟨fun x ix=>match ix with
   | .int s _ j=>match x with
    | .rsl st es n get=>bif Nat.beq z es then JB (st&&s) j n fun q=>.leaf (.rptr (st&&s) es n get q 0) else .stuck
    | .osl st b es i n=>bif Nat.beq z es then JB (st&&s) j n fun q=>.leaf (.ptr (st&&s) b es (i + q) 0) else .stuck
    | _=>.stuck
   | _=>.stuck⟩
  | none=>⟨fun x ix=>V3 P t x ix⟩
 | _=>⟨fun x ix=>V3 P t x ix⟩
theorem Zhz (P:Program) (t:TypeId) (x ix:V):(Zcn P t).f x ix = V3 P t x ix:=by
 unfold Zcn
 split
 ·rename_i e hu
  cases hz:ZB P e with
  | none=>rfl
  | some z=>
   unfold V3
   simp only [hu,hz]
   cases ix <;> rfl
 ·rfl
def ZfY (P:Program) (t:TypeId):Box ((Nat->Blk)->PT Blk->V->V->Tree (PT Blk)):=
 match ZB P t with
 | some z=>⟨fun g h x v=>bif Nat.beq v.cells.len z&&(v.cells.Xp&&v.solid) then
   match x with
   | .ptr st b es i o=>(U6 (XJ g h b) st es i o z v).bnd fun blk=>.leaf (h.set b blk)
   | _=>.stuck
  else .stuck⟩
 | none=>⟨fun _ _ _ _=>.stuck⟩
theorem ZkO (P:Program) (t:TypeId) (g:Nat->Blk) (h:PT Blk) (x v:V):(ZfY P t).f g h x v = GA P g h t x v:=by
 unfold ZfY GA
 cases ZB P t with
 | none=>rfl
 | some z=>simp only [JO,Tree.X4]; rfl
def among (gs:List FuncId) (g:FuncId):Bool:=List.rec false (fun x _ ih=>bif Nat.beq g x then true else ih) gs
def Gq (l:List Operand):Box ((B:Base)->St B->V):=
 List.rec ⟨fun _ _=>.nil⟩ (fun x _ ih=>⟨fun B s=>.cons ((stOp x).f B s) (ih.f B s)⟩) l
theorem Zfb (l:List Operand) (B:Base) (s:St B):(Gq l).f B s = .ofList (l.map (Zg s)):=by
 induction l with
 | nil=>rfl
 | cons x l ih=>show V.cons ((stOp x).f B s) ((Gq l).f B s) = _; rw [ih,X8]; rfl
theorem Zlr (l:List V):(V.ofList l).app .nil = V.ofList l:=by
 induction l with
 | nil=>rfl
 | cons v l ih=>show V.cons v ((V.ofList l).app .nil) = _; rw [ih]; rfl
theorem nil_app (v:V):V.nil.app v = v:=rfl
abbrev OperF:=YL->(B:Base)->St B->(St B->Tree (St B))->Tree (St B)
def Wz (E:Env) (o:Oper):OperF:=fun call _ s k=>(YR E call s o.op).bind fun r=>k ({ s with h:=r.2.1,n:=r.2.2 }.put o.dst r.1)
def QG (T:(B:Base)->St B->Tree V) (d:Option Tmp):OperF:=fun _ B s k=>(T B s).bnd fun v=>k ((Wp d).f B s v)
theorem Jw {E:Env} {o:Oper} {T:(B:Base)->St B->Tree V} {call:YL} {B:Base} {s:St B} {k:St B->Tree (St B)} (h:evQ E (Zg s) s.blk o.op = some (T B s)):QG T o.dst call B s k = Wz E o call B s k:=by
 unfold QG Wz YR
 rw [h]
 simp only [Tree.X4,Jq]
 generalize T B s = T'
 induction T' with
 | leaf a=>rfl
 | stuck=>rfl
 | node b t f iht ihf=>simp only [Tree.bind]; rw [iht,ihf]
 | need p t ih=>simp only [Tree.bind]; rw [ih]
 | all σ t ih=>simp only [Tree.bind]; congr 1; funext x; exact ih x
 | given p t ih=>simp only [Tree.bind]; rw [ih]
 | both t f iht ihf=>simp only [Tree.bind]; rw [iht,ihf]
def Zg1 (E:Env) (gs:List FuncId) (o:Oper) (c:Call):Box OperF:=
 match c.callee with
 | .builtin b=>match b with
  | .len=>⟨QG (fun B s=>match Vz E.P .len c.argTypes.toList ((Gq c.args.toList).f B s) with | some T=>T | none=>.stuck) o.dst⟩
  | _=>⟨Wz E o⟩
 | .value f=>match f with
  | .func g=>match among gs g with
   | false=>⟨fun call B s k=>(call B.h (.inl g) ((Gq c.args.toList).f B s) s.h s.n).bnd fun r=>k ((Wp o.dst).f B { s with h:=r.2.1,n:=r.2.2 } r.1)⟩
   | true=>⟨Wz E o⟩
  | f=>⟨fun call B s k=>match (stOp f).f B s with
   | .fn (.func g) first cap=>bif among gs g then Wz E o call B s k else
     (call B.h (.inl g) (first.app (((Gq c.args.toList).f B s).app cap)) s.h s.n).bnd fun r=>k ((Wp o.dst).f B { s with h:=r.2.1,n:=r.2.2 } r.1)
   | .yld b=>(call B.h (.inr b) ((Gq c.args.toList).f B s) s.h s.n).bnd fun r=>k ((Wp o.dst).f B { s with h:=r.2.1,n:=r.2.2 } r.1)
   | _=>Wz E o call B s k⟩
 | _=>⟨Wz E o⟩
def JL (E:Env) (gs:List FuncId) (o:Oper):Box OperF:=
 match o.op with
 | .move x=>⟨fun _ B s k=>k ((Wp o.dst).f B s ((stOp x).f B s))⟩
 | .assign x=>⟨fun _ B s k=>k ((Wp o.dst).f B s ((stOp x).f B s))⟩
 | .load t a=>⟨QG (fun B s=>(Zay E.P t).f (XJ B.h s.h) ((stOp a).f B s)) o.dst⟩
 | .binOp op t x y _=>⟨QG (fun B s=>(stIfc E.P op t x y).f ((stOp x).f B s) ((stOp y).f B s)) o.dst⟩
 | .unOp op _ x=>⟨QG (fun B s=>evUn op ((stOp x).f B s)) o.dst⟩
 | .fieldAddr t x f=>⟨QG (fun B s=>(Zd1 E.P t f).f ((stOp x).f B s)) o.dst⟩
 | .field t x f=>⟨QG (fun B s=>(Zdv E.P t f).f ((stOp x).f B s)) o.dst⟩
 | .indexAddr t x ix=>⟨QG (fun B s=>(Zcn E.P t).f ((stOp x).f B s).Xo ((stOp ix).f B s)) o.dst⟩
 | .index t x ix=>⟨QG (fun B s=>Zah E.P t ((stOp x).f B s) ((stOp ix).f B s)) o.dst⟩
 | .extract x i=>⟨QG (fun B s=>Zdt ((stOp x).f B s) i) o.dst⟩
 | .nilCheck x=>⟨QG (fun B s=>Zei ((stOp x).f B s)) o.dst⟩
 | .pick c x y=>⟨QG (fun B s=>ZcB ((stOp c).f B s) ((stOp x).f B s) ((stOp y).f B s)) o.dst⟩
 | .store t a x=>⟨fun _ B s k=>((ZfY E.P t).f B.h s.h ((stOp a).f B s) ((stOp x).f B s)).bnd fun h=>k ((Wp o.dst).f B { s with h:=h } .undef)⟩
 | .call c=>Zg1 E gs o c
 | _=>⟨Wz E o⟩
def Among (E:Env) (gs:List FuncId):Prop:=∀ g args,among gs g = false->E.Γ g args = none
theorem ZeU {E:Env} {gs:List FuncId} (hΓ:Among E gs) {ρ:Operand->V} {h:Nat->Blk} {c:Call} {f:Operand} (hc:c.callee = .value f) (hf:∀ g out,callee (ρ f) (.ofList (c.args.toList.map ρ)) = some (g,out)->among gs g = false) :
  evQ E ρ h (.call c) = none/\Ub E ρ h f c = none:=by
 simp only [evQ,Ub,hc]
 cases hcal:callee (ρ f) (.ofList (c.args.toList.map ρ)) with
 | none=>exact ⟨rfl,rfl⟩
 | some r=>
  obtain ⟨g,out⟩:=r
  dsimp only
  rw [hΓ g _ (hf g out hcal),hΓ g _ (hf g out hcal)]
  refine ⟨rfl,?_⟩
  cases out.clean
  ·cases (freeze h out).clean <;> rfl
  ·rfl
theorem stOper_eq {E:Env} {gs:List FuncId} (hΓ:Among E gs) (o:Oper) (call:YL) (B:Base) (s:St B) (k:St B->Tree (St B)):(JL E gs o).f call B s k = Wz E o call B s k:=by
 unfold JL
 have hblk:XJ B.h s.h = s.blk:=funext fun b=>JO _ _ _
 split
 case h_1 x ho=>simp only [Wz,ho,YR,evQ,Tree.bind,Jq,X8]
 case h_2 x ho=>simp only [Wz,ho,YR,evQ,Tree.bind,Jq,X8]
 case h_3 t a ho=>dsimp only; exact Jw (by rw [ho]; simp only [evQ,Zew,X8,hblk])
 case h_4 op t x y _ ho=>dsimp only; exact Jw (by rw [ho]; simp only [evQ,X8]; exact (Zhr _ _ _ _ _ _ _).symm)
 case h_5 op _ x ho=>dsimp only; exact Jw (by rw [ho]; simp only [evQ,X8])
 case h_6 t x f ho=>dsimp only; exact Jw (by rw [ho]; simp only [evQ,X8,Zg4])
 case h_7 t x f ho=>dsimp only; exact Jw (by rw [ho]; simp only [evQ,X8,Zh6])
 case h_8 t x f ho=>dsimp only; exact Jw (by rw [ho]; simp only [evQ,X8,Zhz])
 case h_9 t x ix ho=>dsimp only; exact Jw (by rw [ho]; simp only [evQ,X8])
 case h_10 x i ho=>dsimp only; exact Jw (by rw [ho]; simp only [evQ,X8])
 case h_11 x ho=>dsimp only; exact Jw (by rw [ho]; simp only [evQ,X8])
 case h_12 c x y ho=>dsimp only; exact Jw (by rw [ho]; simp only [evQ,X8])
 case h_13 t a x ho=>
  simp only [Wz,ho,YR,evQ,ZkO,X8,Jq,Tree.X4]
  generalize GA E.P B.h s.h t (Zg s a) (Zg s x) = T'
  induction T' with
  | leaf a=>rfl
  | stuck=>rfl
  | node b t f iht ihf=>simp only [Tree.bind]; rw [iht,ihf]
  | need p t ih=>simp only [Tree.bind]; rw [ih]
  | all σ t ih=>simp only [Tree.bind]; congr 1; funext x; exact ih x
  | given p t ih=>simp only [Tree.bind]; rw [ih]
  | both t f iht ihf=>simp only [Tree.bind]; rw [iht,ihf]
 case h_14 c ho=>
  unfold Zg1
  split
  case h_1 b hc=>
   split
   ·dsimp only
    refine Jw ?_
    rw [ho]
    simp only [evQ,hc,Zfb]
    rfl
   ·rfl
  case h_2 f hc=>
   split
   case h_1 g=>
    cases ha:among gs g
    ·obtain ⟨e1,e2⟩:=ZeU hΓ (ρ:=Zg s) (h:=s.blk) hc (fun g' out h=>by
      simp only [Zg,callee] at h
      injection h with h; injection h with h1 h2; subst h1; exact ha)
     simp only [Wz,ho,YR,e1,hc,e2,Zfb,Tree.X4,Jq]
     simp only [Km,Zg,callee,nil_app,Zlr]
    ·rfl
   case h_2 f hf=>
    dsimp only
    rw [X8,Zfb]
    split
    ·rename_i g first cap hv
     cases ha:among gs g
     ·obtain ⟨e1,e2⟩:=ZeU hΓ (ρ:=Zg s) (h:=s.blk) hc (fun g' out h=>by
       rw [hv] at h
       simp only [callee] at h
       injection h with h; injection h with h1 h2; subst h1; exact ha)
      simp only [cond_false,Wz,ho,YR,e1,hc,e2,Tree.X4,Jq]
      rw [hv]
      simp only [Km,callee]
     ·rfl
    ·rename_i b hv
     obtain ⟨e1,e2⟩:=ZeU hΓ (ρ:=Zg s) (h:=s.blk) hc (fun g' out h=>by
      rw [hv] at h
      simp only [callee] at h
      cases h)
     simp only [Wz,ho,YR,e1,hc,e2,Tree.X4,Jq]
     rw [hv]
     simp only [Km]
    ·rfl
  case h_3=>rfl
 case h_15=>rfl
def Jc (E:Env) (gs:List FuncId) (ops:Array Oper) (l:List Oper):Box (YL->(B:Base)->St B->Tree (St B)):=
 List.rec (motive:=fun _=>Box (YL->(B:Base)->St B->Tree (St B))) ⟨fun _ _ s=>.leaf s⟩ (fun o _ ih=>match o.guard with
  | none=>⟨fun call B s=>(JL E gs o).f call B s fun s'=>ih.f call B s'⟩
  | some _=>⟨fun call B s=>match guardOf ops (XJ B.t s.t) o with
   | .bad=>.stuck
   | .yes=>(JL E gs o).f call B s fun s'=>ih.f call B s'
   | .no=>ih.f call B ((Wp o.dst).f B s .undef)
   | .dyn d b want=>match want with
    | true=>.node b ((JL E gs o).f call B (s.know d true) fun s'=>ih.f call B s') (ih.f call B ((s.know d false).put o.dst .undef))
    | false=>.node b (ih.f call B ((s.know d true).put o.dst .undef)) ((JL E gs o).f call B (s.know d false) fun s'=>ih.f call B s')⟩) l
theorem stOps_eq {E:Env} {gs:List FuncId} (hΓ:Among E gs) (ops:Array Oper) (call:YL) (B:Base):∀ (l:List Oper) (s:St B),(Jc E gs ops l).f call B s = QH E call ops l s:=by
 intro l
 induction l with
 | nil=>intro s; rfl
 | cons o rest ih=>
  intro s
  have go:∀ s:St B,((JL E gs o).f call B s fun s'=>(Jc E gs ops rest).f call B s') = (YR E call s o.op).bind fun r=>QH E call ops rest ({ s with h:=r.2.1,n:=r.2.2 }.put o.dst r.1):=by
   intro s
   rw [stOper_eq hΓ]
   unfold Wz
   congr 1
   funext r
   exact ih _
  have ht:XJ B.t s.t = s.tmp:=funext fun b=>JO _ _ _
  have e:(Jc E gs ops (o :: rest)).f call B s = (match o.guard with
   | none=>(JL E gs o).f call B s fun s'=>(Jc E gs ops rest).f call B s'
   | some _=>match guardOf ops (XJ B.t s.t) o with
    | .bad=>.stuck
    | .yes=>(JL E gs o).f call B s fun s'=>(Jc E gs ops rest).f call B s'
    | .no=>(Jc E gs ops rest).f call B ((Wp o.dst).f B s .undef)
    | .dyn d b want=>match want with
     | true=>.node b ((JL E gs o).f call B (s.know d true) fun s'=>(Jc E gs ops rest).f call B s') ((Jc E gs ops rest).f call B ((s.know d false).put o.dst .undef))
     | false=>.node b ((Jc E gs ops rest).f call B ((s.know d true).put o.dst .undef)) ((JL E gs o).f call B (s.know d false) fun s'=>(Jc E gs ops rest).f call B s')):=by
   unfold Jc
   dsimp only
   cases o.guard <;> rfl
  rw [e]
  simp only [go]
  simp only [QH,ih,ht,Jq]
  cases hg:o.guard with
  | none=>simp only [guardOf,hg]
  | some g=>rfl
def Zc9:Op->Bool
 | .move _ | .assign _ | .load _ _ | .binOp .. | .unOp .. | .fieldAddr .. | .field .. | .indexAddr .. | .index .. | .extract .. | .pick ..=>true
 | _=>false
def ZcN (E:Env) (o:Op):Box ((B:Base)->St B->Tree V):=
 match o with
 | .move x=>⟨fun B s=>.leaf ((stOp x).f B s)⟩
 | .assign x=>⟨fun B s=>.leaf ((stOp x).f B s)⟩
 | .load t a=>⟨fun B s=>(Zay E.P t).f (XJ B.h s.h) ((stOp a).f B s)⟩
 | .binOp op t x y _=>⟨fun B s=>(stIfc E.P op t x y).f ((stOp x).f B s) ((stOp y).f B s)⟩
 | .unOp op _ x=>⟨fun B s=>evUn op ((stOp x).f B s)⟩
 | .fieldAddr t x f=>⟨fun B s=>(Zd1 E.P t f).f ((stOp x).f B s)⟩
 | .field t x f=>⟨fun B s=>(Zdv E.P t f).f ((stOp x).f B s)⟩
 | .indexAddr t x ix=>⟨fun B s=>(Zcn E.P t).f ((stOp x).f B s).Xo ((stOp ix).f B s)⟩
 | .index t x ix=>⟨fun B s=>Zah E.P t ((stOp x).f B s) ((stOp ix).f B s)⟩
 | .extract x i=>⟨fun B s=>Zdt ((stOp x).f B s) i⟩
 | .pick c x y=>⟨fun B s=>ZcB ((stOp c).f B s) ((stOp x).f B s) ((stOp y).f B s)⟩
 | _=>⟨fun _ _=>.stuck⟩
theorem opndK_nil {B:Base} (s:St B) (x:Operand):Zx s [] x = Zg s x:=by cases x <;> rfl
theorem stTree_eq {E:Env} {call:YL} {B:Base} {s:St B} {nb sz nm:Nat} {o:Op} (h:Zc9 o = true):evD E call s nb sz nm [] o = ((ZcN E o).f B s).bind fun v=>.leaf (v,none):=by
 have hblk:XJ B.h s.h = s.blk:=funext fun b=>JO _ _ _
 have hK:Zx s [] = Zg s:=funext fun x=>opndK_nil s x
 cases o <;> try (cases h; done)
 all_goals simp only [evD,evDQ,hK,ZcN,X8,Zew,hblk,Zg4,Zh6,Zhz]
 case binOp op t x y t'=>
  have:=Zhr E.P op t x y (Zg s x) (Zg s y)
  simp only [evQ]
  cases hi:J5 E.P op t x y (Zg s x) (Zg s y) with
  | none=>rw [hi] at this; injection this with this; rw [this]
  | some T=>rw [hi] at this; injection this with this; rw [this]
 all_goals rfl
abbrev StepD':=YL->Nat->List (Nat×Ft)->(B:Base)->St B->Tree (St B)
def Zfh (ops:Array Oper) (bf:List Nat) (nb j:Nat) (fps:List (Nat×Ft)) (o:Oper) {B:Base} (s:St B) (d:Tree (V×Option (Nat×Blk))) (T:Tree (V×PT Blk×Nat)) (pf:St B->V->St B) (k:List (Nat×Ft)->St B->Tree (St B)):Tree (St B):=
 bif (!ZcP s o.op || d.JH)&&(!T.JH&&(T.flat&&YW s.N o)) then
  T.bnd fun r=>
   bif UL s.n r&&YE ops bf nb j fps Kz then k ((j,Kz) :: fps) (pf s r.1)
   else bif bigAt ops bf j o&&YE ops bf nb j fps (Qv r.2.1) then k ((j,Qv r.2.1) :: fps) (pf { s with h:=s.h.over r.2.1,n:=r.2.2 } r.1)
   else bif YE ops bf nb j fps (foot s (nb + j) o.op)&&(d.flat&&YW s.N o) then d.bnd fun r=>k ((j,foot s (nb + j) o.op) :: fps) (pf (s.wr r.2) r.1) else .stuck
 else bif YE ops bf nb j fps (foot s (nb + j) o.op)&&(d.flat&&YW s.N o) then d.bnd fun r=>k ((j,foot s (nb + j) o.op) :: fps) (pf (s.wr r.2) r.1) else .stuck
def UY (E:Env) (ops:Array Oper) (bf:List Nat) (l:List Oper):Nat->Box StepD':=
 List.rec (motive:=fun _=>Nat->Box StepD') (fun _=>⟨fun _ _ _ _ s=>.leaf s⟩) (fun o rest ih j=>match o.guard with
  | none=>match J6 o.op with
   | true=>⟨fun call nb fps B s=>Zfh ops bf nb j fps o s (evD E call s nb ops.size (nb + j) [] o.op) (YR E call s.sub o.op) ((Wp o.dst).f B) (fun fps s=>(ih (j + 1)).f call nb fps B s)⟩
   | false=>match Zc9 o.op with
    | true=>⟨fun call nb fps B s=>match (ZcN E o.op).f B s with
     | .leaf v=>bif YE ops bf nb j fps (foot s (nb + j) o.op)&&YW s.N o then (ih (j + 1)).f call nb ((j,foot s (nb + j) o.op) :: fps) B ((Wp o.dst).f B s v) else .stuck
     | _=>Xe E call ops bf nb (o :: rest) j fps [] s⟩
    | false=>⟨fun call nb fps B s=>match evD E call s nb ops.size (nb + j) [] o.op with
     | .leaf r=>bif YE ops bf nb j fps (foot s (nb + j) o.op)&&YW s.N o then (ih (j + 1)).f call nb ((j,foot s (nb + j) o.op) :: fps) B ((Wp o.dst).f B (s.wr r.2) r.1) else .stuck
     | _=>Xe E call ops bf nb (o :: rest) j fps [] s⟩
  | some _=>⟨fun call nb fps _ s=>Xe E call ops bf nb (o :: rest) j fps [] s⟩) l
theorem stOpsD_eq (E:Env) (ops:Array Oper) (bf:List Nat) (call:YL) (nb:Nat) (B:Base):∀ (l:List Oper) (j:Nat) (fps:List (Nat×Ft)) (s:St B),(UY E ops bf l j).f call nb fps B s = Xe E call ops bf nb l j fps [] s:=by
 intro l
 induction l with
 | nil=>intro j fps s; rfl
 | cons o rest ih=>
  intro j fps s
  have hk:∀ o:Oper,WG ops o [] = []:=fun o=>rfl
  have hk2:Wn o [] = []:=by unfold Wn; cases o.dst <;> rfl
  have e1:UY E ops bf (o :: rest) j = (match o.guard with
  | none=>match J6 o.op with
   | true=>⟨fun call nb fps B s=>Zfh ops bf nb j fps o s (evD E call s nb ops.size (nb + j) [] o.op) (YR E call s.sub o.op) ((Wp o.dst).f B) (fun fps s=>(UY E ops bf rest (j + 1)).f call nb fps B s)⟩
   | false=>match Zc9 o.op with
    | true=>⟨fun call nb fps B s=>match (ZcN E o.op).f B s with
     | .leaf v=>bif YE ops bf nb j fps (foot s (nb + j) o.op)&&YW s.N o then (UY E ops bf rest (j + 1)).f call nb ((j,foot s (nb + j) o.op) :: fps) B ((Wp o.dst).f B s v) else .stuck
     | _=>Xe E call ops bf nb (o :: rest) j fps [] s⟩
    | false=>⟨fun call nb fps B s=>match evD E call s nb ops.size (nb + j) [] o.op with
     | .leaf r=>bif YE ops bf nb j fps (foot s (nb + j) o.op)&&YW s.N o then (UY E ops bf rest (j + 1)).f call nb ((j,foot s (nb + j) o.op) :: fps) B ((Wp o.dst).f B (s.wr r.2) r.1) else .stuck
     | _=>Xe E call ops bf nb (o :: rest) j fps [] s⟩
  | some _=>⟨fun call nb fps _ s=>Xe E call ops bf nb (o :: rest) j fps [] s⟩):=rfl
  rw [e1]
  cases hg:o.guard with
  | some g=>rfl
  | none=>
   dsimp only
   cases hb:J6 o.op
   ·dsimp only
    cases hq:Zc9 o.op
    ·dsimp only
     split
     ·rename_i r hv
      rw [ih,Jq]
      simp only [Xe,guardOf,hg,hb,hk,hk2,hv,Tree.flat,Bool.true_and,Bool.false_and,cond_false]
      rfl
     ·rfl
    ·dsimp only
     split
     ·rename_i v hv
      have hD:evD E call s nb ops.size (nb + j) [] o.op = .leaf (v,none):=by rw [stTree_eq hq,hv]; rfl
      rw [ih,Jq]
      simp only [Xe,guardOf,hg,hb,hk,hk2,hD,Tree.flat,Bool.true_and,Bool.false_and,cond_false]
      rfl
     ·rfl
   ·dsimp only
    simp only [Zfh,Tree.X4,ih,Jq]
    simp only [Xe,guardOf,hg,hb,hk,hk2,Bool.true_and]
def Us (l:List Oper):Nat:=List.rec 0 (fun o _ ih=>match o.dst with | some d=>(bif Nat.ble ih (d + 1) then d + 1 else ih) | none=>ih) l
theorem Zdq (a b:Nat):Nat.ble a b = decide (a<=b):=by
 cases h:Nat.ble a b
 ·exact (decide_eq_false fun h'=>by rw [Nat.ble_eq_true_of_le h'] at h; cases h).symm
 ·exact (decide_eq_true (Nat.le_of_ble_eq_true h)).symm
theorem top_aux (a d N:Nat):(Nat.blt d N&&Nat.ble a N) = Nat.ble (bif Nat.ble a (d + 1) then d + 1 else a) N:=by
 rw [Zeh,Zdq,Zdq]
 by_cases h1:a<=d + 1
 ·simp only [h1,decide_true,cond_true,Zdq]
  by_cases h2:d < N
  ·simp [h2,show d + 1<=N by omega,show a<=N by omega]
  ·simp [h2]; omega
 ·simp only [h1,decide_false,cond_false,Zdq]
  by_cases h2:d < N
  ·simp [h2]
  ·simp [h2,show ¬ a<=N by omega]
theorem topOf_ok (N:Nat):∀ l:List Oper,l.all (YW N) = Nat.ble (Us l) N:=by
 intro l
 induction l with
 | nil=>symm; exact Nat.ble_eq_true_of_le (Nat.zero_le N)
 | cons o l ih=>
  rw [List.all_cons,ih]
  have e:Us (o :: l) = (match o.dst with | some d=>(bif Nat.ble (Us l) (d + 1) then d + 1 else Us l) | none=>Us l):=rfl
  rw [e]
  unfold YW
  cases o.dst with
  | none=>simp
  | some d=>exact top_aux (Us l) d N
def ZeA:V->Nat->PT V->PT V:=fun v=>V.rec (motive:=fun _=>Nat->PT V->PT V)
 (fun _ T=>T) (fun _ T=>T) (fun _ T=>T) (fun h _ _ ih i T=>ih (i + 1) ((Qt (pathOf i)).f T h)) (fun _ _ _ _ T=>T) (fun _ _ _ T=>T) (fun _ _ _ T=>T) (fun _ _ _ T=>T) (fun _ _ _ T=>T)
 (fun _ _ _ _ _ _ T=>T) (fun _ _ _ _ _ _ _ _ T=>T) (fun _ T=>T) (fun _ _ _ _ _ _ T=>T) (fun _ _ _ _ _ _ T=>T) (fun _ _ _ _ _ _ _ T=>T) (fun _ T=>T) (fun _ _ _ _ _ _ T=>T) (fun _ T=>T) (fun _ T=>T) (fun _ T=>T) (fun _ _ T=>T) (fun _ _ T=>T) (fun _ _ _ T=>T) (fun _ _ _ T=>T) (fun _ _ _ _ _ _ T=>T) v
theorem Zi2:∀ (v:V) (i:Nat) (T:PT V),ZeA v i T = setArgs v i T:=by
 intro v
 induction v with
 | cons h t ih1 ih2=>intro i T; show ZeA t (i + 1) ((Qt (pathOf i)).f T h) = setArgs t (i + 1) (T.set i h); rw [ih2,Zfw]
 | _=>intro i T; rfl
def enterS (hb:Nat->Blk) (args:V) (ntmps:Nat) (h:PT Blk) (n:Nat):St (Base.fn hb):={ t:=ZeA args 0 .nil,h,n,N:=args.len + (ntmps - args.len) }
theorem enterS_eq (hb:Nat->Blk) (args:V) (ntmps:Nat) (h:PT Blk) (n:Nat):enterS hb args ntmps h n = enter hb args ntmps h n:=by unfold enterS enter; rw [Zi2]
def Zcv (P:Program) (r:ResultVar):Box ((B:Base)->St B->Tree V):=
 match r with
 | .tmp t=>⟨fun B s=>.leaf (XJ B.t s.t t)⟩
 | .cell a t=>⟨fun B s=>(Zay P t).f (XJ B.h s.h) (XJ B.t s.t a)⟩
def ZeV (P:Program) (l:List ResultVar):Box ((B:Base)->St B->Tree V):=
 List.rec (motive:=fun _=>Box ((B:Base)->St B->Tree V)) ⟨fun _ _=>.leaf .nil⟩ (fun r _ ih=>⟨fun B s=>((Zcv P r).f B s).bnd fun v=>(ih.f B s).bnd fun vs=>.leaf (.cons v vs)⟩) l
theorem Zkv (P:Program) (B:Base) (s:St B):∀ l:List ResultVar,(ZeV P l).f B s = KC P s l:=by
 intro l
 have hblk:XJ B.h s.h = s.blk:=funext fun b=>JO _ _ _
 have hone:∀ r,(Zcv P r).f B s = ZaU P s r:=fun r=>by
  cases r <;> simp only [Zcv,ZaU,JO,Zew,hblk]
 induction l with
 | nil=>rfl
 | cons r l ih=>
  show (((Zcv P r).f B s).bnd fun v=>((ZeV P l).f B s).bnd fun vs=>Tree.leaf (V.cons v vs)) = _
  simp only [Tree.X4,hone,ih,KC]
def Zd7 (E:Env) (g:FuncId):Box (Wo->(Nat->Blk)->V->PT Blk->Nat->Tree (V×PT Blk×Nat)):=
 match E.P.funcs[g]? with
 | some fn=>match fn.body with
  | some c=>⟨fun rec_ hb args h n=>(rec_ g c (Base.fn hb) (enterS hb args.plain fn.ntmps h n)).bnd fun x=>match x.1 with
    | .exit _=>.stuck
    | _=>((ZeV E.P fn.results.toList).f _ x.2).bnd fun vs=>.leaf ((single vs).plain,x.2.h,x.2.n)⟩
  | none=>⟨fun _ _ _ _ _=>.stuck⟩
 | none=>⟨fun _ _ _ _ _=>.stuck⟩
def Zab (E:Env) (g:FuncId):Box (Wo->(Nat->Blk)->V->PT Blk->Nat->Tree (V×PT Blk×Nat)):=
 match E.hk g with
 | some K=>⟨fun rec_ hb args h n=>match ZaW K hb args.plain h n (Zfq hb args.plain h n) with
  | some T=>T
  | none=>(Zd7 E g).f rec_ hb args h n⟩
 | none=>Zd7 E g
def yieldS (E:Env) (rec_:Wo) (hb:Nat->Blk) (b:Nat) (args:V) (h:PT Blk) (n:Nat):Tree (V×PT Blk×Nat):=
 match XJ hb h b with
 | .rng f ps asg bd row N st _=>
  Uk (bif (Yr asg ++ Yr bd).all fun c=>(Wv E f c).isNone then none else some (∀ c ∈ Yr asg ++ Yr bd,∀ g,Wv E f c = some g->XI E.P f c))
  (bif (Nat.beq st 0&&(Nat.beq args.len ps.length&&ps.all fun p=>Nat.blt p N))&&(Xa asg&&Xa bd) then
   (rec_ f asg ⟨row,hb⟩ { t:=Zai ps args .nil,h,n,N }).bnd fun x=>match x.1 with
    | .normal=>match XJ hb x.2.h b with
     | .rng f' ps' asg' bd' row' N' st' pd'=>bif Nat.beq st' 0 then
       (rec_ f bd ⟨row,hb⟩ { x.2 with h:=(Qt (pathOf b)).f x.2.h (.rng f' ps' asg' bd' row' N' 1 pd') }).bnd fun y=>match XJ hb y.2.h b with
        | .rng f2 ps2 asg2 bd2 QN N2 st2 _=>bif Nat.beq st2 1 then
          .leaf (.bool true y.1.Vu,(Qt (pathOf b)).f y.2.h (.rng f2 ps2 asg2 bd2 QN N2 (bif y.1.Vu then 0 else 2) (some y.1)),y.2.n) else .stuck
        | _=>.stuck
      else .stuck
     | _=>.stuck
    | _=>.stuck
  else .stuck)
 | _=>.stuck
theorem yieldS_eq (E:Env) (rec_:Wo) (hb:Nat->Blk) (b:Nat) (args:V) (h:PT Blk) (n:Nat):yieldS E rec_ hb b args h n = GX E rec_ hb b args h n:=by
 unfold yieldS GX
 simp only [JO,Tree.X4,Zfw]
 rfl
def callS (E:Env) (rec_:Wo):YL:=fun hb g args h n=>
 match g with
 | .inr b=>yieldS E rec_ hb b args h n
 | .inl g=>(Zab E g).f rec_ hb args h n
theorem Zds (E:Env) (rec_:Wo):callS E rec_ = Q9 E rec_:=by
 funext hb g args h n
 cases g with
 | inr b=>exact yieldS_eq E rec_ hb b args h n
 | inl g=>
  show (Zab E g).f rec_ hb args h n = _
  have hbody:(Zd7 E g).f rec_ hb args h n = (match E.P.funcs[g]? with
    | some fn=>match fn.body with
     | some c=>(rec_ g c (Base.fn hb) (enter hb args.plain fn.ntmps h n)).bind fun x=>
      match x.1 with
      | .exit _=>.stuck
      | _=>(KC E.P x.2 fn.results.toList).bind fun vs=>.leaf ((single vs).plain,x.2.h,x.2.n)
     | none=>.stuck
    | none=>.stuck):=by
   unfold Zd7
   cases E.P.funcs[g]? with
   | none=>rfl
   | some fn=>
    dsimp only
    cases fn.body with
    | none=>rfl
    | some c=>
     simp only [Tree.X4,enterS_eq,Zkv]
  unfold Zab
  simp only [Q9,Zde]
  cases E.hk g with
  | none=>exact hbody
  | some K=>
   dsimp only
   cases ZaW K hb args.plain h n (Zfq hb args.plain h n) with
   | some T=>rfl
   | none=>exact hbody
abbrev StepS:=Wo->(B:Base)->St B->Tree (Ex×St B)
def St.withN {B:Base} (s:St B) (N:Nat):St B:={ t:=s.t,h:=s.h,n:=s.n,N }
theorem St.Zf6 {B:Base} (s:St B):s.withN s.N = s:=rfl
def GY (E:Env) (gs:List FuncId) (ops:Array Oper) (draw:Bool):Box StepS:=
 match draw with
 | false=>⟨fun rec_ B s=>Kh s.N fun N=>cnd (Nat.ble (Us ops.toList) N) (((Jc E gs ops ops.toList).f (callS E rec_) B (s.withN N)).bnd fun s'=>.leaf (.normal,s')) .stuck⟩
 | true=>forceList (bfs ops.toList []) fun bf=>match VW ops bf with
  | true=>⟨fun rec_ B s=>Kh s.N fun N=>((UY E ops bf ops.toList 0).f (callS E rec_) s.n [] B ((s.withN N).Kk ops)).bnd fun s'=>.leaf (.normal,s')⟩
  | false=>⟨fun _ _ _=>.stuck⟩
theorem ZgA {E:Env} {gs:List FuncId} (hΓ:Among E gs) (ops:Array Oper) (draw:Bool) (rec_:Wo) (B:Base) (s:St B):(GY E gs ops draw).f rec_ B s = Um E (Q9 E rec_) ops draw s:=by
 cases draw with
 | false=>simp only [GY,Um,topOf_ok,stOps_eq hΓ,Tree.X4,Zds,cnd_eq,Gy,St.Zf6]
 | true=>
  simp only [GY,Um,ZgO]
  cases VW ops (bfs ops.toList [])
  ·rfl
  ·simp only [cond_true,Tree.X4,Zds,Gy,St.Zf6]
   rw [stOpsD_eq]
def ZdG (E:Env) (gs:List FuncId) (f:FuncId) (c:Code):Box StepS:=
 match c with
 | .skip=>⟨fun _ _ s=>.leaf (.normal,s)⟩
 | .label _=>⟨fun _ _ s=>.leaf (.normal,s)⟩
 | .exit id=>⟨fun _ _ s=>.leaf (.exit id,s)⟩
 | .ret=>⟨fun _ _ s=>.leaf (.ret,s)⟩
 | .scope b=>⟨fun rec_ B s=>rec_ f b B s⟩
 | .region _ ops draw=>match E.mg&&ops.toList.any (fun o=>o.guard.isSome) with
  | true=>⟨fun rec_ _ s=>merged s fun s=>(GY E gs ops draw).f rec_ _ s⟩
  | false=>GY E gs ops draw
 | .seq a b=>⟨fun rec_ B s=>(rec_ f a B s).bnd fun x=>match x.1 with
  | .normal=>rec_ f b B x.2
  | e=>.leaf (e,x.2)⟩
 | .cond c a b=>⟨fun rec_ B s=>match (stOp c).f B s with
  | .bool true t=>match t with
   | true=>rec_ f a B s
   | false=>rec_ f b B s
  | .bool false t=>match E.wayOf f c s.tmp with
   | some true=>.need (t = true) (rec_ f a B (s.Wh c true))
   | some false=>.need (t = false) (rec_ f b B (s.Wh c false))
   | none=>match E.mg&&!E.nm f with
    | true=>merged s fun s=>.node t (rec_ f a _ (s.Wh c true)) (rec_ f b _ (s.Wh c false))
    | false=>.node t (rec_ f a B (s.Wh c true)) (rec_ f b B (s.Wh c false))
  | _=>.stuck⟩
 | .block id b=>match E.mg&&!E.nm f with
  | true=>⟨fun rec_ _ s=>Zax s fun s=>(rec_ f b _ s).bnd (leave id)⟩
  | false=>⟨fun rec_ B s=>(rec_ f b B s).bnd (leave id)⟩
 | .loop b=>match Wv E f b with
  | some g=>⟨fun _ B s=>g B s⟩
  | none=>⟨fun rec_ B s=>(rec_ f b B s).bnd fun x=>match x.1 with
   | .normal=>rec_ f (.loop b) B x.2
   | e=>.leaf (e,x.2)⟩
 | .rangeFunc g ps asg bd=>⟨fun rec_ B s=>match Km ((stOp g).f B s) (.cons (.yld s.n) .nil) with
  | some (.inl g',args)=>((Zab E g').f rec_ B.h args (s.h.set s.n (.rng f ps.toList asg bd s.tmp s.N 0 none)) (s.n + 1)).bnd fun r=>
    match XJ B.h r.2.1 s.n with
    | .rng _ _ _ _ _ _ st pend=>bif Nat.beq st 1 then .stuck else .leaf (pend.getD .normal,{ s with h:=r.2.1.set s.n .any,n:=r.2.2 })
    | _=>.stuck
  | _=>.stuck⟩
 | _=>⟨fun _ _ _=>.stuck⟩
theorem stStep_eq {E:Env} {gs:List FuncId} (hΓ:Among E gs) (f:FuncId) (c:Code) (rec_:Wo) (B:Base) (s:St B):(ZdG E gs f c).f rec_ B s = Kr E rec_ f c B s:=by
 cases c <;> simp only [ZdG,Kr] <;> try rfl
 case region id ops draw=>
  cases E.mg&&ops.toList.any (fun o=>o.guard.isSome)
  ·exact ZgA hΓ ops draw rec_ B s
  ·dsimp only
   congr 1
   funext s
   exact ZgA hΓ ops draw rec_ _ s
 case seq a b=>rw [Tree.X4]; rfl
 case cond c a b=>rw [X8]; rfl
 case block id b=>
  cases E.mg&&!E.nm f
  ·dsimp only; rw [Tree.X4]
  ·dsimp only
   congr 1
   funext s
   rw [Tree.X4]
 case loop b=>
  cases Wv E f b with
  | none=>dsimp only; rw [Tree.X4]; rfl
  | some g=>rfl
 case rangeFunc g ps asg bd=>
  rw [X8]
  cases Km (Zg s g) (.cons (.yld s.n) .nil) with
  | none=>rfl
  | some r=>
   obtain ⟨g',args⟩:=r
   cases g' with
   | inr b=>rfl
   | inl g'=>
    dsimp only
    rw [Tree.X4]
    have:(Zab E g').f rec_ B.h args (s.h.set s.n (.rng f ps.toList asg bd s.tmp s.N 0 none)) (s.n + 1) = Q9 E rec_ B.h (.inl g') args (s.h.set s.n (.rng f ps.toList asg bd s.tmp s.N 0 none)) (s.n + 1):=by
     rw [<- Zds]; rfl
    rw [this]
    simp only [JO]
    rfl
def evS (E:Env) (gs:List FuncId) (k:Nat):Wo:=Nat.rec (motive:=fun _=>Wo) (fun _ _ _ _=>.stuck) (fun _ ih f c B s=>(ZdG E gs f c).f ih B s) k
theorem evS_eq {E:Env} {gs:List FuncId} (hΓ:Among E gs):∀ k,evS E gs k = ev E k:=by
 intro k
 induction k with
 | zero=>rfl
 | succ k ih=>
  funext f c B s
  show (ZdG E gs f c).f (evS E gs k) B s = Kr E (ev E k) f c B s
  rw [stStep_eq hΓ,ih]
def ZJ (E:Env) (gs:List FuncId) (k:Nat) (g:FuncId) (args:V):Tree V:=(callS E (evS E gs k) (fun _=>.none) (.inl g) args .nil 0).bnd fun r=>QA (XJ (fun _=>.none) r.2.1) r.1
theorem Zcu {E:Env} {gs:List FuncId} (hΓ:Among E gs) (k:Nat) (g:FuncId) (args:V):ZJ E gs k g args = ZQ E k g args:=by
 unfold ZJ ZQ
 rw [Tree.X4,Zds,evS_eq hΓ]
 congr 1
 funext r
 rw [show XJ (fun _=>Blk.none) r.2.1 = look (fun _=>.none) r.2.1 from funext fun b=>JO _ _ _]
end Go.Fw
namespace Go.Fw
def ZL:List Con->List FuncId
 | []=>[]
 | c :: l=>c.g :: ZL l
theorem Ziq:∀ (l:List Con) (g:FuncId) (args:V),among (ZL l) g = false->QE l g args = none:=by
 intro l
 induction l with
 | nil=>intro g args _; rfl
 | cons c l ih=>
  intro g args h
  have h:(bif Nat.beq g c.g then true else among (ZL l) g) = false:=h
  simp only [QE]
  cases hb:Nat.beq g c.g
  ·rw [hb] at h; exact ih g args h
  ·rw [hb] at h; cases h
abbrev Zn (P:Program) (l:List Con) (ls:List Lp) (mg:Bool):Env:={ P,Γ:=QE l,lp:=K9 ls,mg }
theorem Zht {P:Program} {l:List Con} {ls:List Lp} {mg:Bool}:Among (Zn P l ls mg) (ZL l):=fun g args h=>Ziq l g args h
theorem WH {P:Program} (o N:Nat) {E:Nat->Env} {gs:List FuncId} (hΓ:∀ c,Among (E c) gs) (hP:∀ c,(E c).P = P) (k:Nat) {g:FuncId} {args res:Nat->V} (hhas:Has P g)
  (h1:(YH N fun c=>(ZJ (E (o + c)) gs k g (args (o + c))).total&&((ZJ (E (o + c)) gs k g (args (o + c))).Yu&&Yv (ZJ (E (o + c)) gs k g (args (o + c))).join (res (o + c)))) = true) {c:Nat} (ho:o<=c) (hc:c < o + N) (hE:(E c).Ok):Zi P g (args c) (res c):=by
 obtain ⟨d,rfl⟩:∃ d,c = o + d:=⟨c - o,by omega⟩
 have h:=Zhp h1 d (by omega)
 simp only [Zcu (hΓ _),Bool.and_eq_true] at h
 have:=ZeR (v:=(ZQ (E (o + d)) k g (args (o + d))).join) hE k (by rw [hP]; exact hhas) (Tree.ZgV _ h.1) h.2.1 rfl
 rw [hP] at this
 exact this.same h.2.2
end Go.Fw
namespace Go.Fw
def V.sof:V->V
 | .cons h t=>.cons h.sof t.sof
 | .int _ k n=>.int false k n
 | .bool _ b=>.bool false b
 | .str _ s=>.str false s
 | .agg cs=>.agg cs.sof
 | .tup vs=>.tup vs.sof
 | .fn f a b=>.fn f a.sof b.sof
 | .ifc _ b=>.ifc false b
 | v=>v
def Blk.sof:Blk->Blk
 | .var cs=>.var cs.sof
 | b=>b
theorem R_sof {F:Nat->Prop} {w:World} {n:Nat} {m:Nat->Option Nat}:∀ (v:V),(∀ x,R F w v.sof n m x↔R F w v n m x)/\(∀ xs,RL F w v.sof n m xs↔RL F w v n m xs):=by
 intro v
 induction v with
 | cons h t ih1 ih2=>exact ⟨fun x=>by simp only [V.sof,R],fun xs=>by simp only [V.sof,RL,ih1.1,ih2.2]⟩
 | agg cs ih=>exact ⟨fun x=>by simp only [V.sof,R,ih.2],fun xs=>by simp only [V.sof,RL]⟩
 | tup cs ih=>exact ⟨fun x=>by simp only [V.sof,R,ih.2],fun xs=>by simp only [V.sof,RL]⟩
 | fn f a b ih1 ih2=>exact ⟨fun x=>by simp only [V.sof,R,ih1.2,ih2.2],fun xs=>by simp only [V.sof,RL]⟩
 | _=>exact ⟨fun x=>by simp only [V.sof,R],fun xs=>by simp only [V.sof,RL]⟩
theorem RB_sof {F:Nat->Prop} {w:World} {n:Nat} {m:Nat->Option Nat} {blk:Blk} {B:Option Nat}:RB F w n m blk.sof B↔RB F w n m blk B:=by
 cases blk with
 | var cs=>
  constructor
  ·rintro ⟨b,xs,el,ys,zs,e,hc,hsp,hr⟩; exact ⟨b,xs,el,ys,zs,e,hc,hsp,(R_sof cs).2 _ |>.1 hr⟩
  ·rintro ⟨b,xs,el,ys,zs,e,hc,hsp,hr⟩; exact ⟨b,xs,el,ys,zs,e,hc,hsp,(R_sof cs).2 _ |>.2 hr⟩
 | _=>exact Iff.rfl
theorem sof_any {b:Blk}:b.sof = .any↔b = .any:=by cases b <;> simp [Blk.sof]
theorem ZfC (L:List Blk) (i:Nat):(L.map Blk.sof).getD i .none = (L.getD i .none).sof:=by
 simp only [List.getD_eq_getElem?_getD,List.getElem?_map]
 cases L[i]? <;> rfl
def ptOf:List Blk->Nat->PT Blk->PT Blk
 | [],_,h=>h
 | b :: l,i,h=>ptOf l (i + 1) (h.set i b)
theorem ptOf_look:∀ (bl:List Blk) (i:Nat) (h:PT Blk) (c:Nat),look (fun _=>.none) (ptOf bl i h) c = if i<=c/\c < i + bl.length then bl.getD (c - i) .none else look (fun _=>.none) h c:=by
 intro bl
 induction bl with
 | nil=>intro i h c; rw [if_neg (by simp only [List.length_nil]; omega)]; rfl
 | cons b bl ih=>
  intro i h c
  show look _ (ptOf bl (i + 1) (h.set i b)) c = _
  rw [ih,List.length_cons,ZR]
  rcases Nat.lt_trichotomy c i with hc | hc | hc
  ·rw [if_neg (by omega),if_neg (by omega),if_neg (by omega)]
  ·subst hc
   rw [if_neg (by omega),if_pos rfl,if_pos (by omega),Nat.sub_self]
   try rfl
  ·by_cases h2:c < i + 1 + bl.length
   ·rw [if_pos (by omega),if_pos (by omega)]
    have e:c - i = (c - (i + 1)) + 1:=by omega
    rw [e,List.getD_cons_succ]
   ·rw [if_neg (by omega),if_neg (by omega),if_neg (by omega)]
def keepOf (k:Nat) (r:V×PT Blk×Nat):List Nat:=reach (look (fun _=>.none) r.2.1) r.2.2 100 (Zch (look (fun _=>.none) r.2.1) r.2.2 (List.range k) r.1.names) 0
def ZgJ (l:List Nat) (r:V×PT Blk×Nat):V×List Blk:=(r.1.rnm fun b=>idxOf b l 0,l.map fun b=>(look (fun _=>.none) r.2.1 b).rnm fun b=>idxOf b l 0)
def ZbZ (k:Nat):List Nat->Nat->Bool
 | [],i=>Nat.ble k i
 | b :: l,i=>(Nat.ble k i || Nat.beq b i)&&ZbZ k l (i + 1)
def keepOk (k n:Nat) (l:List Nat):Bool:=(l.all fun b=>Nat.blt b n)&&(KL l&&ZbZ k l 0)
def evH (E:Env) (k:Nat) (g:FuncId) (args:V) (bl:List Blk):Tree (V×List Blk):=
 (Q9 E (ev E k) (fun _=>.none) (.inl g) args (ptOf bl 0 .nil) bl.length).bind fun r=>
  bif keepOk bl.length r.2.2 (keepOf bl.length r) then .leaf (ZgJ (keepOf bl.length r) r) else .stuck
theorem ZlF {k:Nat}:∀ {l:List Nat} {i:Nat},ZbZ k l i = true->∀ j,i<=j->j < k->l[j - i]? = some j:=by
 intro l
 induction l with
 | nil=>intro i h j h1 h2; have:=Nat.le_of_ble_eq_true h; omega
 | cons b l ih=>
  intro i h j h1 h2
  unfold ZbZ at h
  rw [Bool.and_eq_true,Bool.or_eq_true] at h
  rcases Nat.eq_or_lt_of_le h1 with e | e
  ·subst e
   rw [Nat.sub_self,List.getElem?_cons_zero]
   rcases h.1 with h' | h'
   ·have:=Nat.le_of_ble_eq_true h'; omega
   ·rw [Nat.eq_of_beq_eq_true h']
  ·have e2:j - i = (j - (i + 1)) + 1:=by omega
   rw [e2,List.getElem?_cons_succ]
   exact ih h.2 j e h2
theorem HR.sub {base:Nat} {m:Nat->Option Nat} {F:Nat->Prop} {h:Nat->Blk} {n:Nat} {w:World} (hr:HR base m F h n w) {l:List Nat} (hlt:∀ (i b:Nat),l[i]? = some b->b < n) (hnd:KL l = true) :
  HR base (fun i=>match l[i]? with | some b=>m b | none=>none) F (fun i=>(l.map fun b=>(h b).rnm fun b=>idxOf b l 0).getD i .none) l.length w:=by
 have hidx:∀ b i,idxOf b l 0 = some i->l[i]? = some b:=fun b i e=>by have:=(ZdH e).2; rw [Nat.sub_zero] at this; exact this
 have hll:∀ i b,l[i]? = some b->i < l.length:=fun i b e=>(List.getElem?_eq_some_iff.1 e).1
 have hs:∀ (i B:Nat),(match l[i]? with | some b=>m b | none=>none) = some B->∃ b,l[i]? = some b/\m b = some B:=fun i B e=>by
  cases hx:l[i]? with
  | none=>rw [hx] at e; cases e
  | some b=>rw [hx] at e; exact ⟨b,rfl,e⟩
 have hbl:∀ i b,l[i]? = some b->(l.map fun b=>(h b).rnm fun b=>idxOf b l 0).getD i .none = (h b).rnm fun b=>idxOf b l 0:=fun i b e=>by
  rw [List.getD_eq_getElem?_getD,List.getElem?_map,e]; rfl
 refine ⟨hr.low,hr.fdom,fun i hi=>?_,fun i B e=>?_,fun i hi=>?_,hr.gl,fun i B e=>?_,fun i j B e1 e2 hne=>?_⟩
 ·obtain ⟨b,hb⟩:∃ b,l[i]? = some b:=⟨l[i],List.getElem?_eq_getElem hi⟩
  rw [hbl i b hb,hb]
  exact RB_rnm (fun b c e _=>⟨hll _ _ (hidx b c e),by rw [hidx b c e]⟩) (hr.blk b (hlt i b hb))
 ·obtain ⟨b,_,e'⟩:=hs i B e; exact hr.dom b B e'
 ·rw [List.getElem?_eq_none hi]
 ·obtain ⟨b,_,e'⟩:=hs i B e; exact hr.own b B e'
 ·obtain ⟨b,h1,e1'⟩:=hs i B e1
  obtain ⟨c,h2,e2'⟩:=hs j B e2
  have hbc:b ≠ c:=fun e=>hne (ZcY hnd h1 (by rw [e]; exact h2))
  rw [hbl i b h1,hbl j c h2]
  rcases hr.inj b c B e1' e2' hbc with h' | h'
  ·left; rw [h']; rfl
  ·right; rw [h']; rfl
theorem hk_of {E:Env} (hE:E.Ok) (k:Nat) {g:FuncId} {K:HK}
  (h:∀ args bl T,K args bl = some T->∀ Q:V×List Blk->Prop,T.holds E.P Q->(evH E k g args bl).holds E.P fun r=>∃ r',Q r'/\r.1.sof = r'.1.sof/\r.2.map Blk.sof = r'.2.map Blk.sof):Xj E.P g K:=by
 intro args bl T hK base m F w xs Q KK hr ha hq hk
 have hq':=h args bl T hK Q hq
 unfold evH at hq'
 rw [Tree.Ya] at hq'
 have hlook:look (fun _=>.none) (ptOf bl 0 .nil) = fun b=>bl.getD b .none:=by
  funext b
  rw [ptOf_look,Nat.zero_add,Nat.sub_zero]
  by_cases hb:b < bl.length
  ·rw [if_pos ⟨Nat.zero_le _,hb⟩]
  ·rw [if_neg (fun h=>hb h.2),List.getD_eq_getElem?_getD,List.getElem?_eq_none (by omega)]; rfl
 refine Zbc hE (ev_ok hE k) (fun _=>.none) (.inl g) args (ptOf bl 0 .nil) bl.length base m F w xs _ KK (by rw [hlook]; exact hr) ha hq' fun v h1 n1 hQ m1 F1 w1 x he hr1 hx=>?_
 dsimp only at hQ
 generalize hl:keepOf bl.length (v,h1,n1) = l at hQ
 cases hok:keepOk bl.length n1 l with
 | false=>rw [hok] at hQ; exact hQ.elim
 | true=>
 rw [hok] at hQ
 obtain ⟨⟨v',bl'⟩,hQ',hv,hb⟩:=hQ
 unfold keepOk at hok
 rw [Bool.and_eq_true,Bool.and_eq_true,List.all_eq_true] at hok
 obtain ⟨hall,hnd,hfirst⟩:=hok
 have hlt:∀ i b,l[i]? = some b->b < n1:=fun i b e=>bltT.1 (hall b (List.mem_of_getElem? e))
 have hfst:∀ j,j < bl.length->l[j]? = some j:=fun j hj=>by have:=ZlF hfirst j (Nat.zero_le _) hj; rwa [Nat.sub_zero] at this
 have hll:∀ i b,l[i]? = some b->i < l.length:=fun i b e=>(List.getElem?_eq_some_iff.1 e).1
 have hidx:∀ b i,idxOf b l 0 = some i->l[i]? = some b:=fun b i e=>by have:=(ZdH e).2; rw [Nat.sub_zero] at this; exact this
 have hsub:=hr1.sub hlt hnd
 have hlen:bl'.length = l.length:=by
  have:=congrArg List.length hb
  simp only [ZgJ,List.length_map] at this
  exact this.symm
 have hkl:bl.length<=l.length:=by
  rcases Nat.eq_zero_or_pos bl.length with h0 | h0
  ·omega
  ·have:=hll _ _ (hfst (bl.length - 1) (by omega)); omega
 have hsof:∀ i,((l.map fun b=>(look (fun _=>.none) h1 b).rnm fun b=>idxOf b l 0).getD i .none).sof = (bl'.getD i .none).sof:=fun i=>by
  rw [<- ZfC,<- ZfC]
  exact congrArg (fun z=>z.getD i Blk.none) hb
 refine hk v' bl' hQ' (fun i=>match l[i]? with | some b=>m1 b | none=>none) F1 w1 x ?_ ?_ ?_
 ·refine ⟨he.f,he.back,he.keep,he.size,he.sz,he.ow.sub fun i B e=>?_,by omega,fun b hb B e=>?_,he.calm⟩
  ·cases hx:l[i]? with
   | none=>rw [hx] at e; cases e
   | some b=>rw [hx] at e; exact ⟨b,e⟩
  ·rw [hfst b hb]; exact he.map b hb B e
 ·rw [hlen]
  refine ⟨hsub.low,hsub.fdom,fun i hi=>?_,hsub.dom,hsub.new,hsub.gl,hsub.own,fun i j B e1 e2 hne=>?_⟩
  ·exact RB_sof.1 (by rw [<- hsof i]; exact RB_sof.2 (hsub.blk i hi))
  ·rcases hsub.inj i j B e1 e2 hne with h' | h'
   ·left; exact sof_any.1 (by rw [<- hsof i]; rw [h']; rfl)
   ·right; exact sof_any.1 (by rw [<- hsof j]; rw [h']; rfl)
 ·rw [hlen]
  have hR:=(R_rnm (f:=fun b=>idxOf b l 0) (n':=l.length) (m':=fun i=>match l[i]? with | some b=>m1 b | none=>none) (fun b c e _=>⟨hll _ _ (hidx b c e),by rw [hidx b c e]⟩) v).1 x hx
  exact ((R_sof v').1 x).1 (by rw [<- hv]; exact ((R_sof _).1 x).2 hR)
theorem Xj.sof {P:Program} {g:FuncId} {K:HK} (hK:Xj P g K):Xj P g fun args bl=>K args.sof (bl.map Blk.sof):=by
 intro args bl T h base m F w xs Q KK hr ha hq hk
 have hlen:(bl.map Blk.sof).length = bl.length:=List.length_map _
 have hget:∀ i,(bl.map Blk.sof).getD i .none = (bl.getD i .none).sof:=fun i=>ZfC bl i
 refine hK args.sof (bl.map Blk.sof) T h base m F w xs Q KK ?_ (by rw [hlen]; exact ((R_sof args).2 _).2 ha) hq fun v bl' hQ m' F' w' x he hr' hx=>hk v bl' hQ m' F' w' x (by rw [hlen] at he; exact he) hr' hx
 rw [hlen]
 refine ⟨hr.low,hr.fdom,fun i hi=>?_,hr.dom,hr.new,hr.gl,hr.own,fun i j B e1 e2 hne=>?_⟩
 ·rw [hget]; exact RB_sof.2 (hr.blk i hi)
 ·rw [hget,hget]
  rcases hr.inj i j B e1 e2 hne with h' | h'
  ·left; rw [h']; rfl
  ·right; rw [h']; rfl
end Go.Fw
end
