/- The evaluator: what a function's code comes to, over abstract values. Definitions only. -/
import Derived.Test.YtnjjailadijdlaaGreatDoorMAa
set_option maxRecDepth 100000
set_option linter.unusedVariables false
set_option linter.unusedSimpArgs false
noncomputable section
namespace Go.Fw
def K4 (P:Program) (t:TypeId):Option Bool:=
  match P.underlying t with
  | some (.struct _)=>some true
  | some (.array _ _)=>some true
  | some _=>some false
  | none=>none
def ZB (P:Program) (t:TypeId):Option Nat:=
  match P.info? t with
  | some i=>some i.size
  | none=>none
def Xc (P:Program) (t:TypeId):Option V:=
  match P.info? t with
  | some i=>match i.zero with
    | some z=>some (V.ofValue z).cells
    | none=>none
  | none=>none
def Zaq (P:Program) (s:TypeId) (f:Nat):Option (Nat×TypeId):=
  match P.underlying s with
  | some (.struct fields)=>match fields[f]? with
    | some fd=>match ZB P fd.type with
      | some (_ + 1)=>some (fd.offset,fd.type)
      | _=>none
    | none=>none
  | _=>none
def partOf (P:Program) (t:TypeId) (cs:V) (o:Nat):Option V:=
  match K4 P t with
  | some true=>match ZB P t with
    | some z=>bif Nat.ble (o + z) cs.len then some (.agg ((cs.drop o).take z)) else none
    | none=>none
  | some false=>bif Nat.blt o cs.len then some (cs.nth o) else none
  | none=>none
def Tree.KJ {α:Type}:Option α->Tree α
  | some a=>.leaf a
  | none=>.stuck
def atIdx {α:Type} (st:Bool) (i n:Nat) (T:Tree α):Tree α:=
  match st with
  | true=>bif Nat.blt i n then T else .stuck
  | false=>.need (i < n) T
def JB {α:Type} (st:Bool) (j:Int) (n:Nat) (T:Nat->Tree α):Tree α:=
  match st with
  | true=>match j with
    | .ofNat q=>bif Nat.blt q n then T q else .stuck
    | .negSucc _=>.stuck
  | false=>.need (0<=j/\j < n) (T j.toNat)
def U9 {α:Type} (st:Bool) (j:Int) (n:Nat) (T:Nat->Tree α):Tree α:=
  match st with
  | true=>match j with
    | .ofNat q=>bif Nat.ble q n then T q else .stuck
    | .negSucc _=>.stuck
  | false=>.need (0<=j/\j<=n) (T j.toNat)
def intCmp (op:BinOp) (a b:Int):Option Bool:=
  match op with
  | .eql=>some (a==b)
  | .neq=>some (a != b)
  | .lss=>some (decide (a < b))
  | .leq=>some (decide (a<=b))
  | .gtr=>some (decide (a > b))
  | .geq=>some (decide (a >= b))
  | _=>none
def intBit (op:BinOp) (k:IntKind) (x y:Int):Option Int:=
  match op with
  | .and=>some (k.wrap (BitVec.ofInt k.bits x &&& BitVec.ofInt k.bits y).toNat)
  | .or=>some (k.wrap (BitVec.ofInt k.bits x ||| BitVec.ofInt k.bits y).toNat)
  | .xor=>some (k.wrap (BitVec.ofInt k.bits x ^^^ BitVec.ofInt k.bits y).toNat)
  | .andNot=>some (k.wrap (BitVec.ofInt k.bits x &&& ~~~BitVec.ofInt k.bits y).toNat)
  | _=>none
def Zcb {α:Type} (st:Bool) (y:Int) (T:Tree α):Tree α:=
  match st with
  | true=>match y with
    | .ofNat 0=>.stuck
    | _=>T
  | false=>.need (y ≠ 0) T
def Zcp {α:Type} (st:Bool) (y:Int) (T:Nat->Tree α):Tree α:=
  match st with
  | true=>match y with
    | .ofNat q=>T q
    | .negSucc _=>.stuck
  | false=>.need (0<=y) (T y.toNat)
def evInt (op:BinOp) (s s':Bool) (k:IntKind) (a b:Int):Tree V:=
  match op with
  | .add=>.leaf (mkInt (s&&s') k (k.wrap (a + b)))
  | .sub=>.leaf (mkInt (s&&s') k (k.wrap (a - b)))
  | .mul=>.leaf (mkInt (s&&s') k (k.wrap (a * b)))
  | .quo=>Zcb s' b (.leaf (mkInt (s&&s') k (k.wrap (a.tdiv b))))
  | .rem=>Zcb s' b (.leaf (mkInt (s&&s') k (a.tmod b)))
  | .shl=>.stuck
  | .shr=>.stuck
  | _=>match intBit op k a b with
    | some n=>.leaf (mkInt (s&&s') k n)
    | none=>match intCmp op a b with
      | some r=>.leaf (WL (s&&s') r)
      | none=>.stuck
def evShift (op:BinOp) (s s':Bool) (k:IntKind) (a b:Int):Tree V:=
  match op with
  | .shl=>Zcp s' b fun q=>.leaf (mkInt (s&&s') k (k.wrap (a * 2 ^ (min q k.bits))))
  | .shr=>Zcp s' b fun q=>.leaf (mkInt (s&&s') k (a.fdiv (2 ^ (min q k.bits))))
  | _=>.stuck
def Gj:BinOp->Bool
  | .shl | .shr=>true
  | _=>false
def nilS:V->Option Bool
  | .Zz=>some true
  | .osl true _ _ _ n=>bif Nat.beq n 0 then none else some false
  | .rsl true _ n _=>bif Nat.beq n 0 then none else some false
  | .osp true _ _ _ _ c=>bif Nat.beq c 0 then none else some false
  | .esl nn _=>match nn with
    | true=>some false
    | false=>none
  | _=>none
def nilP:V->Option Bool
  | .nilptr=>some true
  | .ptr ..=>some false
  | .rptr ..=>some false
  | _=>none
def nilF:V->Option Bool
  | .nilfn=>some true
  | .fn ..=>some false
  | .yld _=>some false
  | _=>none
def ZaQ:Option Bool->Option Bool->Option (Bool×Bool)
  | some true,some b=>some (true,b)
  | some false,some true=>some (true,false)
  | _,_=>none
def Zc7:V->V->Bool
  | .ptr st b es i o,.ptr st' b' es' i' o'=>(st&&st')&&(Nat.beq b b'&&(Nat.beq es es'&&(Nat.beq i i'&&Nat.beq o o')))
  | _,_=>false
def Zco:V->V->Bool
  | .ptr st b es i o,.ptr st' b' es' i' o'=>(st&&st')&&(Nat.beq b b'&&!Nat.beq (i * es + o) (i' * es' + o'))
  | _,_=>false
def bulky (P:Program) (e:TypeId):Bool:=
  match ZB P e with
  | some z=>!Nat.beq z 0
  | none=>false
mutual
def evEq (P:Program):Nat->TypeId->V->V->Option (Bool×Bool)
  | 0,_,_,_=>none
  | d + 1,t,x,y=>
    match P.underlying t with
    | some .bool=>match x,y with
      | .bool s a,.bool s' b=>some (s&&s',a==b)
      | _,_=>none
    | some (.int _)=>match x,y with
      | .int s k a,.int s' k' b=>if k = k' then some (s&&s',a==b) else none
      | _,_=>none
    | some .string=>match x,y with
      | .str s a,.str s' b=>some (s&&s',a==b)
      | _,_=>none
    | some (.struct fields)=>match x,y with
      | .agg xs,.agg ys=>if P.stoodInHeld t then none else VT P d fields.toList xs ys
      | _,_=>none
    | some (.slice _)=>ZaQ (nilS x) (nilS y)
    | some (.pointer e)=>match Zc7 x y&&(ZB P e).isSome with
      | true=>some (true,true)
      | false=>match Zco x y&&bulky P e with
        | true=>some (true,false)
        | false=>ZaQ (nilP x) (nilP y)
    | some (.func _ _ _)=>ZaQ (nilF x) (nilF y)
    | _=>none
def VT (P:Program):Nat->List Field->V->V->Option (Bool×Bool)
  | 0,_,_,_=>none
  | _ + 1,[],_,_=>some (true,true)
  | d + 1,f :: fs,xs,ys=>
    if f.name = "_" then none else
    match partOf P f.type xs f.offset,partOf P f.type ys f.offset with
    | some x,some y=>match evEq P d f.type x y,VT P d fs xs ys with
      | some (s,a),some (s',b)=>some (s&&s',a&&b)
      | _,_=>none
    | _,_=>none
end
def Uh (P:Program) (op:BinOp) (t:TypeId) (x y:V):Tree V:=
  match evEq P 20 t x y with
  | some (s,r)=>match op with
    | .eql=>.leaf (WL s r)
    | .neq=>.leaf (WL s (!r))
    | _=>.stuck
  | none=>.stuck
def evStr (op:BinOp) (s s':Bool) (a b:List UInt8):Tree V:=
  match op with
  | .eql=>.leaf (WL (s&&s') (a==b))
  | .neq=>.leaf (WL (s&&s') (!(a==b)))
  | .lss=>.leaf (WL (s&&s') (Op.bytesLess a b))
  | .leq=>.leaf (WL (s&&s') (Op.bytesLess a b || a==b))
  | .gtr=>.leaf (WL (s&&s') (!(Op.bytesLess a b || a==b)))
  | .geq=>.leaf (WL (s&&s') (!Op.bytesLess a b))
  | .add=>match s&&s' with
    | true=>bif Nat.ble (a.length + b.length) 9223372036854775807 then .leaf (.str true (a ++ b)) else .stuck
    | false=>.need (a.length + b.length<=9223372036854775807) (.leaf (.str false (a ++ b)))
  | _=>.stuck
def Q6 (P:Program) (op:BinOp) (t:TypeId) (x y:V):Tree V:=
  match x with
  | .int s k a=>match y with
    | .int s' k' b=>match Gj op with
      | true=>evShift op s s' k a b
      | false=>if k = k' then evInt op s s' k a b else .stuck
    | _=>.stuck
  | .bool _ _=>Uh P op t x y
  | .str s a=>match y with
    | .str s' b=>evStr op s s' a b
    | _=>.stuck
  | .agg _=>if P.eqGuardType P.depth t then .stuck else Uh P op t x y
  | .osl .. | .osp .. | .esl .. | .rsl .. | .Zz | .ptr .. | .rptr .. | .nilptr | .fn .. | .nilfn | .yld _=>Uh P op t x y
  | _=>.stuck
def Zbi:Operand->Bool
  | .const .nilIface=>true
  | _=>false
def nilI:V->Option (Bool×Bool)
  | .nilif=>some (true,true)
  | .ifc st b=>some (st,b)
  | _=>none
def eqOp:BinOp->Option Bool
  | .eql=>some true
  | .neq=>some false
  | _=>none
def J5 (P:Program) (op:BinOp) (t:TypeId) (x y:Operand) (a b:V):Option (Tree V):=
  match P.underlying t with
  | some (.interface _)=>match eqOp op with
    | some want=>match Zbi y with
      | true=>match nilI a with
        | some (st,r)=>some (.leaf (WL st (bif want then r else !r)))
        | none=>none
      | false=>match Zbi x with
        | true=>match nilI b with
          | some (st,r)=>some (.leaf (WL st (bif want then r else !r)))
          | none=>none
        | false=>none
    | none=>none
  | _=>none
def evUn (op:UnOp) (x:V):Tree V:=
  match x with
  | .int s k n=>match op with
    | .neg=>.leaf (mkInt s k (k.wrap (0 - n)))
    | .xor=>match intBit .xor k (if k.signed then -1 else k.max) n with
      | some r=>.leaf (mkInt s k r)
      | none=>.stuck
    | _=>.stuck
  | .bool s b=>match op with
    | .not=>.leaf (WL s (!b))
    | _=>.stuck
  | _=>.stuck
def bytesOf:V->Option (Bool×List UInt8)
  | .nil=>some (true,[])
  | .cons (.int s .u8 v) t=>match bytesOf t with
    | some (s',l)=>some (s&&s',UInt8.ofNat v.toNat :: l)
    | none=>none
  | _=>none
def Zbd (P:Program) (h:Nat->Blk) (e:TypeId) (x:V):Tree V:=
  match P.underlying e with
  | some (.int .u8)=>match x with
    | .osl st b es i n=>match h b with
      | .var cs=>bif st&&(Nat.beq es 1&&Nat.ble (i + n) cs.len) then match bytesOf ((cs.drop i).take n) with
          | some (s,l)=>.leaf (.str s l)
          | none=>.stuck
        else .stuck
      | _=>.stuck
    | _=>.stuck
  | _=>.stuck
def ZfP (P:Program) (dst:TypeId) (x:V):Tree V:=
  match P.underlying dst with
  | some (.int k)=>match x with
    | .int s _ n=>.leaf (mkInt s k (k.wrap n))
    | _=>.stuck
  | some .string=>match x with
    | .str s a=>.leaf (.str s a)
    | .int s _ n=>match s with
      | true=>match n with
        | .ofNat c=>bif Nat.blt c 128 then .leaf (.str true [UInt8.ofNat c]) else .stuck
        | _=>.stuck
      | false=>.need (0<=n/\n < 128) (.leaf (.str false [UInt8.ofNat n.toNat]))
    | _=>.stuck
  | _=>.stuck
def Gg (P:Program) (h:Nat->Blk) (src dst:TypeId) (x:V):Tree V:=
  match P.underlying src with
  | none=>.stuck
  | some (.slice e)=>match P.underlying dst with
    | some .string=>Zbd P h e x
    | _=>.stuck
  | some _=>ZfP P dst x
def ZbX (P:Program) (src dst:TypeId) (x:V):Option (Tree V):=
  match x with
  | .str st s=>match P.underlying src with
    | some .string=>match P.underlying dst with
      | some (.slice e)=>match P.underlying e with
        | some (.int .u8)=>some (.leaf (.rsl st 1 s.length fun j=>.cons (.int st .u8 (Int.ofNat (s.getD j 0).toNat)) .nil))
        | _=>none
      | _=>none
    | _=>none
  | _=>none
def ZcB (c x y:V):Tree V:=
  match c with
  | .bool true b=>match b with | true=>.leaf x | false=>.leaf y
  | .bool false b=>.node b (.leaf x) (.leaf y)
  | _=>.stuck
def Zas (P:Program) (s:TypeId) (x:V) (f:Nat):Tree V:=
  match Zaq P s f with
  | some (off,_)=>match x with
    | .ptr st b es i o=>.leaf (.ptr st b es i (o + off))
    | .rptr st es n get i o=>.leaf (.rptr st es n get i (o + off))
    | _=>.stuck
  | none=>.stuck
def Zaa (P:Program) (t:TypeId) (x:V) (f:Nat):Tree V:=
  match P.underlying t with
  | some (.struct fields)=>match fields[f]? with
    | some fd=>match x with
      | .agg cs=>.KJ (partOf P fd.type cs fd.offset)
      | _=>.stuck
    | none=>.stuck
  | _=>.stuck
def elemAt (cs:V) (o z k:Nat):V:=(cs.drop (o + k * z)).take z
def allB (n:Nat) (f:Nat->Bool):Bool:=Nat.rec true (fun i r=>r&&f i) n
def JX (P:Program) (h:Nat->Blk) (t:TypeId) (x:V):Tree V:=
  match x with
  | .ptr st b es i o=>match h b with
    | .var cs=>bif st then .KJ (partOf P t cs (i * es + o)) else .stuck
    | .arr es' n get=>bif Nat.beq es es' then atIdx st i n (.KJ (partOf P t (get i) o)) else .stuck
    | _=>.stuck
  | .rptr _ _ _ get i o=>.KJ (partOf P t (get i) o)
  | _=>.stuck
def Zei (x:V):Tree V:=
  match x with
  | .ptr .. | .rptr .. | .fn (.func _) _ _=>.leaf x
  | _=>.stuck
def Zdt (x:V) (i:Nat):Tree V:=
  match x with
  | .tup vs=>bif Nat.blt i vs.len then .leaf (vs.nth i) else .stuck
  | _=>.stuck
def J4 (P:Program) (place:Nat->Option (Nat×Nat)):V->List (Nat×V)->Option V
  | cs,[]=>some cs
  | cs,(i,v) :: rest=>match place i with
    | some (off,z)=>bif v.solid&&(Nat.beq v.cells.len z&&Nat.ble (off + z) cs.len) then J4 P place (cs.splice off v.cells) rest else none
    | none=>none
def Zdn (P:Program) (fields:Array Field) (i:Nat):Option (Nat×Nat):=
  match fields[i]? with
  | some fd=>some (fd.offset,(ZB P fd.type).getD 0)
  | none=>none
def ZfW (P:Program) (t:TypeId) (parts:List (Nat×V)):Tree V:=
  match Xc P t with
  | some zero=>match P.underlying t with
    | some (.struct fields)=>bif fields.toList.all (fun f=>(ZB P f.type).isSome) then
        match J4 P (Zdn P fields) zero parts with
        | some cs=>.leaf (.agg cs)
        | none=>.stuck
      else .stuck
    | some (.array _ e)=>match ZB P e with
      | some z=>match J4 P (fun i=>some (i * z,z)) zero parts with
        | some cs=>.leaf (.agg cs)
        | none=>.stuck
      | none=>.stuck
    | _=>.stuck
  | none=>.stuck
def rep (n:Nat) (z:V):V:=Nat.rec .nil (fun _ r=>z.app r) n
def KN (P:Program) (t:TypeId) (len:Nat) (parts:List (Nat×V)):Option (Nat×V):=
  match P.underlying t with
  | some (.slice e)=>match ZB P e,Xc P e with
    | some z,some zero=>bif Nat.beq zero.len z&&Nat.ble (len * z) 16777216 then
        match J4 P (fun i=>some (i * z,z)) (rep len zero) parts with
        | some cs=>some (z,cs)
        | none=>none
      else none
    | _,_=>none
  | _=>none
def V.Xo:V->V
  | .osp st b es i n _=>.osl st b es i n
  | v=>v
def V.plain:V->V
  | .cons h t=>.cons h.plain t.plain
  | .agg cs=>.agg cs.plain
  | .tup vs=>.tup vs.plain
  | .osp st b es i n c=>bif st&&(Nat.beq n 0&&Nat.blt 0 c) then .osp st b es i n c else .osl st b es i n
  | v=>v
def Qf {α:Type} (st:Bool) (n:Nat) (lo hi:Option V) (T:Bool->Nat->Nat->Tree α):Tree α:=
  let low (st:Bool) (h:Nat):Tree α:=match lo with
    | none=>T st 0 h
    | some (.int s _ j)=>U9 (st&&s) j h fun q=>T (st&&s) q h
    | some _=>.stuck
  match hi with
  | none=>low st n
  | some (.int s _ j)=>U9 (st&&s) j n fun q=>low (st&&s) q
  | some _=>.stuck
def Zbb (b:Blk) (k:Nat):Bool:=
  match b with
  | .var cs=>Nat.ble k cs.len
  | _=>false
def ZbC:V->Bool
  | .int true _ (.ofNat n)=>Nat.beq n 0
  | _=>false
def Zc0 (P:Program) (t:TypeId) (x:V) (lo hi:Option V) (mx:V):Tree V:=
  match lo with
  | some _=>.stuck
  | none=>match hi with
    | none=>.stuck
    | some hi=>bif ZbC hi&&ZbC mx then match P.underlying t with
        | some (.slice e)=>match ZB P e with
          | some _=>match x with
            | .Zz=>.leaf .Zz
            | .rsl st es n _=>.leaf (.esl (st&&Nat.blt 0 n) es)
            | .osl st _ es _ n=>.leaf (.esl (st&&Nat.blt 0 n) es)
            | .osp st _ es _ _ c=>.leaf (.esl (st&&Nat.blt 0 c) es)
            | .esl nn es=>.leaf (.esl nn es)
            | _=>.stuck
          | none=>.stuck
        | _=>.stuck
      else .stuck
def ZfK (P:Program) (t:TypeId) (x:V) (lo hi mx:V):Tree V:=
  match P.underlying t with
  | some (.slice e)=>match ZB P e with
    | some z=>match x.Xo with
      | .osl st b es i n=>bif Nat.beq z es then match mx with
          | .int s _ j=>U9 (st&&s) j n fun q=>Qf (st&&s) q (some lo) (some hi) fun st a c=>.leaf (.osl st b es (i + a) (c - a))
          | _=>.stuck
        else .stuck
      | _=>.stuck
    | none=>.stuck
  | _=>.stuck
def ospOf (st:Bool) (b es i n k:Nat):V:=bif st&&Nat.beq k n then .osl st b es i k else .osp st b es i k n
def ospB (lo:Option V) (st:Bool) (b es i n lw hg:Nat):V:=
  match lo with
  | none=>ospOf st b es i n hg
  | some _=>.osl st b es (i + lw) (hg - lw)
def UQ (P:Program) (h:Nat->Blk) (t:TypeId) (x:V) (lo hi mx:Option V):Tree V:=
  match mx with
  | some mx=>match Zc0 P t x lo hi mx with
    | .stuck=>match lo,hi with
      | some lo,some hi=>ZfK P t x lo hi mx
      | _,_=>.stuck
    | T=>T
  | none=>match P.underlying t with
    | some .string=>match x with
      | .str st l=>Qf st l.length lo hi fun st a b=>.leaf (.str st ((l.drop a).take (b - a)))
      | _=>.stuck
    | some (.slice e)=>match x with
      | .rsl st es n get=>match ZB P e with
        | some z=>bif Nat.beq z es then Qf st n lo hi fun st a b=>.leaf (.rsl st es (b - a) fun j=>get (a + j)) else .stuck
        | none=>.stuck
      | .osl st bl es i n=>match ZB P e with
        | some z=>bif Nat.beq z es then Qf st n lo hi fun st a b=>.leaf (ospB lo st bl es i n a b) else .stuck
        | none=>.stuck
      | .osp st bl es i n c=>match ZB P e with
        | some z=>bif Nat.beq z es then Qf st (match hi with | none=>n | some _=>c) lo hi fun st a b=>.leaf (.osl st bl es (i + a) (b - a)) else .stuck
        | none=>.stuck
      | .Zz=>match ZB P e with
        | some _=>Qf true 0 lo hi fun _ _ _=>.leaf .Zz
        | none=>.stuck
      | .esl nn es=>match ZB P e with
        | some _=>Qf true 0 lo hi fun _ _ _=>.leaf (.esl nn es)
        | none=>.stuck
      | _=>.stuck
    | some (.array len e)=>match x with
      | .ptr st bl es i o=>match ZB P e with
        | some z=>bif Nat.beq (i * es + o) ((i * es + o) / z * z)&&Zbb (h bl) (i * es + o + len * z) then Qf st len lo hi fun st a b=>.leaf (.osl st bl z ((i * es + o) / z + a) (b - a)) else .stuck
        | none=>.stuck
      | .rptr st _ _ get i o=>match ZB P e with
        | some z=>bif Nat.ble (o + len * z) (get i).len then Qf st len lo hi fun st a b=>.leaf (.rsl st z (b - a) fun q=>elemAt (get i) o z (a + q)) else .stuck
        | none=>.stuck
      | _=>.stuck
    | some (.pointer arr)=>match x with
      | .ptr st bl es i o=>match P.underlying arr with
        | some (.array len e)=>match ZB P e with
          | some z=>bif Nat.beq (i * es + o) ((i * es + o) / z * z)&&Zbb (h bl) (i * es + o + len * z) then Qf st len lo hi fun st a b=>.leaf (.osl st bl z ((i * es + o) / z + a) (b - a)) else .stuck
          | none=>.stuck
        | _=>.stuck
      | _=>.stuck
    | _=>.stuck
def evLen (P:Program) (t:TypeId) (x:V):Tree V:=
  match P.underlying t with
  | some .string=>match x with
    | .str st l=>.leaf (mkInt st .i64 l.length)
    | _=>.stuck
  | some (.slice _)=>match x.Xo with
    | .rsl st _ n _=>.leaf (mkInt st .i64 n)
    | .osl st _ _ _ n=>.leaf (mkInt st .i64 n)
    | .Zz=>.leaf (.int true .i64 0)
    | .esl _ _=>.leaf (.int true .i64 0)
    | _=>.stuck
  | some (.array n _)=>.leaf (mkInt true .i64 n)
  | _=>.stuck
def ev2 (less:Bool) (x y:V):Tree V:=
  match x with
  | .int s k a=>match y with
    | .int s' _ b=>.leaf (mkInt (s&&s') k (match less with | true=>(if b < a then b else a) | false=>(if b > a then b else a)))
    | _=>.stuck
  | _=>.stuck
def Zbq (less:Bool):V->V->Tree V
  | x,.nil=>.leaf x
  | x,.cons y r=>(ev2 less x y).bind fun z=>Zbq less z r
  | _,_=>.stuck
def evCap (P:Program) (t:TypeId) (x:V):Tree V:=
  match P.underlying t with
  | some (.slice _)=>match x.Xo with
    | .Zz=>.leaf (.int true .i64 0)
    | .esl _ _=>.leaf (.int true .i64 0)
    | _=>.stuck
  | _=>.stuck
def Vz (P:Program) (b:Builtin) (ts:List TypeId) (args:V):Option (Tree V):=
  match b with
  | .len=>some (match ts with
    | t :: _=>match args with
      | .cons x _=>evLen P t x
      | _=>.stuck
    | []=>.stuck)
  | .cap=>some (match ts with
    | t :: _=>match args with
      | .cons x _=>evCap P t x
      | _=>.stuck
    | []=>.stuck)
  | .min=>some (match args with | .cons x r=>Zbq true x r | _=>.stuck)
  | .max=>some (match args with | .cons x r=>Zbq false x r | _=>.stuck)
  | _=>none
def V.one:V->Bool
  | .nil | .cons _ _=>false
  | _=>true
def WY:V->V->Bool
  | .nil,y=>match y with | .nil=>true | _=>false
  | .cons h t,y=>match y with | .cons _ t'=>h.one&&WY t t' | _=>false
  | _,_=>false
def Xn (b:Bool):V->V->V
  | .nil,_=>.nil
  | .cons h t,y=>match y with
    | .cons h' t'=>.cons (Xn b h h') (Xn b t t')
    | _=>.junk
  | .int s k n,y=>match y with
    | .int s' k' n'=>if k = k' then (bif (s&&s')&&decide (n = n') then .int true k n else .int false k (bif b then n else n')) else .junk
    | _=>.junk
  | .bool s c,y=>match y with
    | .bool s' c'=>match s&&s' with
      | true=>match c,c' with
        | true,true=>.bool true true
        | true,false=>.bool false b
        | false,true=>.bool false (!b)
        | false,false=>.bool true false
      | false=>.bool false (bif b then c else c')
    | _=>.junk
  | .str _ s,y=>match y with
    | .str _ s'=>.str false (bif b then s else s')
    | _=>.junk
  | .agg cs,y=>match y with
    | .agg cs'=>bif WY cs cs' then .agg (Xn b cs cs') else .junk
    | _=>.junk
  | .tup cs,y=>match y with
    | .tup cs'=>bif WY cs cs' then .tup (Xn b cs cs') else .junk
    | _=>.junk
  | .ptr st bl es i o,y=>match y with
    | .ptr st' bl' es' i' o'=>bif (st&&st')&&(Nat.beq bl bl'&&(Nat.beq es es'&&(Nat.beq i i'&&Nat.beq o o'))) then .ptr true bl es i o else .junk
    | _=>.junk
  | .osl st bl es i n,y=>match y with
    | .osl st' bl' es' i' n'=>bif (st&&st')&&(Nat.beq bl bl'&&(Nat.beq es es'&&(Nat.beq i i'&&Nat.beq n n'))) then .osl true bl es i n else .junk
    | _=>.junk
  | .nilptr,y=>match y with | .nilptr=>.nilptr | _=>.junk
  | .nilfn,y=>match y with | .nilfn=>.nilfn | _=>.junk
  | .nilmap,y=>match y with | .nilmap=>.nilmap | _=>.junk
  | .nilif,y=>match y with
    | .nilif=>.nilif
    | .ifc _ c=>.ifc false (bif b then true else c)
    | _=>.junk
  | .ifc _ c,y=>match y with
    | .ifc _ c'=>.ifc false (bif b then c else c')
    | .nilif=>.ifc false (bif b then c else true)
    | _=>.junk
  | .undef,y=>match y with | .undef=>.undef | _=>.junk
  | .Zz,y=>match y with
    | .Zz=>.Zz
    | .rsl _ es n get=>.rsl false es (bif b then 0 else n) get
    | _=>.junk
  | .rsl _ es n get,y=>match y with
    | .rsl _ es' n' get'=>bif Nat.beq es es' then .rsl false es (bif b then n else n') (fun j=>bif WY (get j) (get' j) then Xn b (get j) (get' j) else bif b then get j else get' j) else .junk
    | .Zz=>.rsl false es (bif b then n else 0) get
    | _=>.junk
  | _,_=>.junk
def Kg (b:Bool) (x y:V):V:=bif x.one then Xn b x y else .junk
def selV (row:Nat->V) (j:Nat) (n:Nat):V:=Nat.rec (row 0) (fun k r=>Kg (Nat.beq j (k + 1)) (row (k + 1)) r) (n - 1)
def selR (row:Nat->V) (j:Nat) (n:Nat):V:=Nat.rec (row 0) (fun k r=>Xn (Nat.beq j (k + 1)) (row (k + 1)) r) (n - 1)
def selOk (row:Nat->V) (j:Nat) (n:Nat):Bool:=allB (n - 1) fun k=>WY (row (k + 1)) (selR row j (k + 1))
def V3 (P:Program) (t:TypeId) (x ix:V):Tree V:=
  match ix with
  | .int s _ j=>match P.underlying t with
    | some (.slice e)=>match ZB P e with
      | some z=>match x with
        | .rsl st es n get=>bif Nat.beq z es then JB (st&&s) j n fun q=>.leaf (.rptr (st&&s) es n get q 0) else .stuck
        | .osl st b es i n=>bif Nat.beq z es then JB (st&&s) j n fun q=>.leaf (.ptr (st&&s) b es (i + q) 0) else .stuck
        | _=>.stuck
      | none=>.stuck
    | some (.array len e)=>match ZB P e with
      | some z=>match s with
        | true=>JB true j len fun q=>match x with
          | .ptr st b es i o=>.leaf (.ptr st b es i (o + q * z))
          | .rptr st es n get i o=>.leaf (.rptr st es n get i (o + q * z))
          | _=>.stuck
        | false=>match x with
          | .rptr st _ _ get i o=>bif (st&&Nat.ble (o + len * z) (get i).len)&&selOk (elemAt (get i) o z) j.toNat len then
              JB false j len fun q=>.leaf (.rptr false z 1 (fun _=>selR (elemAt (get i) o z) q len) 0 0) else .stuck
          | _=>.stuck
      | none=>.stuck
    | _=>.stuck
  | _=>.stuck
def Zah (P:Program) (t:TypeId) (x ix:V):Tree V:=
  match ix with
  | .int s _ j=>match P.underlying t with
    | some (.array len e)=>match ZB P e with
      | some z=>match s with
        | true=>JB true j len fun q=>match x with
          | .agg cs=>.KJ (partOf P e cs (q * z))
          | _=>.stuck
        | false=>match x with
          | .agg cs=>bif Nat.blt 0 len&&allB len (fun k=>(partOf P e cs (k * z)).isSome) then
              JB false j len fun q=>.leaf (selV (fun k=>(partOf P e cs (k * z)).getD .junk) q len) else .stuck
          | _=>.stuck
      | none=>.stuck
    | some .string=>match x with
      | .str st l=>JB (st&&s) j l.length fun q=>.leaf (mkInt (st&&s) .u8 (l.getD q 0).toNat)
      | _=>.stuck
    | _=>.stuck
  | _=>.stuck
def mkOf (P:Program) (kt:TypeId):Option MK:=
  match P.underlying kt with
  | some (.int k)=>some (.int k)
  | some .string=>some .str
  | _=>none
def JJ:MK->MK->Bool
  | .int k,.int k'=>decide (k = k')
  | .str,.str=>true
  | _,_=>false
def keyOf (kd:MK) (x:V):Option (Bool×Value):=
  match x with
  | .int st k n=>match kd with
    | .int k'=>if k = k' then some (st,.int k n) else none
    | .str=>none
  | .str st s=>match kd with
    | .str=>some (st,.string ⟨s.toArray⟩)
    | .int _=>none
  | _=>none
def zeroV (P:Program) (t:TypeId):Option V:=
  match P.info? t with
  | some i=>match i.zero with
    | some z=>some (V.ofValue z)
    | none=>none
  | none=>none
def foundV (st has:Bool) (v z:V):V:=
  match st with
  | true=>match has with | true=>v | false=>z
  | false=>Kg has v z
def GV (ok st has:Bool) (v:V):V:=
  match ok with
  | true=>.tup (.cons v (.cons (WL st has) .nil))
  | false=>v
def Gc (P:Program) (h:Nat->Blk) (t:TypeId) (x ix:V) (ok:Bool):Tree V:=
  match P.underlying t with
  | some (.map kt et)=>match mkOf P kt,zeroV P et with
    | some kd,some z=>match keyOf kd ix with
      | some (sk,key)=>match x with
        | .nilmap=>.leaf (GV ok true false z)
        | .mp b=>match h b with
          | .Ze kd' st f _=>bif JJ kd kd' then .leaf (GV ok (st&&sk) (f key).1 (foundV (st&&sk) (f key).1 (f key).2 z)) else .stuck
          | _=>.stuck
        | .rmp st kd' has get=>bif JJ kd kd' then .leaf (GV ok (st&&sk) (has key) (foundV (st&&sk) (has key) (get key) z)) else .stuck
        | _=>.stuck
      | none=>.stuck
    | _,_=>.stuck
  | _=>.stuck
def pickV (c:Bool) (x y:V):V:=
  match x with
  | .bool s b=>match y with
    | .bool s' b'=>.bool (bif c then s else s') (bif c then b else b')
    | _=>bif c then x else y
  | .int s k n=>match y with
    | .int s' k' n'=>if k = k' then .int (bif c then s else s') k (bif c then n else n') else bif c then x else y
    | _=>bif c then x else y
  | _=>bif c then x else y
def putF (st:Bool) (f:Value->Bool×V) (key:Value) (y:Bool×V):Value->Bool×V:=
  match st with
  | true=>fun k=>(bif Zj k key then y.1 else (f k).1,pickV (Zj k key) y.2 (f k).2)
  | false=>fun k=>(bif Zj k key then y.1 else (f k).1,Kg (Zj k key) y.2 (f k).2)
def putMap (blk:Blk) (kd:MK) (sk:Bool) (key:Value) (y:Bool×V):Option Blk:=
  match blk with
  | .Ze kd' st f ks=>bif JJ kd kd' then some (.Ze kd' (st&&sk) (putF (st&&sk) f key y) (putKs y.1 sk ks key)) else none
  | _=>none
def XM (P:Program) (h:Nat->Blk) (t:TypeId) (x k:V) (y:Bool×V):Option (Nat×Blk):=
  match P.underlying t with
  | some (.map kt _)=>match mkOf P kt with
    | some kd=>match keyOf kd k with
      | some (sk,key)=>match x with
        | .mp b=>match putMap (h b) kd sk key y with
          | some blk=>some (b,blk)
          | none=>none
        | _=>none
      | none=>none
    | none=>none
  | _=>none
def Vk (P:Program) (t:TypeId) (r:Option V):Option Blk:=
  match P.underlying t with
  | some (.map kt et)=>match mkOf P kt with
    | some kd=>match r with
      | none=>some (.Ze kd true (fun _=>(false,(zeroV P et).getD .junk)) (some (0,[])))
      | some (.int _ _ _)=>some (.Ze kd true (fun _=>(false,(zeroV P et).getD .junk)) (some (0,[])))
      | some _=>none
    | none=>none
  | _=>none
def Zck (P:Program) (h:Nat->Blk) (t:TypeId) (x:V):Option Blk:=
  match P.underlying t with
  | some (.map _ _)=>match x with
    | .nilmap=>some (.iter none 0 [] 0)
    | .mp b=>match h b with
      | .Ze _ _ _ ks=>match ks with
        | some (c,_)=>some (.iter (some b) c [] c)
        | none=>none
      | _=>none
    | _=>none
  | _=>none
def oneOf {α β:Type} (f:α->Tree β):List α->Tree β
  | []=>.stuck
  | x :: l=>match l with
    | []=>f x
    | _ :: _=>.both (f x) (oneOf f l)
def evNext (h:Nat->Blk) (it:V) (isString:Bool):Tree (V×Option (Nat×Blk)):=
  match isString with
  | true=>.stuck
  | false=>match it with
    | .ptr st b es i o=>bif st&&(Nat.beq es 0&&(Nat.beq i 0&&Nat.beq o 0)) then match h b with
      | .iter mb since seen last=>match mb with
        | none=>.leaf (.tup (.cons (.bool true false) .nil),none)
        | some mb=>match h mb with
          | .Ze _ _ f ks=>match ks with
            | some (c,l)=>bif oldL since l&&Nat.ble since last then
                match leftL seen l with
                | []=>.leaf (.tup (.cons (.bool true false) .nil),none)
                | left=>oneOf (fun e=>.leaf (.tup (.cons (.bool true true) (.cons (V.KA e.2) (.cons (f e.2).2 .nil))),some (b,.iter (some mb) since (seen ++ [e.1]) c))) left
              else .stuck
            | none=>.stuck
          | _=>.stuck
      | _=>.stuck else .stuck
    | _=>.stuck
def Ze7 (h:Nat->Blk) (it:V):Tree V:=
  match it with
  | .ptr st b es i o=>bif st&&(Nat.beq es 0&&(Nat.beq i 0&&Nat.beq o 0)) then match h b with
    | .iter mb since seen last=>match mb with
      | none=>.stuck
      | some mb=>match h mb with
        | .Ze _ _ f ks=>match ks with
          | some (c,l)=>match seen.reverse with
            | []=>.stuck
            | x :: _=>bif oldL since l&&Nat.beq c last then match l.find? fun e=>Nat.beq e.1 x with
                | some e=>.leaf (.tup (.cons (V.KA e.2) (.cons (f e.2).2 .nil)))
                | none=>.stuck
              else .stuck
          | none=>.stuck
        | _=>.stuck
    | _=>.stuck else .stuck
  | _=>.stuck
inductive Ans where
  | sure (v:V)
  | where_ (p:Prop) (v:V)
  | fork (b:Bool) (v v':V)
abbrev HK:=V->List Blk->Option (Tree (V×List Blk))
structure Env where
  P:Program
  Γ:FuncId->V->Option Ans
  lp:FuncId->Nat->Option ((B:Base)->St B->Tree (Ex×St B))
  mg:Bool
  way:FuncId->Nat->Option Bool:=fun _ _=>none
  bd:FuncId->Nat->Option (Nat×Nat×Bool):=fun _ _=>none
  nm:FuncId->Bool:=fun _=>false
  hk:FuncId->Option HK:=fun _=>none
def Env.wayOf (E:Env) (f:FuncId) (c:Operand) (val:Nat->V):Option Bool:=
  match c with
  | .tmp t=>match E.way f t with
    | some w=>some w
    | none=>match E.bd f t with
      | some (i,k,w)=>match val i with
        | .int true _ (.ofNat j)=>bif Nat.ble k j then some w else none
        | _=>none
      | none=>none
  | _=>none
def Zg {B:Base} (s:St B):Operand->V
  | .tmp t=>s.tmp t
  | .const v=>V.ofValue v
  | .global g=>match glob g with
    | some v=>v
    | none=>.junk
  | .func f=>.fn (.func f) .nil .nil
def callee (f:V) (args:V):Option (FuncId×V):=
  match f with
  | .fn (.func g) first cap=>some (g,first.app (args.app cap))
  | _=>none
def XB (n:Nat) (f:Nat->Bool):Bool:=Nat.rec true (fun i r=>r&&f i) n
def V.known:V->Bool
  | .cons h t=>h.known&&t.known
  | .int st _ _=>st
  | .bool st _=>st
  | .str st _=>st
  | .ifc st _=>st
  | .agg cs=>cs.known
  | .tup vs=>vs.known
  | .ptr .. | .osl .. | .osp .. | .rptr .. | .rmp .. | .junk=>false
  | .rsl st _ n get=>st&&XB n fun i=>(get i).known
  | .fn _ a b=>a.known&&b.known
  | _=>true
def V.YG:V->Bool
  | .cons h t=>h.YG&&t.YG
  | .agg cs=>cs.YG
  | .tup vs=>vs.YG
  | .fn _ a b=>a.YG&&b.YG
  | .rptr .. | .rsl .. | .rmp ..=>false
  | _=>true
def Zcz (h:Nat->Blk) (x:V):V:=
  match x with
  | .osl st b es i n=>match h b with
    | .var cs=>bif st&&(cs.clean&&Nat.ble ((i + n) * es) cs.len) then .rsl true es n fun j=>(cs.drop ((i + j) * es)).take es else x
    | .arr es' _ get=>bif Nat.beq es es' then .rsl st es n fun j=>get (i + j) else x
    | _=>x
  | _=>x
def Zeg (h:Nat->Blk) (x:V):V:=Zcz h x.Xo
def freeze (h:Nat->Blk):V->V
  | .cons a t=>.cons (freeze h a) (freeze h t)
  | .agg cs=>.agg (freeze h cs)
  | v=>Zeg h v
def ZcL (h:Nat->Blk) (x:V):Option Prop:=
  match x with
  | .osl st b es i n=>match h b with
    | .arr es' k _=>bif Nat.beq es es' then (bif st&&Nat.ble (i + n) k then none else some (i + n<=k)) else none
    | _=>none
  | _=>none
def Zd9 (h:Nat->Blk) (x:V):Option Prop:=ZcL h x.Xo
def bothP:Option Prop->Option Prop->Option Prop
  | none,q=>q
  | some p,none=>some p
  | some p,some q=>some (p/\q)
def KV (h:Nat->Blk):V->Option Prop
  | .cons a t=>bothP (KV h a) (KV h t)
  | .agg cs=>KV h cs
  | v=>Zd9 h v
def V.YZ:V->V
  | .cons a t=>.cons a.YZ t.YZ
  | .agg cs=>.agg cs.YZ
  | .tup cs=>.tup cs.YZ
  | .fn f a b=>.fn f a.YZ b.YZ
  | .ptr .. | .osl .. | .osp .. | .yld _ | .mp _=>.junk
  | v=>v
def V.leaves (g:V->V):V->V
  | .cons a t=>.cons (a.leaves g) (t.leaves g)
  | .agg cs=>.agg (cs.leaves g)
  | .tup cs=>.tup (cs.leaves g)
  | .fn f a b=>.fn f (a.leaves g) (b.leaves g)
  | v=>g v
def ZdF (h:Nat->Blk) (g:V->V) (x:V):V:=
  match x with
  | .ptr st b es i o=>match h b with
    | .var cs=>bif st then .rptr true cs.len 1 (fun _=>(g cs).YZ) 0 (i * es + o) else x
    | .arr es' k get=>bif Nat.beq es es'&&(st&&Nat.blt i k) then .rptr true es k get i o else x
    | _=>x
  | .osl st b es i n=>match h b with
    | .var cs=>bif st&&Nat.ble ((i + n) * es) cs.len then .rsl true es n fun j=>((g cs).YZ.drop ((i + j) * es)).take es else x
    | .arr es' k get=>bif Nat.beq es es'&&(st&&Nat.ble (i + n) k) then .rsl st es n fun j=>get (i + j) else x
    | _=>x
  | .mp b=>match h b with
    | .Ze kd st f _=>.rmp st kd (fun k=>(f k).1) fun k=>(f k).2.YZ
    | _=>x
  | _=>x
def U4 (h:Nat->Blk) (g:V->V) (x:V):V:=ZdF h g x.Xo
def fz (h:Nat->Blk) (k:Nat):V->V:=Nat.rec (fun v=>v) (fun _ ih v=>v.leaves (U4 h ih)) k
def Uk {α:Type}:Option Prop->Tree α->Tree α
  | none,T=>T
  | some p,T=>.need p T
def evQ (E:Env) (ρ:Operand->V) (h:Nat->Blk) (o:Op):Option (Tree V):=
  match o with
  | .move x=>some (.leaf (ρ x))
  | .assign x=>some (.leaf (ρ x))
  | .pick c x y=>some (ZcB (ρ c) (ρ x) (ρ y))
  | .build t parts=>some (ZfW E.P t (parts.toList.map fun p=>(p.1,ρ p.2)))
  | .load t a=>some (JX E.P h t (ρ a))
  | .binOp op t x y _=>match J5 E.P op t x y (ρ x) (ρ y) with
    | some T=>some T
    | none=>some (Q6 E.P op t (ρ x) (ρ y))
  | .unOp op _ x=>some (evUn op (ρ x))
  | .convert src dst x=>match ZbX E.P src dst (ρ x) with
    | some T=>some T
    | none=>some (Gg E.P h src dst (ρ x))
  | .makeFunc f first cap=>some (.leaf (.fn f (.ofList (first.toList.map ρ)) (.ofList (cap.toList.map ρ))))
  | .slice t x lo hi mx=>some (UQ E.P h t (ρ x) (lo.map ρ) (hi.map ρ) (mx.map ρ))
  | .fieldAddr s x f=>some (Zas E.P s (ρ x) f)
  | .field t x f=>some (Zaa E.P t (ρ x) f)
  | .indexAddr t x ix=>some (V3 E.P t (ρ x).Xo (ρ ix))
  | .index t x ix=>some (Zah E.P t (ρ x) (ρ ix))
  | .extract x i=>some (Zdt (ρ x) i)
  | .lookup t x ix ok=>some (Gc E.P h t (ρ x) (ρ ix) ok)
  | .nilCheck x=>some (Zei (ρ x))
  | .call c=>match c.callee with
    | .builtin b=>Vz E.P b c.argTypes.toList (.ofList (c.args.toList.map ρ))
    | .value f=>match callee (ρ f) (.ofList (c.args.toList.map ρ)) with
      | some (g,args)=>match E.Γ g args with
        | some (.sure v)=>bif args.clean&&v.clean then some (.leaf v) else none
        | some (.where_ p v)=>bif args.clean&&v.clean then some (.need p (.leaf v)) else none
        | some (.fork b v v')=>bif args.clean&&(v.clean&&v'.clean) then some (.node b (.leaf v) (.leaf v')) else none
        | none=>none
      | none=>none
    | _=>none
  | _=>none
def Ub (E:Env) (ρ:Operand->V) (h:Nat->Blk) (f:Operand) (c:Call):Option (Tree V):=
  match callee (ρ f) (.ofList (c.args.toList.map ρ)) with
  | some (g,args)=>bif args.clean then none else bif (freeze h args).clean then match E.Γ g (freeze h args) with
    | some (.sure v)=>bif v.clean&&v.YG then some (Uk (KV h args) (.leaf v)) else none
    | some (.where_ p v)=>bif v.clean&&v.YG then some (Uk (KV h args) (.need p (.leaf v))) else none
    | some (.fork _ _ _)=>none
    | none=>none
    else none
  | none=>none
def newVar (h:PT Blk) (n:Nat) (cs:V):V×PT Blk×Nat:=(.ptr true n 0 0 0,h.set n (.var cs),n + 1)
def U6 (blk:Blk) (st:Bool) (es i o z:Nat) (v:V):Tree Blk:=
  match blk with
  | .var cs=>bif st&&Nat.ble (i * es + o + z) cs.len then .leaf (.var (cs.splice (i * es + o) v.cells)) else .stuck
  | .arr es' n get=>bif Nat.beq es es'&&(Nat.ble (o + z) es&&v.clean) then
      atIdx st i n (.leaf (.arr es n fun j=>bif Nat.beq j i then (get i).splice o v.cells else get j))
    else .stuck
  | _=>.stuck
def GA (P:Program) (g:Nat->Blk) (h:PT Blk) (t:TypeId) (x v:V):Tree (PT Blk):=
  match ZB P t with
  | some z=>bif Nat.beq v.cells.len z&&(v.cells.Xp&&v.solid) then
      match x with
      | .ptr st b es i o=>(U6 (look g h b) st es i o z v).bind fun blk=>.leaf (h.set b blk)
      | _=>.stuck
    else .stuck
  | none=>.stuck
def Uq (h:Nat->Blk) (z:Nat) (x:V):Option (Bool×Nat×(Nat->V)):=
  match x with
  | .Zz=>some (true,0,fun _=>.nil)
  | .esl _ _=>some (true,0,fun _=>.nil)
  | .rsl st es n get=>bif Nat.beq z es then some (st,n,get) else none
  | .osl st b es i n=>bif Nat.beq z es then match h b with
      | .var cs=>bif st&&Nat.ble ((i + n) * z) cs.len then some (true,n,fun j=>(cs.drop ((i + j) * z)).take z) else none
      | .arr es' k get=>bif Nat.beq z es'&&(st&&Nat.ble (i + n) k) then some (true,n,fun j=>get (i + j)) else none
      | _=>none
    else none
  | _=>none
def rowsOf (h:Nat->Blk) (z:Nat) (x:V):Option (Bool×Nat×(Nat->V)):=Uq h z x.Xo
def XA (h:Nat->Blk) (z:Nat) (x:V):Option (Bool×Nat×(Nat->V)×Prop×Option Nat):=
  match x with
  | .Zz=>some (true,0,(fun _=>.nil),True,none)
  | .esl _ _=>some (true,0,(fun _=>.nil),True,none)
  | .osl st b es i n=>bif Nat.beq z es&&Nat.beq i 0 then match h b with
      | .var cs=>bif st&&Nat.ble (n * z) cs.len then some (true,n,(fun j=>(cs.drop (j * z)).take z),True,some b) else none
      | .arr es' k get=>bif Nat.beq z es' then match st with
          | true=>bif Nat.ble n k then some (true,n,get,True,some b) else none
          | false=>some (false,n,get,n<=k,some b)
        else none
      | _=>none
    else none
  | _=>none
def Xx (get:Nat->V) (n:Nat):V:=Nat.rec .nil (fun j r=>r.app (get j)) n
def GN (old:Nat->V) (k:Nat) (new:Nat->V) (m:Nat):Nat->V:=Nat.rec old (fun q acc j=>bif Nat.beq j (k + q) then new q else acc j) m
def KI (P:Program) (t:TypeId):Option Nat:=
  match P.info? t with
  | some i=>some i.bytes
  | none=>none
def Jh (old:Nat->V) (k:Nat) (new:Nat->V):Nat->V:=bif Nat.beq k 0 then new else fun j=>bif Nat.blt j k then old j else new (j - k)
def fits (k by_:Nat):Prop:=k * by_<=140737488355328/\k<=9223372036854775807
def Qb (k by_:Nat):Bool:=Nat.ble (k * by_) 140737488355328&&Nat.ble k 9223372036854775807
def Jl (h:PT Blk) (b:Option Nat):PT Blk:=
  match b with
  | some b=>h.set b .any
  | none=>h
def Ut (blk:Blk) (z i:Nat) (st:Bool) (m:Nat) (new:Nat->V):Tree Blk:=
  match blk with
  | .var cs=>bif st&&(Nat.ble ((i + m) * z) cs.len&&XB m (fun j=>(new j).Xp&&Nat.beq (new j).len z)) then .leaf (.var (cs.splice (i * z) (Xx new m))) else .stuck
  | .arr es k get=>bif Nat.beq z es then .need (i + m<=k/\∀ j,j < m->(new j).Xp = true/\(new j).clean = true) (.leaf (.arr es k fun j=>bif Nat.ble i j&&Nat.blt j (i + m) then new (j - i) else get j)) else .stuck
  | _=>.stuck
def ZdB {α:Type} (st:Bool) (a b:Nat) (T:Tree α):Tree α:=
  match st with
  | true=>bif Nat.ble a b then T else .stuck
  | false=>.need (a<=b) T
def ZeY (P:Program) (g:Nat->Blk) (h:PT Blk) (n:Nat) (e:TypeId) (s x:V):Tree (V×PT Blk×Nat):=
  match ZB P e with
  | some z=>bif Nat.blt 0 z then match s with
    | .osp st b es i k c=>bif Nat.beq z es then match rowsOf (look g h) z x with
        | some (st',m,new)=>ZdB (st&&st') (k + m) c ((Ut (look g h b) z (i + k) (st&&st') m new).bind fun blk=>.leaf (.osp (st&&st') b es i (k + m) c,h.set b blk,n))
        | none=>.stuck
      else .stuck
    | _=>.stuck
    else .stuck
  | none=>.stuck
def Zfz (P:Program) (g:Nat->Blk) (h:PT Blk) (n:Nat) (ts:List TypeId) (args:V):Tree (V×PT Blk×Nat):=
  match ts with
  | t :: _=>match P.underlying t with
    | some (.slice e)=>match ZB P e,Xc P e with
      | some z,some zero=>bif Nat.beq zero.len z&&Nat.blt 0 z then match args with
        | .cons s _=>match s.Xo with
          | .osl st b es i k=>bif Nat.beq z es then (Ut (look g h b) z i st k fun _=>zero).bind fun blk=>.leaf (.tup .nil,h.set b blk,n) else .stuck
          | .Zz=>.leaf (.tup .nil,h,n)
          | _=>.stuck
        | _=>.stuck
        else .stuck
      | _,_=>.stuck
    | _=>.stuck
  | _=>.stuck
def evCopy (P:Program) (g:Nat->Blk) (h:PT Blk) (n:Nat) (ts:List TypeId) (args:V):Tree (V×PT Blk×Nat):=
  match ts with
  | t :: _=>match P.underlying t with
    | some (.slice e)=>match ZB P e with
      | some z=>bif Nat.blt 0 z then match args with
        | .cons d (.cons x _)=>match d.Xo with
          | .osl st b es i k=>bif Nat.beq z es then match rowsOf (look g h) z x with
              | some (st',m,new)=>ZdB (st&&st') m k ((Ut (look g h b) z i (st&&st') m new).bind fun blk=>.leaf (mkInt (st&&st') .i64 m,h.set b blk,n))
              | none=>.stuck
            else .stuck
          | .esl _ _=>match rowsOf (look g h) z x with
            | some _=>.leaf (.int true .i64 0,h,n)
            | none=>.stuck
          | .Zz=>match rowsOf (look g h) z x with
            | some _=>.leaf (.int true .i64 0,h,n)
            | none=>.stuck
          | _=>.stuck
        | _=>.stuck
        else .stuck
      | none=>.stuck
    | _=>.stuck
  | _=>.stuck
def V5 (n z k:Nat):V:=bif Nat.beq k 0 then .esl true z else .osl true n z 0 k
def Zfl (P:Program) (h:PT Blk) (n:Nat) (t:TypeId) (len cap:V):Tree (V×PT Blk×Nat):=
  match P.underlying t with
  | some (.slice e)=>match ZB P e,Xc P e,KI P e with
    | some z,some zero,some by_=>bif Nat.beq zero.len z&&Nat.blt 0 z then match len with
      | .int st _ j=>match cap with
        | .int st' _ j'=>match st&&st' with
          | true=>match j with
            | .ofNat k=>bif decide (j = j')&&Qb k by_ then .leaf (V5 n z k,h.set n (.var (Xx (fun _=>zero) k)),n + 1) else
              match j' with
              | .ofNat c=>bif Nat.blt k c&&Qb c by_ then .leaf (.osp true n z 0 k c,h.set n (.var (Xx (fun _=>zero) c)),n + 1) else .stuck
              | _=>.stuck
            | _=>.stuck
          | false=>.need (0<=j/\j = j'/\fits j.toNat by_) (.leaf (.osl false n z 0 j.toNat,h.set n (.arr z j.toNat fun _=>zero),n + 1))
        | _=>.stuck
      | _=>.stuck
      else .stuck
    | _,_,_=>.stuck
  | _=>.stuck
def UW (P:Program) (t:TypeId) (len cap:V):Option (Nat×Nat×V):=
  match P.underlying t with
  | some (.slice e)=>match ZB P e,Xc P e,KI P e with
    | some z,some zero,some by_=>bif Nat.beq zero.len z&&Nat.blt 0 z then match len with
      | .int true _ (.ofNat k)=>match cap with
        | .int true _ (.ofNat k')=>bif Nat.beq k k'&&Qb k by_ then some (z,k,Xx (fun _=>zero) k) else none
        | _=>none
      | _=>none
      else none
    | _,_,_=>none
  | _=>none
def Gf (h:Nat->Blk) (z:Nat) (s:V) (old:Nat->V) (k:Nat):V:=
  match s with
  | .osl _ b _ _ _=>match h b with
    | .var cs=>bif Nat.ble (k * z) cs.len then cs.take (k * z) else Xx old k
    | _=>Xx old k
  | _=>Xx old k
def Zed (P:Program) (g:Nat->Blk) (h:PT Blk) (n:Nat) (ts:List TypeId) (args:V):Tree (V×PT Blk×Nat):=
  match ts with
  | [t,t']=>bif Nat.beq t t' then match P.underlying t with
    | some (.slice e)=>match ZB P e,Xc P e,KI P e with
      | some z,some zero,some by_=>bif Nat.beq zero.len z&&Nat.blt 0 z then match args with
        | .cons s (.cons x .nil)=>match XA (look g h) z s,rowsOf (look g h) z x with
          | some (st,k,old,pre,b),some (st',m,new)=>
            match st' with
            | true=>bif Nat.beq m 0 then .leaf (s,h,n) else
              bif XB m (fun j=>(new j).Xp&&Nat.beq (new j).len z) then match st with
              | true=>bif Qb (k + m) by_ then .leaf (.osl true n z 0 (k + m),(Jl h b).set n (.var ((Gf (look g h) z s old k).app (Xx new m))),n + 1) else .stuck
              | false=>bif XB m (fun j=>(new j).clean) then .need (pre/\fits (k + m) by_) (.leaf (.osl false n z 0 (k + m),(Jl h b).set n (.arr z (k + m) (GN old k new m)),n + 1)) else .stuck
              else .stuck
            | false=>match b with
              | none=>.need (pre/\fits m by_/\∀ j,j < m->(new j).Xp = true/\(new j).clean = true) (.leaf (.osl false n z 0 m,h.set n (.arr z m new),n + 1))
              | some b=>bif !st || XB k (fun j=>(old j).clean) then .need (pre/\fits (k + m) by_/\∀ j,j < m->(new j).Xp = true/\(new j).clean = true) (.leaf (.osl false n z 0 (k + m),(h.set b .any).set n (.arr z (k + m) (Jh old k new)),n + 1)) else .stuck
          | _,_=>.stuck
        | _=>.stuck
        else .stuck
      | _,_,_=>.stuck
    | _=>.stuck
    else .stuck
  | _=>.stuck
def ZeW (P:Program) (h:PT Blk) (n:Nat) (ts:List TypeId) (j:Nat):Tree (V×PT Blk×Nat):=
  match ts with
  | [t,t']=>match P.underlying t' with
    | some (.int _)=>match P.underlying t with
      | some (.slice e)=>match ZB P e,Xc P e,KI P e with
        | some z,some zero,some by_=>bif Nat.beq zero.len z&&(Nat.blt 0 z&&(Nat.blt 0 j&&Qb j by_)) then .leaf (.osl true n z 0 j,h.set n (.var (Xx (fun _=>zero) j)),n + 1) else .stuck
        | _,_,_=>.stuck
      | _=>.stuck
    | _=>.stuck
  | _=>.stuck
def Zet (P:Program) (g:Nat->Blk) (h:PT Blk) (n:Nat) (ts:List TypeId) (args:V):Tree (V×PT Blk×Nat):=
  match args with
  | .cons (.osp st b es i k c) (.cons x .nil)=>match ts with
    | [t,t']=>bif Nat.beq t t' then match P.underlying t with
      | some (.slice e)=>ZeY P g h n e (.osp st b es i k c) x
      | _=>.stuck
      else .stuck
    | _=>.stuck
  | .cons .Zz (.cons (.int true _ (.ofNat j)) .nil)=>ZeW P h n ts j
  | _=>Zed P g h n ts args
abbrev YL:=(Nat->Blk)->FuncId ⊕ Nat->V->PT Blk->Nat->Tree (V×PT Blk×Nat)
def Km (f:V) (args:V):Option ((FuncId ⊕ Nat)×V):=
  match f with
  | .yld b=>some (.inr b,args)
  | f=>match callee f args with
    | some (g,out)=>some (.inl g,out)
    | none=>none
def YR (E:Env) (call:YL) {B:Base} (s:St B) (o:Op):Tree (V×PT Blk×Nat):=
  match evQ E (Zg s) s.blk o with
  | some T=>T.bind fun v=>.leaf (v,s.h,s.n)
  | none=>match o with
    | .alloc t=>match Xc E.P t with
      | some cs=>.leaf (newVar s.h s.n cs)
      | none=>.stuck
    | .box _ x=>bif (Zg s x).solid then .leaf (newVar s.h s.n (Zg s x).cells) else .stuck
    | .buildSlice t len parts=>match KN E.P t len (parts.toList.map fun p=>(p.1,Zg s p.2)) with
      | some (z,cs)=>.leaf (V5 s.n z len,s.h.set s.n (.var cs),s.n + 1)
      | none=>.stuck
    | .store t a x=>(GA E.P B.h s.h t (Zg s a) (Zg s x)).bind fun h=>.leaf (.undef,h,s.n)
    | .call c=>match c.callee with
      | .value f=>match Ub E (Zg s) s.blk f c with
        | some T=>T.bind fun v=>.leaf (v,s.h,s.n)
        | none=>match Km (Zg s f) (.ofList (c.args.toList.map (Zg s))) with
          | some (g,args)=>call B.h g args s.h s.n
          | none=>.stuck
      | .builtin b=>match b with
        | .append=>Zet E.P B.h s.h s.n c.argTypes.toList (.ofList (c.args.toList.map (Zg s)))
        | .clear=>Zfz E.P B.h s.h s.n c.argTypes.toList (.ofList (c.args.toList.map (Zg s)))
        | .copy=>evCopy E.P B.h s.h s.n c.argTypes.toList (.ofList (c.args.toList.map (Zg s)))
        | .delete=>match c.argTypes.toList with
          | t :: _=>match c.args.toList with
            | [m,k]=>match XM E.P s.blk t (Zg s m) (Zg s k) (false,.junk) with
              | some (b,blk)=>.leaf (.tup .nil,s.h.set b blk,s.n)
              | none=>.stuck
            | _=>.stuck
          | []=>.stuck
        | _=>.stuck
      | _=>.stuck
    | .makeMap t r=>match Vk E.P t (r.map (Zg s)) with
      | some blk=>.leaf (.mp s.n,s.h.set s.n blk,s.n + 1)
      | none=>.stuck
    | .makeSlice t len cap=>Zfl E.P s.h s.n t (Zg s len) (Zg s cap)
    | .range t x=>match Zck E.P s.blk t (Zg s x) with
      | some blk=>.leaf (.ptr true s.n 0 0 0,s.h.set s.n blk,s.n + 1)
      | none=>.stuck
    | .entry it=>(Ze7 s.blk (Zg s it)).bind fun v=>.leaf (v,s.h,s.n)
    | .next it str=>(evNext s.blk (Zg s it) str).bind fun r=>match r.2 with
      | some (b,blk)=>.leaf (r.1,s.h.set b blk,s.n)
      | none=>.leaf (r.1,s.h,s.n)
    | .mapUpdate t m k x=>match XM E.P s.blk t (Zg s m) (Zg s k) (true,Zg s x) with
      | some (b,blk)=>.leaf (.undef,s.h.set b blk,s.n)
      | none=>.stuck
    | .insert t m k x=>match XM E.P s.blk t (Zg s m) (Zg s k) (true,Zg s x) with
      | some (b,blk)=>.leaf (.undef,s.h.set b blk,s.n)
      | none=>.stuck
    | _=>.stuck
inductive Guard where
  | yes | no | bad
  | dyn (d:Nat) (b:Bool) (want:Bool)
def guardOf (ops:Array Oper) (val:Nat->V) (o:Oper):Guard:=
  match o.guard with
  | none=>.yes
  | some (j,want)=>match ops[j]? with
    | some p=>match p.dst with
      | some d=>match val d with
        | .bool true b=>match b,want with
          | true,true=>.yes
          | false,false=>.yes
          | _,_=>.no
        | .bool false b=>.dyn d b want
        | .undef=>.no
        | _=>.bad
      | none=>.no
    | none=>.no
def St.know {B:Base} (s:St B) (d:Nat) (b:Bool):St B:={ s with t:=s.t.set d (.bool true b) }
def QH (E:Env) (call:YL) (ops:Array Oper) {B:Base}:List Oper->St B->Tree (St B)
  | [],s=>.leaf s
  | o :: rest,s=>
    let go (s:St B):Tree (St B):=(YR E call s o.op).bind fun r=>QH E call ops rest ({ s with h:=r.2.1,n:=r.2.2 }.put o.dst r.1)
    match guardOf ops s.tmp o with
    | .bad=>.stuck
    | .yes=>go s
    | .no=>QH E call ops rest (s.put o.dst .undef)
    | .dyn d b want=>match want with
      | true=>.node b (go (s.know d true)) (QH E call ops rest ((s.know d false).put o.dst .undef))
      | false=>.node b (QH E call ops rest ((s.know d true).put o.dst .undef)) (go (s.know d false))
def YW (N:Nat) (o:Oper):Bool:=
  match o.dst with
  | some d=>Nat.blt d N
  | none=>true
universe u
def forceList {β:Type u}:List Nat->(List Nat->β)->β
  | [],f=>f []
  | x :: l,f=>Kh x fun x=>forceList l fun r=>f (x :: r)
theorem ZgO {β:Type u} (l:List Nat):∀ f:List Nat->β,forceList l f = f l:=by
  induction l with
  | nil=>intro f; rfl
  | cons x l ih=>intro f; simp only [forceList,Gy,ih]
def looks (ops:Array Oper) (o:Oper):List Tmp:=
  (o.op.operands.toList.filterMap fun | .tmp t=>some t | _=>none) ++
  (match o.guard with
   | some (g,_)=>((ops[g]?).bind (·.dst)).toList
   | none=>[])
def tied (ops:Array Oper) (x y:Oper):Bool:=
  (match x.dst with
   | some d=>(looks ops y).contains d || y.dst==some d
   | none=>false) ||
  (match y.dst with
   | some d=>(looks ops x).contains d
   | none=>false)
def bfOf (after:Array Edge) (acc:List Nat):Nat:=
  after.toList.foldl (fun s e=>if Region.binds .any e then s ||| 2 ^ e.on ||| acc.getD e.on 0 else s) 0
def bfs:List Oper->List Nat->List Nat
  | [],acc=>acc
  | o :: rest,acc=>Kh (bfOf o.after acc) fun x=>bfs rest (acc ++ [x])
def ZcT:List Oper->Nat->Bool
  | [],_=>true
  | o :: rest,j=>o.after.toList.all (fun e=>!Region.binds .any e || Nat.blt e.on j)&&ZcT rest (j + 1)
def tiesOk (ops:Array Oper) (bf:List Nat):Bool:=
  (List.range ops.size).all fun j=>(List.range j).all fun i=>
    match ops[i]?,ops[j]? with
    | some x,some y=>!(tied ops x y) || (bf.getD j 0).testBit i
    | _,_=>false
def VW (ops:Array Oper) (bf:List Nat):Bool:=ZcT ops.toList 0&&tiesOk ops bf
def refine (kn:List (Nat×Bool)) (t:Nat) (v:V):V:=
  match kn with
  | []=>v
  | (d,c) :: r=>bif Nat.beq d t then .bool true c else refine r t v
section
variable {B:Base}
def Zx (s:St B) (kn:List (Nat×Bool)):Operand->V
  | .tmp t=>refine kn t (s.tmp t)
  | x=>Zg s x
structure Ft where
  m:Option (Bool×Option Nat)
  l:Option Nat
  q:Bool:=false
  w:Nat->Bool:=fun _=>true
abbrev W9:Ft:={ m:=none,l:=none }
def Vs (ft:Option (Bool×Option Nat)) (h:Nat->Blk):Nat->Blk:=
  match ft with
  | some _=>h
  | none=>fun _=>.any
def Qh (nb sz b:Nat):Bool:=Nat.ble nb b&&Nat.blt b (nb + sz)
def seen (nb sz:Nat) (h:Nat->Blk):Nat->Blk:=fun b=>bif Qh nb sz b then .any else h b
def foot (s:St B) (nm:Nat) (o:Op):Ft:=
  match o with
  | .load _ a=>match Zg s a with
    | .ptr _ b _ _ _=>{ m:=some (false,some b),l:=none }
    | _=>W9
  | .store _ a _=>match Zg s a with
    | .ptr _ b _ _ _=>{ m:=some (true,some b),l:=none }
    | _=>W9
  | .alloc _=>{ m:=none,l:=some nm }
  | .box _ _=>{ m:=none,l:=some nm }
  | .buildSlice _ _ _=>{ m:=none,l:=some nm }
  | .makeSlice _ _ _=>{ m:=none,l:=some nm }
  | .makeMap _ _=>{ m:=none,l:=some nm }
  | .lookup _ x _ _=>match Zg s x with
    | .mp b=>{ m:=some (false,some b),l:=none }
    | _=>W9
  | .mapUpdate _ x _ _=>match Zg s x with
    | .mp b=>{ m:=some (true,some b),l:=none }
    | _=>W9
  | .insert _ x _ _=>match Zg s x with
    | .mp b=>{ m:=some (true,some b),l:=none }
    | _=>W9
  | .convert _ _ x=>match Zg s x with
    | .osl _ b _ _ _=>{ m:=some (false,some b),l:=none }
    | _=>W9
  | .slice _ x _ _ _=>match Zg s x with
    | .ptr _ b _ _ _=>{ m:=some (false,some b),l:=none }
    | _=>W9
  | .call c=>match c.callee with
    | .value f=>{ m:=(match callee (Zg s f) (.ofList (c.args.toList.map (Zg s))) with
      | some (_,args)=>bif args.clean then none else some (false,none)
      | none=>none),l:=some nm }
    | _=>W9
  | _=>W9
def Qv (o:PT Blk):Ft:={ m:=some (true,none),l:=none,w:=fun b=>(o.get b).isSome }
def Kz:Ft:={ m:=some (false,none),l:=none,q:=true }
def Vb (nb sz:Nat) (f g:Ft):Bool:=
  match f.m,g.m with
  | some (w,some b),some (w',some b')=>Nat.beq b b'&&(w || w')
  | some (w,none),some (w',some b)=>bif w then w' || f.w b else w'&&(f.q || !Qh nb sz b)
  | some (w,some b),some (w',none)=>bif w' then w || g.w b else w&&(g.q || !Qh nb sz b)
  | some (w,none),some (w',none)=>w || w'
  | _,_=>false
def Gi (l:Option Nat) (g:Ft):Bool:=
  match l,g.m with
  | some b,some (_,some b')=>Nat.beq b b'
  | some _,some (w,none)=>w || g.q
  | _,_=>false
def ZbU:Option Nat->Option Nat->Bool
  | some b,some b'=>Nat.beq b b'
  | _,_=>false
def clash (nb sz:Nat) (f g:Ft):Bool:=Vb nb sz f g || (Gi f.l g || (Gi g.l f || ZbU f.l g.l))
def St.wr (s:St B):Option (Nat×Blk)->St B
  | some (b,blk)=>{ s with h:=s.h.set b blk }
  | none=>s
def Zb6 (P:Program) (s:St B) (t:TypeId) (x v:V):Tree (V×Option (Nat×Blk)):=
  match ZB P t with
  | some z=>bif Nat.beq v.cells.len z&&(v.cells.Xp&&v.solid) then
      match x with
      | .ptr st b es i o=>(U6 (s.blk b) st es i o z v).bind fun blk=>.leaf (.undef,some (b,blk))
      | _=>.stuck
    else .stuck
  | none=>.stuck
def Xq (s:St B) (nm:Nat) (blk:Blk) (v:V):Tree (V×Option (Nat×Blk)):=
  match s.blk nm with
  | .none=>.leaf (v,some (nm,blk))
  | _=>.stuck
def Ua (s:St B) (nm:Nat) (rl:Bool) (r:V×PT Blk×Nat):Tree (V×Option (Nat×Blk)):=
  bif r.1.clean&&(!rl || r.1.YG) then .leaf (r.1,none) else match r.1 with
  | .osl st b es i n=>match look (fun _=>.none) r.2.1 b with
    | .var cs=>bif cs.clean&&(!rl || cs.YG) then Xq s nm (.var cs) (.osl st nm es i n) else .stuck
    | .arr es' k get=>match rl with
      | false=>Xq s nm (.arr es' k get) (.osl st nm es i n)
      | true=>match st with
        | true=>bif XB k (fun j=>(get j).YG) then Xq s nm (.arr es' k get) (.osl st nm es i n) else .stuck
        | false=>.need (∀ j,j < k->(get j).YG = true) (Xq s nm (.arr es' k get) (.osl st nm es i n))
    | _=>.stuck
  | _=>.stuck
def layR (s:St B) (nm:Nat) (rl:Bool) (r:V×PT Blk×Nat):Tree (V×Option (Nat×Blk)):=
  match r.1 with
  | .agg (.cons v .nil)=>(Ua s nm rl (v,r.2.1,r.2.2)).bind fun p=>.leaf (.agg (.cons p.1 .nil),p.2)
  | _=>Ua s nm rl r
def Kj (E:Env) (call:YL) (s:St B) (nm:Nat) (g:FuncId) (fa:V):Tree (V×Option (Nat×Blk)):=
  match E.Γ g fa with
  | some (.sure v)=>bif v.clean&&v.YG then .leaf (v,none) else .stuck
  | some (.where_ p v)=>bif v.clean&&v.YG then .need p (.leaf (v,none)) else .stuck
  | some (.fork _ _ _)=>.stuck
  | none=>(call (fun _=>.none) (.inl g) fa .nil 0).bind (layR s nm true)
def evVal (E:Env) (call:YL) (s:St B) (nm:Nat) (h:Nat->Blk) (ρ:Operand->V) (o:Op):Tree (V×Option (Nat×Blk)):=
  match o with
  | .call c=>match c.callee with
    | .value f=>match callee (ρ f) (.ofList (c.args.toList.map ρ)) with
      | some (g,args)=>bif args.clean then (call (fun _=>.none) (.inl g) args .nil 0).bind (layR s nm false)
        else bif (freeze h args).clean then Uk (KV h args) (Kj E call s nm g (freeze h args))
        else bif (fz h 6 args).clean then Kj E call s nm g (fz h 6 args)
        else .stuck
      | none=>.stuck
    | _=>.stuck
  | _=>.stuck
def evDQ (E:Env) (call:YL) (s:St B) (nb sz nm:Nat) (kn:List (Nat×Bool)) (o:Op):Tree (V×Option (Nat×Blk)):=
  match evQ E (Zx s kn) s.blk o with
  | some T=>T.bind fun v=>.leaf (v,none)
  | none=>evVal E call s nm (Vs (foot s nm o).m (seen nb sz s.blk)) (Zx s kn) o
def evD (E:Env) (call:YL) (s:St B) (nb sz nm:Nat) (kn:List (Nat×Bool)) (o:Op):Tree (V×Option (Nat×Blk)):=
  match o with
  | .store t a x=>Zb6 E.P s t (Zg s a) (Zx s kn x)
  | .load t a=>(JX E.P s.blk t (Zg s a)).bind fun v=>.leaf (v,none)
  | .alloc t=>match Xc E.P t with
    | some cs=>Xq s nm (.var cs) (.ptr true nm 0 0 0)
    | none=>.stuck
  | .box _ x=>bif (Zx s kn x).solid then Xq s nm (.var (Zx s kn x).cells) (.ptr true nm 0 0 0) else .stuck
  | .buildSlice t len parts=>match KN E.P t len (parts.toList.map fun p=>(p.1,Zx s kn p.2)) with
    | some (z,cs)=>Xq s nm (.var cs) (V5 nm z len)
    | none=>.stuck
  | .makeSlice t len cap=>match UW E.P t (Zx s kn len) (Zx s kn cap) with
    | some (z,k,cs)=>Xq s nm (.var cs) (V5 nm z k)
    | none=>.stuck
  | .makeMap t r=>match Vk E.P t (r.map (Zx s kn)) with
    | some blk=>Xq s nm blk (.mp nm)
    | none=>.stuck
  | .mapUpdate t m k x=>match XM E.P s.blk t (Zg s m) (Zx s kn k) (true,Zx s kn x) with
    | some (b,blk)=>.leaf (.undef,some (b,blk))
    | none=>.stuck
  | .insert t m k x=>match XM E.P s.blk t (Zg s m) (Zx s kn k) (true,Zx s kn x) with
    | some (b,blk)=>.leaf (.undef,some (b,blk))
    | none=>.stuck
  | o=>evDQ E call s nb sz nm kn o
def WG (ops:Array Oper) (o:Oper) (kn:List (Nat×Bool)):List (Nat×Bool):=kn.filter fun p=>(looks ops o).contains p.1
def Wn (o:Oper) (kn:List (Nat×Bool)):List (Nat×Bool):=
  match o.dst with
  | some d=>kn.filter fun p=>!Nat.beq p.1 d
  | none=>kn
def memOp (o:Op):Bool:=
  match o with
  | .store .. | .alloc _ | .box .. | .buildSlice .. | .makeSlice .. | .makeMap .. | .mapUpdate .. | .insert ..=>true
  | .call c=>match c.callee with
    | .builtin b=>match b with
      | .append | .delete | .copy | .clear=>true
      | _=>false
    | _=>true
  | _=>false
def J6 (o:Op):Bool:=
  match o with
  | .call c=>match c.callee with
    | .builtin b=>match b with
      | .append | .delete | .copy | .clear=>true
      | _=>false
    | .value _=>true
    | _=>false
  | _=>false
def ZcW (o:Oper):Bool:=
  match o.op with
  | .alloc _=>o.guard.isNone&&o.dst.isSome
  | _=>false
def Zin (ops:Array Oper) (bf:List Nat) (i j:Nat):Bool:=(List.range ops.size).all fun e=>!(bf.getD e 0).testBit j || (bf.getD e 0).testBit i
def bigAt (ops:Array Oper) (bf:List Nat) (j:Nat) (o:Oper):Bool:=
  J6 o.op&&(List.range ops.size).all fun i=>Nat.beq i j || (match ops[i]? with
    | some x=>!memOp x.op || ((bf.getD j 0).testBit i || ((bf.getD i 0).testBit j || (ZcW x&&(Nat.blt j i&&Zin ops bf j i))))
    | none=>true)
def isBigF (f:Ft):Bool:=
  match f.m with
  | some (w,none)=>w || f.q
  | _=>false
def XG (ops:Array Oper) (bf:List Nat) (i j:Nat) (f:Ft):Bool:=
  Nat.blt i j&&(isBigF f&&(match ops[j]? with
    | some o=>ZcW o&&Zin ops bf i j
    | none=>false))
def JZ (ops:Array Oper) (bf:List Nat) (nb i j:Nat) (f g:Ft):Bool:=clash nb ops.size f g&&!XG ops bf i j f
def V.YX (n:Nat):V->Bool
  | .cons h t=>h.YX n&&t.YX n
  | .agg cs=>cs.YX n
  | .tup vs=>vs.YX n
  | .ptr _ b _ _ _=>Nat.blt b n
  | .osl _ b _ _ _=>Nat.blt b n
  | .osp _ b _ _ _ _=>Nat.blt b n
  | .fn _ a b=>a.YX n&&b.YX n
  | .yld b=>Nat.blt b n
  | .mp b=>Nat.blt b n
  | _=>true
def UL (n:Nat) (r:V×PT Blk×Nat):Bool:=r.2.1.Qc (fun k=>Nat.ble n k) 1 0&&r.1.YX n
def ZcP (s:St B) (o:Op):Bool:=
  match o with
  | .call c=>match c.callee with
    | .value f=>match callee (Zg s f) (.ofList (c.args.toList.map (Zg s))) with
      | some (_,args)=>args.clean
      | none=>false
    | _=>false
  | _=>false
def Tree.JH {α:Type}:Tree α->Bool
  | .stuck=>true
  | .need _ t=>t.JH
  | .node _ t f=>t.JH&&f.JH
  | _=>false
def YE (ops:Array Oper) (bf:List Nat) (nb j:Nat) (fps:List (Nat×Ft)) (f:Ft):Bool:=fps.all fun p=>!JZ ops bf nb p.1 j p.2 f || (bf.getD j 0).testBit p.1
def Xe (E:Env) (call:YL) (ops:Array Oper) (bf:List Nat) (nb:Nat) :
    List Oper->Nat->List (Nat×Ft)->List (Nat×Bool)->St B->Tree (St B)
  | [],_,_,_,s=>.leaf s
  | o :: rest,j,fps,kn,s=>
    let small (kn:List (Nat×Bool)):Tree (St B):=
      bif YE ops bf nb j fps (foot s (nb + j) o.op)&&((evD E call s nb ops.size (nb + j) (WG ops o kn) o.op).flat&&YW s.N o) then
        (evD E call s nb ops.size (nb + j) (WG ops o kn) o.op).bind fun r=>Xe E call ops bf nb rest (j + 1) ((j,foot s (nb + j) o.op) :: fps) (Wn o kn) ((s.wr r.2).put o.dst r.1)
      else .stuck
    let go (kn:List (Nat×Bool)):Tree (St B):=
      bif J6 o.op&&((!ZcP s o.op || (evD E call s nb ops.size (nb + j) (WG ops o kn) o.op).JH)&&(!(YR E call s.sub o.op).JH&&((YR E call s.sub o.op).flat&&YW s.N o))) then
        (YR E call s.sub o.op).bind fun r=>
          bif UL s.n r&&YE ops bf nb j fps Kz then Xe E call ops bf nb rest (j + 1) ((j,Kz) :: fps) (Wn o kn) (s.put o.dst r.1)
          else bif bigAt ops bf j o&&YE ops bf nb j fps (Qv r.2.1) then Xe E call ops bf nb rest (j + 1) ((j,Qv r.2.1) :: fps) (Wn o kn) (({ s with h:=s.h.over r.2.1,n:=r.2.2 }:St B).put o.dst r.1)
          else small kn
      else small kn
    let no (kn:List (Nat×Bool)):Tree (St B):=bif YW s.N o then Xe E call ops bf nb rest (j + 1) ((j,W9) :: fps) (Wn o kn) (s.put o.dst .undef) else .stuck
    match guardOf ops (fun t=>refine kn t (s.tmp t)) o with
    | .bad=>.stuck
    | .yes=>go kn
    | .no=>no kn
    | .dyn d b want=>match want with
      | true=>.node b (go ((d,true) :: kn)) (no ((d,false) :: kn))
      | false=>.node b (no ((d,true) :: kn)) (go ((d,false) :: kn))
def lays (o:Oper):Bool:=
  match o.op with
  | .alloc _ | .box _ _ | .buildSlice _ _ _ | .makeSlice _ _ _ | .makeMap _ _=>true
  | .call c=>match c.callee with
    | .builtin b=>match b with
      | .append=>true
      | _=>false
    | _=>true
  | _=>false
def ZeZ (h:PT Blk) (n k:Nat):PT Blk:=Nat.rec h (fun i r=>r.set (n + i) .none) k
def St.Kk (s:St B) (ops:Array Oper):St B:=
  bif ops.toList.any lays then { s with h:=ZeZ s.h s.n ops.size,n:=s.n + ops.size } else s
end
def mgV:V->V->Bool
  | .junk,_=>true
  | .undef,_=>true
  | x,.junk=>x.one
  | x,.undef=>x.one
  | .nil,.nil=>true
  | .cons h t,.cons h' t'=>(h.one&&mgV h h')&&mgV t t'
  | .int _ k _,.int _ k' _=>decide (k = k')
  | .bool _ _,.bool _ _=>true
  | .str _ _,.str _ _=>true
  | .agg cs,.agg cs'=>mgV cs cs'
  | .tup cs,.tup cs'=>mgV cs cs'
  | .ptr st bl es i o,.ptr st' bl' es' i' o'=>(st&&st')&&(Nat.beq bl bl'&&(Nat.beq es es'&&(Nat.beq i i'&&Nat.beq o o')))
  | .osl st bl es i n,.osl st' bl' es' i' n'=>(st&&st')&&(Nat.beq bl bl'&&(Nat.beq es es'&&(Nat.beq i i'&&Nat.beq n n')))
  | .nilptr,.nilptr=>true
  | .nilfn,.nilfn=>true
  | .nilmap,.nilmap=>true
  | .nilif,.nilif=>true
  | .nilif,.ifc _ _=>true
  | .ifc _ _,.nilif=>true
  | .ifc _ _,.ifc _ _=>true
  | .Zz,.Zz=>true
  | .Zz,.rsl _ _ _ _=>true
  | .rsl _ _ _ _,.Zz=>true
  | .rsl _ es _ _,.rsl _ es' _ _=>Nat.beq es es'
  | _,_=>false
def mgB (x y:Blk):Bool:=
  match x,y with
  | .var cs,.var cs'=>WY cs cs'&&mgV cs cs'
  | .Ze kd _ _ _,.Ze kd' _ _ _=>JJ kd kd'
  | .none,_=>true
  | _,.none=>true
  | .any,_=>true
  | _,.any=>true
  | _,_=>false
def Uf (b:Bool) (x y:Blk):Blk:=
  match x,y with
  | .var cs,.var cs'=>bif WY cs cs' then .var (Xn b cs cs') else .any
  | .none,.none=>.none
  | .Ze kd _ f _,.Ze kd' _ f' _=>bif JJ kd kd' then .Ze kd false (fun k=>(bif b then (f k).1 else (f' k).1,Kg b (f k).2 (f' k).2)) none else .any
  | _,_=>.any
def KO (h:PT Blk) (n k:Nat):PT Blk:=Nat.rec h (fun i r=>r.set (n + i) .any) k
section
variable {B:Base}
def Zcq (c:Bool) (s1 s2:St B):Option (St B):=
  let lo:=bif Nat.ble s1.n s2.n then s1.n else s2.n
  let hi:=bif Nat.ble s1.n s2.n then s2.n else s1.n
  bif (s1.t.Qc (fun k=>mgV (s1.tmp k) (s2.tmp k)) 1 0&&s2.t.Qc (fun k=>mgV (s1.tmp k) (s2.tmp k)) 1 0) &&
      ((s1.h.Qc (fun k=>Nat.ble lo k || mgB (s1.blk k) (s2.blk k)) 1 0&&s2.h.Qc (fun k=>Nat.ble lo k || mgB (s1.blk k) (s2.blk k)) 1 0)&&Nat.beq s1.N s2.N) then
    some { t:=s1.t.both (fun k=>Kg c (s1.tmp k) (s2.tmp k)) s2.t 1 0,
           h:=KO (s1.h.both (fun k=>Uf c (s1.blk k) (s2.blk k)) s2.h 1 0) lo (hi - lo),n:=hi,N:=s1.N }
  else none
abbrev QS (B:Base):=List (Bool×Ex×St B)
def Ex.key:Ex->Nat
  | .ret=>0
  | .exit id=>id + 1
  | .normal=>1000000000
def UN:Ex->Ex->Bool
  | .normal,.normal=>true
  | .ret,.ret=>true
  | .exit i,.exit j=>Nat.beq i j
  | _,_=>false
def comb (k:Nat):Bool->QS B->QS B->Option (QS B):=Nat.rec (fun _ _ _=>none) (fun _ ih c l1 l2=>
  match l1 with
  | []=>some (l2.map fun | (p,x)=>(bif c then false else p,x))
  | (p1,e1,s1) :: r1=>match l2 with
    | []=>some (((p1,e1,s1) :: r1).map fun | (p,x)=>(bif c then p else false,x))
    | (p2,e2,s2) :: r2=>
      bif UN e1 e2 then match Zcq c s1 s2 with
        | some s=>match ih c r1 r2 with
          | some r=>some ((bif c then p1 else p2,e1,s) :: r)
          | none=>none
        | none=>none
      else bif Nat.blt e1.key e2.key then match ih c r1 ((p2,e2,s2) :: r2) with
        | some r=>some ((bif c then p1 else false,e1,s1) :: r)
        | none=>none
      else match ih c ((p1,e1,s1) :: r1) r2 with
        | some r=>some ((bif c then false else p2,e2,s2) :: r)
        | none=>none) k
def ways:Tree (Ex×St B)->Option (QS B)
  | .leaf x=>some [(true,x)]
  | .node c t f=>match ways t with
    | some l1=>match ways f with
      | some l2=>comb (l1.length + l2.length + 1) c l1 l2
      | none=>none
    | none=>none
  | .need _ t=>ways t
  | _=>none
def VY:QS B->Tree (Ex×St B)
  | []=>.stuck
  | (p,x) :: r=>match r with
    | []=>.leaf x
    | _ :: _=>.node p (.leaf x) (VY r)
def needs {α:Type}:Tree α->Option Prop
  | .node b t f=>match needs t,needs f with
    | none,none=>none
    | some p,none=>some (b = true->p)
    | none,some q=>some (b = false->q)
    | some p,some q=>some ((b = true->p)/\(b = false->q))
  | .need p t=>match needs t with
    | none=>some p
    | some q=>some (p/\q)
  | .both t f=>match needs t,needs f with
    | none,none=>none
    | some p,none=>some p
    | none,some q=>some q
    | some p,some q=>some (p/\q)
  | _=>none
def Zc2 (T:Tree (Ex×St B)):Tree (Ex×St B):=
  match T with
  | .leaf x=>.leaf x
  | T=>match ways T with
    | some l=>match needs T with
      | none=>VY l
      | some p=>.need p (VY l)
    | none=>T
def St.Kt (s:St B) (s1:St s.bs):St B:={ t:=s.t.over s1.t,h:=s.h.over s1.h,n:=s1.n,N:=s1.N }
def eqV:V->V->Bool
  | .cons h t,y=>match y with | .cons h' t'=>eqV h h'&&eqV t t' | _=>false
  | .nil,y=>match y with | .nil=>true | _=>false
  | .int st k n,y=>match y with | .int st' k' n'=>bif st&&st' then decide (k = k')&&decide (n = n') else false | _=>false
  | .bool st b,y=>match y with | .bool st' b'=>bif st&&st' then b==b' else false | _=>false
  | .agg cs,y=>match y with | .agg cs'=>eqV cs cs' | _=>false
  | .tup cs,y=>match y with | .tup cs'=>eqV cs cs' | _=>false
  | .ptr st b es i o,y=>match y with | .ptr st' b' es' i' o'=>(st&&st')&&((Nat.beq b b'&&Nat.beq es es')&&(Nat.beq i i'&&Nat.beq o o')) | _=>false
  | .osl st b es i n,y=>match y with | .osl st' b' es' i' n'=>(st&&st')&&((Nat.beq b b'&&Nat.beq es es')&&(Nat.beq i i'&&Nat.beq n n')) | _=>false
  | .osp st b es i n c,y=>match y with | .osp st' b' es' i' n' c'=>(st&&st')&&((Nat.beq b b'&&Nat.beq es es')&&((Nat.beq i i'&&Nat.beq n n')&&Nat.beq c c')) | _=>false
  | .mp b,y=>match y with | .mp b'=>Nat.beq b b' | _=>false
  | .esl nn es,y=>match y with | .esl nn' es'=>(nn==nn')&&Nat.beq es es' | _=>false
  | .Zz,y=>match y with | .Zz=>true | _=>false
  | .nilptr,y=>match y with | .nilptr=>true | _=>false
  | .nilmap,y=>match y with | .nilmap=>true | _=>false
  | .nilfn,y=>match y with | .nilfn=>true | _=>false
  | .nilif,y=>match y with | .nilif=>true | _=>false
  | _,_=>false
def meetV (x y:V):V:=bif eqV x y then x else .junk
def VK (x y:Blk):Blk:=
  match x,y with
  | .var cs,.var cs'=>bif eqV cs cs' then .var cs else .any
  | .none,.none=>.none
  | _,_=>.any
def meetSt (s1 s2:St B):Option (St B):=
  let lo:=bif Nat.ble s1.n s2.n then s1.n else s2.n
  let hi:=bif Nat.ble s1.n s2.n then s2.n else s1.n
  bif (s1.t.Qc (fun _=>true) 1 0&&s2.t.Qc (fun _=>true) 1 0)&&((s1.h.Qc (fun _=>true) 1 0&&s2.h.Qc (fun _=>true) 1 0)&&Nat.beq s1.N s2.N) then
    some { t:=s1.t.both (fun k=>meetV (s1.tmp k) (s2.tmp k)) s2.t 1 0,
           h:=KO (s1.h.both (fun k=>VK (s1.blk k) (s2.blk k)) s2.h 1 0) lo (hi - lo),n:=hi,N:=s1.N }
  else none
def meetX (x y:Option (Ex×St B)):Option (Ex×St B):=
  match x with
  | some (e,s)=>match y with
    | some (e',s')=>bif UN e e' then match meetSt s s' with
        | some r=>some (e,r)
        | none=>none
      else none
    | none=>none
  | none=>none
def Vt:Tree (Ex×St B)->Option (Ex×St B)
  | .leaf x=>some x
  | .node _ t f=>meetX (Vt t) (Vt f)
  | .both t f=>meetX (Vt t) (Vt f)
  | .need _ t=>Vt t
  | _=>none
def Tree.Zb4 {α:Type}:Tree α->Bool
  | .node _ t f=>t.Zb4 || f.Zb4
  | .both _ _=>true
  | .need _ t=>t.Zb4
  | _=>false
def collapse (T:Tree (Ex×St B)):Tree (Ex×St B):=
  match T.Zb4 with
  | false=>T
  | true=>match Vt T with
    | some x=>match needs T with
      | none=>.leaf x
      | some p=>.need p (.leaf x)
    | none=>T
def Zax (s:St B) (f:St s.bs->Tree (Ex×St s.bs)):Tree (Ex×St B):=(collapse (Zc2 (f s.sub))).bind fun | (e,x)=>.leaf (e,s.Kt x)
def merged (s:St B) (f:St s.bs->Tree (Ex×St s.bs)):Tree (Ex×St B):=(Zc2 (f s.sub)).bind fun | (e,x)=>.leaf (e,s.Kt x)
end
def setArgs:V->Nat->PT V->PT V
  | .cons h t,i,T=>setArgs t (i + 1) (T.set i h)
  | _,_,T=>T
def Base.fn (hb:Nat->Blk):Base:=⟨fun _=>.junk,hb⟩
def enter (hb:Nat->Blk) (args:V) (ntmps:Nat) (h:PT Blk) (n:Nat):St (Base.fn hb):=
  { t:=setArgs args 0 .nil,h,n,N:=args.len + (ntmps - args.len) }
section
variable {B:Base}
def ZaU (P:Program) (s:St B):ResultVar->Tree V
  | .tmp t=>.leaf (s.tmp t)
  | .cell a t=>JX P s.blk t (s.tmp a)
def KC (P:Program) (s:St B):List ResultVar->Tree V
  | []=>.leaf .nil
  | r :: rest=>(ZaU P s r).bind fun v=>(KC P s rest).bind fun vs=>.leaf (.cons v vs)
def single:V->V
  | .cons v .nil=>v
  | vs=>.tup vs
def Qp:Code->Option Nat
  | .region id _ _=>some id
  | .seq a b=>match Qp a with
    | some i=>some i
    | none=>Qp b
  | .cond _ a b=>match Qp a with
    | some i=>some i
    | none=>Qp b
  | .block _ b=>Qp b
  | .loop b=>Qp b
  | .scope b=>Qp b
  | _=>none
def Yr:Code->List Code
  | .seq a b=>Yr a ++ Yr b
  | .cond _ a b=>Yr a ++ Yr b
  | .block _ b=>Yr b
  | .loop b=>b :: Yr b
  | .scope b=>Yr b
  | _=>[]
def Xd:Code->List Code
  | .seq a b=>Xd a ++ Xd b
  | .cond _ a b=>Xd a ++ Xd b
  | .block _ b=>Xd b
  | .loop b=>b :: Xd b
  | .scope b=>Xd b
  | .rangeFunc _ _ a b=>Xd a ++ Xd b
  | _=>[]
def XI (P:Program) (f:FuncId) (body:Code):Prop:=∃ fn c,P.funcs[f]? = some fn/\fn.body = some c/\body ∈ Xd c
def Wv (E:Env) (f:FuncId) (body:Code):Option ((B:Base)->St B->Tree (Ex×St B)):=
  match Qp body with
  | some i=>E.lp f i
  | none=>none
def St.Wh (s:St B) (c:Operand) (b:Bool):St B:=
  match c with
  | .tmp d=>s.know d b
  | _=>s
end
abbrev Wo:=FuncId->Code->(B:Base)->St B->Tree (Ex×St B)
def Zai:List Nat->V->PT V->PT V
  | p :: ps,.cons v r,t=>Zai ps r (t.set p v)
  | _,_,t=>t
def Ex.Vu:Ex->Bool
  | .normal=>true
  | _=>false
def GX (E:Env) (rec_:Wo) (hb:Nat->Blk) (b:Nat) (args:V) (h:PT Blk) (n:Nat):Tree (V×PT Blk×Nat):=
  match look hb h b with
  | .rng f ps asg bd row N st _=>
    Uk (bif (Yr asg ++ Yr bd).all fun c=>(Wv E f c).isNone then none else some (∀ c ∈ Yr asg ++ Yr bd,∀ g,Wv E f c = some g->XI E.P f c))
    (bif (Nat.beq st 0&&(Nat.beq args.len ps.length&&ps.all fun p=>Nat.blt p N))&&(Xa asg&&Xa bd) then
      (rec_ f asg ⟨row,hb⟩ { t:=Zai ps args .nil,h,n,N }).bind fun x=>match x.1 with
        | .normal=>match look hb x.2.h b with
          | .rng f' ps' asg' bd' row' N' st' pd'=>bif Nat.beq st' 0 then
              (rec_ f bd ⟨row,hb⟩ { x.2 with h:=x.2.h.set b (.rng f' ps' asg' bd' row' N' 1 pd') }).bind fun y=>match look hb y.2.h b with
                | .rng f2 ps2 asg2 bd2 QN N2 st2 _=>bif Nat.beq st2 1 then
                    .leaf (.bool true y.1.Vu,y.2.h.set b (.rng f2 ps2 asg2 bd2 QN N2 (bif y.1.Vu then 0 else 2) (some y.1)),y.2.n) else .stuck
                | _=>.stuck
            else .stuck
          | _=>.stuck
        | _=>.stuck
    else .stuck)
  | _=>.stuck
def V.names:V->List Nat
  | .cons h t=>h.names ++ t.names
  | .agg cs=>cs.names
  | .tup vs=>vs.names
  | .fn _ a b=>a.names ++ b.names
  | .ptr _ b _ _ _=>[b]
  | .osl _ b _ _ _=>[b]
  | .osp _ b _ _ _ _=>[b]
  | .mp b=>[b]
  | _=>[]
def V.rnm (f:Nat->Option Nat):V->V
  | .cons h t=>.cons (h.rnm f) (t.rnm f)
  | .agg cs=>.agg (cs.rnm f)
  | .tup vs=>.tup (vs.rnm f)
  | .fn g a b=>.fn g (a.rnm f) (b.rnm f)
  | .ptr st b es i o=>match f b with | some c=>.ptr st c es i o | none=>.junk
  | .osl st b es i n=>match f b with | some c=>.osl st c es i n | none=>.junk
  | .osp st b es i n k=>match f b with | some c=>.osp st c es i n k | none=>.junk
  | .mp b=>match f b with | some c=>.mp c | none=>.junk
  | .yld _=>.junk
  | v=>v
def Blk.rnm (f:Nat->Option Nat):Blk->Blk
  | .none=>.none
  | .var cs=>.var (cs.rnm f)
  | .arr es n get=>.arr es n get
  | .Ze kd st g ks=>.Ze kd st (fun k=>((g k).1,(g k).2.rnm f)) ks
  | _=>.any
def Blk.names:Blk->List Nat
  | .var cs=>cs.names
  | _=>[]
def Blk.isAny:Blk->Bool
  | .any=>true
  | _=>false
def idxOf (b:Nat):List Nat->Nat->Option Nat
  | [],_=>none
  | c :: l,i=>bif Nat.beq c b then some i else idxOf b l (i + 1)
def hasN (b:Nat):List Nat->Bool
  | []=>false
  | c :: l=>Nat.beq c b || hasN b l
def Zch (g:Nat->Blk) (n:Nat):List Nat->List Nat->List Nat
  | acc,[]=>acc
  | acc,b :: l=>Zch g n (bif hasN b acc || (!Nat.blt b n || (g b).isAny) then acc else acc ++ [b]) l
def reach (g:Nat->Blk) (n:Nat) (k:Nat):List Nat->Nat->List Nat:=Nat.rec (fun l _=>l) (fun _ ih l i=>
  match l[i]? with
  | some b=>ih (Zch g n l (g b).names) (i + 1)
  | none=>l) k
def KL:List Nat->Bool
  | []=>true
  | b :: l=>!hasN b l&&KL l
def backOf (l:List Nat) (n:Nat) (i:Nat):Option Nat:=bif Nat.blt i l.length then l[i]? else some (n + (i - l.length))
def setAt (f:Nat->Option Nat) (i:Nat) (b:Blk) (h:PT Blk):PT Blk:=
  match f i with
  | some c=>h.set c (b.rnm f)
  | none=>h
def U1 (f:Nat->Option Nat):List Blk->Nat->PT Blk->PT Blk
  | [],_,h=>h
  | b :: l,i,h=>U1 f l (i + 1) (setAt f i b h)
def Zfq (hb:Nat->Blk) (args:V) (h:PT Blk) (n:Nat):List Nat:=reach (look hb h) n 100 (Zch (look hb h) n [] args.names) 0
def ZaW (K:HK) (hb:Nat->Blk) (args:V) (h:PT Blk) (n:Nat) (l:List Nat):Option (Tree (V×PT Blk×Nat)):=
  bif l.all (fun b=>Nat.blt b n&&!(look hb h b).isAny)&&KL l then
    match K (args.rnm fun b=>idxOf b l 0) (l.map fun b=>(look hb h b).rnm fun b=>idxOf b l 0) with
    | some T=>some (T.bind fun r=>.leaf (r.1.rnm (backOf l n),U1 (backOf l n) r.2 0 h,n + (r.2.length - l.length)))
    | none=>none
  else none
def Zde (E:Env) (hb:Nat->Blk) (g:FuncId) (args:V) (h:PT Blk) (n:Nat):Option (Tree (V×PT Blk×Nat)):=
  match E.hk g with
  | some K=>ZaW K hb args.plain h n (Zfq hb args.plain h n)
  | none=>none
def Q9 (E:Env) (rec_:Wo) (hb:Nat->Blk) (g:FuncId ⊕ Nat) (args:V) (h:PT Blk) (n:Nat):Tree (V×PT Blk×Nat):=
  match g with
  | .inr b=>GX E rec_ hb b args h n
  | .inl g=>match Zde E hb g args h n with
    | some T=>T
    | none=>
    match E.P.funcs[g]? with
    | some fn=>match fn.body with
      | some c=>(rec_ g c (Base.fn hb) (enter hb args.plain fn.ntmps h n)).bind fun x=>
        match x.1 with
        | .exit _=>.stuck
        | _=>(KC E.P x.2 fn.results.toList).bind fun vs=>.leaf ((single vs).plain,x.2.h,x.2.n)
      | none=>.stuck
    | none=>.stuck
def Um (E:Env) (call:YL) {B:Base} (ops:Array Oper) (draw:Bool) (s:St B):Tree (Ex×St B):=
  match draw with
  | false=>bif ops.toList.all (YW s.N) then (QH E call ops ops.toList s).bind fun s'=>.leaf (.normal,s') else .stuck
  | true=>forceList (bfs ops.toList []) fun bf=>bif VW ops bf then (Xe E call ops bf s.n ops.toList 0 [] [] (s.Kk ops)).bind fun s'=>.leaf (.normal,s') else .stuck
def leave {B:Base} (id:Nat) (x:Ex×St B):Tree (Ex×St B):=
  match x.1 with
  | .exit id'=>bif Nat.beq id' id then .leaf (.normal,x.2) else .leaf (.exit id',x.2)
  | e=>.leaf (e,x.2)
def Kr (E:Env) (rec_:Wo) (f:FuncId) (c:Code) (B:Base) (s:St B):Tree (Ex×St B):=
  match c with
  | .skip=>.leaf (.normal,s)
  | .label _=>.leaf (.normal,s)
  | .exit id=>.leaf (.exit id,s)
  | .ret=>.leaf (.ret,s)
  | .scope b=>rec_ f b B s
  | .region _ ops draw=>match E.mg&&ops.toList.any (fun o=>o.guard.isSome) with
    | true=>merged s fun s=>Um E (Q9 E rec_) ops draw s
    | false=>Um E (Q9 E rec_) ops draw s
  | .seq a b=>(rec_ f a B s).bind fun x=>match x.1 with
    | .normal=>rec_ f b B x.2
    | e=>.leaf (e,x.2)
  | .cond c a b=>match Zg s c with
    | .bool true t=>match t with
      | true=>rec_ f a B s
      | false=>rec_ f b B s
    | .bool false t=>match E.wayOf f c s.tmp with
      | some true=>.need (t = true) (rec_ f a B (s.Wh c true))
      | some false=>.need (t = false) (rec_ f b B (s.Wh c false))
      | none=>match E.mg&&!E.nm f with
        | true=>merged s fun s=>.node t (rec_ f a _ (s.Wh c true)) (rec_ f b _ (s.Wh c false))
        | false=>.node t (rec_ f a B (s.Wh c true)) (rec_ f b B (s.Wh c false))
    | _=>.stuck
  | .block id b=>match E.mg&&!E.nm f with
    | true=>Zax s fun s=>(rec_ f b _ s).bind (leave id)
    | false=>(rec_ f b B s).bind (leave id)
  | .loop b=>match Wv E f b with
    | some g=>g B s
    | none=>(rec_ f b B s).bind fun x=>match x.1 with
      | .normal=>rec_ f (.loop b) B x.2
      | e=>.leaf (e,x.2)
  | .rangeFunc g ps asg bd=>match Km (Zg s g) (.cons (.yld s.n) .nil) with
    | some (.inl g',args)=>(Q9 E rec_ B.h (.inl g') args (s.h.set s.n (.rng f ps.toList asg bd s.tmp s.N 0 none)) (s.n + 1)).bind fun r=>
        match look B.h r.2.1 s.n with
        | .rng _ _ _ _ _ _ st pend=>bif Nat.beq st 1 then .stuck else .leaf (pend.getD .normal,{ s with h:=r.2.1.set s.n .any,n:=r.2.2 })
        | _=>.stuck
    | _=>.stuck
  | _=>.stuck
def ev (E:Env) (k:Nat):Wo:=Nat.rec (fun _ _ _ _=>.stuck) (fun _ ih=>Kr E ih) k
theorem ev_succ (E:Env) (k:Nat):ev E (k + 1) = Kr E (ev E k):=rfl
def Jf (f:V->V):V->V
  | .cons a t=>.cons (Jf f a) (Jf f t)
  | .agg cs=>.agg (Jf f cs)
  | .tup cs=>.tup (Jf f cs)
  | .osl st b es i n=>f (.osl st b es i n)
  | .osp st b es i n c=>f (.osp st b es i n c)
  | v=>v
def pubRow (v:V) (st:Bool) (es i n:Nat) (cs:V):V:=bif st&&(cs.clean&&Nat.ble ((i + n) * es) cs.len) then .rsl true es n fun j=>(cs.drop ((i + j) * es)).take es else v
def pubO (h:Nat->Blk):Nat->V->V
  | 0,v=>v
  | k + 1,v=>match v.Xo with
    | .osl st b es i n=>match h b with
      | .var cs=>pubRow v st es i n (Jf (pubO h k) cs)
      | _=>v
    | _=>v
def QA (h:Nat->Blk):V->Tree V
  | .cons a t=>(QA h a).bind fun a=>(QA h t).bind fun t=>.leaf (.cons a t)
  | .tup vs=>(QA h vs).bind fun vs=>.leaf (.tup vs)
  | .agg cs=>(QA h cs).bind fun cs=>.leaf (.agg cs)
  | .osl st b es i n=>match h b with
    | .var cs=>bif st&&(cs.clean&&Nat.ble ((i + n) * es) cs.len) then .leaf (.rsl true es n fun j=>(cs.drop ((i + j) * es)).take es) else .leaf (pubO h 3 (.osl st b es i n))
    | .arr es' k get=>bif Nat.beq es es' then (match st with
        | true=>bif Nat.ble (i + n) k then .leaf (.rsl true es n fun j=>get (i + j)) else .stuck
        | false=>.need (i + n<=k) (.leaf (.rsl false es n fun j=>get (i + j)))) else .stuck
    | _=>.leaf (.osl st b es i n)
  | .osp st b es i n c=>bif Nat.beq n 0 then .leaf (.rsl true es 0 fun _=>.nil) else .leaf (pubO h 3 (.osp st b es i n c))
  | v=>.leaf v
def ZQ (E:Env) (k:Nat) (g:FuncId) (args:V):Tree V:=(Q9 E (ev E k) (fun _=>.none) (.inl g) args .nil 0).bind fun r=>QA (look (fun _=>.none) r.2.1) r.1
end Go.Fw
end
