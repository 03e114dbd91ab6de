/- The evaluator: what a function's code comes to, over abstract values. Definitions only. -/
import Derived.Test.YthhbdbeglmkijaaGreatDoorMAa
set_option maxRecDepth 100000
set_option linter.unusedVariables false
set_option linter.unusedSimpArgs false
noncomputable section
open Option renaming some→zi,none→zm
open Bool renaming true→ze,false→za,and_eq_true→zL
open Nat renaming ble→zK,blt→zG,beq→zq,le_of_ble_eq_true→yA,eq_of_beq_eq_true→zO,mul_le_mul_right→yx
open BitVec renaming ofInt→yc
open Go.Sem renaming run_bind→zM,run_pure→zV
open Go.Result renaming andThen_ok→zP
namespace Go.Fw
def Uz(P:Program)(t:TypeId):Option Bool:=
  match P.underlying t with
  |some (.struct _)=>zi ze
  |some (.array _ _)=>zi ze
  |some _=>zi za
  |none=>zm
def ZW(P:Program)(t:TypeId):Option Nat:=
  match P.info? t with
  |some i=>zi i.size
  |none=>zm
def X5(P:Program)(t:TypeId):Option V:=
  match P.info? t with
  |some i=>match i.zero with
   |some z=>zi (V.ofValue z).cells
   |none=>zm
  |none=>zm
def ZcW(P:Program)(s:TypeId)(f:Nat):Option (Nat×TypeId):=
  match P.underlying s with
  |some (.struct fields)=>match fields[f]? with
   |some fd=>match ZW P fd.type with
    |some (_+1)=>zi (fd.offset,fd.type)
    |_=>zm
   |none=>zm
  |_=>zm
def partOf(P:Program)(t:TypeId)(cs:V)(o:Nat):Option V:=
  match Uz P t with
  |some ze=>match ZW P t with
   |some z=>bif zK (o+z) cs.len then zi (.agg ((cs.drop o).take z))else zm
   |none=>zm
  |some za=>bif zG o cs.len then zi (cs.nth o)else zm
  |none=>zm
variable{α:Type}
def Tree.Ur:Option α->Tree α
  |some a=>.leaf a
  |none=>.stuck
def atIdx(st:Bool)(i n:Nat)(T:Tree α):Tree α:=
  match st with
  |true=>bif zG i n then T else .stuck
  |false=>.need (i<n) T
def Ke(st:Bool)(j:Int)(n:Nat)(T:Nat->Tree α):Tree α:=
  match st with
  |true=>match j with
   | .ofNat q=>bif zG q n then T q else .stuck
   | .negSucc _=>.stuck
  |false=>.need (0<=j/\j<n) (T j.toNat)
def ZbL(st:Bool)(j:Int)(n:Nat)(T:Nat->Tree α):Tree α:=
  match st with
  |true=>match j with
   | .ofNat q=>bif zK q n then T q else .stuck
   | .negSucc _=>.stuck
  |false=>.need (0<=j/\j<=n) (T j.toNat)
def intCmp(op:BinOp)(a b:Int):Option Bool:=
  match op with
  | .eql=>zi (a==b)
  | .neq=>zi (a != b)
  | .lss=>zi (decide (a<b))
  | .leq=>zi (decide (a<=b))
  | .gtr=>zi (decide (a>b))
  | .geq=>zi (decide (a>=b))
  |_=>zm
def intBit(op:BinOp)(k:IntKind)(x y:Int):Option Int:=
  match op with
  | .and=>zi (k.wrap (yc k.bits x&&& yc k.bits y).toNat)
  | .or=>zi (k.wrap (yc k.bits x|||BitVec.ofInt k.bits y).toNat)
  | .xor=>zi (k.wrap (yc k.bits x^^^yc k.bits y).toNat)
  | .andNot=>zi (k.wrap (yc k.bits x&&& ~~~yc k.bits y).toNat)
  |_=>zm
def Zgz(st:Bool)(y:Int)(T:Tree α):Tree α:=
  match st with
  |true=>match y with
   | .ofNat 0=>.stuck
   |_=>T
  |false=>.need (y≠0) T
def Zgy(st:Bool)(y:Int)(T:Nat->Tree α):Tree α:=
  match st with
  |true=>match y with
   | .ofNat q=>T q
   | .negSucc _=>.stuck
  |false=>.need (0<=y) (T y.toNat)
def evInt(op:BinOp)(s s':Bool)(k:IntKind)(a b:Int):Tree V:=
  match op with
  | .add=>.leaf (mkInt (s&&s') k (k.wrap (a+b)))
  | .sub=>.leaf (mkInt (s&&s') k (k.wrap (a-b)))
  | .mul=>.leaf (mkInt (s&&s') k (k.wrap (a*b)))
  | .quo=>Zgz s' b (.leaf (mkInt (s&&s') k (k.wrap (a.tdiv b))))
  | .rem=>Zgz s' b (.leaf (mkInt (s&&s') k (a.tmod b)))
  | .shl=>.stuck
  | .shr=>.stuck
  |_=>match intBit op k a b with
   |some n=>.leaf (mkInt (s&&s') k n)
   |none=>match intCmp op a b with
    |some r=>.leaf (Qq (s&&s') r)
    |none=>.stuck
def evShift(op:BinOp)(s s':Bool)(k:IntKind)(a b:Int):Tree V:=
  match op with
  | .shl=>Zgy s' b λq=>.leaf (mkInt (s&&s') k (k.wrap (a*2^(min q k.bits))))
  | .shr=>Zgy s' b λq=>.leaf (mkInt (s&&s') k (a.fdiv (2^(min q k.bits))))
  |_=>.stuck
def Zbf:BinOp->Bool
  | .shl| .shr=>ze
  |_=>za
def nilS:V->Option Bool
  | .Zo=>zi ze
  | .osl ze _ _ _ n=>bif zq n 0 then zm else zi za
  | .rsl ze _ n _=>bif zq n 0 then zm else zi za
  | .osp ze _ _ _ _ c=>bif zq c 0 then zm else zi za
  | .esl nn _=>match nn with
    |true=>zi za
    |false=>zm
  |_=>zm
def nilP:V->Option Bool
  | .nilptr=>zi ze
  | .ptr ..=>zi za
  | .rptr ..=>zi za
  |_=>zm
def nilF:V->Option Bool
  | .nilfn=>zi ze
  | .fn ..=>zi za
  | .yld _=>zi za
  |_=>zm
def Zds:Option Bool->Option Bool->Option (Bool×Bool)
  |some ze,zi b=>zi (ze,b)
  |some za,zi ze=>zi (ze,za)
  |_,_=>zm
def ZgS:V->V->Bool
  | .ptr st b es i o,.ptr st' b' es' i' o'=>(st&&st')&&(zq b b'&&(zq es es'&&(zq i i'&&zq o o')))
  |_,_=>za
def Zes:V->V->Bool
  | .ptr st b es i o,.ptr st' b' es' i' o'=>(st&&st')&&(zq b b'&&!zq (i*es+o) (i'*es'+o'))
  |_,_=>za
def bulky(P:Program)(e:TypeId):Bool:=
  match ZW P e with
  |some z=>!zq z 0
  |none=>za
mutual
def evEq(P:Program):Nat->TypeId->V->V->Option (Bool×Bool)
  |0,_,_,_=>zm
  |d+1,t,x,y=>
   match P.underlying t with
   |some .bool=>match x,y with
    | .bool s a,.bool s' b=>zi (s&&s',a==b)
    |_,_=>zm
   |some (.int _)=>match x,y with
    | .int s k a,.int s' k' b=>if k=k' then zi (s&&s',a==b)else zm
    |_,_=>zm
   |some .string=>match x,y with
    | .str s a,.str s' b=>zi (s&&s',a==b)
    |_,_=>zm
   |some (.struct fields)=>match x,y with
    | .agg xs,.agg ys=>if P.stoodInHeld t then zm else Gm P d fields.toList xs ys
    |_,_=>zm
   |some (.slice _)=>Zds (nilS x) (nilS y)
   |some (.pointer e)=>match ZgS x y&&(ZW P e).isSome with
    |true=>zi (ze,ze)
    |false=>match Zes x y&&bulky P e with
     |true=>zi (ze,za)
     |false=>Zds (nilP x) (nilP y)
   |some (.func _ _ _)=>Zds (nilF x) (nilF y)
   |_=>zm
def Gm(P:Program):Nat->List Field->V->V->Option (Bool×Bool)
  |0,_,_,_=>zm
  |_+1,[],_,_=>zi (ze,ze)
  |d+1,f::fs,xs,ys=>
   if f.name= "_" then zm else
   match partOf P f.type xs f.offset,partOf P f.type ys f.offset with
   |some x,zi y=>match evEq P d f.type x y,Gm P d fs xs ys with
    |some (s,a),zi (s',b)=>zi (s&&s',a&&b)
    |_,_=>zm
   |_,_=>zm
end
def eqOp:BinOp->Option Bool
  | .eql=>zi ze
  | .neq=>zi za
  |_=>zm
def Zmu:V->Option Nat
  | .rsl _ _ n _=>zi n
  | .osl _ _ _ _ n=>zi n
  |_=>zm
def evNilU(P:Program)(op:BinOp)(t:TypeId)(x y:V):Tree V:=
  match P.underlying t with
  |some (.slice _)=>match y with
   | .Zo=>match Zmu x with
     |some n=>match eqOp op with
      |some want=>.both (.given (n=0) (.leaf (Qq ze want))) (.leaf (Qq ze (!want)))
      |none=>.stuck
     |none=>.stuck
   |_=>.stuck
  |_=>.stuck
def Gn(P:Program)(op:BinOp)(t:TypeId)(x y:V):Tree V:=
  match evEq P 20 t x y with
  |some (s,r)=>match op with
   | .eql=>.leaf (Qq s r)
   | .neq=>.leaf (Qq s (!r))
   |_=>.stuck
  |none=>evNilU P op t x y
def evStr(op:BinOp)(s s':Bool)(a b:List UInt8):Tree V:=
  match op with
  | .eql=>.leaf (Qq (s&&s') (a==b))
  | .neq=>.leaf (Qq (s&&s') (!(a==b)))
  | .lss=>.leaf (Qq (s&&s') (Op.bytesLess a b))
  | .leq=>.leaf (Qq (s&&s') (Op.bytesLess a b||a==b))
  | .gtr=>.leaf (Qq (s&&s') (!(Op.bytesLess a b||a==b)))
  | .geq=>.leaf (Qq (s&&s') (!Op.bytesLess a b))
  | .add=>match s&&s' with
    |true=>bif zK (a.length+b.length) 9223372036854775807 then .leaf (.str ze (a++b))else .stuck
    |false=>.need (a.length+b.length<=9223372036854775807) (.leaf (.str za (a++b)))
  |_=>.stuck
def JM(P:Program)(op:BinOp)(t:TypeId)(x y:V):Tree V:=
  match x with
  | .int s k a=>match y with
    | .int s' k' b=>match Zbf op with
      |true=>evShift op s s' k a b
      |false=>if k=k' then evInt op s s' k a b else .stuck
    |_=>.stuck
  | .bool _ _=>Gn P op t x y
  | .str s a=>match y with
    | .str s' b=>evStr op s s' a b
    |_=>.stuck
  | .agg _=>if P.eqGuardType P.depth t then .stuck else Gn P op t x y
  | .osl .. | .osp .. | .esl .. | .rsl .. | .Zo| .ptr .. | .rptr .. | .nilptr| .fn .. | .nilfn| .yld _=>Gn P op t x y
  |_=>.stuck
def Zdr:Operand->Bool
  | .const .nilIface=>ze
  |_=>za
def nilI:V->Option (Bool×Bool)
  | .nilif=>zi (ze,ze)
  | .ifc st b=>zi (st,b)
  |_=>zm
def Ub(P:Program)(op:BinOp)(t:TypeId)(x y:Operand)(a b:V):Option (Tree V):=
  match P.underlying t with
  |some (.interface _)=>match eqOp op with
   |some want=>match Zdr y with
    |true=>match nilI a with
     |some (st,r)=>zi (.leaf (Qq st (bif want then r else !r)))
     |none=>zm
    |false=>match Zdr x with
     |true=>match nilI b with
      |some (st,r)=>zi (.leaf (Qq st (bif want then r else !r)))
      |none=>zm
     |false=>zm
   |none=>zm
  |_=>zm
def evUn(op:UnOp)(x:V):Tree V:=
  match x with
  | .int s k n=>match op with
    | .neg=>.leaf (mkInt s k (k.wrap (0-n)))
    | .xor=>match intBit .xor k (if k.signed then -1 else k.max) n with
      |some r=>.leaf (mkInt s k r)
      |none=>.stuck
    |_=>.stuck
  | .bool s b=>match op with
    | .not=>.leaf (Qq s (!b))
    |_=>.stuck
  |_=>.stuck
def bytesOf:V->Option (Bool×List UInt8)
  | .nil=>zi (ze,[])
  | .cons (.int s .u8 v) t=>match bytesOf t with
    |some (s',l)=>zi (s&&s',UInt8.ofNat v.toNat::l)
    |none=>zm
  |_=>zm
def ZcU(P:Program)(h:Nat->Blk)(e:TypeId)(x:V):Tree V:=
  match P.underlying e with
  |some (.int .u8)=>match x with
   | .osl st b es i n=>match h b with
     | .var cs=>bif st&&(zq es 1&&zK (i+n) cs.len)then match bytesOf ((cs.drop i).take n)with
         |some (s,l)=>.leaf (.str s l)
         |none=>.stuck
       else .stuck
     |_=>.stuck
   |_=>.stuck
  |_=>.stuck
def Zif(P:Program)(dst:TypeId)(x:V):Tree V:=
  match P.underlying dst with
  |some (.int k)=>match x with
   | .int s _ n=>.leaf (mkInt s k (k.wrap n))
   |_=>.stuck
  |some .string=>match x with
   | .str s a=>.leaf (.str s a)
   | .int s _ n=>match s with
     |true=>match n with
      | .ofNat c=>bif zG c 128 then .leaf (.str ze [UInt8.ofNat c])else .stuck
      |_=>.stuck
     |false=>.need (0<=n/\n<128) (.leaf (.str za [UInt8.ofNat n.toNat]))
   |_=>.stuck
  |_=>.stuck
def ZaY(P:Program)(h:Nat->Blk)(src dst:TypeId)(x:V):Tree V:=
  match P.underlying src with
  |none=>.stuck
  |some (.slice e)=>match P.underlying dst with
   |some .string=>ZcU P h e x
   |_=>.stuck
  |some _=>Zif P dst x
def Zfv(P:Program)(src dst:TypeId)(x:V):Option (Tree V):=
  match x with
  | .str st s=>match P.underlying src with
    |some .string=>match P.underlying dst with
     |some (.slice e)=>match P.underlying e with
      |some (.int .u8)=>zi (.leaf (.rsl st 1 s.length λj=>.cons (.int st .u8 (Int.ofNat (s.getD j 0).toNat)) .nil))
      |_=>zm
     |_=>zm
    |_=>zm
  |_=>zm
def Zfz(c x y:V):Tree V:=
  match c with
  | .bool ze b=>match b with|true=>.leaf x|false=>.leaf y
  | .bool za b=>.node b (.leaf x) (.leaf y)
  |_=>.stuck
def ZcO(P:Program)(s:TypeId)(x:V)(f:Nat):Tree V:=
  match ZcW P s f with
  |some (off,_)=>match x with
   | .ptr st b es i o=>.leaf (.ptr st b es i (o+off))
   | .rptr st es n get i o=>.leaf (.rptr st es n get i (o+off))
   |_=>.stuck
  |none=>.stuck
def ZcN(P:Program)(t:TypeId)(x:V)(f:Nat):Tree V:=
  match P.underlying t with
  |some (.struct fields)=>match fields[f]? with
   |some fd=>match x with
    | .agg cs=>.Ur (partOf P fd.type cs fd.offset)
    |_=>.stuck
   |none=>.stuck
  |_=>.stuck
def elemAt(cs:V)(o z k:Nat):V:=(cs.drop (o+k*z)).take z
def allB(n:Nat)(f:Nat->Bool):Bool:=Nat.rec ze (λi r=>r&&f i) n
def Vq(P:Program)(h:Nat->Blk)(t:TypeId)(x:V):Tree V:=
  match x with
  | .ptr st b es i o=>match h b with
    | .var cs=>bif st then .Ur (partOf P t cs (i*es+o))else .stuck
    | .arr es' n get=>bif zq es es' then atIdx st i n (.Ur (partOf P t (get i) o))else .stuck
    |_=>.stuck
  | .rptr _ _ _ get i o=>.Ur (partOf P t (get i) o)
  |_=>.stuck
def Zij(x:V):Tree V:=
  match x with
  | .ptr .. | .rptr .. | .fn (.func _) _ _=>.leaf x
  |_=>.stuck
def Zfw(x:V)(i:Nat):Tree V:=
  match x with
  | .tup vs=>bif zG i vs.len then .leaf (vs.nth i)else .stuck
  |_=>.stuck
def KN(P:Program)(place:Nat->Option (Nat×Nat)):V->List (Nat×V)->Option V
  |cs,[]=>zi cs
  |cs,(i,v)::rest=>match place i with
   |some (off,z)=>bif v.solid&&(zq v.cells.len z&&zK (off+z) cs.len)then KN P place (cs.splice off v.cells) rest else zm
   |none=>zm
def ZfE(P:Program)(fields:Array Field)(i:Nat):Option (Nat×Nat):=
  match fields[i]? with
  |some fd=>zi (fd.offset,(ZW P fd.type).getD 0)
  |none=>zm
def Zid(P:Program)(t:TypeId)(parts:List (Nat×V)):Tree V:=
  match X5 P t with
  |some zero=>match P.underlying t with
   |some (.struct fields)=>bif fields.toList.all (λf=>(ZW P f.type).isSome)then
       match KN P (ZfE P fields) zero parts with
       |some cs=>.leaf (.agg cs)
       |none=>.stuck
    else .stuck
   |some (.array _ e)=>match ZW P e with
    |some z=>match KN P (λi=>zi (i*z,z)) zero parts with
     |some cs=>.leaf (.agg cs)
     |none=>.stuck
    |none=>.stuck
   |_=>.stuck
  |none=>.stuck
def rep(n:Nat)(z:V):V:=Nat.rec .nil (λ_ r=>z.app r) n
def Gj(P:Program)(t:TypeId)(len:Nat)(parts:List (Nat×V)):Option (Nat×V):=
  match P.underlying t with
  |some (.slice e)=>match ZW P e,X5 P e with
   |some z,zi zero=>bif zq zero.len z&&zK (len*z) 16777216 then
       match KN P (λi=>zi (i*z,z)) (rep len zero) parts with
       |some cs=>zi (z,cs)
       |none=>zm
    else zm
   |_,_=>zm
  |_=>zm
def V.Wl:V->V
  | .osp st b es i n _=>.osl st b es i n
  |v=>v
def V.plain:V->V
  | .cons h t=>.cons h.plain t.plain
  | .agg cs=>.agg cs.plain
  | .tup vs=>.tup vs.plain
  | .osp st b es i n c=>bif st&&(zq n 0&&zG 0 c)then .osp st b es i n c else .osl st b es i n
  |v=>v
def Jd(st:Bool)(n:Nat)(lo hi:Option V)(T:Bool->Nat->Nat->Tree α):Tree α:=
  let low (st:Bool) (h:Nat):Tree α:=match lo with
    |none=>T st 0 h
    |some (.int s _ j)=>ZbL (st&&s) j h λq=>T (st&&s) q h
    |some _=>.stuck
  match hi with
  |none=>low st n
  |some (.int s _ j)=>ZbL (st&&s) j n λq=>low (st&&s) q
  |some _=>.stuck
def Zdf(b:Blk)(k:Nat):Bool:=
  match b with
  | .var cs=>zK k cs.len
  |_=>za
def Zdh:V->Bool
  | .int ze _ (.ofNat n)=>zq n 0
  |_=>za
def ZfB(P:Program)(t:TypeId)(x:V)(lo hi:Option V)(mx:V):Tree V:=
  match lo with
  |some _=>.stuck
  |none=>match hi with
   |none=>.stuck
   |some hi=>bif Zdh hi&&Zdh mx then match P.underlying t with
       |some (.slice e)=>match ZW P e with
        |some _=>match x with
         | .Zo=>.leaf .Zo
         | .rsl st es n _=>.leaf (.esl (st&&zG 0 n) es)
         | .osl st _ es _ n=>.leaf (.esl (st&&zG 0 n) es)
         | .osp st _ es _ _ c=>.leaf (.esl (st&&zG 0 c) es)
         | .esl nn es=>.leaf (.esl nn es)
         |_=>.stuck
        |none=>.stuck
       |_=>.stuck
    else .stuck
def Zil(P:Program)(t:TypeId)(x:V)(lo hi mx:V):Tree V:=
  match P.underlying t with
  |some (.slice e)=>match ZW P e with
   |some z=>match x.Wl with
    | .osl st b es i n=>bif zq z es then match mx with
        | .int s _ j=>ZbL (st&&s) j n λq=>Jd (st&&s) q (zi lo) (zi hi) λst a c=>.leaf (.osl st b es (i+a) (c-a))
        |_=>.stuck
      else .stuck
    |_=>.stuck
   |none=>.stuck
  |_=>.stuck
def ospOf(st:Bool)(b es i n k:Nat):V:=bif st&&zq k n then .osl st b es i k else .osp st b es i k n
def ospB(lo:Option V)(st:Bool)(b es i n lw hg:Nat):V:=
  match lo with
  |none=>ospOf st b es i n hg
  |some _=>.osl st b es (i+lw) (hg-lw)
def Za0(P:Program)(h:Nat->Blk)(t:TypeId)(x:V)(lo hi mx:Option V):Tree V:=
  match mx with
  |some mx=>match ZfB P t x lo hi mx with
   | .stuck=>match lo,hi with
     |some lo,zi hi=>Zil P t x lo hi mx
     |_,_=>.stuck
   |T=>T
  |none=>match P.underlying t with
   |some .string=>match x with
    | .str st l=>Jd st l.length lo hi λst a b=>.leaf (.str st ((l.drop a).take (b-a)))
    |_=>.stuck
   |some (.slice e)=>match x with
    | .rsl st es n get=>match ZW P e with
      |some z=>bif zq z es then Jd st n lo hi λst a b=>.leaf (.rsl st es (b-a) λj=>get (a+j))else .stuck
      |none=>.stuck
    | .osl st bl es i n=>match ZW P e with
      |some z=>bif zq z es then Jd st n lo hi λst a b=>.leaf (ospB lo st bl es i n a b)else .stuck
      |none=>.stuck
    | .osp st bl es i n c=>match ZW P e with
      |some z=>bif zq z es then Jd st (match hi with|none=>n|some _=>c) lo hi λst a b=>.leaf (.osl st bl es (i+a) (b-a))else .stuck
      |none=>.stuck
    | .Zo=>match ZW P e with
      |some _=>Jd ze 0 lo hi λ_ _ _=>.leaf .Zo
      |none=>.stuck
    | .esl nn es=>match ZW P e with
      |some _=>Jd ze 0 lo hi λ_ _ _=>.leaf (.esl nn es)
      |none=>.stuck
    |_=>.stuck
   |some (.array len e)=>match x with
    | .ptr st bl es i o=>match ZW P e with
      |some z=>bif zq (i*es+o) ((i*es+o)/z*z)&&Zdf (h bl) (i*es+o+len*z)then Jd st len lo hi λst a b=>.leaf (.osl st bl z ((i*es+o)/z+a) (b-a))else .stuck
      |none=>.stuck
    | .rptr st _ _ get i o=>match ZW P e with
      |some z=>bif zK (o+len*z) (get i).len then Jd st len lo hi λst a b=>.leaf (.rsl st z (b-a) λq=>elemAt (get i) o z (a+q))else .stuck
      |none=>.stuck
    |_=>.stuck
   |some (.pointer arr)=>match x with
    | .ptr st bl es i o=>match P.underlying arr with
      |some (.array len e)=>match ZW P e with
       |some z=>bif zq (i*es+o) ((i*es+o)/z*z)&&Zdf (h bl) (i*es+o+len*z)then Jd st len lo hi λst a b=>.leaf (.osl st bl z ((i*es+o)/z+a) (b-a))else .stuck
       |none=>.stuck
      |_=>.stuck
    |_=>.stuck
   |_=>.stuck
def evLen(P:Program)(t:TypeId)(x:V):Tree V:=
  match P.underlying t with
  |some .string=>match x with
   | .str st l=>.leaf (mkInt st .i64 l.length)
   |_=>.stuck
  |some (.slice _)=>match x.Wl with
   | .rsl st _ n _=>.leaf (mkInt st .i64 n)
   | .osl st _ _ _ n=>.leaf (mkInt st .i64 n)
   | .Zo=>.leaf (.int ze .i64 0)
   | .esl _ _=>.leaf (.int ze .i64 0)
   |_=>.stuck
  |some (.array n _)=>.leaf (mkInt ze .i64 n)
  |_=>.stuck
def ev2(less:Bool)(x y:V):Tree V:=
  match x with
  | .int s k a=>match y with
    | .int s' _ b=>.leaf (mkInt (s&&s') k (match less with|true=>(if b<a then b else a)|false=>(if b>a then b else a)))
    |_=>.stuck
  |_=>.stuck
def ZcS(less:Bool):V->V->Tree V
  |x,.nil=>.leaf x
  |x,.cons y r=>(ev2 less x y).bind λz=>ZcS less z r
  |_,_=>.stuck
def evCap(P:Program)(t:TypeId)(x:V):Tree V:=
  match P.underlying t with
  |some (.slice _)=>match x.Wl with
   | .Zo=>.leaf (.int ze .i64 0)
   | .esl _ _=>.leaf (.int ze .i64 0)
   |_=>.stuck
  |_=>.stuck
def Gl(P:Program)(b:Builtin)(ts:List TypeId)(args:V):Option (Tree V):=
  match b with
  | .len=>zi (match ts with
    |t::_=>match args with
     | .cons x _=>evLen P t x
     |_=>.stuck
    |[]=>.stuck)
  | .cap=>zi (match ts with
    |t::_=>match args with
     | .cons x _=>evCap P t x
     |_=>.stuck
    |[]=>.stuck)
  | .min=>zi (match args with| .cons x r=>ZcS ze x r|_=>.stuck)
  | .max=>zi (match args with| .cons x r=>ZcS za x r|_=>.stuck)
  |_=>zm
def V.one:V->Bool
  | .nil| .cons _ _=>za
  |_=>ze
def Qr:V->V->Bool
  | .nil,y=>match y with| .nil=>ze|_=>za
  | .cons h t,y=>match y with| .cons _ t'=>h.one&&Qr t t'|_=>za
  |_,_=>za
def Wh(b:Bool):V->V->V
  | .nil,_=>.nil
  | .cons h t,y=>match y with
    | .cons h' t'=>.cons (Wh b h h') (Wh b t t')
    |_=>.junk
  | .int s k n,y=>match y with
    | .int s' k' n'=>if k=k' then(bif (s&&s')&&decide (n=n')then .int ze k n else .int za k (bif b then n else n'))else .junk
    |_=>.junk
  | .bool s c,y=>match y with
    | .bool s' c'=>match s&&s' with
      |true=>match c,c' with
       |true,ze=>.bool ze ze
       |true,za=>.bool za b
       |false,ze=>.bool za (!b)
       |false,za=>.bool ze za
      |false=>.bool za (bif b then c else c')
    |_=>.junk
  | .str _ s,y=>match y with
    | .str _ s'=>.str za (bif b then s else s')
    |_=>.junk
  | .agg cs,y=>match y with
    | .agg cs'=>bif Qr cs cs' then .agg (Wh b cs cs')else .junk
    |_=>.junk
  | .tup cs,y=>match y with
    | .tup cs'=>bif Qr cs cs' then .tup (Wh b cs cs')else .junk
    |_=>.junk
  | .ptr st bl es i o,y=>match y with
    | .ptr st' bl' es' i' o'=>bif (st&&st')&&(zq bl bl'&&(zq es es'&&(zq i i'&&zq o o')))then .ptr ze bl es i o else .junk
    |_=>.junk
  | .osl st bl es i n,y=>match y with
    | .osl st' bl' es' i' n'=>bif (st&&st')&&(zq bl bl'&&(zq es es'&&(zq i i'&&zq n n')))then .osl ze bl es i n else .junk
    |_=>.junk
  | .nilptr,y=>match y with| .nilptr=>.nilptr|_=>.junk
  | .nilfn,y=>match y with| .nilfn=>.nilfn|_=>.junk
  | .nilmap,y=>match y with| .nilmap=>.nilmap|_=>.junk
  | .nilif,y=>match y with
    | .nilif=>.nilif
    | .ifc _ c=>.ifc za (bif b then ze else c)
    |_=>.junk
  | .ifc _ c,y=>match y with
    | .ifc _ c'=>.ifc za (bif b then c else c')
    | .nilif=>.ifc za (bif b then c else ze)
    |_=>.junk
  | .undef,y=>match y with| .undef=>.undef|_=>.junk
  | .Zo,y=>match y with
    | .Zo=>.Zo
    | .rsl _ es n get=>.rsl za es (bif b then 0 else n) get
    |_=>.junk
  | .rsl _ es n get,y=>match y with
    | .rsl _ es' n' get'=>bif zq es es' then .rsl za es (bif b then n else n') (λj=>bif Qr (get j) (get' j)then Wh b (get j) (get' j)else bif b then get j else get' j)else .junk
    | .Zo=>.rsl za es (bif b then n else 0) get
    |_=>.junk
  |_,_=>.junk
def VE(b:Bool)(x y:V):V:=bif x.one then Wh b x y else .junk
def selV(row:Nat->V)(j:Nat)(n:Nat):V:=Nat.rec (row 0) (λk r=>VE (zq j (k+1)) (row (k+1)) r) (n-1)
def selR(row:Nat->V)(j:Nat)(n:Nat):V:=Nat.rec (row 0) (λk r=>Wh (zq j (k+1)) (row (k+1)) r) (n-1)
def selOk(row:Nat->V)(j:Nat)(n:Nat):Bool:=allB (n-1) λk=>Qr (row (k+1)) (selR row j (k+1))
def Gs(P:Program)(t:TypeId)(x ix:V):Tree V:=
  match ix with
  | .int s _ j=>match P.underlying t with
    |some (.slice e)=>match ZW P e with
     |some z=>match x with
      | .rsl st es n get=>bif zq z es then Ke (st&&s) j n λq=>.leaf (.rptr (st&&s) es n get q 0)else .stuck
      | .osl st b es i n=>bif zq z es then Ke (st&&s) j n λq=>.leaf (.ptr (st&&s) b es (i+q) 0)else .stuck
      |_=>.stuck
     |none=>.stuck
    |some (.array len e)=>match ZW P e with
     |some z=>match s with
      |true=>Ke ze j len λq=>match x with
       | .ptr st b es i o=>.leaf (.ptr st b es i (o+q*z))
       | .rptr st es n get i o=>.leaf (.rptr st es n get i (o+q*z))
       |_=>.stuck
      |false=>match x with
       | .rptr st _ _ get i o=>bif (st&&zK (o+len*z) (get i).len)&&selOk (elemAt (get i) o z) j.toNat len then
           Ke za j len λq=>.leaf (.rptr za z 1 (λ_=>selR (elemAt (get i) o z) q len) 0 0)else .stuck
       |_=>.stuck
     |none=>.stuck
    |_=>.stuck
  |_=>.stuck
def ZcQ(P:Program)(t:TypeId)(x ix:V):Tree V:=
  match ix with
  | .int s _ j=>match P.underlying t with
    |some (.array len e)=>match ZW P e with
     |some z=>match s with
      |true=>Ke ze j len λq=>match x with
       | .agg cs=>.Ur (partOf P e cs (q*z))
       |_=>.stuck
      |false=>match x with
       | .agg cs=>bif zG 0 len&&allB len (λk=>(partOf P e cs (k*z)).isSome)then
           Ke za j len λq=>.leaf (selV (λk=>(partOf P e cs (k*z)).getD .junk) q len)else .stuck
       |_=>.stuck
     |none=>.stuck
    |some .string=>match x with
     | .str st l=>Ke (st&&s) j l.length λq=>.leaf (mkInt (st&&s) .u8 (l.getD q 0).toNat)
     |_=>.stuck
    |_=>.stuck
  |_=>.stuck
def mkOf(P:Program)(kt:TypeId):Option MK:=
  match P.underlying kt with
  |some (.int k)=>zi (.int k)
  |some .string=>zi .str
  |_=>zm
def Kq:MK->MK->Bool
  | .int k,.int k'=>decide (k=k')
  | .str,.str=>ze
  |_,_=>za
def keyOf(kd:MK)(x:V):Option (Bool×Value):=
  match x with
  | .int st k n=>match kd with
    | .int k'=>if k=k' then zi (st,.int k n)else zm
    | .str=>zm
  | .str st s=>match kd with
    | .str=>zi (st,.string ⟨s.toArray⟩)
    | .int _=>zm
  |_=>zm
def zeroV(P:Program)(t:TypeId):Option V:=
  match P.info? t with
  |some i=>match i.zero with
   |some z=>zi (V.ofValue z)
   |none=>zm
  |none=>zm
def foundV(st has:Bool)(v z:V):V:=
  match st with
  |true=>match has with|true=>v|false=>z
  |false=>VE has v z
def ZdY(ok st has:Bool)(v:V):V:=
  match ok with
  |true=>.tup (.cons v (.cons (Qq st has) .nil))
  |false=>v
def ZaZ(P:Program)(h:Nat->Blk)(t:TypeId)(x ix:V)(ok:Bool):Tree V:=
  match P.underlying t with
  |some (.map kt et)=>match mkOf P kt,zeroV P et with
   |some kd,zi z=>match keyOf kd ix with
    |some (sk,key)=>match x with
     | .nilmap=>.leaf (ZdY ok ze za z)
     | .mp b=>match h b with
       | .Zk kd' st f _=>bif Kq kd kd' then .leaf (ZdY ok (st&&sk) (f key).1 (foundV (st&&sk) (f key).1 (f key).2 z))else .stuck
       |_=>.stuck
     | .rmp st kd' has get=>bif Kq kd kd' then .leaf (ZdY ok (st&&sk) (has key) (foundV (st&&sk) (has key) (get key) z))else .stuck
     |_=>.stuck
    |none=>.stuck
   |_,_=>.stuck
  |_=>.stuck
def pickV(c:Bool)(x y:V):V:=
  match x with
  | .bool s b=>match y with
    | .bool s' b'=>.bool (bif c then s else s') (bif c then b else b')
    |_=>bif c then x else y
  | .int s k n=>match y with
    | .int s' k' n'=>if k=k' then .int (bif c then s else s') k (bif c then n else n')else bif c then x else y
    |_=>bif c then x else y
  |_=>bif c then x else y
def putF(st:Bool)(f:Value->Bool×V)(key:Value)(y:Bool×V):Value->Bool×V:=
  match st with
  |true=>λk=>(bif ZO k key then y.1 else(f k).1,pickV (ZO k key) y.2 (f k).2)
  |false=>λk=>(bif ZO k key then y.1 else(f k).1,VE (ZO k key) y.2 (f k).2)
def putMap(blk:Blk)(kd:MK)(sk:Bool)(key:Value)(y:Bool×V):Option Blk:=
  match blk with
  | .Zk kd' st f ks=>bif Kq kd kd' then zi (.Zk kd' (st&&sk) (putF (st&&sk) f key y) (putKs y.1 sk ks key))else zm
  |_=>zm
def WQ(P:Program)(h:Nat->Blk)(t:TypeId)(x k:V)(y:Bool×V):Option (Nat×Blk):=
  match P.underlying t with
  |some (.map kt _)=>match mkOf P kt with
   |some kd=>match keyOf kd k with
    |some (sk,key)=>match x with
     | .mp b=>match putMap (h b) kd sk key y with
       |some blk=>zi (b,blk)
       |none=>zm
     |_=>zm
    |none=>zm
   |none=>zm
  |_=>zm
def Gt(P:Program)(t:TypeId)(r:Option V):Option Blk:=
  match P.underlying t with
  |some (.map kt et)=>match mkOf P kt with
   |some kd=>match r with
    |none=>zi (.Zk kd ze (λ_=>(za,(zeroV P et).getD .junk)) (zi (0,[])))
    |some (.int _ _ _)=>zi (.Zk kd ze (λ_=>(za,(zeroV P et).getD .junk)) (zi (0,[])))
    |some _=>zm
   |none=>zm
  |_=>zm
def ZfA(P:Program)(h:Nat->Blk)(t:TypeId)(x:V):Option Blk:=
  match P.underlying t with
  |some (.map _ _)=>match x with
   | .nilmap=>zi (.iter zm 0 [] 0)
   | .mp b=>match h b with
     | .Zk _ _ _ ks=>match ks with
       |some (c,_)=>zi (.iter (zi b) c [] c)
       |none=>zm
     |_=>zm
   |_=>zm
  |_=>zm
def oneOf{β:Type}(f:α->Tree β):List α->Tree β
  |[]=>.stuck
  |x::l=>match l with
   |[]=>f x
   |_::_=>.both (f x) (oneOf f l)
def evNext(h:Nat->Blk)(it:V)(isString:Bool):Tree (V×Option (Nat×Blk)):=
  match isString with
  |true=>.stuck
  |false=>match it with
   | .ptr st b es i o=>bif st&&(zq es 0&&(zq i 0&&zq o 0))then match h b with
     | .iter mb since seen last=>match mb with
       |none=>.leaf (.tup (.cons (.bool ze za) .nil),zm)
       |some mb=>match h mb with
        | .Zk _ _ f ks=>match ks with
          |some (c,l)=>bif oldL since l&&zK since last then
              match leftL seen l with
              |[]=>.leaf (.tup (.cons (.bool ze za) .nil),zm)
              |left=>oneOf (λe=>.leaf (.tup (.cons (.bool ze ze) (.cons (V.VG e.2) (.cons (f e.2).2 .nil))),zi (b,.iter (zi mb) since (seen++[e.1]) c))) left
           else .stuck
          |none=>.stuck
        |_=>.stuck
     |_=>.stuck else .stuck
   |_=>.stuck
def Zig(h:Nat->Blk)(it:V):Tree V:=
  match it with
  | .ptr st b es i o=>bif st&&(zq es 0&&(zq i 0&&zq o 0))then match h b with
    | .iter mb since seen last=>match mb with
      |none=>.stuck
      |some mb=>match h mb with
       | .Zk _ _ f ks=>match ks with
         |some (c,l)=>match seen.reverse with
          |[]=>.stuck
          |x::_=>bif oldL since l&&zq c last then match l.find? λe=>zq e.1 x with
            |some e=>.leaf (.tup (.cons (V.VG e.2) (.cons (f e.2).2 .nil)))
            |none=>.stuck
           else .stuck
         |none=>.stuck
       |_=>.stuck
    |_=>.stuck else .stuck
  |_=>.stuck
inductive Ans where
  |sure (v:V)
  |where_ (p:Prop) (v:V)
  |fork (b:Bool) (v v':V)
abbrev HK:=V->List Blk->Option (Tree (V×List Blk))
structure Env where
  P:Program
  Γ:FuncId->V->Option Ans
  lp:FuncId->Nat->Option ((B:Base)->St B->Tree (Ex×St B))
  mg:Bool
  way:FuncId->Nat->Option Bool:=λ_ _=>zm
  bd:FuncId->Nat->Option (Nat×Nat×Bool):=λ_ _=>zm
  nm:FuncId->Bool:=λ_=>za
  hk:FuncId->Option HK:=λ_=>zm
def Env.KC(E:Env)(f:FuncId)(c:Operand)(val:Nat->V):Option Bool:=
  match c with
  | .tmp t=>match E.way f t with
    |some w=>zi w
    |none=>match E.bd f t with
     |some (i,k,w)=>match val i with
      | .int ze _ (.ofNat j)=>bif zK k j then zi w else zm
      |_=>zm
     |none=>zm
  |_=>zm
variable{B:Base}
def Zr(s:St B):Operand->V
  | .tmp t=>s.tmp t
  | .const v=>V.ofValue v
  | .global g=>match glob g with
    |some v=>v
    |none=>.junk
  | .func f=>.fn (.func f) .nil .nil
def callee(f:V)(args:V):Option (FuncId×V):=
  match f with
  | .fn (.func g) first cap=>zi (g,first.app (args.app cap))
  |_=>zm
def WU(n:Nat)(f:Nat->Bool):Bool:=Nat.rec ze (λi r=>r&&f i) n
def V.known:V->Bool
  | .cons h t=>h.known&&t.known
  | .int st _ _=>st
  | .bool st _=>st
  | .str st _=>st
  | .ifc st _=>st
  | .agg cs=>cs.known
  | .tup vs=>vs.known
  | .ptr .. | .osl .. | .osp .. | .rptr .. | .rmp .. | .junk=>za
  | .rsl st _ n get=>st&&WU n λi=>(get i).known
  | .fn _ a b=>a.known&&b.known
  |_=>ze
def V.Xg:V->Bool
  | .cons h t=>h.Xg&&t.Xg
  | .agg cs=>cs.Xg
  | .tup vs=>vs.Xg
  | .fn _ a b=>a.Xg&&b.Xg
  | .rptr .. | .rsl .. | .rmp ..=>za
  |_=>ze
def bothP:Option Prop->Option Prop->Option Prop
  |none,q=>q
  |some p,zm=>zi p
  |some p,zi q=>zi (p/\q)
def V.Qs:V->V
  | .cons a t=>.cons a.Qs t.Qs
  | .agg cs=>.agg cs.Qs
  | .tup cs=>.tup cs.Qs
  | .fn f a b=>.fn f a.Qs b.Qs
  | .ptr .. | .osl .. | .osp .. | .yld _| .mp _=>.junk
  |v=>v
def V.leaves(g:V->V):V->V
  | .cons a t=>.cons (a.leaves g) (t.leaves g)
  | .agg cs=>.agg (cs.leaves g)
  | .tup cs=>.tup (cs.leaves g)
  | .fn f a b=>.fn f (a.leaves g) (b.leaves g)
  |v=>g v
def ZfN(h:Nat->Blk)(g:V->V)(x:V):V:=
  match x with
  | .ptr st b es i o=>match h b with
    | .var cs=>bif st then .rptr ze cs.len 1 (λ_=>(g cs).Qs) 0 (i*es+o)else x
    | .arr es' k get=>bif zq es es' then .rptr (st&&zG i k) es k get i o else x
    |_=>x
  | .osl st b es i n=>match h b with
    | .var cs=>bif st&&zK ((i+n)*es) cs.len then .rsl ze es n λj=>((g cs).Qs.drop ((i+j)*es)).take es else x
    | .arr es' _ get=>bif zq es es' then .rsl st es n λj=>get (i+j)else x
    |_=>x
  | .mp b=>match h b with
    | .Zk kd st f _=>.rmp st kd (λk=>(f k).1) λk=>(f k).2.Qs
    |_=>x
  |_=>x
def ZfM(h:Nat->Blk)(g:V->V)(x:V):V:=ZfN h g x.Wl
def fz(h:Nat->Blk)(k:Nat):V->V:=Nat.rec (λv=>v) (λ_ ih v=>v.leaves (ZfM h ih)) k
def Vt(h:Nat->Blk)(g:V->Option Prop)(x:V):Option Prop:=
  match x with
  | .ptr st b es i _=>match h b with
    | .var cs=>bif st then g cs else zm
    | .arr es' k _=>bif zq es es'&&!(st&&zG i k)then zi (i<k)else zm
    |_=>zm
  | .osl st b es i n=>match h b with
    | .var cs=>bif st&&zK ((i+n)*es) cs.len then g cs else zm
    | .arr es' k _=>bif zq es es'&&!(st&&zK (i+n) k)then zi (i+n<=k)else zm
    |_=>zm
  |_=>zm
def V.Uk(g:V->Option Prop):V->Option Prop
  | .cons a t=>bothP (a.Uk g) (t.Uk g)
  | .agg cs=>cs.Uk g
  | .tup cs=>cs.Uk g
  | .fn _ a b=>bothP (a.Uk g) (b.Uk g)
  |v=>g v
def Gy(h:Nat->Blk)(k:Nat):V->Option Prop:=Nat.rec (λ_=>zm) (λ_ ih v=>v.Uk λx=>Vt h ih x.Wl) k
def Zal:Option Prop->Tree α->Tree α
  |none,T=>T
  |some p,T=>.need p T
def evQ(E:Env)(ρ:Operand->V)(h:Nat->Blk)(o:Op):Option (Tree V):=
  match o with
  | .move x=>zi (.leaf (ρ x))
  | .assign x=>zi (.leaf (ρ x))
  | .pick c x y=>zi (Zfz (ρ c) (ρ x) (ρ y))
  | .build t parts=>zi (Zid E.P t (parts.toList.map λp=>(p.1,ρ p.2)))
  | .load t a=>zi (Vq E.P h t (ρ a))
  | .binOp op t x y _=>match Ub E.P op t x y (ρ x) (ρ y)with
    |some T=>zi T
    |none=>zi (JM E.P op t (ρ x) (ρ y))
  | .unOp op _ x=>zi (evUn op (ρ x))
  | .convert src dst x=>match Zfv E.P src dst (ρ x)with
    |some T=>zi T
    |none=>zi (ZaY E.P h src dst (ρ x))
  | .makeFunc f first cap=>zi (.leaf (.fn f (.ofList (first.toList.map ρ)) (.ofList (cap.toList.map ρ))))
  | .slice t x lo hi mx=>zi (Za0 E.P h t (ρ x) (lo.map ρ) (hi.map ρ) (mx.map ρ))
  | .fieldAddr s x f=>zi (ZcO E.P s (ρ x) f)
  | .field t x f=>zi (ZcN E.P t (ρ x) f)
  | .indexAddr t x ix=>zi (Gs E.P t (ρ x).Wl (ρ ix))
  | .index t x ix=>zi (ZcQ E.P t (ρ x) (ρ ix))
  | .extract x i=>zi (Zfw (ρ x) i)
  | .lookup t x ix ok=>zi (ZaZ E.P h t (ρ x) (ρ ix) ok)
  | .nilCheck x=>zi (Zij (ρ x))
  | .call c=>match c.callee with
    | .builtin b=>Gl E.P b c.argTypes.toList (.ofList (c.args.toList.map ρ))
    | .value f=>match callee (ρ f) (.ofList (c.args.toList.map ρ))with
      |some (g,args)=>match E.Γ g args with
       |some (.sure v)=>bif args.clean&&v.clean then zi (.leaf v)else zm
       |some (.where_ p v)=>bif args.clean&&v.clean then zi (.need p (.leaf v))else zm
       |some (.fork b v v')=>bif args.clean&&(v.clean&&v'.clean)then zi (.node b (.leaf v) (.leaf v'))else zm
       |none=>zm
      |none=>zm
    |_=>zm
  |_=>zm
def Gr(E:Env)(ρ:Operand->V)(h:Nat->Blk)(f:Operand)(c:Call):Option (Tree V):=
  match callee (ρ f) (.ofList (c.args.toList.map ρ))with
  |some (g,args)=>bif args.clean then zm else bif (fz h 6 args).clean then match E.Γ g (fz h 6 args)with
   |some (.sure v)=>bif v.clean&&v.Xg then zi (Zal (Gy h 6 args) (.leaf v))else zm
   |some (.where_ p v)=>bif v.clean&&v.Xg then zi (Zal (Gy h 6 args) (.need p (.leaf v)))else zm
   |some (.fork _ _ _)=>zm
   |none=>zm
   else zm
  |none=>zm
def newVar(h:PT Blk)(n:Nat)(cs:V):V×PT Blk×Nat:=(.ptr ze n 0 0 0,h.set n (.var cs),n+1)
def Za2(blk:Blk)(st:Bool)(es i o z:Nat)(v:V):Tree Blk:=
  match blk with
  | .var cs=>bif st&&zK (i*es+o+z) cs.len then .leaf (.var (cs.splice (i*es+o) v.cells))else .stuck
  | .arr es' n get=>bif zq es es'&&(zK (o+z) es&&v.clean)then
      atIdx st i n (.leaf (.arr es n λj=>bif zq j i then(get i).splice o v.cells else get j))
    else .stuck
  |_=>.stuck
def Za1(P:Program)(g:Nat->Blk)(h:PT Blk)(t:TypeId)(x v:V):Tree (PT Blk):=
  match ZW P t with
  |some z=>bif zq v.cells.len z&&(v.cells.YN&&v.solid)then
      match x with
      | .ptr st b es i o=>(Za2 (look g h b) st es i o z v).bind λblk=>.leaf (h.set b blk)
      |_=>.stuck
   else .stuck
  |none=>.stuck
def ZbE(h:Nat->Blk)(z:Nat)(x:V):Option (Bool×Nat×(Nat->V)):=
  match x with
  | .Zo=>zi (ze,0,λ_=>.nil)
  | .esl _ _=>zi (ze,0,λ_=>.nil)
  | .rsl st es n get=>bif zq z es then zi (st,n,get)else zm
  | .osl st b es i n=>bif zq z es then match h b with
      | .var cs=>bif st&&zK ((i+n)*z) cs.len then zi (ze,n,λj=>(cs.drop ((i+j)*z)).take z)else zm
      | .arr es' k get=>bif zq z es' then(bif st then(bif zK (i+n) k then zi (ze,n,λj=>get (i+j))else zm)else zi (za,n,λj=>bif zG (i+j) k then get (i+j)else rep z (.cons .junk .nil)))else zm
      |_=>zm
    else zm
  |_=>zm
def rowsOf(h:Nat->Blk)(z:Nat)(x:V):Option (Bool×Nat×(Nat->V)):=ZbE h z x.Wl
def Wx(h:Nat->Blk)(z:Nat)(x:V):Option (Bool×Nat×(Nat->V)×Prop×Option Nat):=
  match x with
  | .Zo=>zi (ze,0,(λ_=>.nil),True,zm)
  | .esl _ _=>zi (ze,0,(λ_=>.nil),True,zm)
  | .osl st b es i n=>bif zq z es&&zq i 0 then match h b with
      | .var cs=>bif st&&zK (n*z) cs.len then zi (ze,n,(λj=>(cs.drop (j*z)).take z),True,zi b)else zm
      | .arr es' k get=>bif zq z es' then match st with
          |true=>bif zK n k then zi (ze,n,get,True,zi b)else zm
          |false=>zi (za,n,get,n<=k,zi b)
        else zm
      |_=>zm
    else zm
  |_=>zm
def Wt(get:Nat->V)(n:Nat):V:=Nat.rec .nil (λj r=>r.app (get j)) n
def ZbD(old:Nat->V)(k:Nat)(new:Nat->V)(m:Nat):Nat->V:=Nat.rec old (λq acc j=>bif zq j (k+q)then new q else acc j) m
def VR(P:Program)(t:TypeId):Option Nat:=
  match P.info? t with
  |some i=>zi i.bytes
  |none=>zm
def J5(old:Nat->V)(k:Nat)(new:Nat->V):Nat->V:=bif zq k 0 then new else λj=>bif zG j k then old j else new (j-k)
def fits(k by_:Nat):Prop:=k*by_<=140737488355328/\k<=9223372036854775807
def QU(k by_:Nat):Bool:=zK (k*by_) 140737488355328&&zK k 9223372036854775807
def JY(h:PT Blk)(b:Option Nat):PT Blk:=
  match b with
  |some b=>h.set b .any
  |none=>h
def GN(blk:Blk)(z i:Nat)(st:Bool)(m:Nat)(new:Nat->V):Tree Blk:=
  match blk with
  | .var cs=>bif st&&(zK ((i+m)*z) cs.len&&WU m (λj=>(new j).YN&&zq (new j).len z))then .leaf (.var (cs.splice (i*z) (Wt new m)))else .stuck
  | .arr es k get=>bif zq z es then .need (i+m<=k/\∀j,j<m->(new j).YN=ze/\(new j).clean=ze) (.leaf (.arr es k λj=>bif zK i j&&zG j (i+m)then new (j-i)else get j))else .stuck
  |_=>.stuck
def Zf4(st:Bool)(a b:Nat)(T:Tree α):Tree α:=
  match st with
  |true=>bif zK a b then T else .stuck
  |false=>.need (a<=b) T
def Zh9(P:Program)(g:Nat->Blk)(h:PT Blk)(n:Nat)(e:TypeId)(s x:V):Tree (V×PT Blk×Nat):=
  match ZW P e with
  |some z=>bif zG 0 z then match s with
   | .osp st b es i k c=>bif zq z es then match rowsOf (look g h) z x with
       |some (st',m,new)=>Zf4 (st&&st') (k+m) c ((GN (look g h b) z (i+k) (st&&st') m new).bind λblk=>.leaf (.osp (st&&st') b es i (k+m) c,h.set b blk,n))
       |none=>.stuck
     else .stuck
   |_=>.stuck
   else .stuck
  |none=>.stuck
def Zie(P:Program)(g:Nat->Blk)(h:PT Blk)(n:Nat)(ts:List TypeId)(args:V):Tree (V×PT Blk×Nat):=
  match ts with
  |t::_=>match P.underlying t with
   |some (.slice e)=>match ZW P e,X5 P e with
    |some z,zi zero=>bif zq zero.len z&&zG 0 z then match args with
     | .cons s _=>match s.Wl with
       | .osl st b es i k=>bif zq z es then(GN (look g h b) z i st k λ_=>zero).bind λblk=>.leaf (.tup .nil,h.set b blk,n)else .stuck
       | .Zo=>.leaf (.tup .nil,h,n)
       |_=>.stuck
     |_=>.stuck
     else .stuck
    |_,_=>.stuck
   |_=>.stuck
  |_=>.stuck
def evCopy(P:Program)(g:Nat->Blk)(h:PT Blk)(n:Nat)(ts:List TypeId)(args:V):Tree (V×PT Blk×Nat):=
  match ts with
  |t::_=>match P.underlying t with
   |some (.slice e)=>match ZW P e with
    |some z=>bif zG 0 z then match args with
     | .cons d (.cons x _)=>match d.Wl with
       | .osl st b es i k=>bif zq z es then match rowsOf (look g h) z x with
           |some (st',m,new)=>Zf4 (st&&st') m k ((GN (look g h b) z i (st&&st') m new).bind λblk=>.leaf (mkInt (st&&st') .i64 m,h.set b blk,n))
           |none=>.stuck
         else .stuck
       | .esl _ _=>match rowsOf (look g h) z x with
         |some _=>.leaf (.int ze .i64 0,h,n)
         |none=>.stuck
       | .Zo=>match rowsOf (look g h) z x with
         |some _=>.leaf (.int ze .i64 0,h,n)
         |none=>.stuck
       |_=>.stuck
     |_=>.stuck
     else .stuck
    |none=>.stuck
   |_=>.stuck
  |_=>.stuck
def GV(n z k:Nat):V:=bif zq k 0 then .esl ze z else .osl ze n z 0 k
def Zii(P:Program)(h:PT Blk)(n:Nat)(t:TypeId)(len cap:V):Tree (V×PT Blk×Nat):=
  match P.underlying t with
  |some (.slice e)=>match ZW P e,X5 P e,VR P e with
   |some z,zi zero,zi by_=>bif zq zero.len z&&zG 0 z then match len with
    | .int st _ j=>match cap with
      | .int st' _ j'=>match st&&st' with
        |true=>match j with
         | .ofNat k=>bif decide (j=j')&&QU k by_ then .leaf (GV n z k,h.set n (.var (Wt (λ_=>zero) k)),n+1)else
           match j' with
           | .ofNat c=>bif zG k c&&QU c by_ then .leaf (.osp ze n z 0 k c,h.set n (.var (Wt (λ_=>zero) c)),n+1)else .stuck
           |_=>.stuck
         |_=>.stuck
        |false=>.need (0<=j/\j=j'/\fits j.toNat by_) (.leaf (.osl za n z 0 j.toNat,h.set n (.arr z j.toNat λ_=>zero),n+1))
      |_=>.stuck
    |_=>.stuck
    else .stuck
   |_,_,_=>.stuck
  |_=>.stuck
def ZcR(P:Program)(t:TypeId)(len cap:V):Option (Nat×Nat×V):=
  match P.underlying t with
  |some (.slice e)=>match ZW P e,X5 P e,VR P e with
   |some z,zi zero,zi by_=>bif zq zero.len z&&zG 0 z then match len with
    | .int ze _ (.ofNat k)=>match cap with
      | .int ze _ (.ofNat k')=>bif zq k k'&&QU k by_ then zi (z,k,Wt (λ_=>zero) k)else zm
      |_=>zm
    |_=>zm
    else zm
   |_,_,_=>zm
  |_=>zm
def Zbt(h:Nat->Blk)(z:Nat)(s:V)(old:Nat->V)(k:Nat):V:=
  match s with
  | .osl _ b _ _ _=>match h b with
    | .var cs=>bif zK (k*z) cs.len then cs.take (k*z)else Wt old k
    |_=>Wt old k
  |_=>Wt old k
def Zh8(P:Program)(g:Nat->Blk)(h:PT Blk)(n:Nat)(ts:List TypeId)(args:V):Tree (V×PT Blk×Nat):=
  match ts with
  |[t,t']=>bif zq t t' then match P.underlying t with
   |some (.slice e)=>match ZW P e,X5 P e,VR P e with
    |some z,zi zero,zi by_=>bif zq zero.len z&&zG 0 z then match args with
     | .cons s (.cons x .nil)=>match Wx (look g h) z s,rowsOf (look g h) z x with
       |some (st,k,old,pre,b),zi (st',m,new)=>
        match st' with
        |true=>bif zq m 0 then .leaf (s,h,n)else
         bif WU m (λj=>(new j).YN&&zq (new j).len z)then match st with
         |true=>bif QU (k+m) by_ then .leaf (.osl ze n z 0 (k+m),(JY h b).set n (.var ((Zbt (look g h) z s old k).app (Wt new m))),n+1)else .stuck
         |false=>bif WU m (λj=>(new j).clean)then .need (pre/\fits (k+m) by_) (.leaf (.osl za n z 0 (k+m),(JY h b).set n (.arr z (k+m) (ZbD old k new m)),n+1))else .stuck
         else .stuck
        |false=>match b with
         |none=>.need (pre/\fits m by_/\∀j,j<m->(new j).YN=ze/\(new j).clean=ze) (.leaf (.osl za n z 0 m,h.set n (.arr z m new),n+1))
         |some b=>bif !st||WU k (λj=>(old j).clean)then .need (pre/\fits (k+m) by_/\∀j,j<m->(new j).YN=ze/\(new j).clean=ze) (.leaf (.osl za n z 0 (k+m),(h.set b .any).set n (.arr z (k+m) (J5 old k new)),n+1))else .stuck
       |_,_=>.stuck
     |_=>.stuck
     else .stuck
    |_,_,_=>.stuck
   |_=>.stuck
   else .stuck
  |_=>.stuck
def Zic(P:Program)(h:PT Blk)(n:Nat)(ts:List TypeId)(j:Nat):Tree (V×PT Blk×Nat):=
  match ts with
  |[t,t']=>match P.underlying t' with
   |some (.int _)=>match P.underlying t with
    |some (.slice e)=>match ZW P e,X5 P e,VR P e with
     |some z,zi zero,zi by_=>bif zq zero.len z&&(zG 0 z&&(zG 0 j&&QU j by_))then .leaf (.osl ze n z 0 j,h.set n (.var (Wt (λ_=>zero) j)),n+1)else .stuck
     |_,_,_=>.stuck
    |_=>.stuck
   |_=>.stuck
  |_=>.stuck
def Zia(P:Program)(h:PT Blk)(n:Nat)(ts:List TypeId)(x:Int):Tree (V×PT Blk×Nat):=
  match ts with
  |[t,t']=>match P.underlying t' with
   |some (.int _)=>match P.underlying t with
    |some (.slice e)=>match ZW P e,X5 P e,VR P e with
     |some z,zi zero,zi by_=>bif zq zero.len z&&zG 0 z then .need (0<x/\fits x.toNat by_) (.leaf (.osl za n z 0 x.toNat,h.set n (.arr z x.toNat λ_=>zero),n+1))else .stuck
     |_,_,_=>.stuck
    |_=>.stuck
   |_=>.stuck
  |_=>.stuck
def Zib(P:Program)(g:Nat->Blk)(h:PT Blk)(n:Nat)(ts:List TypeId)(args:V):Tree (V×PT Blk×Nat):=
  match args with
  | .cons (.osp st b es i k c) (.cons x .nil)=>match ts with
    |[t,t']=>bif zq t t' then match P.underlying t with
     |some (.slice e)=>Zh9 P g h n e (.osp st b es i k c) x
     |_=>.stuck
     else .stuck
    |_=>.stuck
  | .cons .Zo (.cons (.int ze _ (.ofNat j)) .nil)=>Zic P h n ts j
  | .cons .Zo (.cons (.int za _ x) .nil)=>Zia P h n ts x
  |_=>Zh8 P g h n ts args
abbrev Xh:=(Nat->Blk)->FuncId ⊕ Nat->V->PT Blk->Nat->Tree (V×PT Blk×Nat)
def Vi(f:V)(args:V):Option ((FuncId ⊕ Nat)×V):=
  match f with
  | .yld b=>zi (.inr b,args)
  |f=>match callee f args with
   |some (g,out)=>zi (.inl g,out)
   |none=>zm
def Xl(E:Env)(call:Xh)(s:St B)(o:Op):Tree (V×PT Blk×Nat):=
  match evQ E (Zr s) s.blk o with
  |some T=>T.bind λv=>.leaf (v,s.h,s.n)
  |none=>match o with
   | .alloc t=>match X5 E.P t with
     |some cs=>.leaf (newVar s.h s.n cs)
     |none=>.stuck
   | .box _ x=>bif (Zr s x).solid then .leaf (newVar s.h s.n (Zr s x).cells)else .stuck
   | .buildSlice t len parts=>match Gj E.P t len (parts.toList.map λp=>(p.1,Zr s p.2))with
     |some (z,cs)=>.leaf (GV s.n z len,s.h.set s.n (.var cs),s.n+1)
     |none=>.stuck
   | .store t a x=>(Za1 E.P B.h s.h t (Zr s a) (Zr s x)).bind λh=>.leaf (.undef,h,s.n)
   | .call c=>match c.callee with
     | .value f=>match Gr E (Zr s) s.blk f c with
       |some T=>T.bind λv=>.leaf (v,s.h,s.n)
       |none=>match Vi (Zr s f) (.ofList (c.args.toList.map (Zr s)))with
        |some (g,args)=>call B.h g args s.h s.n
        |none=>.stuck
     | .builtin b=>match b with
       | .append=>Zib E.P B.h s.h s.n c.argTypes.toList (.ofList (c.args.toList.map (Zr s)))
       | .clear=>Zie E.P B.h s.h s.n c.argTypes.toList (.ofList (c.args.toList.map (Zr s)))
       | .copy=>evCopy E.P B.h s.h s.n c.argTypes.toList (.ofList (c.args.toList.map (Zr s)))
       | .delete=>match c.argTypes.toList with
         |t::_=>match c.args.toList with
          |[m,k]=>match WQ E.P s.blk t (Zr s m) (Zr s k) (za,.junk)with
           |some (b,blk)=>.leaf (.tup .nil,s.h.set b blk,s.n)
           |none=>.stuck
          |_=>.stuck
         |[]=>.stuck
       |_=>.stuck
     |_=>.stuck
   | .makeMap t r=>match Gt E.P t (r.map (Zr s))with
     |some blk=>.leaf (.mp s.n,s.h.set s.n blk,s.n+1)
     |none=>.stuck
   | .makeSlice t len cap=>Zii E.P s.h s.n t (Zr s len) (Zr s cap)
   | .range t x=>match ZfA E.P s.blk t (Zr s x)with
     |some blk=>.leaf (.ptr ze s.n 0 0 0,s.h.set s.n blk,s.n+1)
     |none=>.stuck
   | .entry it=>(Zig s.blk (Zr s it)).bind λv=>.leaf (v,s.h,s.n)
   | .next it str=>(evNext s.blk (Zr s it) str).bind λr=>match r.2 with
     |some (b,blk)=>.leaf (r.1,s.h.set b blk,s.n)
     |none=>.leaf (r.1,s.h,s.n)
   | .mapUpdate t m k x=>match WQ E.P s.blk t (Zr s m) (Zr s k) (ze,Zr s x)with
     |some (b,blk)=>.leaf (.undef,s.h.set b blk,s.n)
     |none=>.stuck
   | .insert t m k x=>match WQ E.P s.blk t (Zr s m) (Zr s k) (ze,Zr s x)with
     |some (b,blk)=>.leaf (.undef,s.h.set b blk,s.n)
     |none=>.stuck
   |_=>.stuck
inductive Guard where
  |yes|no|bad
  |dyn (d:Nat) (b:Bool) (want:Bool)
def guardOf(ops:Array Oper)(val:Nat->V)(o:Oper):Guard:=
  match o.guard with
  |none=>.yes
  |some (j,want)=>match ops[j]? with
   |some p=>match p.dst with
    |some d=>match val d with
     | .bool ze b=>match b,want with
       |true,ze=>.yes
       |false,za=>.yes
       |_,_=>.no
     | .bool za b=>.dyn d b want
     | .undef=>.no
     |_=>.bad
    |none=>.no
   |none=>.no
def St.know(s:St B)(d:Nat)(b:Bool):St B:={ s with t:=s.t.set d (.bool ze b) }
def JO(E:Env)(call:Xh)(ops:Array Oper):List Oper->St B->Tree (St B)
  |[],s=>.leaf s
  |o::rest,s=>
   let go (s:St B):Tree (St B):=(Xl E call s o.op).bind λr=>JO E call ops rest ({ s with h:=r.2.1,n:=r.2.2 }.put o.dst r.1)
   match guardOf ops s.tmp o with
   | .bad=>.stuck
   | .yes=>go s
   | .no=>JO E call ops rest (s.put o.dst .undef)
   | .dyn d b want=>match want with
     |true=>.node b (go (s.know d ze)) (JO E call ops rest ((s.know d za).put o.dst .undef))
     |false=>.node b (JO E call ops rest ((s.know d ze).put o.dst .undef)) (go (s.know d za))
def Xw(N:Nat)(o:Oper):Bool:=
  match o.dst with
  |some d=>zG d N
  |none=>ze
universe u
variable{β:Type u}
def forceList:List Nat->(List Nat->β)->β
  |[],f=>f []
  |x::l,f=>Vr x λx=>forceList l λr=>f (x::r)
theorem ZkX(l:List Nat):∀f:List Nat->β,forceList l f=f l:=by
  induction l<;>grind[forceList,Za5]
def looks(ops:Array Oper)(o:Oper):List Tmp:=
  (o.op.operands.toList.filterMap λ| .tmp t=>zi t|_=>zm)++
  (match o.guard with
   |some (g,_)=>((ops[g]?).bind (·.dst)).toList
   |none=>[])
def tied(ops:Array Oper)(x y:Oper):Bool:=
  (match x.dst with
   |some d=>(looks ops y).contains d||y.dst==zi d
   |none=>za)||
  (match y.dst with
   |some d=>(looks ops x).contains d
   |none=>za)
def bfOf(after:Array Edge)(acc:List Nat):Nat:=
  after.toList.foldl (λs e=>if Region.binds .any e then s|||2^e.on|||acc.getD e.on 0 else s) 0
def bfs:List Oper->List Nat->List Nat
  |[],acc=>acc
  |o::rest,acc=>Vr (bfOf o.after acc) λx=>bfs rest (acc++[x])
def ZeT:List Oper->Nat->Bool
  |[],_=>ze
  |o::rest,j=>o.after.toList.all (λe=>!Region.binds .any e||Nat.blt e.on j)&&ZeT rest (j+1)
def tiesOk(ops:Array Oper)(bf:List Nat):Bool:=
  (List.range ops.size).all λj=>(List.range j).all λi=>
    match ops[i]?,ops[j]? with
    |some x,zi y=>!(tied ops x y)||(bf.getD j 0).testBit i
    |_,_=>za
def Gb(ops:Array Oper)(bf:List Nat):Bool:=ZeT ops.toList 0&&tiesOk ops bf
def refine(kn:List (Nat×Bool))(t:Nat)(v:V):V:=
  match kn with
  |[]=>v
  |(d,c)::r=>bif zq d t then .bool ze c else refine r t v
section
variable{B:Base}
def Z4(s:St B)(kn:List (Nat×Bool)):Operand->V
  | .tmp t=>refine kn t (s.tmp t)
  |x=>Zr s x
structure Ft where
  m:Option (Bool×Option Nat)
  l:Option Nat
  q:Bool:=za
  w:Nat->Bool:=λ_=>ze
abbrev Q0:Ft:={ m:=zm,l:=zm }
def Gx(ft:Option (Bool×Option Nat))(h:Nat->Blk):Nat->Blk:=
  match ft with
  |some _=>h
  |none=>λ_=>.any
def JX(nb sz b:Nat):Bool:=zK nb b&&zG b (nb+sz)
def seen(nb sz:Nat)(h:Nat->Blk):Nat->Blk:=λb=>bif JX nb sz b then .any else h b
def foot(s:St B)(nm:Nat)(o:Op):Ft:=
  match o with
  | .load _ a=>match Zr s a with
    | .ptr _ b _ _ _=>{ m:=zi (za,zi b),l:=zm }
    |_=>Q0
  | .store _ a _=>match Zr s a with
    | .ptr _ b _ _ _=>{ m:=zi (ze,zi b),l:=zm }
    |_=>Q0
  | .alloc _=>{ m:=zm,l:=zi nm }
  | .box _ _=>{ m:=zm,l:=zi nm }
  | .buildSlice _ _ _=>{ m:=zm,l:=zi nm }
  | .makeSlice _ _ _=>{ m:=zm,l:=zi nm }
  | .makeMap _ _=>{ m:=zm,l:=zi nm }
  | .lookup _ x _ _=>match Zr s x with
    | .mp b=>{ m:=zi (za,zi b),l:=zm }
    |_=>Q0
  | .mapUpdate _ x _ _=>match Zr s x with
    | .mp b=>{ m:=zi (ze,zi b),l:=zm }
    |_=>Q0
  | .insert _ x _ _=>match Zr s x with
    | .mp b=>{ m:=zi (ze,zi b),l:=zm }
    |_=>Q0
  | .convert _ _ x=>match Zr s x with
    | .osl _ b _ _ _=>{ m:=zi (za,zi b),l:=zm }
    |_=>Q0
  | .slice _ x _ _ _=>match Zr s x with
    | .ptr _ b _ _ _=>{ m:=zi (za,zi b),l:=zm }
    |_=>Q0
  | .call c=>match c.callee with
    | .value f=>{ m:=(match callee (Zr s f) (.ofList (c.args.toList.map (Zr s)))with
      |some (_,args)=>bif args.clean then zm else zi (za,zm)
      |none=>none),l:=some nm }
    |_=>Q0
  |_=>Q0
def Jl(o:PT Blk):Ft:={ m:=zi (ze,zm),l:=zm,w:=λb=>(o.get b).isSome }
def VK:Ft:={ m:=zi (za,zm),l:=zm,q:=ze }
def U8(nb sz:Nat)(f g:Ft):Bool:=
  match f.m,g.m with
  |some (w,zi b),zi (w',zi b')=>zq b b'&&(w||w')
  |some (w,zm),zi (w',zi b)=>bif w then w'||f.w b else w'&&(f.q|| !JX nb sz b)
  |some (w,zi b),zi (w',zm)=>bif w' then w||g.w b else w&&(g.q|| !JX nb sz b)
  |some (w,zm),zi (w',zm)=>w||w'
  |_,_=>za
def ZaR(l:Option Nat)(g:Ft):Bool:=
  match l,g.m with
  |some b,zi (_,zi b')=>zq b b'
  |some _,zi (w,zm)=>w||g.q
  |_,_=>za
def Zfm:Option Nat->Option Nat->Bool
  |some b,zi b'=>zq b b'
  |_,_=>za
def clash(nb sz:Nat)(f g:Ft):Bool:=U8 nb sz f g||(ZaR f.l g||(ZaR g.l f||Zfm f.l g.l))
def St.wr(s:St B):Option (Nat×Blk)->St B
  |some (b,blk)=>{ s with h:=s.h.set b blk }
  |none=>s
def ZfC(P:Program)(s:St B)(t:TypeId)(x v:V):Tree (V×Option (Nat×Blk)):=
  match ZW P t with
  |some z=>bif zq v.cells.len z&&(v.cells.YN&&v.solid)then
      match x with
      | .ptr st b es i o=>(Za2 (s.blk b) st es i o z v).bind λblk=>.leaf (.undef,zi (b,blk))
      |_=>.stuck
   else .stuck
  |none=>.stuck
def Wj(s:St B)(nm:Nat)(blk:Blk)(v:V):Tree (V×Option (Nat×Blk)):=
  match s.blk nm with
  | .none=>.leaf (v,zi (nm,blk))
  |_=>.stuck
def GL(s:St B)(nm:Nat)(rl:Bool)(r:V×PT Blk×Nat):Tree (V×Option (Nat×Blk)):=
  bif r.1.clean&&(!rl||r.1.Xg)then .leaf (r.1,zm)else match r.1 with
  | .osl st b es i n=>match look (λ_=>.none) r.2.1 b with
    | .var cs=>bif cs.clean&&(!rl||cs.Xg)then Wj s nm (.var cs) (.osl st nm es i n)else .stuck
    | .arr es' k get=>match rl with
      |false=>Wj s nm (.arr es' k get) (.osl st nm es i n)
      |true=>match st with
       |true=>bif WU k (λj=>(get j).Xg)then Wj s nm (.arr es' k get) (.osl st nm es i n)else .stuck
       |false=>.need (∀j,j<k->(get j).Xg=ze) (Wj s nm (.arr es' k get) (.osl st nm es i n))
    |_=>.stuck
  |_=>.stuck
def layR(s:St B)(nm:Nat)(rl:Bool)(r:V×PT Blk×Nat):Tree (V×Option (Nat×Blk)):=
  match r.1 with
  | .agg (.cons v .nil)=>(GL s nm rl (v,r.2.1,r.2.2)).bind λp=>.leaf (.agg (.cons p.1 .nil),p.2)
  |_=>GL s nm rl r
def Uc(E:Env)(call:Xh)(s:St B)(nm:Nat)(g:FuncId)(fa:V):Tree (V×Option (Nat×Blk)):=
  match E.Γ g fa with
  |some (.sure v)=>bif v.clean&&v.Xg then .leaf (v,zm)else .stuck
  |some (.where_ p v)=>bif v.clean&&v.Xg then .need p (.leaf (v,zm))else .stuck
  |some (.fork _ _ _)=>.stuck
  |none=>(call (λ_=>.none) (.inl g) fa .nil 0).bind (layR s nm ze)
def evVal(E:Env)(call:Xh)(s:St B)(nm:Nat)(h:Nat->Blk)(ρ:Operand->V)(o:Op):Tree (V×Option (Nat×Blk)):=
  match o with
  | .call c=>match c.callee with
    | .value f=>match callee (ρ f) (.ofList (c.args.toList.map ρ))with
      |some (g,args)=>bif args.clean then(call (λ_=>.none) (.inl g) args .nil 0).bind (layR s nm za)
       else bif (fz h 6 args).clean then Zal (Gy h 6 args) (Uc E call s nm g (fz h 6 args))
       else .stuck
      |none=>.stuck
    |_=>.stuck
  |_=>.stuck
def evDQ(E:Env)(call:Xh)(s:St B)(nb sz nm:Nat)(kn:List (Nat×Bool))(o:Op):Tree (V×Option (Nat×Blk)):=
  match evQ E (Z4 s kn) s.blk o with
  |some T=>T.bind λv=>.leaf (v,zm)
  |none=>evVal E call s nm (Gx (foot s nm o).m (seen nb sz s.blk)) (Z4 s kn) o
def evD(E:Env)(call:Xh)(s:St B)(nb sz nm:Nat)(kn:List (Nat×Bool))(o:Op):Tree (V×Option (Nat×Blk)):=
  match o with
  | .store t a x=>ZfC E.P s t (Zr s a) (Z4 s kn x)
  | .load t a=>(Vq E.P s.blk t (Zr s a)).bind λv=>.leaf (v,zm)
  | .alloc t=>match X5 E.P t with
    |some cs=>Wj s nm (.var cs) (.ptr ze nm 0 0 0)
    |none=>.stuck
  | .box _ x=>bif (Z4 s kn x).solid then Wj s nm (.var (Z4 s kn x).cells) (.ptr ze nm 0 0 0)else .stuck
  | .buildSlice t len parts=>match Gj E.P t len (parts.toList.map λp=>(p.1,Z4 s kn p.2))with
    |some (z,cs)=>Wj s nm (.var cs) (GV nm z len)
    |none=>.stuck
  | .makeSlice t len cap=>match ZcR E.P t (Z4 s kn len) (Z4 s kn cap)with
    |some (z,k,cs)=>Wj s nm (.var cs) (GV nm z k)
    |none=>.stuck
  | .makeMap t r=>match Gt E.P t (r.map (Z4 s kn))with
    |some blk=>Wj s nm blk (.mp nm)
    |none=>.stuck
  | .mapUpdate t m k x=>match WQ E.P s.blk t (Zr s m) (Z4 s kn k) (ze,Z4 s kn x)with
    |some (b,blk)=>.leaf (.undef,zi (b,blk))
    |none=>.stuck
  | .insert t m k x=>match WQ E.P s.blk t (Zr s m) (Z4 s kn k) (ze,Z4 s kn x)with
    |some (b,blk)=>.leaf (.undef,zi (b,blk))
    |none=>.stuck
  |o=>evDQ E call s nb sz nm kn o
def QD(ops:Array Oper)(o:Oper)(kn:List (Nat×Bool)):List (Nat×Bool):=kn.filter λp=>(looks ops o).contains p.1
def Qn(o:Oper)(kn:List (Nat×Bool)):List (Nat×Bool):=
  match o.dst with
  |some d=>kn.filter λp=>!zq p.1 d
  |none=>kn
def memOp(o:Op):Bool:=
  match o with
  | .store .. | .alloc _| .box .. | .buildSlice .. | .makeSlice .. | .makeMap .. | .mapUpdate .. | .insert ..=>ze
  | .call c=>match c.callee with
    | .builtin b=>match b with
      | .append| .delete| .copy| .clear=>ze
      |_=>za
    |_=>ze
  |_=>za
def KS(o:Op):Bool:=
  match o with
  | .call c=>match c.callee with
    | .builtin b=>match b with
      | .append| .delete| .copy| .clear=>ze
      |_=>za
    | .value _=>ze
    |_=>za
  |_=>za
def Zf1(o:Oper):Bool:=
  match o.op with
  | .alloc _=>o.guard.isNone&&o.dst.isSome
  |_=>za
def ZjR(ops:Array Oper)(bf:List Nat)(i j:Nat):Bool:=(List.range ops.size).all λe=>!(bf.getD e 0).testBit j||(bf.getD e 0).testBit i
def bigAt(ops:Array Oper)(bf:List Nat)(j:Nat)(o:Oper):Bool:=
  KS o.op&&(List.range ops.size).all λi=>zq i j||(match ops[i]? with
    |some x=>!memOp x.op||((bf.getD j 0).testBit i||((bf.getD i 0).testBit j||(Zf1 x&&(zG j i&&ZjR ops bf j i))))
    |none=>ze)
def isBigF(f:Ft):Bool:=
  match f.m with
  |some (w,zm)=>w||f.q
  |_=>za
def WC(ops:Array Oper)(bf:List Nat)(i j:Nat)(f:Ft):Bool:=
  zG i j&&(isBigF f&&(match ops[j]? with
    |some o=>Zf1 o&&ZjR ops bf i j
    |none=>za))
def KL(ops:Array Oper)(bf:List Nat)(nb i j:Nat)(f g:Ft):Bool:=clash nb ops.size f g&&!WC ops bf i j f
def V.QJ(n:Nat):V->Bool
  | .cons h t=>h.QJ n&&t.QJ n
  | .agg cs=>cs.QJ n
  | .tup vs=>vs.QJ n
  | .ptr _ b _ _ _=>zG b n
  | .osl _ b _ _ _=>zG b n
  | .osp _ b _ _ _ _=>zG b n
  | .fn _ a b=>a.QJ n&&b.QJ n
  | .yld b=>zG b n
  | .mp b=>zG b n
  |_=>ze
def ZbB(n:Nat)(r:V×PT Blk×Nat):Bool:=r.2.1.QI (λk=>zK n k) 1 0&&r.1.QJ n
def Zet(s:St B)(o:Op):Bool:=
  match o with
  | .call c=>match c.callee with
    | .value f=>match callee (Zr s f) (.ofList (c.args.toList.map (Zr s)))with
      |some (_,args)=>args.clean
      |none=>za
    |_=>za
  |_=>za
def Tree.Kn{α:Type}:Tree α->Bool
  | .stuck=>ze
  | .need _ t=>t.Kn
  | .node _ t f=>t.Kn&&f.Kn
  |_=>za
def Y1(ops:Array Oper)(bf:List Nat)(nb j:Nat)(fps:List (Nat×Ft))(f:Ft):Bool:=fps.all λp=>!KL ops bf nb p.1 j p.2 f||(bf.getD j 0).testBit p.1
def XZ(E:Env)(call:Xh)(ops:Array Oper)(bf:List Nat)(nb:Nat) :
    List Oper->Nat->List (Nat×Ft)->List (Nat×Bool)->St B->Tree (St B)
  |[],_,_,_,s=>.leaf s
  |o::rest,j,fps,kn,s=>
   let small (kn:List (Nat×Bool)):Tree (St B):=
     bif Y1 ops bf nb j fps (foot s (nb+j) o.op)&&((evD E call s nb ops.size (nb+j) (QD ops o kn) o.op).flat&&Xw s.N o)then
       (evD E call s nb ops.size (nb+j) (QD ops o kn) o.op).bind λr=>XZ E call ops bf nb rest (j+1) ((j,foot s (nb+j) o.op)::fps) (Qn o kn) ((s.wr r.2).put o.dst r.1)
     else .stuck
   let go (kn:List (Nat×Bool)):Tree (St B):=
     bif KS o.op&&((!Zet s o.op||(evD E call s nb ops.size (nb+j) (QD ops o kn) o.op).Kn)&&(!(Xl E call s.sub o.op).Kn&&((Xl E call s.sub o.op).flat&&Xw s.N o)))then
       (Xl E call s.sub o.op).bind λr=>
         bif ZbB s.n r&&Y1 ops bf nb j fps VK then XZ E call ops bf nb rest (j+1) ((j,VK)::fps) (Qn o kn) (s.put o.dst r.1)
         else bif bigAt ops bf j o&&Y1 ops bf nb j fps (Jl r.2.1)then XZ E call ops bf nb rest (j+1) ((j,Jl r.2.1)::fps) (Qn o kn) (({ s with h:=s.h.over r.2.1,n:=r.2.2 }:St B).put o.dst r.1)
         else small kn
     else small kn
   let no (kn:List (Nat×Bool)):Tree (St B):=bif Xw s.N o then XZ E call ops bf nb rest (j+1) ((j,Q0)::fps) (Qn o kn) (s.put o.dst .undef)else .stuck
   match guardOf ops (λt=>refine kn t (s.tmp t)) o with
   | .bad=>.stuck
   | .yes=>go kn
   | .no=>no kn
   | .dyn d b want=>match want with
     |true=>.node b (go ((d,ze)::kn)) (no ((d,za)::kn))
     |false=>.node b (no ((d,ze)::kn)) (go ((d,za)::kn))
def lays(o:Oper):Bool:=
  match o.op with
  | .alloc _| .box _ _| .buildSlice _ _ _| .makeSlice _ _ _| .makeMap _ _=>ze
  | .call c=>match c.callee with
    | .builtin b=>match b with
      | .append=>ze
      |_=>za
    |_=>ze
  |_=>za
def Zi1(h:PT Blk)(n k:Nat):PT Blk:=Nat.rec h (λi r=>r.set (n+i) .none) k
def St.VD(s:St B)(ops:Array Oper):St B:=
  bif ops.toList.any lays then { s with h:=Zi1 s.h s.n ops.size,n:=s.n+ops.size }else s
end
def mgV:V->V->Bool
  | .junk,_=>ze
  | .undef,_=>ze
  |x,.junk=>x.one
  |x,.undef=>x.one
  | .nil,.nil=>ze
  | .cons h t,.cons h' t'=>(h.one&&mgV h h')&&mgV t t'
  | .int _ k _,.int _ k' _=>decide (k=k')
  | .bool _ _,.bool _ _=>ze
  | .str _ _,.str _ _=>ze
  | .agg cs,.agg cs'=>mgV cs cs'
  | .tup cs,.tup cs'=>mgV cs cs'
  | .ptr st bl es i o,.ptr st' bl' es' i' o'=>(st&&st')&&(zq bl bl'&&(zq es es'&&(zq i i'&&zq o o')))
  | .osl st bl es i n,.osl st' bl' es' i' n'=>(st&&st')&&(zq bl bl'&&(zq es es'&&(zq i i'&&zq n n')))
  | .nilptr,.nilptr=>ze
  | .nilfn,.nilfn=>ze
  | .nilmap,.nilmap=>ze
  | .nilif,.nilif=>ze
  | .nilif,.ifc _ _=>ze
  | .ifc _ _,.nilif=>ze
  | .ifc _ _,.ifc _ _=>ze
  | .Zo,.Zo=>ze
  | .Zo,.rsl _ _ _ _=>ze
  | .rsl _ _ _ _,.Zo=>ze
  | .rsl _ es _ _,.rsl _ es' _ _=>zq es es'
  |_,_=>za
def mgB(x y:Blk):Bool:=
  match x,y with
  | .var cs,.var cs'=>Qr cs cs'&&mgV cs cs'
  | .Zk kd _ _ _,.Zk kd' _ _ _=>Kq kd kd'
  | .none,_=>ze
  |_,.none=>ze
  | .any,_=>ze
  |_,.any=>ze
  |_,_=>za
def Zbq(b:Bool)(x y:Blk):Blk:=
  match x,y with
  | .var cs,.var cs'=>bif Qr cs cs' then .var (Wh b cs cs')else .any
  | .none,.none=>.none
  | .Zk kd _ f _,.Zk kd' _ f' _=>bif Kq kd kd' then .Zk kd za (λk=>(bif b then(f k).1 else(f' k).1,VE b (f k).2 (f' k).2)) zm else .any
  |_,_=>.any
def V4(h:PT Blk)(n k:Nat):PT Blk:=Nat.rec h (λi r=>r.set (n+i) .any) k
section
variable{B:Base}
def Zgp(c:Bool)(s1 s2:St B):Option (St B):=
  let lo:=bif zK s1.n s2.n then s1.n else s2.n
  let hi:=bif zK s1.n s2.n then s2.n else s1.n
  bif (s1.t.QI (λk=>mgV (s1.tmp k) (s2.tmp k)) 1 0&&s2.t.QI (λk=>mgV (s1.tmp k) (s2.tmp k)) 1 0)&&
      ((s1.h.QI (λk=>zK lo k||mgB (s1.blk k) (s2.blk k)) 1 0&&s2.h.QI (λk=>zK lo k||mgB (s1.blk k) (s2.blk k)) 1 0)&&zq s1.N s2.N)then
    zi { t:=s1.t.both (λk=>VE c (s1.tmp k) (s2.tmp k)) s2.t 1 0,
           h:=V4 (s1.h.both (λk=>Zbq c (s1.blk k) (s2.blk k)) s2.h 1 0) lo (hi-lo),n:=hi,N:=s1.N }
  else zm
abbrev JF(B:Base):=List (Bool×Ex×St B)
def Ex.key:Ex->Nat
  | .ret=>0
  | .exit id=>id+1
  | .normal=>1000000000
def ZbF:Ex->Ex->Bool
  | .normal,.normal=>ze
  | .ret,.ret=>ze
  | .exit i,.exit j=>zq i j
  |_,_=>za
def comb(k:Nat):Bool->JF B->JF B->Option (JF B):=Nat.rec (λ_ _ _=>zm) (λ_ ih c l1 l2=>
  match l1 with
  |[]=>zi (l2.map λ|(p,x)=>(bif c then za else p,x))
  |(p1,e1,s1)::r1=>match l2 with
   |[]=>zi (((p1,e1,s1)::r1).map λ|(p,x)=>(bif c then p else za,x))
   |(p2,e2,s2)::r2=>
    bif ZbF e1 e2 then match Zgp c s1 s2 with
      |some s=>match ih c r1 r2 with
       |some r=>zi ((bif c then p1 else p2,e1,s)::r)
       |none=>zm
      |none=>zm
    else bif zG e1.key e2.key then match ih c r1 ((p2,e2,s2)::r2)with
      |some r=>zi ((bif c then p1 else za,e1,s1)::r)
      |none=>zm
    else match ih c ((p1,e1,s1)::r1) r2 with
      |some r=>zi ((bif c then za else p2,e2,s2)::r)
      |none=>zm) k
def ways:Tree (Ex×St B)->Option (JF B)
  | .leaf x=>zi [(ze,x)]
  | .node c t f=>match ways t with
    |some l1=>match ways f with
     |some l2=>comb (l1.length+l2.length+1) c l1 l2
     |none=>zm
    |none=>zm
  | .need _ t=>ways t
  |_=>zm
def GZ:JF B->Tree (Ex×St B)
  |[]=>.stuck
  |(p,x)::r=>match r with
   |[]=>.leaf x
   |_::_=>.node p (.leaf x) (GZ r)
def needs{α:Type}:Tree α->Option Prop
  | .node b t f=>match needs t,needs f with
    |none,zm=>zm
    |some p,zm=>zi (b=ze->p)
    |none,zi q=>zi (b=za->q)
    |some p,zi q=>zi ((b=ze->p)/\(b=za->q))
  | .need p t=>match needs t with
    |none=>zi p
    |some q=>zi (p/\q)
  | .both t f=>match needs t,needs f with
    |none,zm=>zm
    |some p,zm=>zi p
    |none,zi q=>zi q
    |some p,zi q=>zi (p/\q)
  |_=>zm
def Zgq(T:Tree (Ex×St B)):Tree (Ex×St B):=
  match T with
  | .leaf x=>.leaf x
  |T=>match ways T with
   |some l=>match needs T with
    |none=>GZ l
    |some p=>.need p (GZ l)
   |none=>T
def St.VL(s:St B)(s1:St s.bs):St B:={ t:=s.t.over s1.t,h:=s.h.over s1.h,n:=s1.n,N:=s1.N }
def eqV:V->V->Bool
  | .cons h t,y=>match y with| .cons h' t'=>eqV h h'&&eqV t t'|_=>za
  | .nil,y=>match y with| .nil=>ze|_=>za
  | .int st k n,y=>match y with| .int st' k' n'=>bif st&&st' then decide (k=k')&&decide (n=n')else za|_=>za
  | .bool st b,y=>match y with| .bool st' b'=>bif st&&st' then b==b' else za|_=>za
  | .agg cs,y=>match y with| .agg cs'=>eqV cs cs'|_=>za
  | .tup cs,y=>match y with| .tup cs'=>eqV cs cs'|_=>za
  | .ptr st b es i o,y=>match y with| .ptr st' b' es' i' o'=>(st&&st')&&((zq b b'&&zq es es')&&(zq i i'&&zq o o'))|_=>za
  | .osl st b es i n,y=>match y with| .osl st' b' es' i' n'=>(st&&st')&&((zq b b'&&zq es es')&&(zq i i'&&zq n n'))|_=>za
  | .osp st b es i n c,y=>match y with| .osp st' b' es' i' n' c'=>(st&&st')&&((zq b b'&&zq es es')&&((zq i i'&&zq n n')&&zq c c'))|_=>za
  | .mp b,y=>match y with| .mp b'=>zq b b'|_=>za
  | .esl nn es,y=>match y with| .esl nn' es'=>(nn==nn')&&zq es es'|_=>za
  | .Zo,y=>match y with| .Zo=>ze|_=>za
  | .nilptr,y=>match y with| .nilptr=>ze|_=>za
  | .nilmap,y=>match y with| .nilmap=>ze|_=>za
  | .nilfn,y=>match y with| .nilfn=>ze|_=>za
  | .nilif,y=>match y with| .nilif=>ze|_=>za
  |_,_=>za
def meetV(x y:V):V:=bif eqV x y then x else .junk
def Zbo(x y:Blk):Blk:=
  match x,y with
  | .var cs,.var cs'=>bif eqV cs cs' then .var cs else .any
  | .none,.none=>.none
  |_,_=>.any
def meetSt(s1 s2:St B):Option (St B):=
  let lo:=bif zK s1.n s2.n then s1.n else s2.n
  let hi:=bif zK s1.n s2.n then s2.n else s1.n
  bif (s1.t.QI (λ_=>ze) 1 0&&s2.t.QI (λ_=>ze) 1 0)&&((s1.h.QI (λ_=>ze) 1 0&&s2.h.QI (λ_=>ze) 1 0)&&zq s1.N s2.N)then
    zi { t:=s1.t.both (λk=>meetV (s1.tmp k) (s2.tmp k)) s2.t 1 0,
           h:=V4 (s1.h.both (λk=>Zbo (s1.blk k) (s2.blk k)) s2.h 1 0) lo (hi-lo),n:=hi,N:=s1.N }
  else zm
def meetX(x y:Option (Ex×St B)):Option (Ex×St B):=
  match x with
  |some (e,s)=>match y with
   |some (e',s')=>bif ZbF e e' then match meetSt s s' with
       |some r=>zi (e,r)
       |none=>zm
    else zm
   |none=>zm
  |none=>zm
def GU:Tree (Ex×St B)->Option (Ex×St B)
  | .leaf x=>zi x
  | .node _ t f=>meetX (GU t) (GU f)
  | .both t f=>meetX (GU t) (GU f)
  | .need _ t=>GU t
  |_=>zm
def Tree.ZfY{α:Type}:Tree α->Bool
  | .node _ t f=>t.ZfY||f.ZfY
  | .both _ _=>ze
  | .need _ t=>t.ZfY
  |_=>za
def collapse(T:Tree (Ex×St B)):Tree (Ex×St B):=
  match T.ZfY with
  |false=>T
  |true=>match GU T with
   |some x=>match needs T with
    |none=>.leaf x
    |some p=>.need p (.leaf x)
   |none=>T
def Zdq(s:St B)(f:St s.bs->Tree (Ex×St s.bs)):Tree (Ex×St B):=(collapse (Zgq (f s.sub))).bind λ|(e,x)=>.leaf (e,s.VL x)
def merged(s:St B)(f:St s.bs->Tree (Ex×St s.bs)):Tree (Ex×St B):=(Zgq (f s.sub)).bind λ|(e,x)=>.leaf (e,s.VL x)
end
def setArgs:V->Nat->PT V->PT V
  | .cons h t,i,T=>setArgs t (i+1) (T.set i h)
  |_,_,T=>T
def Base.fn(hb:Nat->Blk):Base:=⟨λ_=>.junk,hb⟩
def enter(hb:Nat->Blk)(args:V)(ntmps:Nat)(h:PT Blk)(n:Nat):St (Base.fn hb):=
  { t:=setArgs args 0 .nil,h,n,N:=args.len+(ntmps-args.len) }
section
variable{B:Base}
def ZdH(P:Program)(s:St B):ResultVar->Tree V
  | .tmp t=>.leaf (s.tmp t)
  | .cell a t=>Vq P s.blk t (s.tmp a)
def VN(P:Program)(s:St B):List ResultVar->Tree V
  |[]=>.leaf .nil
  |r::rest=>(ZdH P s r).bind λv=>(VN P s rest).bind λvs=>.leaf (.cons v vs)
def single:V->V
  | .cons v .nil=>v
  |vs=>.tup vs
def Jo:Code->Option Nat
  | .region id _ _=>zi id
  | .seq a b=>match Jo a with
    |some i=>zi i
    |none=>Jo b
  | .cond _ a b=>match Jo a with
    |some i=>zi i
    |none=>Jo b
  | .block _ b=>Jo b
  | .loop b=>Jo b
  | .scope b=>Jo b
  |_=>zm
def YQ:Code->List Code
  | .seq a b=>YQ a++YQ b
  | .cond _ a b=>YQ a++YQ b
  | .block _ b=>YQ b
  | .loop b=>b::YQ b
  | .scope b=>YQ b
  |_=>[]
def Qc:Code->List Code
  | .seq a b=>Qc a++Qc b
  | .cond _ a b=>Qc a++Qc b
  | .block _ b=>Qc b
  | .loop b=>b::Qc b
  | .scope b=>Qc b
  | .rangeFunc _ _ a b=>Qc a++Qc b
  |_=>[]
def Wq(P:Program)(f:FuncId)(body:Code):Prop:=∃fn c,P.funcs[f]? =zi fn/\fn.body=zi c/\body∈Qc c
def Qo(E:Env)(f:FuncId)(body:Code):Option ((B:Base)->St B->Tree (Ex×St B)):=
  match Jo body with
  |some i=>E.lp f i
  |none=>zm
def St.Qb(s:St B)(c:Operand)(b:Bool):St B:=
  match c with
  | .tmp d=>s.know d b
  |_=>s
end
abbrev Qh:=FuncId->Code->(B:Base)->St B->Tree (Ex×St B)
def ZdG:List Nat->V->PT V->PT V
  |p::ps,.cons v r,t=>ZdG ps r (t.set p v)
  |_,_,t=>t
def Ex.GI:Ex->Bool
  | .normal=>ze
  |_=>za
def ZcV(E:Env)(rec_:Qh)(hb:Nat->Blk)(b:Nat)(args:V)(h:PT Blk)(n:Nat):Tree (V×PT Blk×Nat):=
  match look hb h b with
  | .rng f ps asg bd row N st _=>
    Zal (bif (YQ asg++YQ bd).all λc=>(Qo E f c).isNone then zm else zi (∀c∈YQ asg++YQ bd,∀g,Qo E f c=zi g->Wq E.P f c))
    (bif (zq st 0&&(zq args.len ps.length&&ps.all λp=>zG p N))&&(XR asg&&XR bd)then
      (rec_ f asg ⟨row,hb⟩ { t:=ZdG ps args .nil,h,n,N }).bind λx=>match x.1 with
        | .normal=>match look hb x.2.h b with
          | .rng f' ps' asg' bd' row' N' st' pd'=>bif zq st' 0 then
              (rec_ f bd ⟨row,hb⟩ { x.2 with h:=x.2.h.set b (.rng f' ps' asg' bd' row' N' 1 pd') }).bind λy=>match look hb y.2.h b with
                | .rng f2 ps2 asg2 bd2 Jy N2 st2 _=>bif zq st2 1 then
                    .leaf (.bool ze y.1.GI,y.2.h.set b (.rng f2 ps2 asg2 bd2 Jy N2 (bif y.1.GI then 0 else 2) (zi y.1)),y.2.n)else .stuck
                |_=>.stuck
            else .stuck
          |_=>.stuck
        |_=>.stuck
    else .stuck)
  |_=>.stuck
def V.names:V->List Nat
  | .cons h t=>h.names++t.names
  | .agg cs=>cs.names
  | .tup vs=>vs.names
  | .fn _ a b=>a.names++b.names
  | .ptr _ b _ _ _=>[b]
  | .osl _ b _ _ _=>[b]
  | .osp _ b _ _ _ _=>[b]
  | .mp b=>[b]
  |_=>[]
def V.rnm(f:Nat->Option Nat):V->V
  | .cons h t=>.cons (h.rnm f) (t.rnm f)
  | .agg cs=>.agg (cs.rnm f)
  | .tup vs=>.tup (vs.rnm f)
  | .fn g a b=>.fn g (a.rnm f) (b.rnm f)
  | .ptr st b es i o=>match f b with|some c=>.ptr st c es i o|none=>.junk
  | .osl st b es i n=>match f b with|some c=>.osl st c es i n|none=>.junk
  | .osp st b es i n k=>match f b with|some c=>.osp st c es i n k|none=>.junk
  | .mp b=>match f b with|some c=>.mp c|none=>.junk
  | .yld _=>.junk
  |v=>v
def Blk.rnm(f:Nat->Option Nat):Blk->Blk
  | .none=>.none
  | .var cs=>.var (cs.rnm f)
  | .arr es n get=>.arr es n get
  | .Zk kd st g ks=>.Zk kd st (λk=>((g k).1,(g k).2.rnm f)) ks
  |_=>.any
def Blk.names:Blk->List Nat
  | .var cs=>cs.names
  |_=>[]
def Blk.isAny:Blk->Bool
  | .any=>ze
  |_=>za
def idxOf(b:Nat):List Nat->Nat->Option Nat
  |[],_=>zm
  |c::l,i=>bif zq c b then zi i else idxOf b l (i+1)
def JW(b:Nat):List Nat->Bool
  |[]=>za
  |c::l=>zq c b||JW b l
def Zeq(g:Nat->Blk)(n:Nat):List Nat->List Nat->List Nat
  |acc,[]=>acc
  |acc,b::l=>Zeq g n (bif JW b acc||(!zG b n||(g b).isAny)then acc else acc++[b]) l
def reach(g:Nat->Blk)(n:Nat)(k:Nat):List Nat->Nat->List Nat:=Nat.rec (λl _=>l) (λ_ ih l i=>
  match l[i]? with
  |some b=>ih (Zeq g n l (g b).names) (i+1)
  |none=>l) k
def Uq:List Nat->Bool
  |[]=>ze
  |b::l=>!JW b l&&Uq l
def backOf(l:List Nat)(n:Nat)(i:Nat):Option Nat:=bif zG i l.length then l[i]? else zi (n+(i-l.length))
def setAt(f:Nat->Option Nat)(i:Nat)(b:Blk)(h:PT Blk):PT Blk:=
  match f i with
  |some c=>h.set c (b.rnm f)
  |none=>h
def Zby(f:Nat->Option Nat):List Blk->Nat->PT Blk->PT Blk
  |[],_,h=>h
  |b::l,i,h=>Zby f l (i+1) (setAt f i b h)
def reachOf(hb:Nat->Blk)(args:V)(h:PT Blk)(n:Nat):List Nat:=reach (look hb h) n 100 (Zeq (look hb h) n [] args.names) 0
def Zfx(K:HK)(hb:Nat->Blk)(args:V)(h:PT Blk)(n:Nat)(l:List Nat):Option (Tree (V×PT Blk×Nat)):=
  bif l.all (λb=>zG b n&&!(look hb h b).isAny)&&Uq l then
    match K (args.rnm λb=>idxOf b l 0) (l.map λb=>(look hb h b).rnm λb=>idxOf b l 0)with
    |some T=>zi (T.bind λr=>.leaf (r.1.rnm (backOf l n),Zby (backOf l n) r.2 0 h,n+(r.2.length-l.length)))
    |none=>zm
  else zm
def Zfy(E:Env)(hb:Nat->Blk)(g:FuncId)(args:V)(h:PT Blk)(n:Nat):Option (Tree (V×PT Blk×Nat)):=
  match E.hk g with
  |some K=>Zfx K hb args.plain h n (reachOf hb args.plain h n)
  |none=>zm
def JN(E:Env)(rec_:Qh)(hb:Nat->Blk)(g:FuncId ⊕ Nat)(args:V)(h:PT Blk)(n:Nat):Tree (V×PT Blk×Nat):=
  match g with
  | .inr b=>ZcV E rec_ hb b args h n
  | .inl g=>match Zfy E hb g args h n with
    |some T=>T
    |none=>
    match E.P.funcs[g]? with
    |some fn=>match fn.body with
     |some c=>(rec_ g c (Base.fn hb) (enter hb args.plain fn.ntmps h n)).bind λx=>
      match x.1 with
      | .exit _=>.stuck
      |_=>(VN E.P x.2 fn.results.toList).bind λvs=>.leaf ((single vs).plain,x.2.h,x.2.n)
     |none=>.stuck
    |none=>.stuck
def Gu(E:Env)(call:Xh)(ops:Array Oper)(draw:Bool)(s:St B):Tree (Ex×St B):=
  match draw with
  |false=>bif ops.toList.all (Xw s.N)then(JO E call ops ops.toList s).bind λs'=>.leaf (.normal,s')else .stuck
  |true=>forceList (bfs ops.toList []) λbf=>bif Gb ops bf then(XZ E call ops bf s.n ops.toList 0 [] [] (s.VD ops)).bind λs'=>.leaf (.normal,s')else .stuck
def leave(id:Nat)(x:Ex×St B):Tree (Ex×St B):=
  match x.1 with
  | .exit id'=>bif zq id' id then .leaf (.normal,x.2)else .leaf (.exit id',x.2)
  |e=>.leaf (e,x.2)
def Ud(E:Env)(rec_:Qh)(f:FuncId)(c:Code)(B:Base)(s:St B):Tree (Ex×St B):=
  match c with
  | .skip=>.leaf (.normal,s)
  | .label _=>.leaf (.normal,s)
  | .exit id=>.leaf (.exit id,s)
  | .ret=>.leaf (.ret,s)
  | .scope b=>rec_ f b B s
  | .region _ ops draw=>match E.mg&&ops.toList.any (λo=>o.guard.isSome)with
    |true=>merged s λs=>Gu E (JN E rec_) ops draw s
    |false=>Gu E (JN E rec_) ops draw s
  | .seq a b=>(rec_ f a B s).bind λx=>match x.1 with
    | .normal=>rec_ f b B x.2
    |e=>.leaf (e,x.2)
  | .cond c a b=>match Zr s c with
    | .bool ze t=>match t with
      |true=>rec_ f a B s
      |false=>rec_ f b B s
    | .bool za t=>match E.KC f c s.tmp with
      |some ze=>.need (t=ze) (rec_ f a B (s.Qb c ze))
      |some za=>.need (t=za) (rec_ f b B (s.Qb c za))
      |none=>match E.mg&&!E.nm f with
       |true=>merged s λs=>.node t (rec_ f a _ (s.Qb c ze)) (rec_ f b _ (s.Qb c za))
       |false=>.node t (rec_ f a B (s.Qb c ze)) (rec_ f b B (s.Qb c za))
    |_=>.stuck
  | .block id b=>match E.mg&&!E.nm f with
    |true=>Zdq s λs=>(rec_ f b _ s).bind (leave id)
    |false=>(rec_ f b B s).bind (leave id)
  | .loop b=>match Qo E f b with
    |some g=>g B s
    |none=>(rec_ f b B s).bind λx=>match x.1 with
     | .normal=>rec_ f (.loop b) B x.2
     |e=>.leaf (e,x.2)
  | .rangeFunc g ps asg bd=>match Vi (Zr s g) (.cons (.yld s.n) .nil)with
    |some (.inl g',args)=>(JN E rec_ B.h (.inl g') args (s.h.set s.n (.rng f ps.toList asg bd s.tmp s.N 0 zm)) (s.n+1)).bind λr=>
        match look B.h r.2.1 s.n with
        | .rng _ _ _ _ _ _ st pend=>bif zq st 1 then .stuck else .leaf (pend.getD .normal,{ s with h:=r.2.1.set s.n .any,n:=r.2.2 })
        |_=>.stuck
    |_=>.stuck
  |_=>.stuck
def ev(E:Env)(k:Nat):Qh:=Nat.rec (λ_ _ _ _=>.stuck) (λ_ ih=>Ud E ih) k
def mapO(f:V->V):V->V
  | .cons a t=>.cons (mapO f a) (mapO f t)
  | .agg cs=>.agg (mapO f cs)
  | .tup cs=>.tup (mapO f cs)
  | .osl st b es i n=>f (.osl st b es i n)
  | .osp st b es i n c=>f (.osp st b es i n c)
  |v=>v
def pubRow(v:V)(st:Bool)(es i n:Nat)(cs:V):V:=bif st&&(cs.clean&&zK ((i+n)*es) cs.len)then .rsl ze es n λj=>(cs.drop ((i+j)*es)).take es else v
def pubO(h:Nat->Blk):Nat->V->V
  |0,v=>v
  |k+1,v=>match v.Wl with
   | .osl st b es i n=>match h b with
     | .var cs=>pubRow v st es i n (mapO (pubO h k) cs)
     |_=>v
   |_=>v
def Jv(h:Nat->Blk):V->Tree V
  | .cons a t=>(Jv h a).bind λa=>(Jv h t).bind λt=>.leaf (.cons a t)
  | .tup vs=>(Jv h vs).bind λvs=>.leaf (.tup vs)
  | .agg cs=>(Jv h cs).bind λcs=>.leaf (.agg cs)
  | .osl st b es i n=>match h b with
    | .var cs=>bif st&&(cs.clean&&zK ((i+n)*es) cs.len)then .leaf (.rsl ze es n λj=>(cs.drop ((i+j)*es)).take es)else .leaf (pubO h 3 (.osl st b es i n))
    | .arr es' k get=>bif zq es es' then(match st with
        |true=>bif zK (i+n) k then .leaf (.rsl ze es n λj=>get (i+j))else .stuck
        |false=>.need (i+n<=k) (.leaf (.rsl za es n λj=>get (i+j))))else .stuck
    |_=>.leaf (.osl st b es i n)
  | .osp st b es i n c=>bif zq n 0 then .leaf (.rsl ze es 0 λ_=>.nil)else .leaf (pubO h 3 (.osp st b es i n c))
  |v=>.leaf v
def ZT(E:Env)(k:Nat)(g:FuncId)(args:V):Tree V:=(JN E (ev E k) (λ_=>.none) (.inl g) args .nil 0).bind λr=>Jv (look (λ_=>.none) r.2.1) r.1
end Go.Fw
namespace Go.Fw
section
variable{F:Nat->Prop}{w:World}{n:Nat}{m:Nat->Option Nat}
theorem XM:∀(cs:V)(xs:List Value),RL F w cs n m xs->cs.len=xs.length:=by
 intro cs
 induction cs<;>grind[RL,V.len]
theorem RL_nth:∀(cs:V)(xs:List Value),RL F w cs n m xs->∀i x,xs[i]? =zi x->R F w (cs.nth i) n m x:=by
 intro cs
 induction cs with
 |nil=>grind[RL]
 |cons a t _ ih=>
  intro xs h i x hx
  obtain⟨y,r,rfl,h1,h2⟩:=h
  cases i with
  |zero=>simp at hx;subst hx;exact h1
  |succ i=>exact ih r h2 i x hx
 |_=>grind[RL]
theorem VY:∀(cs:V)(xs:List Value),RL F w cs n m xs->∀i,RL F w (cs.drop i) n m (xs.drop i):=by
 intro cs
 induction cs with
 |nil=>grind[RL,V.drop]
 |cons a t _ ih=>
  intro xs h i
  have h0:=h
  obtain⟨y,r,rfl,h1,h2⟩:=h
  cases i with
  |zero=>exact h0
  |succ i=>exact ih r h2 i
 |_=>grind[RL]
theorem K9:∀(cs:V)(xs:List Value),RL F w cs n m xs->∀i,RL F w (cs.take i) n m (xs.take i):=by
 intro cs
 induction cs with
 |nil=>grind[RL,V.take]
 |cons a t _ ih=>
  intro xs h i
  simp only[RL]at h
  obtain⟨y,r,rfl,h1,h2⟩:=h
  cases i with
  |zero=>simp only[List.take_zero];show RL F w .nil n m [];simp only[RL]
  |succ i=>
   simp
   show RL F w (.cons a (t.take i)) n m (y::r.take i)
   grind[RL]
 |_=>grind[RL]
theorem Zch:∀(cs:V)(xs:List Value),RL F w cs n m xs->∀(ds:V)(ys:List Value),RL F w ds n m ys->RL F w (cs.app ds) n m (xs++ys):=by
 intro cs
 induction cs<;>grind[RL,V.app]
variable{α:Type}
def XT:List α->Nat->List α->List α
 |[],_,_=>[]
 |h::t,0,vs=>match vs with
  |x::r=>x::XT t 0 r
  |[]=>h::t
 |h::t,o+1,vs=>h::XT t o vs
theorem J6:∀(cs:List α)(o:Nat)(vs:List α),(XT cs o vs).length=cs.length:=by
 intro cs
 induction cs with
 |nil=>intro o vs;rfl
 |cons h t ih=>
  intro o vs
  cases o with
  |zero=>cases vs<;>simp only[XT,List.length_cons,ih]
  |succ o=>grind[XT]
theorem VP:∀(cs:List α)(o:Nat)(vs:List α)(j:Nat),j<cs.length->
  (XT cs o vs)[j]? =if o<=j/\j<o+vs.length then vs[j-o]? else cs[j]?:=by
 intro cs
 induction cs with
 |nil=>grind
 |cons h t ih=>
  intro o vs j hj
  cases o with
  |zero=>cases vs<;>grind[XT]
  |succ o=>grind[XT,List.getElem?_cons_succ,Nat.add_sub_add_right]
theorem Zen:∀(cs:V)(xs:List Value),RL F w cs n m xs->∀(o:Nat)(vs:V)(ys:List Value),RL F w vs n m ys->
  RL F w (cs.splice o vs) n m (XT xs o ys):=by
 intro cs
 induction cs with
 |nil=>grind[RL,V.splice,XT]
 |cons a t _ ih=>
  intro xs h o vs ys hv
  have h0:=h
  simp only[RL]at h
  obtain⟨y,r,rfl,h1,h2⟩:=h
  cases o with
  |zero=>
   cases vs with
   |nil=>subst hv;exact h0
   |cons b u=>
    simp only[RL]at hv
    obtain⟨z,q,rfl,h3,h4⟩:=hv
    show RL F w (.cons b (t.splice 0 u)) n m (z::XT r 0 q)
    grind[RL]
   |_=>grind[RL]
  |succ o=>
   show RL F w (.cons a (t.splice o vs)) n m (y::XT r o ys)
   grind[RL]
 |_=>grind[RL]
theorem Zci(v:Value):R F w (V.VG v) n m v:=by
 unfold V.VG
 split<;>first
  |(simp only[R];done)
  |(simp;exact⟨_,_,rfl,by simp_all[RL],by simp_all[RL]⟩)
  |(simp;split<;>simp_all[R,RL])
  |(split<;>simp_all[R,RL])
theorem ZjL:∀(l:List Value),RL F w (V.ofList (l.map V.VG)) n m l:=by
 intro l
 induction l<;>grind[V.ofList,RL,Zci]
theorem R_const(v:Value):R F w (V.ofValue v) n m v:=by
 unfold V.ofValue
 grind[R,ZjL,Zci]
theorem R_cell(v:V)(x:Value)(h:R F w v n m x)(hs:v.cell=ze):(∀cs,x≠.agg cs)/\∀cs,x≠.tuple cs:=by
 cases v
 case ifc=>simp only[R]at h;grind
 case rptr=>simp only[R]at h;grind
 case yld=>simp only[R]at h;grind
 case mp=>simp only[R]at h;grind
 case osl=>simp only[R]at h;grind
 case rsl=>simp only[R]at h;grind
 case fn=>simp only[R]at h;grind
 case rmp=>simp only[R]at h;grind
 case osp=>simp only[R]at h;grind
 case esl=>simp only[R]at h;grind
 case ptr=>simp only[R]at h;grind
 all_goals first
  |(cases hs;done)
  |(simp only[R]at h;subst h;exact⟨(λ_=>by simp),λ_=>by simp⟩)
theorem UL(v:V)(x:Value)(h:R F w v n m x)(hs:v.solid=ze):RL F w v.cells n m x.cells.toList:=by
 cases v with
 |agg cs=>obtain⟨xs,rfl,h⟩:=h;exact h
 |junk=>cases hs
 |nil=>cases hs
 |cons a b=>cases hs
 |_=>
  have hc:x.cells= #[x]:=by
   first
    |(simp at h;subst h;rfl)
    |(obtain⟨ha,_⟩:=R_cell _ x h rfl;cases x<;>first|rfl|exact absurd rfl (ha _))
    |(simp only[R]at h;obtain⟨_,rfl,_⟩:=h;rfl)
    |(simp at h;subst h;rfl)
  grind[V.cells,RL]
theorem ZjK:∀(cs:V)(xs:List Value),RL F w cs n m xs->cs.YN=ze->∀x∈xs,(∀c,x≠.agg c)/\∀c,x≠.tuple c:=by
 intro cs
 induction cs<;>grind[RL,V.YN,R_cell]
end
end Go.Fw
namespace Go.Fw
def Val(P:Program)(F:Nat->Prop)(w:World)(n:Nat)(m:Nat->Option Nat)(T:Tree V)(sem:Sem Value):Prop:=
 ∀Q:V->Prop,T.holds P Q->∃v x,Q v/\sem.run P w=.ok x w/\R F w v n m x
section
variable{P:Program}{F:Nat->Prop}{w:World}{n:Nat}{m:Nat->Option Nat}
variable{v:V}{sem:Sem Value}{x:Value}
theorem Val.leaf(h:sem.run P w=.ok x w)(hv:R F w v n m x):Val P F w n m (.leaf v) sem:=
 λ_ hq=>⟨v,x,hq,h,hv⟩
theorem Val.stuck:Val P F w n m .stuck sem:=λ_ hq=>hq.elim
variable{T:Tree V}
theorem Val.need{p:Prop}(h:p->Val P F w n m T sem):Val P F w n m (.need p T) sem:=
 λQ hq=>h hq.1 Q hq.2
variable{st:Bool}{a:Int}
theorem Yo{k:IntKind}:R F w (.int st k a) n m x↔x=.int k a:=by simp only[R]
theorem WJ{a:Bool}:R F w (.bool st a) n m x↔x=.bool a:=by simp only[R]
theorem QH{a:List UInt8}:R F w (.str st a) n m x↔x=.string ⟨a.toArray⟩:=by simp only[R]
theorem ZlW{y:Int}(h:y≠0->Val P F w n m T sem):Val P F w n m (Zgz st y T) sem:=by
 unfold Zgz
 cases st with
 |false=>exact Val.need h
 |true=>
  dsimp only
  split<;>grind[Val.stuck]
theorem ZlV{y:Int}{T:Nat->Tree V}(h:¬y<0->Val P F w n m (T y.toNat) sem):Val P F w n m (Zgy st y T) sem:=by
 unfold Zgy
 cases st with
 |false=>grind[Val.need]
 |true=>
  dsimp only
  split<;>grind[Val.stuck]
variable{k:Nat}
theorem UO{j:Int}{T:Nat->Tree V}(h:0<=j->j<k->Val P F w n m (T j.toNat) sem):Val P F w n m (Ke st j k T) sem:=by
 unfold Ke
 cases st with
 |false=>grind[Val.need]
 |true=>
  dsimp only
  split<;>grind[zG,Val.stuck,Nat.blt_eq]
theorem ZdV{j:Int}{T:Nat->Tree V}(h:0<=j->j<=k->Val P F w n m (T j.toNat) sem):Val P F w n m (ZbL st j k T) sem:=by
 unfold ZbL
 cases st with
 |false=>grind[Val.need]
 |true=>
  dsimp only
  split<;>grind[zK,Val.stuck,Nat.ble_eq]
variable{i:Nat}
theorem atIdx_val(h:i<k->Val P F w n m T sem):Val P F w n m (atIdx st i k T) sem:=by
 unfold atIdx
 grind[Val.need,zG,Val.stuck,Nat.blt_eq]
variable{op:BinOp}
theorem evInt_val{s s':Bool}{k:IntKind}{b:Int}(t:TypeId)(hs:Zbf op=za) :
  Val P F w n m (evInt op s s' k a b) (binOp op t (.int k a) (.int k b)):=by
 have e : ∀k',binOp op t (.int k a) (.int k' b)=if k≠k' then stuck "BinOp: operands of different kinds" else
   match op with
   | .add| .sub| .mul=>Op.intArith op k a b
   | .quo| .rem=>Op.intDiv op k a b
   | .and| .or| .xor| .andNot=>Op.intBits op k a b
   |_=>Op.intCmp op a b:=by
  intro k';cases op<;>first|(cases hs;done)|rfl
 rw[e k,if_neg (by simp)]
 cases op<;>first|(cases hs;done)|skip
 case add=>exact Val.leaf rfl (by rw[Wp,Yo])
 case sub=>exact Val.leaf rfl (by rw[Wp,Yo])
 case mul=>exact Val.leaf rfl (by rw[Wp,Yo])
 case quo=>exact ZlW λh=>Val.leaf (by simp[Op.intDiv,h];rfl) (by rw[Wp,Yo])
 case rem=>exact ZlW λh=>Val.leaf (by simp[Op.intDiv,h];rfl) (by rw[Wp,Yo])
 case and=>exact Val.leaf rfl (by rw[Wp,Yo])
 case or=>exact Val.leaf rfl (by rw[Wp,Yo])
 case xor=>exact Val.leaf rfl (by rw[Wp,Yo])
 case andNot=>exact Val.leaf rfl (by rw[Wp,Yo])
 all_goals exact Val.leaf rfl (by rw[KX,WJ])
theorem Zpx{s s':Bool}{k k':IntKind}{b:Int}(t:TypeId)(hs:Zbf op=ze) :
  Val P F w n m (evShift op s s' k a b) (binOp op t (.int k a) (.int k' b)):=by
 cases op<;>first|(cases hs;done)|skip
 ·exact ZlV λh=>Val.leaf (by show(Op.shift .shl k a k' b).run P w=_;simp only[Op.shift,if_neg h];rfl) (by rw[Wp,Yo])
 ·exact ZlV λh=>Val.leaf (by show(Op.shift .shr k a k' b).run P w=_;simp only[Op.shift,if_neg h];rfl) (by rw[Wp,Yo])
variable{t:TypeId}
theorem Zg7{b:Bool}(h:Uz P t=zi b):(isAgg t).run P w=.ok b w:=by
 unfold Uz at h
 unfold isAgg
 cases hu:P.underlying t with
 |none=>grind
 |some d=>
  rw[hu]at h
  simp only[zM,run_underlying hu,zP]
  cases d<;>simp_all<;>rfl
theorem XU{z:Nat}(h:ZW P t=zi z):(sizeOf t).run P w=.ok z w:=by
 unfold ZW at h
 cases hi:P.info? t with
 |none=>grind
 |some i=>
  rw[hi]at h
  injection h with h
  subst h
  rw[run_sizeOf w hi]
  grind[Program.cellsOf]
variable{cs:V}
theorem JD:R F w (.agg cs) n m x↔∃xs,x=.agg xs/\RL F w cs n m xs.toList:=by simp only[R]
variable{o:Nat}
theorem Zl4{xs:List Value}(h:partOf P t cs o=zi v)(hr:RL F w cs n m xs) :
  (Uz P t=zi ze/\∃z,ZW P t=zi z/\o+z<=xs.length/\R F w v n m (.agg ((xs.drop o).take z).toArray))\/
  (Uz P t=zi za/\∃x,xs[o]? =zi x/\R F w v n m x):=by
 unfold partOf at h
 cases ha:Uz P t with
 |none=>grind
 |some b=>
  rw[ha]at h
  cases b with
  |true=>
   dsimp only at h
   cases hz:ZW P t with
   |none=>grind
   |some z=>
    rw[hz]at h
    dsimp only at h
    rw[XM cs xs hr]at h
    cases hle:zK (o+z) xs.length
    ·grind
    ·rw[hle]at h
     injection h with h
     subst h
     simp_all[refine,yA,JD,K9,VY]
  |false=>
   dsimp only at h
   rw[XM cs xs hr]at h
   cases hle:zG o xs.length
   ·grind
   ·rw[hle]at h
    injection h with h
    subst h
    have hlt:o<xs.length:=by simpa[Nat.blt_eq]using hle
    exact .inr ⟨rfl,xs[o],List.getElem?_eq_getElem hlt,RL_nth cs xs hr o _ (List.getElem?_eq_getElem hlt)⟩
theorem Zdy{xs:Array Value}(h:partOf P t cs o=zi v)(hr:RL F w cs n m xs.toList) :
  ∃x,(part t xs o).run P w=.ok x w/\R F w v n m x:=by
 rcases Zl4 h hr with⟨ha,z,hz,hle,hv⟩|⟨ha,x,hx,hv⟩
 ·refine⟨_,?_,hv⟩
  unfold part
  simp only[zM,Zg7 ha,zP,if_true,XU hz]
  have e:xs.extract o (o+z)=((xs.toList.drop o).take z).toArray:=by
   grind
  rw[e]
  rfl
 ·refine⟨x,?_,hv⟩
  unfold part
  simp_all[zM,Zg7,zP,Bool.false_eq_true]
theorem Zdt{o:Option V}(h:∀v,o=zi v->∃x,sem.run P w=.ok x w/\R F w v n m x):Val P F w n m (.Ur o) sem:=by
 cases o with
 |none=>exact Val.stuck
 |some v=>obtain⟨x,hx,hv⟩:=h v rfl;exact Val.leaf hx hv
theorem Zpi{a:V}{f:Nat}(h:R F w a n m x):Val P F w n m (ZcN P t a f) (Instr.field t x f):=by
 unfold ZcN
 cases hu:P.underlying t with
 |none=>exact Val.stuck
 |some d=>
  cases d<;>try exact Val.stuck
  rename_i fields
  dsimp only
  cases hf:fields[f]? with
  |none=>exact Val.stuck
  |some fd=>
   dsimp only
   cases a<;>try exact Val.stuck
   rename_i cs
   rw[JD]at h
   obtain⟨xs,rfl,hr⟩:=h
   refine Zdt λv hv=>?_
   obtain⟨x,hx,hR⟩:=Zdy hv hr
   refine⟨x,?_,hR⟩
   simp only[Instr.field,zM,run_underlying hu,zP,hf,asAgg,zV,hx]
theorem Zpg{a:V}(h:R F w a n m x):Val P F w n m (Zfw a i) (Instr.extract x i):=by
 cases a<;>try exact Val.stuck
 rename_i vs
 simp only[R]at h
 obtain⟨xs,rfl,hr⟩:=h
 show Val P F w n m (bif zG i vs.len then .leaf (vs.nth i)else .stuck) _
 rw[XM vs _ hr]
 cases hle:zG i xs.toList.length
 ·exact Val.stuck
 ·have hlt:i<xs.toList.length:=by simpa[Nat.blt_eq]using hle
  have hx:=List.getElem?_eq_getElem hlt
  refine Val.leaf (x:=xs.toList[i]) ?_ (RL_nth vs _ hr i _ hx)
  have hx':xs[i]? =zi xs.toList[i]:=by simp
  simp only[Instr.extract,hx',zV]
variable{b es:Nat}
theorem Wm:R F w (.ptr st b es i o) n m x↔b<n/\∃B,x=.pointer (zi ⟨B,i*es+o,zm⟩)/\m b=zi B:=by simp only[R]
def RRow(F:Nat->Prop)(w:World)(es k:Nat)(get:Nat->V)(B off:Nat):Prop:=
 F B/\∃c el fr,w.heap[B]? =zi (.cells c el fr)/\∀j,j<k->∃xs,RL F w (get j) 0 (λ_=>zm) xs/\xs.length=es/\∀q,q<es->c[off+j*es+q]? =xs[q]?
theorem JE{get:Nat->V} :
  R F w (.rptr st es k get i o) n m x↔i<k/\∃B off,x=.pointer (zi ⟨B,off+i*es+o,zm⟩)/\RRow F w es k get B off:=by simp only[R,RRow]
theorem Wi{get:Nat->V} :
  R F w (.rsl st es k get) n m x↔∃a cap,x=.slice a k cap/\k<=cap/\(k=0\/∃B off,a=zi ⟨B,off,zm⟩/\RRow F w es k get B off):=by simp only[R,RRow]
variable{F:Nat->Prop}{m:Nat->Option Nat}
theorem Kc{w:World}{n:Nat}{c0:Nat} :
  R F w (.osp st b es i k c0) n m x↔b<n/\∃a cap,x=.slice a k cap/\k<=c0/\c0<=cap/\(cap=0\/∃B c el fr,a=zi ⟨B,i*es,zm⟩/\m b=zi B/\w.heap[B]? =zi (.cells c el fr)/\(i+cap)*es<=c.size):=by
 grind[R]
theorem Zaq{w:World}{n:Nat}{nn:Bool} :
  R F w (.esl nn es) n m x↔∃a,x=.slice a 0 0/\(nn=ze->a≠zm):=by
 grind[R]
theorem Yp :
  R F w (.osl st b es i k) n m x↔b<n/\∃a cap,x=.slice a k cap/\k<=cap/\(cap=0\/∃B c el fr,a=zi ⟨B,i*es,zm⟩/\m b=zi B/\w.heap[B]? =zi (.cells c el fr)/\(i+cap)*es<=c.size):=by simp only[R]
end
end Go.Fw
namespace Go.Fw
section
variable{F:Nat->Prop}{w:World}
theorem UM{st:Bool}{es:Nat}{get:Nat->V}{n:Nat}{m:Nat->Option Nat}{x:Value}(h:R F w .Zo n m x):R F w (.rsl st es 0 get) n m x:=by
 simp_all[R,Wi,Nat.le_refl]
theorem ZiY(b:Bool):∀(x y:V)(n:Nat)(m:Nat->Option Nat),
  (x.one=ze->∀z,R F w (bif b then x else y) n m z->R F w (Wh b x y) n m z)/\(Qr x y=ze->∀zs,RL F w (bif b then x else y) n m zs->RL F w (Wh b x y) n m zs):=by
 have junk:∀{n:Nat}{m:Nat->Option Nat}{z:Value},R F w .junk n m z:=by intros;simp only[R]
 intro x
 induction x with
 |nil=>
  intro y n m
  refine⟨(λh=>by cases h),λhs zs h=>?_⟩
  cases y<;>try(cases hs;done)
  cases b<;>exact h
 |cons p q ih1 ih2=>
  intro y n m
  refine⟨(λh=>by cases h),λhs zs h=>?_⟩
  cases y<;>try(cases hs;done)
  rename_i p' q'
  have e:(bif b then(V.cons p q)else .cons p' q')=.cons (bif b then p else p') (bif b then q else q'):=by cases b<;>rfl
  rw[e]at h
  simp only[RL]at h
  obtain⟨z,r,rfl,h1,h2⟩:=h
  simp only[Wh,RL]
  simp only[Qr,zL]at hs
  exact⟨z,r,rfl,(ih1 p' n m).1 hs.1 z h1,(ih2 q' n m).2 hs.2 r h2⟩
 |agg cs ih=>
  intro y n m
  refine⟨λ_ z h=>?_,λhs=>by cases hs⟩
  cases y<;>simp only[Wh]<;>try exact junk
  rename_i cs'
  cases hs:Qr cs cs'
  ·exact junk
  ·have e:(bif b then(V.agg cs)else .agg cs')=.agg (bif b then cs else cs'):=by cases b<;>rfl
   rw[e,JD]at h
   obtain⟨xs,rfl,h⟩:=h
   simp only[cond_true,JD]
   exact⟨xs,rfl,(ih cs' n m).2 hs _ h⟩
 |tup cs ih=>
  intro y n m
  refine⟨λ_ z h=>?_,λhs=>by cases hs⟩
  cases y<;>simp only[Wh]<;>try exact junk
  rename_i cs'
  cases hs:Qr cs cs'
  ·exact junk
  ·have e:(bif b then(V.tup cs)else .tup cs')=.tup (bif b then cs else cs'):=by cases b<;>rfl
   rw[e]at h
   simp only[cond_true,R]at h⊢
   obtain⟨xs,rfl,h⟩:=h
   exact⟨xs,rfl,(ih cs' n m).2 hs _ h⟩
 |int st k a=>
  intro y n m
  refine⟨λ_ z h=>?_,λhs=>by cases hs⟩
  cases y<;>simp only[Wh]<;>try exact junk
  split
  ·rename_i s' k' n' hk;subst hk
   cases hc:(st&&s')&&decide (a=n')
   ·cases b<;>simp only[cond_true,cond_false,Yo]at h⊢ <;>exact h
   ·simp only[zL,decide_eq_true_eq]at hc
    obtain⟨_,rfl⟩:=hc
    cases b<;>simp only[cond_true,cond_false,Yo]at h⊢ <;>exact h
  ·exact junk
 |bool st a=>
  intro y n m
  refine⟨λ_ z h=>?_,λhs=>by cases hs⟩
  cases y<;>simp only[Wh]<;>try exact junk
  rename_i st' a'
  cases st&&st'
  ·cases b<;>simp only[cond_true,cond_false,WJ]at h⊢ <;>exact h
  ·cases b<;>cases a<;>cases a'<;>simp only[cond_true,cond_false,WJ]at h⊢ <;>exact h
 |ptr st bl es i o=>
  intro y n m
  refine⟨λ_ z h=>?_,λhs=>by cases hs⟩
  cases y<;>simp only[Wh]<;>try exact junk
  rename_i st' bl' es' i' o'
  cases hc:(st&&st')&&(zq bl bl'&&(zq es es'&&(zq i i'&&zq o o')))
  ·exact junk
  ·simp only[zL]at hc
   obtain⟨_,h1,h2,h3,h4⟩:=hc
   obtain rfl:=zO h1
   obtain rfl:=zO h2
   obtain rfl:=zO h3
   obtain rfl:=zO h4
   cases b<;>simp only[cond_true,cond_false,Wm]at h⊢ <;>exact h
 |osl st bl es i k=>
  intro y n m
  refine⟨λ_ z h=>?_,λhs=>by cases hs⟩
  cases y<;>simp only[Wh]<;>try exact junk
  rename_i st' bl' es' i' k'
  cases hc:(st&&st')&&(zq bl bl'&&(zq es es'&&(zq i i'&&zq k k')))
  ·exact junk
  ·simp only[zL]at hc
   obtain⟨_,h1,h2,h3,h4⟩:=hc
   obtain rfl:=zO h1
   obtain rfl:=zO h2
   obtain rfl:=zO h3
   obtain rfl:=zO h4
   cases b<;>simp only[cond_true,cond_false,Yp]at h⊢ <;>exact h
 |str st a=>
  intro y n m
  refine⟨λ_ z h=>?_,λhs=>by cases hs⟩
  cases y<;>simp only[Wh]<;>try exact junk
  cases b<;>simp only[cond_true,cond_false,QH]at h⊢ <;>exact h
 |Zo=>
  intro y n m
  refine⟨λ_ z h=>?_,λhs=>by cases hs⟩
  cases y<;>simp only[Wh]<;>try exact junk
  ·rename_i st es k get
   cases b
   ·simp only[cond_false]at h⊢;rw[Wi]at h⊢;exact h
   ·simp only[cond_true]at h⊢;exact UM h
  ·cases b<;>exact h
 |rsl st es k get ih=>
  intro y n m
  refine⟨λ_ z h=>?_,λhs=>by cases hs⟩
  cases y<;>simp only[Wh]<;>try exact junk
  ·rename_i st' es' k' get'
   cases he:zq es es'
   ·exact junk
   ·obtain rfl:=zO he
    have e:R F w (.rsl st es (bif b then k else k') λj=>bif b then get j else get' j) n m z:=by
     cases b<;>simp only[cond_true,cond_false]at h⊢ <;>(rw[Wi]at h⊢;exact h)
    simp only[cond_true]
    rw[Wi]at e⊢
    obtain⟨a,cap,h1,h2,h3⟩:=e
    refine⟨a,cap,h1,h2,h3.imp id λ⟨B,off,k1,k2,c,el,fr,k3,k4⟩=>⟨B,off,k1,k2,c,el,fr,k3,λj hj=>?_⟩⟩
    obtain⟨xs,q1,q2,q3⟩:=k4 j hj
    refine⟨xs,?_,q2,q3⟩
    dsimp only at q1⊢
    cases hs:Qr (get j) (get' j)with
    |false=>exact q1
    |true=>exact(ih j (get' j) 0 _).2 hs xs q1
  ·cases b
   ·simp only[cond_false]at h⊢;exact UM h
   ·simp only[cond_true]at h⊢;rw[Wi]at h⊢;exact h
 |nilif=>
  intro y n m
  refine⟨λ_ z h=>?_,λhs=>by cases hs⟩
  cases y<;>simp only[Wh]<;>try exact junk
  ·cases b<;>exact h
  ·cases b
   ·simp only[cond_false,R]at h⊢;exact h
   ·simp only[cond_true,R]at h⊢;exact .inl ⟨trivial,h⟩
 |ifc st c=>
  intro y n m
  refine⟨λ_ z h=>?_,λhs=>by cases hs⟩
  cases y<;>simp only[Wh]<;>try exact junk
  ·cases b
   ·simp only[cond_false,R]at h⊢;exact .inl ⟨trivial,h⟩
   ·simp only[cond_true,R]at h⊢;exact h
  ·cases b<;>simp only[cond_true,cond_false,R]at h⊢ <;>exact h
 |_=>
  intro y n m
  refine⟨λ_ z h=>?_,λhs=>by cases hs⟩
  cases y<;>simp only[Wh]<;>first
   |exact junk
   |(cases b<;>exact h)
end
theorem VF{F:Nat->Prop}{w:World}{b:Bool}{x y:V}{n:Nat}{m:Nat->Option Nat}{z:Value}(h:R F w (bif b then x else y) n m z):R F w (VE b x y) n m z:=by
 unfold VE
 cases ho:x.one<;>simp_all[ZiY,R]
end Go.Fw
namespace Go.Fw
section
variable{P:Program}{F:Nat->Prop}{w:World}{n:Nat}{m:Nat->Option Nat}
theorem add_plain(B o k:Nat):Addr.add ⟨B,o,zm⟩ k=⟨B,o+k,zm⟩:=by
 unfold Addr.add
 grind
variable{a:V}{x:Value}
theorem Zpr(h:R F w a n m x) :
  ∀Q:V->Prop,(Zij a).holds P Q->Q a/\(x≠.pointer zm/\x≠.nilIface/\x≠.nilFunc/\∀nm f c,x≠.func (.method nm) f c):=by
 intro Q hq
 cases a<;>try exact hq.elim
 ·rename_i st b es i o
  rw[Wm]at h
  obtain⟨_,B,rfl,_⟩:=h
  exact⟨hq,by simp,by simp,by simp,by simp⟩
 ·rw[JE]at h
  obtain⟨_,B,off,rfl,_⟩:=h
  exact⟨hq,by simp,by simp,by simp,by simp⟩
 ·rename_i f first cap
  cases f<;>try exact hq.elim
  simp only[R]at h
  obtain⟨xs,ys,rfl,_⟩:=h
  exact⟨hq,by simp,by simp,by simp,by simp⟩
theorem Zph{s:TypeId}{f:Nat}(h:R F w a n m x) :
  Val P F w n m (ZcO P s a f) (Instr.fieldAt s x f):=by
 unfold ZcO
 cases ho:ZcW P s f with
 |none=>exact Val.stuck
 |some r=>
  obtain⟨off,ft⟩:=r
  dsimp only
  unfold ZcW at ho
  cases hu:P.underlying s with
  |none=>grind
  |some d=>
   rw[hu]at ho
   cases d<;>try(cases ho;done)
   rename_i fields
   dsimp only at ho
   cases hf:fields[f]? with
   |none=>grind
   |some fd=>
    rw[hf]at ho
    dsimp only at ho
    split at ho
    ·rename_i z hz
     injection ho with ho
     injection ho with h1 h2
     subst h1
     have hrun:∀B o,(Instr.fieldAt s (.pointer (zi ⟨B,o,zm⟩)) f).run P w=.ok (.pointer (zi ⟨B,o+fd.offset,zm⟩)) w:=by
      intro B o
      simp only[Instr.fieldAt,zM,run_underlying hu,zP,hf,Instr.sureAddr,zV,fieldPlace,XU hz]
      grind[zV,zP,add_plain]
     grind[Val.stuck,Wm,refine,Val.leaf,Nat.add_assoc,JE]
    ·cases ho
theorem allB_at{f:Nat->Bool}:∀{k:Nat},allB k f=ze->∀j,j<k->f j=ze:=by
 intro k
 induction k<;>grind[allB]
theorem ZmH{st:Bool}{es n':Nat}{get:Nat->V}{i o:Nat}(h:R F w (.rptr st es n' get i o) n m x){len z:Nat}(hle:o+len*z<=(get i).len) :
  ∃B off,x=.pointer (zi ⟨B,off,zm⟩)/\F B/\∃c el fr,w.heap[B]? =zi (.cells c el fr)/\
   ∀q,q<len->∃xs,RL F w (elemAt (get i) o z q) 0 (λ_=>zm) xs/\xs.length=z/\∀p,p<z->c[off+q*z+p]? =xs[p]?:=by
 rw[JE]at h
 obtain⟨hi,B,off,rfl,hF,c,el,fr,hc,hrow⟩:=h
 obtain⟨xs0,h0,hl,hq⟩:=hrow i hi
 rw[XM _ _ h0,hl]at hle
 refine⟨B,off+i*es+o,rfl,hF,c,el,fr,hc,λq hqn=>⟨(xs0.drop (o+q*z)).take z,K9 _ _ (VY _ _ h0 _) _,?_,λp hp=>?_⟩⟩
 ·have hmul:(q+1)*z<=len*z:=yx _ hqn
  grind
 ·have hmul:(q+1)*z<=len*z:=yx _ hqn
  grind
variable{F:Nat->Prop}{m:Nat->Option Nat}
theorem selR_RL{row:Nat->V}{j:Nat}{w:World}{n:Nat}:∀(k:Nat),selOk row j (k+1)=ze->j<=k->∀xs,RL F w (row j) n m xs->RL F w (selR row j (k+1)) n m xs:=by
 intro k
 induction k with
 |zero=>
  intro _ hj xs h
  have:j=0:=by omega
  subst this;exact h
 |succ k ih=>
  intro hok hj xs h
  have e:selR row j (k+1+1)=Wh (zq j (k+1)) (row (k+1)) (selR row j (k+1)):=rfl
  have hsame:Qr (row (k+1)) (selR row j (k+1))=ze:=allB_at hok k (by show k<k+1+1-1;omega)
  rw[e]
  refine(ZiY (zq j (k+1)) (row (k+1)) (selR row j (k+1)) n m).2 hsame xs ?_
  by_cases hjk:j=k+1
  ·subst hjk;rw[Nat.beq_refl];exact h
  ·have:zq j (k+1)=za:=by
    cases hb:zq j (k+1)
    ·rfl
    ·exact absurd (zO hb) hjk
   rw[this]
   refine ih ?_ (by omega) xs h
   have e2:selOk row j (k+1+1)=(selOk row j (k+1)&&Qr (row (k+1)) (selR row j (k+1))):=rfl
   rw[e2,zL]at hok
   exact hok.1
theorem selV_R{row:Nat->V}{j:Nat}{w:World}{n:Nat}:∀(k:Nat),j<=k->∀x,R F w (row j) n m x->R F w (selV row j (k+1)) n m x:=by
 intro k
 induction k with
 |zero=>
  intro hj x h
  have:j=0:=by omega
  subst this;exact h
 |succ k ih=>
  intro hj x h
  have e:selV row j (k+1+1)=VE (zq j (k+1)) (row (k+1)) (selV row j (k+1)):=rfl
  rw[e]
  refine VF ?_
  by_cases hjk:j=k+1
  ·subst hjk;rw[Nat.beq_refl];exact h
  ·have:zq j (k+1)=za:=by
    cases hb:zq j (k+1)
    ·rfl
    ·exact absurd (zO hb) hjk
   rw[this]
   exact ih (by omega) x h
variable{t:TypeId}{ix:Value}
theorem Zpk{ia:V}(h:R F w a n m x)(hi:R F w ia n m ix) :
  Val P F w n m (Gs P t a ia) (Instr.indexAt t x ix):=by
 unfold Gs
 cases ia<;>try exact Val.stuck
 rename_i s k j
 rw[Yo]at hi
 subst hi
 dsimp only
 cases hu:P.underlying t with
 |none=>exact Val.stuck
 |some d=>
  cases d<;>try exact Val.stuck
  ·rename_i e
   dsimp only
   cases hz:ZW P e with
   |none=>exact Val.stuck
   |some z=>
    dsimp only
    have hrun:∀(B o len cap:Nat),0<=j->j<len->(Instr.indexAt t (.slice (zi ⟨B,o,zm⟩) len cap) (.int k j)).run P w=.ok (.pointer (zi ⟨B,o+j.toNat*z,zm⟩)) w:=by
     intro B o len cap h1 h2
     simp only[Instr.indexAt,asIntOf,zM,zV,run_underlying hu,zP]
     simp_all[zM,XU,zP,zV,add_plain]
    cases a<;>try exact Val.stuck
    ·grind[zq,Val.stuck,zO,refine,UO,Wi,Val.leaf,JE]
    ·rename_i st b es i len
     dsimp only
     cases he:zq z es
     ·exact Val.stuck
     ·have he':z=es:=zO he
      grind[refine,UO,Yp,Val.leaf,Wm]
  ·rename_i len e
   dsimp only
   cases hz:ZW P e with
   |none=>exact Val.stuck
   |some z=>
    dsimp only
    cases s with
    |false=>
     dsimp only
     cases a<;>try exact Val.stuck
     rename_i st es n' get i o
     dsimp only
     cases hc:(st&&zK (o+len*z) (get i).len)&&selOk (elemAt (get i) o z) j.toNat len
     ·exact Val.stuck
     simp only[cond_true]
     refine UO λh1 h2=>?_
     simp only[zL]at hc
     obtain⟨B,off,rfl,hF,c,el,fr,hcell,hrow⟩:=ZmH h (yA hc.1.2)
     have hrun:(Instr.indexAt t (.pointer (zi ⟨B,off,zm⟩)) (.int k j)).run P w=.ok (.pointer (zi ⟨B,off+j.toNat*z,zm⟩)) w:=by
      simp only[Instr.indexAt,asIntOf,zM,zV,run_underlying hu,zP,Instr.sureAddr]
      simp_all[zM,XU,zP,zV,add_plain]
     have hjn:j.toNat<len:=by omega
     refine Val.leaf hrun ?_
     rw[JE]
     obtain⟨k,hk⟩:∃k,len=k+1:=⟨len-1,by omega⟩
     obtain⟨xs,hx,hl,hp⟩:=hrow j.toNat hjn
     refine⟨by omega,B,off+j.toNat*z,by rw[Nat.zero_mul];rfl,hF,c,el,fr,hcell,λq hq=>⟨xs,?_,hl,λp hpz=>?_⟩⟩<;>grind[refine,selR_RL]
    |true=>
     dsimp only
     refine UO λh1 h2=>?_
     have hrun:∀(B o:Nat),(Instr.indexAt t (.pointer (zi ⟨B,o,zm⟩)) (.int k j)).run P w=.ok (.pointer (zi ⟨B,o+j.toNat*z,zm⟩)) w:=by
      intro B o
      simp only[Instr.indexAt,asIntOf,zM,zV,run_underlying hu,zP,Instr.sureAddr]
      simp_all[zM,XU,zP,zV,add_plain]
     grind[Val.stuck,Wm,refine,Val.leaf,Nat.add_assoc,JE]
theorem Zpl{ia:V}(h:R F w a n m x)(hi:R F w ia n m ix):Val P F w n m (ZcQ P t a ia) (Instr.index t x ix):=by
 unfold ZcQ
 cases ia<;>try exact Val.stuck
 rename_i s k j
 rw[Yo]at hi
 subst hi
 dsimp only
 cases hu:P.underlying t with
 |none=>exact Val.stuck
 |some d=>
  cases d<;>try exact Val.stuck
  ·dsimp only
   cases a<;>try exact Val.stuck
   rename_i st l
   dsimp only
   refine UO λh1 h2=>?_
   rw[QH]at h
   subst h
   have hlt:j.toNat<l.length:=by omega
   refine Val.leaf (x:=.int .u8 (l.getD j.toNat 0).toNat) ?_ (by rw[Wp,Yo])
   have hb:(ByteArray.mk l.toArray)[j.toNat]? =zi (l.getD j.toNat 0):=by
    have hs:(ByteArray.mk l.toArray).size=l.length:=by simp[ByteArray.size]
    rw[getElem?_pos _ _ (by rw[hs];exact hlt)]
    congr 1
    simp only[List.getD,List.getElem?_eq_getElem hlt,Option.getD_some]
    rfl
   simp only[Instr.index,asIntOf,zM,zV,run_underlying hu,zP,if_pos h1,hb]
  ·rename_i len e
   dsimp only
   cases hz:ZW P e with
   |none=>exact Val.stuck
   |some z=>
    dsimp only
    cases s with
    |false=>
     dsimp only
     cases a<;>try exact Val.stuck
     rename_i cs
     dsimp only
     cases hc:zG 0 len&&allB len λk=>(partOf P e cs (k*z)).isSome
     ·exact Val.stuck
     simp only[cond_true]
     simp only[zL]at hc
     refine UO λh1 h2=>?_
     have hjn:j.toNat<len:=by omega
     rw[JD]at h
     obtain⟨xs,rfl,hr⟩:=h
     have hsome:=allB_at hc.2 j.toNat hjn
     cases hp:partOf P e cs (j.toNat*z)with
     |none=>grind
     |some v=>
      obtain⟨x,hx,hR⟩:=Zdy hp hr
      refine Val.leaf (x:=x) ?_ ?_
      ·simp only[Instr.index,asIntOf,zM,zV,run_underlying hu,zP]
       simp_all[zM,XU,zP]
      ·obtain⟨k,hk⟩:∃k,len=k+1:=⟨len-1,by omega⟩
       grind[refine,selV_R]
    |true=>
     dsimp only
     refine UO λh1 h2=>?_
     cases a<;>try exact Val.stuck
     rename_i cs
     rw[JD]at h
     obtain⟨xs,rfl,hr⟩:=h
     refine Zdt λv hv=>?_
     obtain⟨x,hx,hR⟩:=Zdy hv hr
     refine⟨x,?_,hR⟩
     simp only[Instr.index,asIntOf,zM,zV,run_underlying hu,zP]
     simp_all[zM,XU,zP]
end
end Go.Fw
end
