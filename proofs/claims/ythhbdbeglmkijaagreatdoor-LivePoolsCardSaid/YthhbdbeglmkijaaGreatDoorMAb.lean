/- The evaluator: what a function's code comes to, over abstract values. Definitions only. -/
import Derived.Test.YthhbdbeglmkijaaGreatDoorMAa
set_option maxRecDepth 100000
set_option linter.unusedVariables false
set_option linter.unusedSimpArgs false
noncomputable section
open Option renaming some→zk,none→zm
open Bool renaming true→ze,false→za,and_eq_true→zM
open Nat renaming ble→zK,blt→zG,beq→zo,le_of_ble_eq_true→yx,eq_of_beq_eq_true→zP,mul_le_mul_right→yw
open BitVec renaming ofInt→zU
open Go.Sem renaming run_bind→zO,run_pure→zX
open Go.Result renaming andThen_ok→zQ
namespace Go.Fw
def UU(P:Program)(t:TypeId):Option Bool:=
  match P.underlying t with
  |some (.struct _)=>zk ze
  |some (.array _ _)=>zk ze
  |some _=>zk za
  |none=>zm
def ZX(P:Program)(t:TypeId):Option Nat:=
  match P.info? t with
  |some i=>zk i.size
  |none=>zm
def X7(P:Program)(t:TypeId):Option V:=
  match P.info? t with
  |some i=>match i.zero with
   |some z=>zk (V.ofValue z).cells
   |none=>zm
  |none=>zm
def ZcV(P:Program)(s:TypeId)(f:Nat):Option (Nat×TypeId):=
  match P.underlying s with
  |some (.struct fields)=>match fields[f]? with
   |some fd=>match ZX P fd.type with
    |some (_+1)=>zk (fd.offset,fd.type)
    |_=>zm
   |none=>zm
  |_=>zm
def partOf(P:Program)(t:TypeId)(cs:V)(o:Nat):Option V:=
  match UU P t with
  |some ze=>match ZX P t with
   |some z=>bif zK (o+z) cs.len then zk (.agg ((cs.drop o).take z))else zm
   |none=>zm
  |some za=>bif zG o cs.len then zk (cs.nth o)else zm
  |none=>zm
variable{α:Type}
def Tree.UJ:Option α->Tree α
  |some a=>.leaf a
  |none=>.stuck
def atIdx(st:Bool)(i n:Nat)(T:Tree α):Tree α:=
  match st with
  |true=>bif zG i n then T else .stuck
  |false=>.need (i<n) T
def KN(st:Bool)(j:Int)(n:Nat)(T:Nat->Tree α):Tree α:=
  match st with
  |true=>match j with
   | .ofNat q=>bif zG q n then T q else .stuck
   | .negSucc _=>.stuck
  |false=>.need (0<=j/\j<n) (T j.toNat)
def ZbR(st:Bool)(j:Int)(n:Nat)(T:Nat->Tree α):Tree α:=
  match st with
  |true=>match j with
   | .ofNat q=>bif zK q n then T q else .stuck
   | .negSucc _=>.stuck
  |false=>.need (0<=j/\j<=n) (T j.toNat)
def intCmp(op:BinOp)(a b:Int):Option Bool:=
  match op with
  | .eql=>zk (a==b)
  | .neq=>zk (a != b)
  | .lss=>zk (decide (a<b))
  | .leq=>zk (decide (a<=b))
  | .gtr=>zk (decide (a>b))
  | .geq=>zk (decide (a>=b))
  |_=>zm
def intBit(op:BinOp)(k:IntKind)(x y:Int):Option Int:=
  match op with
  | .and=>zk (k.wrap (zU k.bits x&&& zU k.bits y).toNat)
  | .or=>zk (k.wrap (zU k.bits x|||BitVec.ofInt k.bits y).toNat)
  | .xor=>zk (k.wrap (zU k.bits x^^^zU k.bits y).toNat)
  | .andNot=>zk (k.wrap (zU k.bits x&&& ~~~zU k.bits y).toNat)
  |_=>zm
def ZgM(st:Bool)(y:Int)(T:Tree α):Tree α:=
  match st with
  |true=>match y with
   | .ofNat 0=>.stuck
   |_=>T
  |false=>.need (y≠0) T
def ZgL(st:Bool)(y:Int)(T:Nat->Tree α):Tree α:=
  match st with
  |true=>match y with
   | .ofNat q=>T q
   | .negSucc _=>.stuck
  |false=>.need (0<=y) (T y.toNat)
def evInt(op:BinOp)(s s':Bool)(k:IntKind)(a b:Int):Tree V:=
  match op with
  | .add=>.leaf (mkInt (s&&s') k (k.wrap (a+b)))
  | .sub=>.leaf (mkInt (s&&s') k (k.wrap (a-b)))
  | .mul=>.leaf (mkInt (s&&s') k (k.wrap (a*b)))
  | .quo=>ZgM s' b (.leaf (mkInt (s&&s') k (k.wrap (a.tdiv b))))
  | .rem=>ZgM s' b (.leaf (mkInt (s&&s') k (a.tmod b)))
  | .shl=>.stuck
  | .shr=>.stuck
  |_=>match intBit op k a b with
   |some n=>.leaf (mkInt (s&&s') k n)
   |none=>match intCmp op a b with
    |some r=>.leaf (QF (s&&s') r)
    |none=>.stuck
def evShift(op:BinOp)(s s':Bool)(k:IntKind)(a b:Int):Tree V:=
  match op with
  | .shl=>ZgL s' b λq=>.leaf (mkInt (s&&s') k (k.wrap (a*2^(min q k.bits))))
  | .shr=>ZgL s' b λq=>.leaf (mkInt (s&&s') k (a.fdiv (2^(min q k.bits))))
  |_=>.stuck
def Zbm:BinOp->Bool
  | .shl| .shr=>ze
  |_=>za
def nilS:V->Option Bool
  | .Zl=>zk ze
  | .osl ze _ _ _ n=>bif zo n 0 then zm else zk za
  | .rsl ze _ n _=>bif zo n 0 then zm else zk za
  | .osp ze _ _ _ _ c=>bif zo c 0 then zm else zk za
  | .esl nn _=>match nn with
    |true=>zk za
    |false=>zm
  |_=>zm
def nilP:V->Option Bool
  | .nilptr=>zk ze
  | .ptr ..=>zk za
  | .rptr ..=>zk za
  |_=>zm
def nilF:V->Option Bool
  | .nilfn=>zk ze
  | .fn ..=>zk za
  | .yld _=>zk za
  |_=>zm
def Zdu:Option Bool->Option Bool->Option (Bool×Bool)
  |some ze,zk b=>zk (ze,b)
  |some za,zk ze=>zk (ze,za)
  |_,_=>zm
def Zg9:V->V->Bool
  | .ptr st b es i o,.ptr st' b' es' i' o'=>(st&&st')&&(zo b b'&&(zo es es'&&(zo i i'&&zo o o')))
  |_,_=>za
def Zew:V->V->Bool
  | .ptr st b es i o,.ptr st' b' es' i' o'=>(st&&st')&&(zo b b'&&!zo (i*es+o) (i'*es'+o'))
  |_,_=>za
def bulky(P:Program)(e:TypeId):Bool:=
  match ZX P e with
  |some z=>!zo z 0
  |none=>za
mutual
def evEq(P:Program):Nat->TypeId->V->V->Option (Bool×Bool)
  |0,_,_,_=>zm
  |d+1,t,x,y=>
   match P.underlying t with
   |some .bool=>match x,y with
    | .bool s a,.bool s' b=>zk (s&&s',a==b)
    |_,_=>zm
   |some (.int _)=>match x,y with
    | .int s k a,.int s' k' b=>if k=k' then zk (s&&s',a==b)else zm
    |_,_=>zm
   |some .string=>match x,y with
    | .str s a,.str s' b=>zk (s&&s',a==b)
    |_,_=>zm
   |some (.struct fields)=>match x,y with
    | .agg xs,.agg ys=>if P.stoodInHeld t then zm else GN P d fields.toList xs ys
    |_,_=>zm
   |some (.slice _)=>Zdu (nilS x) (nilS y)
   |some (.pointer e)=>match Zg9 x y&&(ZX P e).isSome with
    |true=>zk (ze,ze)
    |false=>match Zew x y&&bulky P e with
     |true=>zk (ze,za)
     |false=>Zdu (nilP x) (nilP y)
   |some (.func _ _ _)=>Zdu (nilF x) (nilF y)
   |_=>zm
def GN(P:Program):Nat->List Field->V->V->Option (Bool×Bool)
  |0,_,_,_=>zm
  |_+1,[],_,_=>zk (ze,ze)
  |d+1,f::fs,xs,ys=>
   if f.name= "_" then zm else
   match partOf P f.type xs f.offset,partOf P f.type ys f.offset with
   |some x,zk y=>match evEq P d f.type x y,GN P d fs xs ys with
    |some (s,a),zk (s',b)=>zk (s&&s',a&&b)
    |_,_=>zm
   |_,_=>zm
end
def eqOp:BinOp->Option Bool
  | .eql=>zk ze
  | .neq=>zk za
  |_=>zm
def ZmD:V->Option Nat
  | .rsl _ _ n _=>zk n
  | .osl _ _ _ _ n=>zk n
  |_=>zm
def evNilU(P:Program)(op:BinOp)(t:TypeId)(x y:V):Tree V:=
  match P.underlying t with
  |some (.slice _)=>match y with
   | .Zl=>match ZmD x with
     |some n=>match eqOp op with
      |some want=>.both (.given (n=0) (.leaf (QF ze want))) (.leaf (QF ze (!want)))
      |none=>.stuck
     |none=>.stuck
   |_=>.stuck
  |_=>.stuck
def GQ(P:Program)(op:BinOp)(t:TypeId)(x y:V):Tree V:=
  match evEq P 20 t x y with
  |some (s,r)=>match op with
   | .eql=>.leaf (QF s r)
   | .neq=>.leaf (QF s (!r))
   |_=>.stuck
  |none=>evNilU P op t x y
def evStr(op:BinOp)(s s':Bool)(a b:List UInt8):Tree V:=
  match op with
  | .eql=>.leaf (QF (s&&s') (a==b))
  | .neq=>.leaf (QF (s&&s') (!(a==b)))
  | .lss=>.leaf (QF (s&&s') (Op.bytesLess a b))
  | .leq=>.leaf (QF (s&&s') (Op.bytesLess a b||a==b))
  | .gtr=>.leaf (QF (s&&s') (!(Op.bytesLess a b||a==b)))
  | .geq=>.leaf (QF (s&&s') (!Op.bytesLess a b))
  | .add=>match s&&s' with
    |true=>bif zK (a.length+b.length) 9223372036854775807 then .leaf (.str ze (a++b))else .stuck
    |false=>.need (a.length+b.length<=9223372036854775807) (.leaf (.str za (a++b)))
  |_=>.stuck
def Km(P:Program)(op:BinOp)(t:TypeId)(x y:V):Tree V:=
  match x with
  | .int s k a=>match y with
    | .int s' k' b=>match Zbm op with
      |true=>evShift op s s' k a b
      |false=>if k=k' then evInt op s s' k a b else .stuck
    |_=>.stuck
  | .bool _ _=>GQ P op t x y
  | .str s a=>match y with
    | .str s' b=>evStr op s s' a b
    |_=>.stuck
  | .agg _=>if P.eqGuardType P.depth t then .stuck else GQ P op t x y
  | .osl .. | .osp .. | .esl .. | .rsl .. | .Zl| .ptr .. | .rptr .. | .nilptr| .fn .. | .nilfn| .yld _=>GQ P op t x y
  |_=>.stuck
def Zdt:Operand->Bool
  | .const .nilIface=>ze
  |_=>za
def nilI:V->Option (Bool×Bool)
  | .nilif=>zk (ze,ze)
  | .ifc st b=>zk (st,b)
  |_=>zm
def Uo(P:Program)(op:BinOp)(t:TypeId)(x y:Operand)(a b:V):Option (Tree V):=
  match P.underlying t with
  |some (.interface _)=>match eqOp op with
   |some want=>match Zdt y with
    |true=>match nilI a with
     |some (st,r)=>zk (.leaf (QF st (bif want then r else !r)))
     |none=>zm
    |false=>match Zdt x with
     |true=>match nilI b with
      |some (st,r)=>zk (.leaf (QF st (bif want then r else !r)))
      |none=>zm
     |false=>zm
   |none=>zm
  |_=>zm
def evUn(op:UnOp)(x:V):Tree V:=
  match x with
  | .int s k n=>match op with
    | .neg=>.leaf (mkInt s k (k.wrap (0-n)))
    | .xor=>match intBit .xor k (if k.signed then -1 else k.max) n with
      |some r=>.leaf (mkInt s k r)
      |none=>.stuck
    |_=>.stuck
  | .bool s b=>match op with
    | .not=>.leaf (QF s (!b))
    |_=>.stuck
  |_=>.stuck
def bytesOf:V->Option (Bool×List UInt8)
  | .nil=>zk (ze,[])
  | .cons (.int s .u8 v) t=>match bytesOf t with
    |some (s',l)=>zk (s&&s',UInt8.ofNat v.toNat::l)
    |none=>zm
  |_=>zm
def ZcT(P:Program)(h:Nat->Blk)(e:TypeId)(x:V):Tree V:=
  match P.underlying e with
  |some (.int .u8)=>match x with
   | .osl st b es i n=>match h b with
     | .var cs=>bif st&&(zo es 1&&zK (i+n) cs.len)then match bytesOf ((cs.drop i).take n)with
         |some (s,l)=>.leaf (.str s l)
         |none=>.stuck
       else .stuck
     |_=>.stuck
   |_=>.stuck
  |_=>.stuck
def Ziy(P:Program)(dst:TypeId)(x:V):Tree V:=
  match P.underlying dst with
  |some (.int k)=>match x with
   | .int s _ n=>.leaf (mkInt s k (k.wrap n))
   |_=>.stuck
  |some .string=>match x with
   | .str s a=>.leaf (.str s a)
   | .int s _ n=>match s with
     |true=>match n with
      | .ofNat c=>bif zG c 128 then .leaf (.str ze [UInt8.ofNat c])else .stuck
      |_=>.stuck
     |false=>.need (0<=n/\n<128) (.leaf (.str za [UInt8.ofNat n.toNat]))
   |_=>.stuck
  |_=>.stuck
def Za6(P:Program)(h:Nat->Blk)(src dst:TypeId)(x:V):Tree V:=
  match P.underlying src with
  |none=>.stuck
  |some (.slice e)=>match P.underlying dst with
   |some .string=>ZcT P h e x
   |_=>.stuck
  |some _=>Ziy P dst x
def ZfK(P:Program)(src dst:TypeId)(x:V):Option (Tree V):=
  match x with
  | .str st s=>match P.underlying src with
    |some .string=>match P.underlying dst with
     |some (.slice e)=>match P.underlying e with
      |some (.int .u8)=>zk (.leaf (.rsl st 1 s.length λj=>.cons (.int st .u8 (Int.ofNat (s.getD j 0).toNat)) .nil))
      |_=>zm
     |_=>zm
    |_=>zm
  |_=>zm
def ZfO(c x y:V):Tree V:=
  match c with
  | .bool ze b=>match b with|true=>.leaf x|false=>.leaf y
  | .bool za b=>.node b (.leaf x) (.leaf y)
  |_=>.stuck
def ZcN(P:Program)(s:TypeId)(x:V)(f:Nat):Tree V:=
  match ZcV P s f with
  |some (off,_)=>match x with
   | .ptr st b es i o=>.leaf (.ptr st b es i (o+off))
   | .rptr st es n get i o=>.leaf (.rptr st es n get i (o+off))
   |_=>.stuck
  |none=>.stuck
def ZcM(P:Program)(t:TypeId)(x:V)(f:Nat):Tree V:=
  match P.underlying t with
  |some (.struct fields)=>match fields[f]? with
   |some fd=>match x with
    | .agg cs=>.UJ (partOf P fd.type cs fd.offset)
    |_=>.stuck
   |none=>.stuck
  |_=>.stuck
def elemAt(cs:V)(o z k:Nat):V:=(cs.drop (o+k*z)).take z
def allB(n:Nat)(f:Nat->Bool):Bool:=Nat.rec ze (λi r=>r&&f i) n
def VJ(P:Program)(h:Nat->Blk)(t:TypeId)(x:V):Tree V:=
  match x with
  | .ptr st b es i o=>match h b with
    | .var cs=>bif st then .UJ (partOf P t cs (i*es+o))else .stuck
    | .arr es' n get=>bif zo es es' then atIdx st i n (.UJ (partOf P t (get i) o))else .stuck
    |_=>.stuck
  | .rptr _ _ _ get i o=>.UJ (partOf P t (get i) o)
  |_=>.stuck
def ZiC(x:V):Tree V:=
  match x with
  | .ptr .. | .rptr .. | .fn (.func _) _ _=>.leaf x
  |_=>.stuck
def ZfL(x:V)(i:Nat):Tree V:=
  match x with
  | .tup vs=>bif zG i vs.len then .leaf (vs.nth i)else .stuck
  |_=>.stuck
def Vj(P:Program)(place:Nat->Option (Nat×Nat)):V->List (Nat×V)->Option V
  |cs,[]=>zk cs
  |cs,(i,v)::rest=>match place i with
   |some (off,z)=>bif v.solid&&(zo v.cells.len z&&zK (off+z) cs.len)then Vj P place (cs.splice off v.cells) rest else zm
   |none=>zm
def ZfT(P:Program)(fields:Array Field)(i:Nat):Option (Nat×Nat):=
  match fields[i]? with
  |some fd=>zk (fd.offset,(ZX P fd.type).getD 0)
  |none=>zm
def Ziw(P:Program)(t:TypeId)(parts:List (Nat×V)):Tree V:=
  match X7 P t with
  |some zero=>match P.underlying t with
   |some (.struct fields)=>bif fields.toList.all (λf=>(ZX P f.type).isSome)then
       match Vj P (ZfT P fields) zero parts with
       |some cs=>.leaf (.agg cs)
       |none=>.stuck
    else .stuck
   |some (.array _ e)=>match ZX P e with
    |some z=>match Vj P (λi=>zk (i*z,z)) zero parts with
     |some cs=>.leaf (.agg cs)
     |none=>.stuck
    |none=>.stuck
   |_=>.stuck
  |none=>.stuck
def rep(n:Nat)(z:V):V:=Nat.rec .nil (λ_ r=>z.app r) n
def GK(P:Program)(t:TypeId)(len:Nat)(parts:List (Nat×V)):Option (Nat×V):=
  match P.underlying t with
  |some (.slice e)=>match ZX P e,X7 P e with
   |some z,zk zero=>bif zo zero.len z&&zK (len*z) 16777216 then
       match Vj P (λi=>zk (i*z,z)) (rep len zero) parts with
       |some cs=>zk (z,cs)
       |none=>zm
    else zm
   |_,_=>zm
  |_=>zm
def V.WB:V->V
  | .osp st b es i n _=>.osl st b es i n
  |v=>v
def V.plain:V->V
  | .cons h t=>.cons h.plain t.plain
  | .agg cs=>.agg cs.plain
  | .tup vs=>.tup vs.plain
  | .osp st b es i n c=>bif st&&(zo n 0&&zG 0 c)then .osp st b es i n c else .osl st b es i n
  |v=>v
def JB(st:Bool)(n:Nat)(lo hi:Option V)(T:Bool->Nat->Nat->Tree α):Tree α:=
  let low (st:Bool) (h:Nat):Tree α:=match lo with
    |none=>T st 0 h
    |some (.int s _ j)=>ZbR (st&&s) j h λq=>T (st&&s) q h
    |some _=>.stuck
  match hi with
  |none=>low st n
  |some (.int s _ j)=>ZbR (st&&s) j n λq=>low (st&&s) q
  |some _=>.stuck
def Zdd(b:Blk)(k:Nat):Bool:=
  match b with
  | .var cs=>zK k cs.len
  |_=>za
def Zdf:V->Bool
  | .int ze _ (.ofNat n)=>zo n 0
  |_=>za
def ZfQ(P:Program)(t:TypeId)(x:V)(lo hi:Option V)(mx:V):Tree V:=
  match lo with
  |some _=>.stuck
  |none=>match hi with
   |none=>.stuck
   |some hi=>bif Zdf hi&&Zdf mx then match P.underlying t with
       |some (.slice e)=>match ZX P e with
        |some _=>match x with
         | .Zl=>.leaf .Zl
         | .rsl st es n _=>.leaf (.esl (st&&zG 0 n) es)
         | .osl st _ es _ n=>.leaf (.esl (st&&zG 0 n) es)
         | .osp st _ es _ _ c=>.leaf (.esl (st&&zG 0 c) es)
         | .esl nn es=>.leaf (.esl nn es)
         |_=>.stuck
        |none=>.stuck
       |_=>.stuck
    else .stuck
def ZiE(P:Program)(t:TypeId)(x:V)(lo hi mx:V):Tree V:=
  match P.underlying t with
  |some (.slice e)=>match ZX P e with
   |some z=>match x.WB with
    | .osl st b es i n=>bif zo z es then match mx with
        | .int s _ j=>ZbR (st&&s) j n λq=>JB (st&&s) q (zk lo) (zk hi) λst a c=>.leaf (.osl st b es (i+a) (c-a))
        |_=>.stuck
      else .stuck
    |_=>.stuck
   |none=>.stuck
  |_=>.stuck
def ospOf(st:Bool)(b es i n k:Nat):V:=bif st&&zo k n then .osl st b es i k else .osp st b es i k n
def ospB(lo:Option V)(st:Bool)(b es i n lw hg:Nat):V:=
  match lo with
  |none=>ospOf st b es i n hg
  |some _=>.osl st b es (i+lw) (hg-lw)
def Za8(P:Program)(h:Nat->Blk)(t:TypeId)(x:V)(lo hi mx:Option V):Tree V:=
  match mx with
  |some mx=>match ZfQ P t x lo hi mx with
   | .stuck=>match lo,hi with
     |some lo,zk hi=>ZiE P t x lo hi mx
     |_,_=>.stuck
   |T=>T
  |none=>match P.underlying t with
   |some .string=>match x with
    | .str st l=>JB st l.length lo hi λst a b=>.leaf (.str st ((l.drop a).take (b-a)))
    |_=>.stuck
   |some (.slice e)=>match x with
    | .rsl st es n get=>match ZX P e with
      |some z=>bif zo z es then JB st n lo hi λst a b=>.leaf (.rsl st es (b-a) λj=>get (a+j))else .stuck
      |none=>.stuck
    | .osl st bl es i n=>match ZX P e with
      |some z=>bif zo z es then JB st n lo hi λst a b=>.leaf (ospB lo st bl es i n a b)else .stuck
      |none=>.stuck
    | .osp st bl es i n c=>match ZX P e with
      |some z=>bif zo z es then JB st (match hi with|none=>n|some _=>c) lo hi λst a b=>.leaf (.osl st bl es (i+a) (b-a))else .stuck
      |none=>.stuck
    | .Zl=>match ZX P e with
      |some _=>JB ze 0 lo hi λ_ _ _=>.leaf .Zl
      |none=>.stuck
    | .esl nn es=>match ZX P e with
      |some _=>JB ze 0 lo hi λ_ _ _=>.leaf (.esl nn es)
      |none=>.stuck
    |_=>.stuck
   |some (.array len e)=>match x with
    | .ptr st bl es i o=>match ZX P e with
      |some z=>bif zo (i*es+o) ((i*es+o)/z*z)&&Zdd (h bl) (i*es+o+len*z)then JB st len lo hi λst a b=>.leaf (.osl st bl z ((i*es+o)/z+a) (b-a))else .stuck
      |none=>.stuck
    | .rptr st _ _ get i o=>match ZX P e with
      |some z=>bif zK (o+len*z) (get i).len then JB st len lo hi λst a b=>.leaf (.rsl st z (b-a) λq=>elemAt (get i) o z (a+q))else .stuck
      |none=>.stuck
    |_=>.stuck
   |some (.pointer arr)=>match x with
    | .ptr st bl es i o=>match P.underlying arr with
      |some (.array len e)=>match ZX P e with
       |some z=>bif zo (i*es+o) ((i*es+o)/z*z)&&Zdd (h bl) (i*es+o+len*z)then JB st len lo hi λst a b=>.leaf (.osl st bl z ((i*es+o)/z+a) (b-a))else .stuck
       |none=>.stuck
      |_=>.stuck
    |_=>.stuck
   |_=>.stuck
def evLen(P:Program)(t:TypeId)(x:V):Tree V:=
  match P.underlying t with
  |some .string=>match x with
   | .str st l=>.leaf (mkInt st .i64 l.length)
   |_=>.stuck
  |some (.slice _)=>match x.WB with
   | .rsl st _ n _=>.leaf (mkInt st .i64 n)
   | .osl st _ _ _ n=>.leaf (mkInt st .i64 n)
   | .Zl=>.leaf (.int ze .i64 0)
   | .esl _ _=>.leaf (.int ze .i64 0)
   |_=>.stuck
  |some (.array n _)=>.leaf (mkInt ze .i64 n)
  |_=>.stuck
def ev2(less:Bool)(x y:V):Tree V:=
  match x with
  | .int s k a=>match y with
    | .int s' _ b=>.leaf (mkInt (s&&s') k (match less with|true=>(if b<a then b else a)|false=>(if b>a then b else a)))
    |_=>.stuck
  |_=>.stuck
def ZcR(less:Bool):V->V->Tree V
  |x,.nil=>.leaf x
  |x,.cons y r=>(ev2 less x y).bind λz=>ZcR less z r
  |_,_=>.stuck
def evCap(P:Program)(t:TypeId)(x:V):Tree V:=
  match P.underlying t with
  |some (.slice _)=>match x.WB with
   | .Zl=>.leaf (.int ze .i64 0)
   | .esl _ _=>.leaf (.int ze .i64 0)
   |_=>.stuck
  |_=>.stuck
def GL(P:Program)(b:Builtin)(ts:List TypeId)(args:V):Option (Tree V):=
  match b with
  | .len=>zk (match ts with
    |t::_=>match args with
     | .cons x _=>evLen P t x
     |_=>.stuck
    |[]=>.stuck)
  | .cap=>zk (match ts with
    |t::_=>match args with
     | .cons x _=>evCap P t x
     |_=>.stuck
    |[]=>.stuck)
  | .min=>zk (match args with| .cons x r=>ZcR ze x r|_=>.stuck)
  | .max=>zk (match args with| .cons x r=>ZcR za x r|_=>.stuck)
  |_=>zm
def V.one:V->Bool
  | .nil| .cons _ _=>za
  |_=>ze
def Jv:V->V->Bool
  | .nil,y=>match y with| .nil=>ze|_=>za
  | .cons h t,y=>match y with| .cons _ t'=>h.one&&Jv t t'|_=>za
  |_,_=>za
def Wh(b:Bool):V->V->V
  | .nil,_=>.nil
  | .cons h t,y=>match y with
    | .cons h' t'=>.cons (Wh b h h') (Wh b t t')
    |_=>.junk
  | .int s k n,y=>match y with
    | .int s' k' n'=>if k=k' then(bif (s&&s')&&decide (n=n')then .int ze k n else .int za k (bif b then n else n'))else .junk
    |_=>.junk
  | .bool s c,y=>match y with
    | .bool s' c'=>match s&&s' with
      |true=>match c,c' with
       |true,ze=>.bool ze ze
       |true,za=>.bool za b
       |false,ze=>.bool za (!b)
       |false,za=>.bool ze za
      |false=>.bool za (bif b then c else c')
    |_=>.junk
  | .str _ s,y=>match y with
    | .str _ s'=>.str za (bif b then s else s')
    |_=>.junk
  | .agg cs,y=>match y with
    | .agg cs'=>bif Jv cs cs' then .agg (Wh b cs cs')else .junk
    |_=>.junk
  | .tup cs,y=>match y with
    | .tup cs'=>bif Jv cs cs' then .tup (Wh b cs cs')else .junk
    |_=>.junk
  | .ptr st bl es i o,y=>match y with
    | .ptr st' bl' es' i' o'=>bif (st&&st')&&(zo bl bl'&&(zo es es'&&(zo i i'&&zo o o')))then .ptr ze bl es i o else .junk
    |_=>.junk
  | .osl st bl es i n,y=>match y with
    | .osl st' bl' es' i' n'=>bif (st&&st')&&(zo bl bl'&&(zo es es'&&(zo i i'&&zo n n')))then .osl ze bl es i n else .junk
    |_=>.junk
  | .nilptr,y=>match y with| .nilptr=>.nilptr|_=>.junk
  | .nilfn,y=>match y with| .nilfn=>.nilfn|_=>.junk
  | .nilmap,y=>match y with| .nilmap=>.nilmap|_=>.junk
  | .nilif,y=>match y with
    | .nilif=>.nilif
    | .ifc _ c=>.ifc za (bif b then ze else c)
    |_=>.junk
  | .ifc _ c,y=>match y with
    | .ifc _ c'=>.ifc za (bif b then c else c')
    | .nilif=>.ifc za (bif b then c else ze)
    |_=>.junk
  | .undef,y=>match y with| .undef=>.undef|_=>.junk
  | .Zl,y=>match y with
    | .Zl=>.Zl
    | .rsl _ es n get=>.rsl za es (bif b then 0 else n) get
    |_=>.junk
  | .rsl _ es n get,y=>match y with
    | .rsl _ es' n' get'=>bif zo es es' then .rsl za es (bif b then n else n') (λj=>bif Jv (get j) (get' j)then Wh b (get j) (get' j)else bif b then get j else get' j)else .junk
    | .Zl=>.rsl za es (bif b then n else 0) get
    |_=>.junk
  |_,_=>.junk
def VW(b:Bool)(x y:V):V:=bif x.one then Wh b x y else .junk
def selV(row:Nat->V)(j:Nat)(n:Nat):V:=Nat.rec (row 0) (λk r=>VW (zo j (k+1)) (row (k+1)) r) (n-1)
def selR(row:Nat->V)(j:Nat)(n:Nat):V:=Nat.rec (row 0) (λk r=>Wh (zo j (k+1)) (row (k+1)) r) (n-1)
def selOk(row:Nat->V)(j:Nat)(n:Nat):Bool:=allB (n-1) λk=>Jv (row (k+1)) (selR row j (k+1))
def GU(P:Program)(t:TypeId)(x ix:V):Tree V:=
  match ix with
  | .int s _ j=>match P.underlying t with
    |some (.slice e)=>match ZX P e with
     |some z=>match x with
      | .rsl st es n get=>bif zo z es then KN (st&&s) j n λq=>.leaf (.rptr (st&&s) es n get q 0)else .stuck
      | .osl st b es i n=>bif zo z es then KN (st&&s) j n λq=>.leaf (.ptr (st&&s) b es (i+q) 0)else .stuck
      |_=>.stuck
     |none=>.stuck
    |some (.array len e)=>match ZX P e with
     |some z=>match s with
      |true=>KN ze j len λq=>match x with
       | .ptr st b es i o=>.leaf (.ptr st b es i (o+q*z))
       | .rptr st es n get i o=>.leaf (.rptr st es n get i (o+q*z))
       |_=>.stuck
      |false=>match x with
       | .rptr st _ _ get i o=>bif (st&&zK (o+len*z) (get i).len)&&selOk (elemAt (get i) o z) j.toNat len then
           KN za j len λq=>.leaf (.rptr za z 1 (λ_=>selR (elemAt (get i) o z) q len) 0 0)else .stuck
       |_=>.stuck
     |none=>.stuck
    |_=>.stuck
  |_=>.stuck
def ZcP(P:Program)(t:TypeId)(x ix:V):Tree V:=
  match ix with
  | .int s _ j=>match P.underlying t with
    |some (.array len e)=>match ZX P e with
     |some z=>match s with
      |true=>KN ze j len λq=>match x with
       | .agg cs=>.UJ (partOf P e cs (q*z))
       |_=>.stuck
      |false=>match x with
       | .agg cs=>bif zG 0 len&&allB len (λk=>(partOf P e cs (k*z)).isSome)then
           KN za j len λq=>.leaf (selV (λk=>(partOf P e cs (k*z)).getD .junk) q len)else .stuck
       |_=>.stuck
     |none=>.stuck
    |some .string=>match x with
     | .str st l=>KN (st&&s) j l.length λq=>.leaf (mkInt (st&&s) .u8 (l.getD q 0).toNat)
     |_=>.stuck
    |_=>.stuck
  |_=>.stuck
def mkOf(P:Program)(kt:TypeId):Option MK:=
  match P.underlying kt with
  |some (.int k)=>zk (.int k)
  |some .string=>zk .str
  |_=>zm
def KX:MK->MK->Bool
  | .int k,.int k'=>decide (k=k')
  | .str,.str=>ze
  |_,_=>za
def keyOf(kd:MK)(x:V):Option (Bool×Value):=
  match x with
  | .int st k n=>match kd with
    | .int k'=>if k=k' then zk (st,.int k n)else zm
    | .str=>zm
  | .str st s=>match kd with
    | .str=>zk (st,.string ⟨s.toArray⟩)
    | .int _=>zm
  |_=>zm
def zeroV(P:Program)(t:TypeId):Option V:=
  match P.info? t with
  |some i=>match i.zero with
   |some z=>zk (V.ofValue z)
   |none=>zm
  |none=>zm
def foundV(st has:Bool)(v z:V):V:=
  match st with
  |true=>match has with|true=>v|false=>z
  |false=>VW has v z
def Zd2(ok st has:Bool)(v:V):V:=
  match ok with
  |true=>.tup (.cons v (.cons (QF st has) .nil))
  |false=>v
def Za7(P:Program)(h:Nat->Blk)(t:TypeId)(x ix:V)(ok:Bool):Tree V:=
  match P.underlying t with
  |some (.map kt et)=>match mkOf P kt,zeroV P et with
   |some kd,zk z=>match keyOf kd ix with
    |some (sk,key)=>match x with
     | .nilmap=>.leaf (Zd2 ok ze za z)
     | .mp b=>match h b with
       | .Zm kd' st f _=>bif KX kd kd' then .leaf (Zd2 ok (st&&sk) (f key).1 (foundV (st&&sk) (f key).1 (f key).2 z))else .stuck
       |_=>.stuck
     | .rmp st kd' has get=>bif KX kd kd' then .leaf (Zd2 ok (st&&sk) (has key) (foundV (st&&sk) (has key) (get key) z))else .stuck
     |_=>.stuck
    |none=>.stuck
   |_,_=>.stuck
  |_=>.stuck
def pickV(c:Bool)(x y:V):V:=
  match x with
  | .bool s b=>match y with
    | .bool s' b'=>.bool (bif c then s else s') (bif c then b else b')
    |_=>bif c then x else y
  | .int s k n=>match y with
    | .int s' k' n'=>if k=k' then .int (bif c then s else s') k (bif c then n else n')else bif c then x else y
    |_=>bif c then x else y
  |_=>bif c then x else y
def putF(st:Bool)(f:Value->Bool×V)(key:Value)(y:Bool×V):Value->Bool×V:=
  match st with
  |true=>λk=>(bif ZG k key then y.1 else(f k).1,pickV (ZG k key) y.2 (f k).2)
  |false=>λk=>(bif ZG k key then y.1 else(f k).1,VW (ZG k key) y.2 (f k).2)
def putMap(blk:Blk)(kd:MK)(sk:Bool)(key:Value)(y:Bool×V):Option Blk:=
  match blk with
  | .Zm kd' st f ks=>bif KX kd kd' then zk (.Zm kd' (st&&sk) (putF (st&&sk) f key y) (putKs y.1 sk ks key))else zm
  |_=>zm
def Qc(P:Program)(h:Nat->Blk)(t:TypeId)(x k:V)(y:Bool×V):Option (Nat×Blk):=
  match P.underlying t with
  |some (.map kt _)=>match mkOf P kt with
   |some kd=>match keyOf kd k with
    |some (sk,key)=>match x with
     | .mp b=>match putMap (h b) kd sk key y with
       |some blk=>zk (b,blk)
       |none=>zm
     |_=>zm
    |none=>zm
   |none=>zm
  |_=>zm
def GV(P:Program)(t:TypeId)(r:Option V):Option Blk:=
  match P.underlying t with
  |some (.map kt et)=>match mkOf P kt with
   |some kd=>match r with
    |none=>zk (.Zm kd ze (λ_=>(za,(zeroV P et).getD .junk)) (zk (0,[])))
    |some (.int _ _ _)=>zk (.Zm kd ze (λ_=>(za,(zeroV P et).getD .junk)) (zk (0,[])))
    |some _=>zm
   |none=>zm
  |_=>zm
def ZfP(P:Program)(h:Nat->Blk)(t:TypeId)(x:V):Option Blk:=
  match P.underlying t with
  |some (.map _ _)=>match x with
   | .nilmap=>zk (.iter zm 0 [] 0)
   | .mp b=>match h b with
     | .Zm _ _ _ ks=>match ks with
       |some (c,_)=>zk (.iter (zk b) c [] c)
       |none=>zm
     |_=>zm
   |_=>zm
  |_=>zm
def oneOf{β:Type}(f:α->Tree β):List α->Tree β
  |[]=>.stuck
  |x::l=>match l with
   |[]=>f x
   |_::_=>.both (f x) (oneOf f l)
def evNext(h:Nat->Blk)(it:V)(isString:Bool):Tree (V×Option (Nat×Blk)):=
  match isString with
  |true=>.stuck
  |false=>match it with
   | .ptr st b es i o=>bif st&&(zo es 0&&(zo i 0&&zo o 0))then match h b with
     | .iter mb since seen last=>match mb with
       |none=>.leaf (.tup (.cons (.bool ze za) .nil),zm)
       |some mb=>match h mb with
        | .Zm _ _ f ks=>match ks with
          |some (c,l)=>bif oldL since l&&zK since last then
              match leftL seen l with
              |[]=>.leaf (.tup (.cons (.bool ze za) .nil),zm)
              |left=>oneOf (λe=>.leaf (.tup (.cons (.bool ze ze) (.cons (V.VY e.2) (.cons (f e.2).2 .nil))),zk (b,.iter (zk mb) since (seen++[e.1]) c))) left
           else .stuck
          |none=>.stuck
        |_=>.stuck
     |_=>.stuck else .stuck
   |_=>.stuck
def Ziz(h:Nat->Blk)(it:V):Tree V:=
  match it with
  | .ptr st b es i o=>bif st&&(zo es 0&&(zo i 0&&zo o 0))then match h b with
    | .iter mb since seen last=>match mb with
      |none=>.stuck
      |some mb=>match h mb with
       | .Zm _ _ f ks=>match ks with
         |some (c,l)=>match seen.reverse with
          |[]=>.stuck
          |x::_=>bif oldL since l&&zo c last then match l.find? λe=>zo e.1 x with
            |some e=>.leaf (.tup (.cons (V.VY e.2) (.cons (f e.2).2 .nil)))
            |none=>.stuck
           else .stuck
         |none=>.stuck
       |_=>.stuck
    |_=>.stuck else .stuck
  |_=>.stuck
inductive Ans where
  |sure (v:V)
  |where_ (p:Prop) (v:V)
  |fork (b:Bool) (v v':V)
abbrev HK:=V->List Blk->Option (Tree (V×List Blk))
structure Env where
  P:Program
  Γ:FuncId->V->Option Ans
  lp:FuncId->Nat->Option ((B:Base)->St B->Tree (Ex×St B))
  mg:Bool
  way:FuncId->Nat->Option Bool:=λ_ _=>zm
  bd:FuncId->Nat->Option (Nat×Nat×Bool):=λ_ _=>zm
  nm:FuncId->Bool:=λ_=>za
  hk:FuncId->Option HK:=λ_=>zm
def Env.WV(E:Env)(f:FuncId)(c:Operand)(val:Nat->V):Option Bool:=
  match c with
  | .tmp t=>match E.way f t with
    |some w=>zk w
    |none=>match E.bd f t with
     |some (i,k,w)=>match val i with
      | .int ze _ (.ofNat j)=>bif zK k j then zk w else zm
      |_=>zm
     |none=>zm
  |_=>zm
variable{B:Base}
def Zu(s:St B):Operand->V
  | .tmp t=>s.tmp t
  | .const v=>V.ofValue v
  | .global g=>match glob g with
    |some v=>v
    |none=>.junk
  | .func f=>.fn (.func f) .nil .nil
def callee(f:V)(args:V):Option (FuncId×V):=
  match f with
  | .fn (.func g) first cap=>zk (g,first.app (args.app cap))
  |_=>zm
def Qg(n:Nat)(f:Nat->Bool):Bool:=Nat.rec ze (λi r=>r&&f i) n
def V.known:V->Bool
  | .cons h t=>h.known&&t.known
  | .int st _ _=>st
  | .bool st _=>st
  | .str st _=>st
  | .ifc st _=>st
  | .agg cs=>cs.known
  | .tup vs=>vs.known
  | .ptr .. | .osl .. | .osp .. | .rptr .. | .rmp .. | .junk=>za
  | .rsl st _ n get=>st&&Qg n λi=>(get i).known
  | .fn _ a b=>a.known&&b.known
  |_=>ze
def V.Xq:V->Bool
  | .cons h t=>h.Xq&&t.Xq
  | .agg cs=>cs.Xq
  | .tup vs=>vs.Xq
  | .fn _ a b=>a.Xq&&b.Xq
  | .rptr .. | .rsl .. | .rmp ..=>za
  |_=>ze
def bothP:Option Prop->Option Prop->Option Prop
  |none,q=>q
  |some p,zm=>zk p
  |some p,zk q=>zk (p/\q)
def V.QH:V->V
  | .cons a t=>.cons a.QH t.QH
  | .agg cs=>.agg cs.QH
  | .tup cs=>.tup cs.QH
  | .fn f a b=>.fn f a.QH b.QH
  | .ptr .. | .osl .. | .osp .. | .yld _| .mp _=>.junk
  |v=>v
def V.leaves(g:V->V):V->V
  | .cons a t=>.cons (a.leaves g) (t.leaves g)
  | .agg cs=>.agg (cs.leaves g)
  | .tup cs=>.tup (cs.leaves g)
  | .fn f a b=>.fn f (a.leaves g) (b.leaves g)
  |v=>g v
def Zf0(h:Nat->Blk)(g:V->V)(x:V):V:=
  match x with
  | .ptr st b es i o=>match h b with
    | .var cs=>bif st then .rptr ze cs.len 1 (λ_=>(g cs).QH) 0 (i*es+o)else x
    | .arr es' k get=>bif zo es es' then .rptr (st&&zG i k) es k get i o else x
    |_=>x
  | .osl st b es i n=>match h b with
    | .var cs=>bif st&&zK ((i+n)*es) cs.len then .rsl ze es n λj=>((g cs).QH.drop ((i+j)*es)).take es else x
    | .arr es' _ get=>bif zo es es' then .rsl st es n λj=>get (i+j)else x
    |_=>x
  | .mp b=>match h b with
    | .Zm kd st f _=>.rmp st kd (λk=>(f k).1) λk=>(f k).2.QH
    |_=>x
  |_=>x
def ZfZ(h:Nat->Blk)(g:V->V)(x:V):V:=Zf0 h g x.WB
def fz(h:Nat->Blk)(k:Nat):V->V:=Nat.rec (λv=>v) (λ_ ih v=>v.leaves (ZfZ h ih)) k
def VL(h:Nat->Blk)(g:V->Option Prop)(x:V):Option Prop:=
  match x with
  | .ptr st b es i _=>match h b with
    | .var cs=>bif st then g cs else zm
    | .arr es' k _=>bif zo es es'&&!(st&&zG i k)then zk (i<k)else zm
    |_=>zm
  | .osl st b es i n=>match h b with
    | .var cs=>bif st&&zK ((i+n)*es) cs.len then g cs else zm
    | .arr es' k _=>bif zo es es'&&!(st&&zK (i+n) k)then zk (i+n<=k)else zm
    |_=>zm
  |_=>zm
def V.Uz(g:V->Option Prop):V->Option Prop
  | .cons a t=>bothP (a.Uz g) (t.Uz g)
  | .agg cs=>cs.Uz g
  | .tup cs=>cs.Uz g
  | .fn _ a b=>bothP (a.Uz g) (b.Uz g)
  |v=>g v
def GZ(h:Nat->Blk)(k:Nat):V->Option Prop:=Nat.rec (λ_=>zm) (λ_ ih v=>v.Uz λx=>VL h ih x.WB) k
def Zax:Option Prop->Tree α->Tree α
  |none,T=>T
  |some p,T=>.need p T
def evQ(E:Env)(ρ:Operand->V)(h:Nat->Blk)(o:Op):Option (Tree V):=
  match o with
  | .move x=>zk (.leaf (ρ x))
  | .assign x=>zk (.leaf (ρ x))
  | .pick c x y=>zk (ZfO (ρ c) (ρ x) (ρ y))
  | .build t parts=>zk (Ziw E.P t (parts.toList.map λp=>(p.1,ρ p.2)))
  | .load t a=>zk (VJ E.P h t (ρ a))
  | .binOp op t x y _=>match Uo E.P op t x y (ρ x) (ρ y)with
    |some T=>zk T
    |none=>zk (Km E.P op t (ρ x) (ρ y))
  | .unOp op _ x=>zk (evUn op (ρ x))
  | .convert src dst x=>match ZfK E.P src dst (ρ x)with
    |some T=>zk T
    |none=>zk (Za6 E.P h src dst (ρ x))
  | .makeFunc f first cap=>zk (.leaf (.fn f (.ofList (first.toList.map ρ)) (.ofList (cap.toList.map ρ))))
  | .slice t x lo hi mx=>zk (Za8 E.P h t (ρ x) (lo.map ρ) (hi.map ρ) (mx.map ρ))
  | .fieldAddr s x f=>zk (ZcN E.P s (ρ x) f)
  | .field t x f=>zk (ZcM E.P t (ρ x) f)
  | .indexAddr t x ix=>zk (GU E.P t (ρ x).WB (ρ ix))
  | .index t x ix=>zk (ZcP E.P t (ρ x) (ρ ix))
  | .extract x i=>zk (ZfL (ρ x) i)
  | .lookup t x ix ok=>zk (Za7 E.P h t (ρ x) (ρ ix) ok)
  | .nilCheck x=>zk (ZiC (ρ x))
  | .call c=>match c.callee with
    | .builtin b=>GL E.P b c.argTypes.toList (.ofList (c.args.toList.map ρ))
    | .value f=>match callee (ρ f) (.ofList (c.args.toList.map ρ))with
      |some (g,args)=>match E.Γ g args with
       |some (.sure v)=>bif args.clean&&v.clean then zk (.leaf v)else zm
       |some (.where_ p v)=>bif args.clean&&v.clean then zk (.need p (.leaf v))else zm
       |some (.fork b v v')=>bif args.clean&&(v.clean&&v'.clean)then zk (.node b (.leaf v) (.leaf v'))else zm
       |none=>zm
      |none=>zm
    |_=>zm
  |_=>zm
def GR(E:Env)(ρ:Operand->V)(h:Nat->Blk)(f:Operand)(c:Call):Option (Tree V):=
  match callee (ρ f) (.ofList (c.args.toList.map ρ))with
  |some (g,args)=>bif args.clean then zm else bif (fz h 6 args).clean then match E.Γ g (fz h 6 args)with
   |some (.sure v)=>bif v.clean&&v.Xq then zk (Zax (GZ h 6 args) (.leaf v))else zm
   |some (.where_ p v)=>bif v.clean&&v.Xq then zk (Zax (GZ h 6 args) (.need p (.leaf v)))else zm
   |some (.fork _ _ _)=>zm
   |none=>zm
   else zm
  |none=>zm
def newVar(h:PT Blk)(n:Nat)(cs:V):V×PT Blk×Nat:=(.ptr ze n 0 0 0,h.set n (.var cs),n+1)
def Zba(blk:Blk)(st:Bool)(es i o z:Nat)(v:V):Tree Blk:=
  match blk with
  | .var cs=>bif st&&zK (i*es+o+z) cs.len then .leaf (.var (cs.splice (i*es+o) v.cells))else .stuck
  | .arr es' n get=>bif zo es es'&&(zK (o+z) es&&v.clean)then
      atIdx st i n (.leaf (.arr es n λj=>bif zo j i then(get i).splice o v.cells else get j))
    else .stuck
  |_=>.stuck
def Za9(P:Program)(g:Nat->Blk)(h:PT Blk)(t:TypeId)(x v:V):Tree (PT Blk):=
  match ZX P t with
  |some z=>bif zo v.cells.len z&&(v.cells.Y6&&v.solid)then
      match x with
      | .ptr st b es i o=>(Zba (look g h b) st es i o z v).bind λblk=>.leaf (h.set b blk)
      |_=>.stuck
   else .stuck
  |none=>.stuck
def ZdN(h:Nat->Blk)(z:Nat)(x:V):Option (Bool×Nat×(Nat->V)):=
  match x with
  | .Zl=>zk (ze,0,λ_=>.nil)
  | .esl _ _=>zk (ze,0,λ_=>.nil)
  | .rsl st es n get=>bif zo z es then zk (st,n,get)else zm
  | .osl st b es i n=>bif zo z es then match h b with
      | .var cs=>bif st&&zK ((i+n)*z) cs.len then zk (ze,n,λj=>(cs.drop ((i+j)*z)).take z)else zm
      | .arr es' k get=>bif zo z es' then(bif st then(bif zK (i+n) k then zk (ze,n,λj=>get (i+j))else zm)else zk (za,n,λj=>bif zG (i+j) k then get (i+j)else rep z (.cons .junk .nil)))else zm
      |_=>zm
    else zm
  |_=>zm
def rowsOf(h:Nat->Blk)(z:Nat)(x:V):Option (Bool×Nat×(Nat->V)):=ZdN h z x.WB
def Qa(h:Nat->Blk)(z:Nat)(x:V):Option (Bool×Nat×(Nat->V)×Prop×Option Nat):=
  match x with
  | .Zl=>zk (ze,0,(λ_=>.nil),True,zm)
  | .esl _ _=>zk (ze,0,(λ_=>.nil),True,zm)
  | .osl st b es i n=>bif zo z es&&zo i 0 then match h b with
      | .var cs=>bif st&&zK (n*z) cs.len then zk (ze,n,(λj=>(cs.drop (j*z)).take z),True,zk b)else zm
      | .arr es' k get=>bif zo z es' then match st with
          |true=>bif zK n k then zk (ze,n,get,True,zk b)else zm
          |false=>zk (za,n,get,n<=k,zk b)
        else zm
      |_=>zm
    else zm
  |_=>zm
def WH(get:Nat->V)(n:Nat):V:=Nat.rec .nil (λj r=>r.app (get j)) n
def ZbJ(old:Nat->V)(k:Nat)(new:Nat->V)(m:Nat):Nat->V:=Nat.rec old (λq acc j=>bif zo j (k+q)then new q else acc j) m
def Ub(P:Program)(t:TypeId):Option Nat:=
  match P.info? t with
  |some i=>zk i.bytes
  |none=>zm
def KE(old:Nat->V)(k:Nat)(new:Nat->V):Nat->V:=bif zo k 0 then new else λj=>bif zG j k then old j else new (j-k)
def fits(k by_:Nat):Prop:=k*by_<=140737488355328/\k<=9223372036854775807
def Ji(k by_:Nat):Bool:=zK (k*by_) 140737488355328&&zK k 9223372036854775807
def KW(h:PT Blk)(b:Option Nat):PT Blk:=
  match b with
  |some b=>h.set b .any
  |none=>h
def Zac(blk:Blk)(z i:Nat)(st:Bool)(m:Nat)(new:Nat->V):Tree Blk:=
  match blk with
  | .var cs=>bif st&&(zK ((i+m)*z) cs.len&&Qg m (λj=>(new j).Y6&&zo (new j).len z))then .leaf (.var (cs.splice (i*z) (WH new m)))else .stuck
  | .arr es k get=>bif zo z es then .need (i+m<=k/\∀j,j<m->(new j).Y6=ze/\(new j).clean=ze) (.leaf (.arr es k λj=>bif zK i j&&zG j (i+m)then new (j-i)else get j))else .stuck
  |_=>.stuck
def Zgg(st:Bool)(a b:Nat)(T:Tree α):Tree α:=
  match st with
  |true=>bif zK a b then T else .stuck
  |false=>.need (a<=b) T
def Zis(P:Program)(g:Nat->Blk)(h:PT Blk)(n:Nat)(e:TypeId)(s x:V):Tree (V×PT Blk×Nat):=
  match ZX P e with
  |some z=>bif zG 0 z then match s with
   | .osp st b es i k c=>bif zo z es then match rowsOf (look g h) z x with
       |some (st',m,new)=>Zgg (st&&st') (k+m) c ((Zac (look g h b) z (i+k) (st&&st') m new).bind λblk=>.leaf (.osp (st&&st') b es i (k+m) c,h.set b blk,n))
       |none=>.stuck
     else .stuck
   |_=>.stuck
   else .stuck
  |none=>.stuck
def Zix(P:Program)(g:Nat->Blk)(h:PT Blk)(n:Nat)(ts:List TypeId)(args:V):Tree (V×PT Blk×Nat):=
  match ts with
  |t::_=>match P.underlying t with
   |some (.slice e)=>match ZX P e,X7 P e with
    |some z,zk zero=>bif zo zero.len z&&zG 0 z then match args with
     | .cons s _=>match s.WB with
       | .osl st b es i k=>bif zo z es then(Zac (look g h b) z i st k λ_=>zero).bind λblk=>.leaf (.tup .nil,h.set b blk,n)else .stuck
       | .Zl=>.leaf (.tup .nil,h,n)
       |_=>.stuck
     |_=>.stuck
     else .stuck
    |_,_=>.stuck
   |_=>.stuck
  |_=>.stuck
def evCopy(P:Program)(g:Nat->Blk)(h:PT Blk)(n:Nat)(ts:List TypeId)(args:V):Tree (V×PT Blk×Nat):=
  match ts with
  |t::_=>match P.underlying t with
   |some (.slice e)=>match ZX P e with
    |some z=>bif zG 0 z then match args with
     | .cons d (.cons x _)=>match d.WB with
       | .osl st b es i k=>bif zo z es then match rowsOf (look g h) z x with
           |some (st',m,new)=>Zgg (st&&st') m k ((Zac (look g h b) z i (st&&st') m new).bind λblk=>.leaf (mkInt (st&&st') .i64 m,h.set b blk,n))
           |none=>.stuck
         else .stuck
       | .esl _ _=>match rowsOf (look g h) z x with
         |some _=>.leaf (.int ze .i64 0,h,n)
         |none=>.stuck
       | .Zl=>match rowsOf (look g h) z x with
         |some _=>.leaf (.int ze .i64 0,h,n)
         |none=>.stuck
       |_=>.stuck
     |_=>.stuck
     else .stuck
    |none=>.stuck
   |_=>.stuck
  |_=>.stuck
def Zai(n z k:Nat):V:=bif zo k 0 then .esl ze z else .osl ze n z 0 k
def ZiB(P:Program)(h:PT Blk)(n:Nat)(t:TypeId)(len cap:V):Tree (V×PT Blk×Nat):=
  match P.underlying t with
  |some (.slice e)=>match ZX P e,X7 P e,Ub P e with
   |some z,zk zero,zk by_=>bif zo zero.len z&&zG 0 z then match len with
    | .int st _ j=>match cap with
      | .int st' _ j'=>match st&&st' with
        |true=>match j with
         | .ofNat k=>bif decide (j=j')&&Ji k by_ then .leaf (Zai n z k,h.set n (.var (WH (λ_=>zero) k)),n+1)else
           match j' with
           | .ofNat c=>bif zG k c&&Ji c by_ then .leaf (.osp ze n z 0 k c,h.set n (.var (WH (λ_=>zero) c)),n+1)else .stuck
           |_=>.stuck
         |_=>.stuck
        |false=>.need (0<=j/\j=j'/\fits j.toNat by_) (.leaf (.osl za n z 0 j.toNat,h.set n (.arr z j.toNat λ_=>zero),n+1))
      |_=>.stuck
    |_=>.stuck
    else .stuck
   |_,_,_=>.stuck
  |_=>.stuck
def ZcQ(P:Program)(t:TypeId)(len cap:V):Option (Nat×Nat×V):=
  match P.underlying t with
  |some (.slice e)=>match ZX P e,X7 P e,Ub P e with
   |some z,zk zero,zk by_=>bif zo zero.len z&&zG 0 z then match len with
    | .int ze _ (.ofNat k)=>match cap with
      | .int ze _ (.ofNat k')=>bif zo k k'&&Ji k by_ then zk (z,k,WH (λ_=>zero) k)else zm
      |_=>zm
    |_=>zm
    else zm
   |_,_,_=>zm
  |_=>zm
def Zbx(h:Nat->Blk)(z:Nat)(s:V)(old:Nat->V)(k:Nat):V:=
  match s with
  | .osl _ b _ _ _=>match h b with
    | .var cs=>bif zK (k*z) cs.len then cs.take (k*z)else WH old k
    |_=>WH old k
  |_=>WH old k
def Zir(P:Program)(g:Nat->Blk)(h:PT Blk)(n:Nat)(ts:List TypeId)(args:V):Tree (V×PT Blk×Nat):=
  match ts with
  |[t,t']=>bif zo t t' then match P.underlying t with
   |some (.slice e)=>match ZX P e,X7 P e,Ub P e with
    |some z,zk zero,zk by_=>bif zo zero.len z&&zG 0 z then match args with
     | .cons s (.cons x .nil)=>match Qa (look g h) z s,rowsOf (look g h) z x with
       |some (st,k,old,pre,b),zk (st',m,new)=>
        match st' with
        |true=>bif zo m 0 then .leaf (s,h,n)else
         bif Qg m (λj=>(new j).Y6&&zo (new j).len z)then match st with
         |true=>bif Ji (k+m) by_ then .leaf (.osl ze n z 0 (k+m),(KW h b).set n (.var ((Zbx (look g h) z s old k).app (WH new m))),n+1)else .stuck
         |false=>bif Qg m (λj=>(new j).clean)then .need (pre/\fits (k+m) by_) (.leaf (.osl za n z 0 (k+m),(KW h b).set n (.arr z (k+m) (ZbJ old k new m)),n+1))else .stuck
         else .stuck
        |false=>match b with
         |none=>.need (pre/\fits m by_/\∀j,j<m->(new j).Y6=ze/\(new j).clean=ze) (.leaf (.osl za n z 0 m,h.set n (.arr z m new),n+1))
         |some b=>bif !st||Qg k (λj=>(old j).clean)then .need (pre/\fits (k+m) by_/\∀j,j<m->(new j).Y6=ze/\(new j).clean=ze) (.leaf (.osl za n z 0 (k+m),(h.set b .any).set n (.arr z (k+m) (KE old k new)),n+1))else .stuck
       |_,_=>.stuck
     |_=>.stuck
     else .stuck
    |_,_,_=>.stuck
   |_=>.stuck
   else .stuck
  |_=>.stuck
def Ziv(P:Program)(h:PT Blk)(n:Nat)(ts:List TypeId)(j:Nat):Tree (V×PT Blk×Nat):=
  match ts with
  |[t,t']=>match P.underlying t' with
   |some (.int _)=>match P.underlying t with
    |some (.slice e)=>match ZX P e,X7 P e,Ub P e with
     |some z,zk zero,zk by_=>bif zo zero.len z&&(zG 0 z&&(zG 0 j&&Ji j by_))then .leaf (.osl ze n z 0 j,h.set n (.var (WH (λ_=>zero) j)),n+1)else .stuck
     |_,_,_=>.stuck
    |_=>.stuck
   |_=>.stuck
  |_=>.stuck
def Zit(P:Program)(h:PT Blk)(n:Nat)(ts:List TypeId)(x:Int):Tree (V×PT Blk×Nat):=
  match ts with
  |[t,t']=>match P.underlying t' with
   |some (.int _)=>match P.underlying t with
    |some (.slice e)=>match ZX P e,X7 P e,Ub P e with
     |some z,zk zero,zk by_=>bif zo zero.len z&&zG 0 z then .need (0<x/\fits x.toNat by_) (.leaf (.osl za n z 0 x.toNat,h.set n (.arr z x.toNat λ_=>zero),n+1))else .stuck
     |_,_,_=>.stuck
    |_=>.stuck
   |_=>.stuck
  |_=>.stuck
def Ziu(P:Program)(g:Nat->Blk)(h:PT Blk)(n:Nat)(ts:List TypeId)(args:V):Tree (V×PT Blk×Nat):=
  match args with
  | .cons (.osp st b es i k c) (.cons x .nil)=>match ts with
    |[t,t']=>bif zo t t' then match P.underlying t with
     |some (.slice e)=>Zis P g h n e (.osp st b es i k c) x
     |_=>.stuck
     else .stuck
    |_=>.stuck
  | .cons .Zl (.cons (.int ze _ (.ofNat j)) .nil)=>Ziv P h n ts j
  | .cons .Zl (.cons (.int za _ x) .nil)=>Zit P h n ts x
  |_=>Zir P g h n ts args
abbrev Xr:=(Nat->Blk)->FuncId ⊕ Nat->V->PT Blk->Nat->Tree (V×PT Blk×Nat)
def VD(f:V)(args:V):Option ((FuncId ⊕ Nat)×V):=
  match f with
  | .yld b=>zk (.inr b,args)
  |f=>match callee f args with
   |some (g,out)=>zk (.inl g,out)
   |none=>zm
def Xw(E:Env)(call:Xr)(s:St B)(o:Op):Tree (V×PT Blk×Nat):=
  match evQ E (Zu s) s.blk o with
  |some T=>T.bind λv=>.leaf (v,s.h,s.n)
  |none=>match o with
   | .alloc t=>match X7 E.P t with
     |some cs=>.leaf (newVar s.h s.n cs)
     |none=>.stuck
   | .box _ x=>bif (Zu s x).solid then .leaf (newVar s.h s.n (Zu s x).cells)else .stuck
   | .buildSlice t len parts=>match GK E.P t len (parts.toList.map λp=>(p.1,Zu s p.2))with
     |some (z,cs)=>.leaf (Zai s.n z len,s.h.set s.n (.var cs),s.n+1)
     |none=>.stuck
   | .store t a x=>(Za9 E.P B.h s.h t (Zu s a) (Zu s x)).bind λh=>.leaf (.undef,h,s.n)
   | .call c=>match c.callee with
     | .value f=>match GR E (Zu s) s.blk f c with
       |some T=>T.bind λv=>.leaf (v,s.h,s.n)
       |none=>match VD (Zu s f) (.ofList (c.args.toList.map (Zu s)))with
        |some (g,args)=>call B.h g args s.h s.n
        |none=>.stuck
     | .builtin b=>match b with
       | .append=>Ziu E.P B.h s.h s.n c.argTypes.toList (.ofList (c.args.toList.map (Zu s)))
       | .clear=>Zix E.P B.h s.h s.n c.argTypes.toList (.ofList (c.args.toList.map (Zu s)))
       | .copy=>evCopy E.P B.h s.h s.n c.argTypes.toList (.ofList (c.args.toList.map (Zu s)))
       | .delete=>match c.argTypes.toList with
         |t::_=>match c.args.toList with
          |[m,k]=>match Qc E.P s.blk t (Zu s m) (Zu s k) (za,.junk)with
           |some (b,blk)=>.leaf (.tup .nil,s.h.set b blk,s.n)
           |none=>.stuck
          |_=>.stuck
         |[]=>.stuck
       |_=>.stuck
     |_=>.stuck
   | .makeMap t r=>match GV E.P t (r.map (Zu s))with
     |some blk=>.leaf (.mp s.n,s.h.set s.n blk,s.n+1)
     |none=>.stuck
   | .makeSlice t len cap=>ZiB E.P s.h s.n t (Zu s len) (Zu s cap)
   | .range t x=>match ZfP E.P s.blk t (Zu s x)with
     |some blk=>.leaf (.ptr ze s.n 0 0 0,s.h.set s.n blk,s.n+1)
     |none=>.stuck
   | .entry it=>(Ziz s.blk (Zu s it)).bind λv=>.leaf (v,s.h,s.n)
   | .next it str=>(evNext s.blk (Zu s it) str).bind λr=>match r.2 with
     |some (b,blk)=>.leaf (r.1,s.h.set b blk,s.n)
     |none=>.leaf (r.1,s.h,s.n)
   | .mapUpdate t m k x=>match Qc E.P s.blk t (Zu s m) (Zu s k) (ze,Zu s x)with
     |some (b,blk)=>.leaf (.undef,s.h.set b blk,s.n)
     |none=>.stuck
   | .insert t m k x=>match Qc E.P s.blk t (Zu s m) (Zu s k) (ze,Zu s x)with
     |some (b,blk)=>.leaf (.undef,s.h.set b blk,s.n)
     |none=>.stuck
   |_=>.stuck
inductive Guard where
  |yes|no|bad
  |dyn (d:Nat) (b:Bool) (want:Bool)
def guardOf(ops:Array Oper)(val:Nat->V)(o:Oper):Guard:=
  match o.guard with
  |none=>.yes
  |some (j,want)=>match ops[j]? with
   |some p=>match p.dst with
    |some d=>match val d with
     | .bool ze b=>match b,want with
       |true,ze=>.yes
       |false,za=>.yes
       |_,_=>.no
     | .bool za b=>.dyn d b want
     | .undef=>.no
     |_=>.bad
    |none=>.no
   |none=>.no
def St.know(s:St B)(d:Nat)(b:Bool):St B:={ s with t:=s.t.set d (.bool ze b) }
def Ko(E:Env)(call:Xr)(ops:Array Oper):List Oper->St B->Tree (St B)
  |[],s=>.leaf s
  |o::rest,s=>
   let go (s:St B):Tree (St B):=(Xw E call s o.op).bind λr=>Ko E call ops rest ({ s with h:=r.2.1,n:=r.2.2 }.put o.dst r.1)
   match guardOf ops s.tmp o with
   | .bad=>.stuck
   | .yes=>go s
   | .no=>Ko E call ops rest (s.put o.dst .undef)
   | .dyn d b want=>match want with
     |true=>.node b (go (s.know d ze)) (Ko E call ops rest ((s.know d za).put o.dst .undef))
     |false=>.node b (Ko E call ops rest ((s.know d ze).put o.dst .undef)) (go (s.know d za))
def XG(N:Nat)(o:Oper):Bool:=
  match o.dst with
  |some d=>zG d N
  |none=>ze
universe u
variable{β:Type u}
def forceList:List Nat->(List Nat->β)->β
  |[],f=>f []
  |x::l,f=>VK x λx=>forceList l λr=>f (x::r)
theorem Zlc(l:List Nat):∀f:List Nat->β,forceList l f=f l:=by
  induction l<;>grind[forceList,Zbc]
def looks(ops:Array Oper)(o:Oper):List Tmp:=
  (o.op.operands.toList.filterMap λ| .tmp t=>zk t|_=>zm)++
  (match o.guard with
   |some (g,_)=>((ops[g]?).bind (·.dst)).toList
   |none=>[])
def tied(ops:Array Oper)(x y:Oper):Bool:=
  (match x.dst with
   |some d=>(looks ops y).contains d||y.dst==zk d
   |none=>za)||
  (match y.dst with
   |some d=>(looks ops x).contains d
   |none=>za)
def bfOf(after:Array Edge)(acc:List Nat):Nat:=
  after.toList.foldl (λs e=>if Region.binds .any e then s|||2^e.on|||acc.getD e.on 0 else s) 0
def bfs:List Oper->List Nat->List Nat
  |[],acc=>acc
  |o::rest,acc=>VK (bfOf o.after acc) λx=>bfs rest (acc++[x])
def ZeY:List Oper->Nat->Bool
  |[],_=>ze
  |o::rest,j=>o.after.toList.all (λe=>!Region.binds .any e||Nat.blt e.on j)&&ZeY rest (j+1)
def tiesOk(ops:Array Oper)(bf:List Nat):Bool:=
  (List.range ops.size).all λj=>(List.range j).all λi=>
    match ops[i]?,ops[j]? with
    |some x,zk y=>!(tied ops x y)||(bf.getD j 0).testBit i
    |_,_=>za
def GD(ops:Array Oper)(bf:List Nat):Bool:=ZeY ops.toList 0&&tiesOk ops bf
def refine(kn:List (Nat×Bool))(t:Nat)(v:V):V:=
  match kn with
  |[]=>v
  |(d,c)::r=>bif zo d t then .bool ze c else refine r t v
section
variable{B:Base}
def Z8(s:St B)(kn:List (Nat×Bool)):Operand->V
  | .tmp t=>refine kn t (s.tmp t)
  |x=>Zu s x
structure Ft where
  m:Option (Bool×Option Nat)
  l:Option Nat
  q:Bool:=za
  w:Nat->Bool:=λ_=>ze
abbrev Jq:Ft:={ m:=zm,l:=zm }
def GY(ft:Option (Bool×Option Nat))(h:Nat->Blk):Nat->Blk:=
  match ft with
  |some _=>h
  |none=>λ_=>.any
def Ky(nb sz b:Nat):Bool:=zK nb b&&zG b (nb+sz)
def seen(nb sz:Nat)(h:Nat->Blk):Nat->Blk:=λb=>bif Ky nb sz b then .any else h b
def foot(s:St B)(nm:Nat)(o:Op):Ft:=
  match o with
  | .load _ a=>match Zu s a with
    | .ptr _ b _ _ _=>{ m:=zk (za,zk b),l:=zm }
    |_=>Jq
  | .store _ a _=>match Zu s a with
    | .ptr _ b _ _ _=>{ m:=zk (ze,zk b),l:=zm }
    |_=>Jq
  | .alloc _=>{ m:=zm,l:=zk nm }
  | .box _ _=>{ m:=zm,l:=zk nm }
  | .buildSlice _ _ _=>{ m:=zm,l:=zk nm }
  | .makeSlice _ _ _=>{ m:=zm,l:=zk nm }
  | .makeMap _ _=>{ m:=zm,l:=zk nm }
  | .lookup _ x _ _=>match Zu s x with
    | .mp b=>{ m:=zk (za,zk b),l:=zm }
    |_=>Jq
  | .mapUpdate _ x _ _=>match Zu s x with
    | .mp b=>{ m:=zk (ze,zk b),l:=zm }
    |_=>Jq
  | .insert _ x _ _=>match Zu s x with
    | .mp b=>{ m:=zk (ze,zk b),l:=zm }
    |_=>Jq
  | .convert _ _ x=>match Zu s x with
    | .osl _ b _ _ _=>{ m:=zk (za,zk b),l:=zm }
    |_=>Jq
  | .slice _ x _ _ _=>match Zu s x with
    | .ptr _ b _ _ _=>{ m:=zk (za,zk b),l:=zm }
    |_=>Jq
  | .call c=>match c.callee with
    | .value f=>{ m:=(match callee (Zu s f) (.ofList (c.args.toList.map (Zu s)))with
      |some (_,args)=>bif args.clean then zm else zk (za,zm)
      |none=>none),l:=some nm }
    |_=>Jq
  |_=>Jq
def JN(o:PT Blk):Ft:={ m:=zk (ze,zm),l:=zm,w:=λb=>(o.get b).isSome }
def V6:Ft:={ m:=zk (za,zm),l:=zm,q:=ze }
def Gu(nb sz:Nat)(f g:Ft):Bool:=
  match f.m,g.m with
  |some (w,zk b),zk (w',zk b')=>zo b b'&&(w||w')
  |some (w,zm),zk (w',zk b)=>bif w then w'||f.w b else w'&&(f.q|| !Ky nb sz b)
  |some (w,zk b),zk (w',zm)=>bif w' then w||g.w b else w&&(g.q|| !Ky nb sz b)
  |some (w,zm),zk (w',zm)=>w||w'
  |_,_=>za
def ZaZ(l:Option Nat)(g:Ft):Bool:=
  match l,g.m with
  |some b,zk (_,zk b')=>zo b b'
  |some _,zk (w,zm)=>w||g.q
  |_,_=>za
def Zfy:Option Nat->Option Nat->Bool
  |some b,zk b'=>zo b b'
  |_,_=>za
def clash(nb sz:Nat)(f g:Ft):Bool:=Gu nb sz f g||(ZaZ f.l g||(ZaZ g.l f||Zfy f.l g.l))
def St.wr(s:St B):Option (Nat×Blk)->St B
  |some (b,blk)=>{ s with h:=s.h.set b blk }
  |none=>s
def ZfR(P:Program)(s:St B)(t:TypeId)(x v:V):Tree (V×Option (Nat×Blk)):=
  match ZX P t with
  |some z=>bif zo v.cells.len z&&(v.cells.Y6&&v.solid)then
      match x with
      | .ptr st b es i o=>(Zba (s.blk b) st es i o z v).bind λblk=>.leaf (.undef,zk (b,blk))
      |_=>.stuck
   else .stuck
  |none=>.stuck
def Wl(s:St B)(nm:Nat)(blk:Blk)(v:V):Tree (V×Option (Nat×Blk)):=
  match s.blk nm with
  | .none=>.leaf (v,zk (nm,blk))
  |_=>.stuck
def Zab(s:St B)(nm:Nat)(rl:Bool)(r:V×PT Blk×Nat):Tree (V×Option (Nat×Blk)):=
  bif r.1.clean&&(!rl||r.1.Xq)then .leaf (r.1,zm)else match r.1 with
  | .osl st b es i n=>match look (λ_=>.none) r.2.1 b with
    | .var cs=>bif cs.clean&&(!rl||cs.Xq)then Wl s nm (.var cs) (.osl st nm es i n)else .stuck
    | .arr es' k get=>match rl with
      |false=>Wl s nm (.arr es' k get) (.osl st nm es i n)
      |true=>match st with
       |true=>bif Qg k (λj=>(get j).Xq)then Wl s nm (.arr es' k get) (.osl st nm es i n)else .stuck
       |false=>.need (∀j,j<k->(get j).Xq=ze) (Wl s nm (.arr es' k get) (.osl st nm es i n))
    |_=>.stuck
  |_=>.stuck
def layR(s:St B)(nm:Nat)(rl:Bool)(r:V×PT Blk×Nat):Tree (V×Option (Nat×Blk)):=
  match r.1 with
  | .agg (.cons v .nil)=>(Zab s nm rl (v,r.2.1,r.2.2)).bind λp=>.leaf (.agg (.cons p.1 .nil),p.2)
  |_=>Zab s nm rl r
def Uq(E:Env)(call:Xr)(s:St B)(nm:Nat)(g:FuncId)(fa:V):Tree (V×Option (Nat×Blk)):=
  match E.Γ g fa with
  |some (.sure v)=>bif v.clean&&v.Xq then .leaf (v,zm)else .stuck
  |some (.where_ p v)=>bif v.clean&&v.Xq then .need p (.leaf (v,zm))else .stuck
  |some (.fork _ _ _)=>.stuck
  |none=>(call (λ_=>.none) (.inl g) fa .nil 0).bind (layR s nm ze)
def evVal(E:Env)(call:Xr)(s:St B)(nm:Nat)(h:Nat->Blk)(ρ:Operand->V)(o:Op):Tree (V×Option (Nat×Blk)):=
  match o with
  | .call c=>match c.callee with
    | .value f=>match callee (ρ f) (.ofList (c.args.toList.map ρ))with
      |some (g,args)=>bif args.clean then(call (λ_=>.none) (.inl g) args .nil 0).bind (layR s nm za)
       else bif (fz h 6 args).clean then Zax (GZ h 6 args) (Uq E call s nm g (fz h 6 args))
       else .stuck
      |none=>.stuck
    |_=>.stuck
  |_=>.stuck
def evDQ(E:Env)(call:Xr)(s:St B)(nb sz nm:Nat)(kn:List (Nat×Bool))(o:Op):Tree (V×Option (Nat×Blk)):=
  match evQ E (Z8 s kn) s.blk o with
  |some T=>T.bind λv=>.leaf (v,zm)
  |none=>evVal E call s nm (GY (foot s nm o).m (seen nb sz s.blk)) (Z8 s kn) o
def evD(E:Env)(call:Xr)(s:St B)(nb sz nm:Nat)(kn:List (Nat×Bool))(o:Op):Tree (V×Option (Nat×Blk)):=
  match o with
  | .store t a x=>ZfR E.P s t (Zu s a) (Z8 s kn x)
  | .load t a=>(VJ E.P s.blk t (Zu s a)).bind λv=>.leaf (v,zm)
  | .alloc t=>match X7 E.P t with
    |some cs=>Wl s nm (.var cs) (.ptr ze nm 0 0 0)
    |none=>.stuck
  | .box _ x=>bif (Z8 s kn x).solid then Wl s nm (.var (Z8 s kn x).cells) (.ptr ze nm 0 0 0)else .stuck
  | .buildSlice t len parts=>match GK E.P t len (parts.toList.map λp=>(p.1,Z8 s kn p.2))with
    |some (z,cs)=>Wl s nm (.var cs) (Zai nm z len)
    |none=>.stuck
  | .makeSlice t len cap=>match ZcQ E.P t (Z8 s kn len) (Z8 s kn cap)with
    |some (z,k,cs)=>Wl s nm (.var cs) (Zai nm z k)
    |none=>.stuck
  | .makeMap t r=>match GV E.P t (r.map (Z8 s kn))with
    |some blk=>Wl s nm blk (.mp nm)
    |none=>.stuck
  | .mapUpdate t m k x=>match Qc E.P s.blk t (Zu s m) (Z8 s kn k) (ze,Z8 s kn x)with
    |some (b,blk)=>.leaf (.undef,zk (b,blk))
    |none=>.stuck
  | .insert t m k x=>match Qc E.P s.blk t (Zu s m) (Z8 s kn k) (ze,Z8 s kn x)with
    |some (b,blk)=>.leaf (.undef,zk (b,blk))
    |none=>.stuck
  |o=>evDQ E call s nb sz nm kn o
def QU(ops:Array Oper)(o:Oper)(kn:List (Nat×Bool)):List (Nat×Bool):=kn.filter λp=>(looks ops o).contains p.1
def QD(o:Oper)(kn:List (Nat×Bool)):List (Nat×Bool):=
  match o.dst with
  |some d=>kn.filter λp=>!zo p.1 d
  |none=>kn
def memOp(o:Op):Bool:=
  match o with
  | .store .. | .alloc _| .box .. | .buildSlice .. | .makeSlice .. | .makeMap .. | .mapUpdate .. | .insert ..=>ze
  | .call c=>match c.callee with
    | .builtin b=>match b with
      | .append| .delete| .copy| .clear=>ze
      |_=>za
    |_=>ze
  |_=>za
def Vk(o:Op):Bool:=
  match o with
  | .call c=>match c.callee with
    | .builtin b=>match b with
      | .append| .delete| .copy| .clear=>ze
      |_=>za
    | .value _=>ze
    |_=>za
  |_=>za
def Zgd(o:Oper):Bool:=
  match o.op with
  | .alloc _=>o.guard.isNone&&o.dst.isSome
  |_=>za
def Zj5(ops:Array Oper)(bf:List Nat)(i j:Nat):Bool:=(List.range ops.size).all λe=>!(bf.getD e 0).testBit j||(bf.getD e 0).testBit i
def bigAt(ops:Array Oper)(bf:List Nat)(j:Nat)(o:Oper):Bool:=
  Vk o.op&&(List.range ops.size).all λi=>zo i j||(match ops[i]? with
    |some x=>!memOp x.op||((bf.getD j 0).testBit i||((bf.getD i 0).testBit j||(Zgd x&&(zG j i&&Zj5 ops bf j i))))
    |none=>ze)
def isBigF(f:Ft):Bool:=
  match f.m with
  |some (w,zm)=>w||f.q
  |_=>za
def WT(ops:Array Oper)(bf:List Nat)(i j:Nat)(f:Ft):Bool:=
  zG i j&&(isBigF f&&(match ops[j]? with
    |some o=>Zgd o&&Zj5 ops bf i j
    |none=>za))
def Vf(ops:Array Oper)(bf:List Nat)(nb i j:Nat)(f g:Ft):Bool:=clash nb ops.size f g&&!WT ops bf i j f
def V.Q9(n:Nat):V->Bool
  | .cons h t=>h.Q9 n&&t.Q9 n
  | .agg cs=>cs.Q9 n
  | .tup vs=>vs.Q9 n
  | .ptr _ b _ _ _=>zG b n
  | .osl _ b _ _ _=>zG b n
  | .osp _ b _ _ _ _=>zG b n
  | .fn _ a b=>a.Q9 n&&b.Q9 n
  | .yld b=>zG b n
  | .mp b=>zG b n
  |_=>ze
def ZbH(n:Nat)(r:V×PT Blk×Nat):Bool:=r.2.1.Q8 (λk=>zK n k) 1 0&&r.1.Q9 n
def Zey(s:St B)(o:Op):Bool:=
  match o with
  | .call c=>match c.callee with
    | .value f=>match callee (Zu s f) (.ofList (c.args.toList.map (Zu s)))with
      |some (_,args)=>args.clean
      |none=>za
    |_=>za
  |_=>za
def Tree.KU{α:Type}:Tree α->Bool
  | .stuck=>ze
  | .need _ t=>t.KU
  | .node _ t f=>t.KU&&f.KU
  |_=>za
def Y8(ops:Array Oper)(bf:List Nat)(nb j:Nat)(fps:List (Nat×Ft))(f:Ft):Bool:=fps.all λp=>!Vf ops bf nb p.1 j p.2 f||(bf.getD j 0).testBit p.1
def X5(E:Env)(call:Xr)(ops:Array Oper)(bf:List Nat)(nb:Nat) :
    List Oper->Nat->List (Nat×Ft)->List (Nat×Bool)->St B->Tree (St B)
  |[],_,_,_,s=>.leaf s
  |o::rest,j,fps,kn,s=>
   let small (kn:List (Nat×Bool)):Tree (St B):=
     bif Y8 ops bf nb j fps (foot s (nb+j) o.op)&&((evD E call s nb ops.size (nb+j) (QU ops o kn) o.op).flat&&XG s.N o)then
       (evD E call s nb ops.size (nb+j) (QU ops o kn) o.op).bind λr=>X5 E call ops bf nb rest (j+1) ((j,foot s (nb+j) o.op)::fps) (QD o kn) ((s.wr r.2).put o.dst r.1)
     else .stuck
   let go (kn:List (Nat×Bool)):Tree (St B):=
     bif Vk o.op&&((!Zey s o.op||(evD E call s nb ops.size (nb+j) (QU ops o kn) o.op).KU)&&(!(Xw E call s.sub o.op).KU&&((Xw E call s.sub o.op).flat&&XG s.N o)))then
       (Xw E call s.sub o.op).bind λr=>
         bif ZbH s.n r&&Y8 ops bf nb j fps V6 then X5 E call ops bf nb rest (j+1) ((j,V6)::fps) (QD o kn) (s.put o.dst r.1)
         else bif bigAt ops bf j o&&Y8 ops bf nb j fps (JN r.2.1)then X5 E call ops bf nb rest (j+1) ((j,JN r.2.1)::fps) (QD o kn) (({ s with h:=s.h.over r.2.1,n:=r.2.2 }:St B).put o.dst r.1)
         else small kn
     else small kn
   let no (kn:List (Nat×Bool)):Tree (St B):=bif XG s.N o then X5 E call ops bf nb rest (j+1) ((j,Jq)::fps) (QD o kn) (s.put o.dst .undef)else .stuck
   match guardOf ops (λt=>refine kn t (s.tmp t)) o with
   | .bad=>.stuck
   | .yes=>go kn
   | .no=>no kn
   | .dyn d b want=>match want with
     |true=>.node b (go ((d,ze)::kn)) (no ((d,za)::kn))
     |false=>.node b (no ((d,ze)::kn)) (go ((d,za)::kn))
def lays(o:Oper):Bool:=
  match o.op with
  | .alloc _| .box _ _| .buildSlice _ _ _| .makeSlice _ _ _| .makeMap _ _=>ze
  | .call c=>match c.callee with
    | .builtin b=>match b with
      | .append=>ze
      |_=>za
    |_=>ze
  |_=>za
def Zje(h:PT Blk)(n k:Nat):PT Blk:=Nat.rec h (λi r=>r.set (n+i) .none) k
def St.VT(s:St B)(ops:Array Oper):St B:=
  bif ops.toList.any lays then { s with h:=Zje s.h s.n ops.size,n:=s.n+ops.size }else s
end
def mgV:V->V->Bool
  | .junk,_=>ze
  | .undef,_=>ze
  |x,.junk=>x.one
  |x,.undef=>x.one
  | .nil,.nil=>ze
  | .cons h t,.cons h' t'=>(h.one&&mgV h h')&&mgV t t'
  | .int _ k _,.int _ k' _=>decide (k=k')
  | .bool _ _,.bool _ _=>ze
  | .str _ _,.str _ _=>ze
  | .agg cs,.agg cs'=>mgV cs cs'
  | .tup cs,.tup cs'=>mgV cs cs'
  | .ptr st bl es i o,.ptr st' bl' es' i' o'=>(st&&st')&&(zo bl bl'&&(zo es es'&&(zo i i'&&zo o o')))
  | .osl st bl es i n,.osl st' bl' es' i' n'=>(st&&st')&&(zo bl bl'&&(zo es es'&&(zo i i'&&zo n n')))
  | .nilptr,.nilptr=>ze
  | .nilfn,.nilfn=>ze
  | .nilmap,.nilmap=>ze
  | .nilif,.nilif=>ze
  | .nilif,.ifc _ _=>ze
  | .ifc _ _,.nilif=>ze
  | .ifc _ _,.ifc _ _=>ze
  | .Zl,.Zl=>ze
  | .Zl,.rsl _ _ _ _=>ze
  | .rsl _ _ _ _,.Zl=>ze
  | .rsl _ es _ _,.rsl _ es' _ _=>zo es es'
  |_,_=>za
def mgB(x y:Blk):Bool:=
  match x,y with
  | .var cs,.var cs'=>Jv cs cs'&&mgV cs cs'
  | .Zm kd _ _ _,.Zm kd' _ _ _=>KX kd kd'
  | .none,_=>ze
  |_,.none=>ze
  | .any,_=>ze
  |_,.any=>ze
  |_,_=>za
def Zbt(b:Bool)(x y:Blk):Blk:=
  match x,y with
  | .var cs,.var cs'=>bif Jv cs cs' then .var (Wh b cs cs')else .any
  | .none,.none=>.none
  | .Zm kd _ f _,.Zm kd' _ f' _=>bif KX kd kd' then .Zm kd za (λk=>(bif b then(f k).1 else(f' k).1,VW b (f k).2 (f' k).2)) zm else .any
  |_,_=>.any
def Uh(h:PT Blk)(n k:Nat):PT Blk:=Nat.rec h (λi r=>r.set (n+i) .any) k
section
variable{B:Base}
def ZgC(c:Bool)(s1 s2:St B):Option (St B):=
  let lo:=bif zK s1.n s2.n then s1.n else s2.n
  let hi:=bif zK s1.n s2.n then s2.n else s1.n
  bif (s1.t.Q8 (λk=>mgV (s1.tmp k) (s2.tmp k)) 1 0&&s2.t.Q8 (λk=>mgV (s1.tmp k) (s2.tmp k)) 1 0)&&
      ((s1.h.Q8 (λk=>zK lo k||mgB (s1.blk k) (s2.blk k)) 1 0&&s2.h.Q8 (λk=>zK lo k||mgB (s1.blk k) (s2.blk k)) 1 0)&&zo s1.N s2.N)then
    zk { t:=s1.t.both (λk=>VW c (s1.tmp k) (s2.tmp k)) s2.t 1 0,
           h:=Uh (s1.h.both (λk=>Zbt c (s1.blk k) (s2.blk k)) s2.h 1 0) lo (hi-lo),n:=hi,N:=s1.N }
  else zm
abbrev Ke(B:Base):=List (Bool×Ex×St B)
def Ex.key:Ex->Nat
  | .ret=>0
  | .exit id=>id+1
  | .normal=>1000000000
def ZbK:Ex->Ex->Bool
  | .normal,.normal=>ze
  | .ret,.ret=>ze
  | .exit i,.exit j=>zo i j
  |_,_=>za
def comb(k:Nat):Bool->Ke B->Ke B->Option (Ke B):=Nat.rec (λ_ _ _=>zm) (λ_ ih c l1 l2=>
  match l1 with
  |[]=>zk (l2.map λ|(p,x)=>(bif c then za else p,x))
  |(p1,e1,s1)::r1=>match l2 with
   |[]=>zk (((p1,e1,s1)::r1).map λ|(p,x)=>(bif c then p else za,x))
   |(p2,e2,s2)::r2=>
    bif ZbK e1 e2 then match ZgC c s1 s2 with
      |some s=>match ih c r1 r2 with
       |some r=>zk ((bif c then p1 else p2,e1,s)::r)
       |none=>zm
      |none=>zm
    else bif zG e1.key e2.key then match ih c r1 ((p2,e2,s2)::r2)with
      |some r=>zk ((bif c then p1 else za,e1,s1)::r)
      |none=>zm
    else match ih c ((p1,e1,s1)::r1) r2 with
      |some r=>zk ((bif c then za else p2,e2,s2)::r)
      |none=>zm) k
def ways:Tree (Ex×St B)->Option (Ke B)
  | .leaf x=>zk [(ze,x)]
  | .node c t f=>match ways t with
    |some l1=>match ways f with
     |some l2=>comb (l1.length+l2.length+1) c l1 l2
     |none=>zm
    |none=>zm
  | .need _ t=>ways t
  |_=>zm
def Zak:Ke B->Tree (Ex×St B)
  |[]=>.stuck
  |(p,x)::r=>match r with
   |[]=>.leaf x
   |_::_=>.node p (.leaf x) (Zak r)
def needs{α:Type}:Tree α->Option Prop
  | .node b t f=>match needs t,needs f with
    |none,zm=>zm
    |some p,zm=>zk (b=ze->p)
    |none,zk q=>zk (b=za->q)
    |some p,zk q=>zk ((b=ze->p)/\(b=za->q))
  | .need p t=>match needs t with
    |none=>zk p
    |some q=>zk (p/\q)
  | .both t f=>match needs t,needs f with
    |none,zm=>zm
    |some p,zm=>zk p
    |none,zk q=>zk q
    |some p,zk q=>zk (p/\q)
  |_=>zm
def ZgD(T:Tree (Ex×St B)):Tree (Ex×St B):=
  match T with
  | .leaf x=>.leaf x
  |T=>match ways T with
   |some l=>match needs T with
    |none=>Zak l
    |some p=>.need p (Zak l)
   |none=>T
def St.V7(s:St B)(s1:St s.bs):St B:={ t:=s.t.over s1.t,h:=s.h.over s1.h,n:=s1.n,N:=s1.N }
def eqV:V->V->Bool
  | .cons h t,y=>match y with| .cons h' t'=>eqV h h'&&eqV t t'|_=>za
  | .nil,y=>match y with| .nil=>ze|_=>za
  | .int st k n,y=>match y with| .int st' k' n'=>bif st&&st' then decide (k=k')&&decide (n=n')else za|_=>za
  | .bool st b,y=>match y with| .bool st' b'=>bif st&&st' then b==b' else za|_=>za
  | .agg cs,y=>match y with| .agg cs'=>eqV cs cs'|_=>za
  | .tup cs,y=>match y with| .tup cs'=>eqV cs cs'|_=>za
  | .ptr st b es i o,y=>match y with| .ptr st' b' es' i' o'=>(st&&st')&&((zo b b'&&zo es es')&&(zo i i'&&zo o o'))|_=>za
  | .osl st b es i n,y=>match y with| .osl st' b' es' i' n'=>(st&&st')&&((zo b b'&&zo es es')&&(zo i i'&&zo n n'))|_=>za
  | .osp st b es i n c,y=>match y with| .osp st' b' es' i' n' c'=>(st&&st')&&((zo b b'&&zo es es')&&((zo i i'&&zo n n')&&zo c c'))|_=>za
  | .mp b,y=>match y with| .mp b'=>zo b b'|_=>za
  | .esl nn es,y=>match y with| .esl nn' es'=>(nn==nn')&&zo es es'|_=>za
  | .Zl,y=>match y with| .Zl=>ze|_=>za
  | .nilptr,y=>match y with| .nilptr=>ze|_=>za
  | .nilmap,y=>match y with| .nilmap=>ze|_=>za
  | .nilfn,y=>match y with| .nilfn=>ze|_=>za
  | .nilif,y=>match y with| .nilif=>ze|_=>za
  |_,_=>za
def meetV(x y:V):V:=bif eqV x y then x else .junk
def Zbs(x y:Blk):Blk:=
  match x,y with
  | .var cs,.var cs'=>bif eqV cs cs' then .var cs else .any
  | .none,.none=>.none
  |_,_=>.any
def meetSt(s1 s2:St B):Option (St B):=
  let lo:=bif zK s1.n s2.n then s1.n else s2.n
  let hi:=bif zK s1.n s2.n then s2.n else s1.n
  bif (s1.t.Q8 (λ_=>ze) 1 0&&s2.t.Q8 (λ_=>ze) 1 0)&&((s1.h.Q8 (λ_=>ze) 1 0&&s2.h.Q8 (λ_=>ze) 1 0)&&zo s1.N s2.N)then
    zk { t:=s1.t.both (λk=>meetV (s1.tmp k) (s2.tmp k)) s2.t 1 0,
           h:=Uh (s1.h.both (λk=>Zbs (s1.blk k) (s2.blk k)) s2.h 1 0) lo (hi-lo),n:=hi,N:=s1.N }
  else zm
def meetX(x y:Option (Ex×St B)):Option (Ex×St B):=
  match x with
  |some (e,s)=>match y with
   |some (e',s')=>bif ZbK e e' then match meetSt s s' with
       |some r=>zk (e,r)
       |none=>zm
    else zm
   |none=>zm
  |none=>zm
def Zah:Tree (Ex×St B)->Option (Ex×St B)
  | .leaf x=>zk x
  | .node _ t f=>meetX (Zah t) (Zah f)
  | .both t f=>meetX (Zah t) (Zah f)
  | .need _ t=>Zah t
  |_=>zm
def Tree.Zf9{α:Type}:Tree α->Bool
  | .node _ t f=>t.Zf9||f.Zf9
  | .both _ _=>ze
  | .need _ t=>t.Zf9
  |_=>za
def collapse(T:Tree (Ex×St B)):Tree (Ex×St B):=
  match T.Zf9 with
  |false=>T
  |true=>match Zah T with
   |some x=>match needs T with
    |none=>.leaf x
    |some p=>.need p (.leaf x)
   |none=>T
def Zds(s:St B)(f:St s.bs->Tree (Ex×St s.bs)):Tree (Ex×St B):=(collapse (ZgD (f s.sub))).bind λ|(e,x)=>.leaf (e,s.V7 x)
def merged(s:St B)(f:St s.bs->Tree (Ex×St s.bs)):Tree (Ex×St B):=(ZgD (f s.sub)).bind λ|(e,x)=>.leaf (e,s.V7 x)
end
def setArgs:V->Nat->PT V->PT V
  | .cons h t,i,T=>setArgs t (i+1) (T.set i h)
  |_,_,T=>T
def Base.fn(hb:Nat->Blk):Base:=⟨λ_=>.junk,hb⟩
def enter(hb:Nat->Blk)(args:V)(ntmps:Nat)(h:PT Blk)(n:Nat):St (Base.fn hb):=
  { t:=setArgs args 0 .nil,h,n,N:=args.len+(ntmps-args.len) }
section
variable{B:Base}
def ZdJ(P:Program)(s:St B):ResultVar->Tree V
  | .tmp t=>.leaf (s.tmp t)
  | .cell a t=>VJ P s.blk t (s.tmp a)
def V8(P:Program)(s:St B):List ResultVar->Tree V
  |[]=>.leaf .nil
  |r::rest=>(ZdJ P s r).bind λv=>(V8 P s rest).bind λvs=>.leaf (.cons v vs)
def single:V->V
  | .cons v .nil=>v
  |vs=>.tup vs
def JR:Code->Option Nat
  | .region id _ _=>zk id
  | .seq a b=>match JR a with
    |some i=>zk i
    |none=>JR b
  | .cond _ a b=>match JR a with
    |some i=>zk i
    |none=>JR b
  | .block _ b=>JR b
  | .loop b=>JR b
  | .scope b=>JR b
  |_=>zm
def Y4:Code->List Code
  | .seq a b=>Y4 a++Y4 b
  | .cond _ a b=>Y4 a++Y4 b
  | .block _ b=>Y4 b
  | .loop b=>b::Y4 b
  | .scope b=>Y4 b
  |_=>[]
def Qq:Code->List Code
  | .seq a b=>Qq a++Qq b
  | .cond _ a b=>Qq a++Qq b
  | .block _ b=>Qq b
  | .loop b=>b::Qq b
  | .scope b=>Qq b
  | .rangeFunc _ _ a b=>Qq a++Qq b
  |_=>[]
def WL(P:Program)(f:FuncId)(body:Code):Prop:=∃fn c,P.funcs[f]? =zk fn/\fn.body=zk c/\body∈Qq c
def QE(E:Env)(f:FuncId)(body:Code):Option ((B:Base)->St B->Tree (Ex×St B)):=
  match JR body with
  |some i=>E.lp f i
  |none=>zm
def St.Qo(s:St B)(c:Operand)(b:Bool):St B:=
  match c with
  | .tmp d=>s.know d b
  |_=>s
end
abbrev Qu:=FuncId->Code->(B:Base)->St B->Tree (Ex×St B)
def ZdI:List Nat->V->PT V->PT V
  |p::ps,.cons v r,t=>ZdI ps r (t.set p v)
  |_,_,t=>t
def Ex.G9:Ex->Bool
  | .normal=>ze
  |_=>za
def ZcU(E:Env)(rec_:Qu)(hb:Nat->Blk)(b:Nat)(args:V)(h:PT Blk)(n:Nat):Tree (V×PT Blk×Nat):=
  match look hb h b with
  | .rng f ps asg bd row N st _=>
    Zax (bif (Y4 asg++Y4 bd).all λc=>(QE E f c).isNone then zm else zk (∀c∈Y4 asg++Y4 bd,∀g,QE E f c=zk g->WL E.P f c))
    (bif (zo st 0&&(zo args.len ps.length&&ps.all λp=>zG p N))&&(XU asg&&XU bd)then
      (rec_ f asg ⟨row,hb⟩ { t:=ZdI ps args .nil,h,n,N }).bind λx=>match x.1 with
        | .normal=>match look hb x.2.h b with
          | .rng f' ps' asg' bd' row' N' st' pd'=>bif zo st' 0 then
              (rec_ f bd ⟨row,hb⟩ { x.2 with h:=x.2.h.set b (.rng f' ps' asg' bd' row' N' 1 pd') }).bind λy=>match look hb y.2.h b with
                | .rng f2 ps2 asg2 bd2 J5 N2 st2 _=>bif zo st2 1 then
                    .leaf (.bool ze y.1.G9,y.2.h.set b (.rng f2 ps2 asg2 bd2 J5 N2 (bif y.1.G9 then 0 else 2) (zk y.1)),y.2.n)else .stuck
                |_=>.stuck
            else .stuck
          |_=>.stuck
        |_=>.stuck
    else .stuck)
  |_=>.stuck
def V.names:V->List Nat
  | .cons h t=>h.names++t.names
  | .agg cs=>cs.names
  | .tup vs=>vs.names
  | .fn _ a b=>a.names++b.names
  | .ptr _ b _ _ _=>[b]
  | .osl _ b _ _ _=>[b]
  | .osp _ b _ _ _ _=>[b]
  | .mp b=>[b]
  |_=>[]
def V.rnm(f:Nat->Option Nat):V->V
  | .cons h t=>.cons (h.rnm f) (t.rnm f)
  | .agg cs=>.agg (cs.rnm f)
  | .tup vs=>.tup (vs.rnm f)
  | .fn g a b=>.fn g (a.rnm f) (b.rnm f)
  | .ptr st b es i o=>match f b with|some c=>.ptr st c es i o|none=>.junk
  | .osl st b es i n=>match f b with|some c=>.osl st c es i n|none=>.junk
  | .osp st b es i n k=>match f b with|some c=>.osp st c es i n k|none=>.junk
  | .mp b=>match f b with|some c=>.mp c|none=>.junk
  | .yld _=>.junk
  |v=>v
def Blk.rnm(f:Nat->Option Nat):Blk->Blk
  | .none=>.none
  | .var cs=>.var (cs.rnm f)
  | .arr es n get=>.arr es n get
  | .Zm kd st g ks=>.Zm kd st (λk=>((g k).1,(g k).2.rnm f)) ks
  |_=>.any
def Blk.names:Blk->List Nat
  | .var cs=>cs.names
  |_=>[]
def Blk.isAny:Blk->Bool
  | .any=>ze
  |_=>za
def idxOf(b:Nat):List Nat->Nat->Option Nat
  |[],_=>zm
  |c::l,i=>bif zo c b then zk i else idxOf b l (i+1)
def Kw(b:Nat):List Nat->Bool
  |[]=>za
  |c::l=>zo c b||Kw b l
def Zer(g:Nat->Blk)(n:Nat):List Nat->List Nat->List Nat
  |acc,[]=>acc
  |acc,b::l=>Zer g n (bif Kw b acc||(!zG b n||(g b).isAny)then acc else acc++[b]) l
def reach(g:Nat->Blk)(n:Nat)(k:Nat):List Nat->Nat->List Nat:=Nat.rec (λl _=>l) (λ_ ih l i=>
  match l[i]? with
  |some b=>ih (Zer g n l (g b).names) (i+1)
  |none=>l) k
def UF:List Nat->Bool
  |[]=>ze
  |b::l=>!Kw b l&&UF l
def backOf(l:List Nat)(n:Nat)(i:Nat):Option Nat:=bif zG i l.length then l[i]? else zk (n+(i-l.length))
def setAt(f:Nat->Option Nat)(i:Nat)(b:Blk)(h:PT Blk):PT Blk:=
  match f i with
  |some c=>h.set c (b.rnm f)
  |none=>h
def ZbE(f:Nat->Option Nat):List Blk->Nat->PT Blk->PT Blk
  |[],_,h=>h
  |b::l,i,h=>ZbE f l (i+1) (setAt f i b h)
def reachOf(hb:Nat->Blk)(args:V)(h:PT Blk)(n:Nat):List Nat:=reach (look hb h) n 100 (Zer (look hb h) n [] args.names) 0
def ZfM(K:HK)(hb:Nat->Blk)(args:V)(h:PT Blk)(n:Nat)(l:List Nat):Option (Tree (V×PT Blk×Nat)):=
  bif l.all (λb=>zG b n&&!(look hb h b).isAny)&&UF l then
    match K (args.rnm λb=>idxOf b l 0) (l.map λb=>(look hb h b).rnm λb=>idxOf b l 0)with
    |some T=>zk (T.bind λr=>.leaf (r.1.rnm (backOf l n),ZbE (backOf l n) r.2 0 h,n+(r.2.length-l.length)))
    |none=>zm
  else zm
def ZfN(E:Env)(hb:Nat->Blk)(g:FuncId)(args:V)(h:PT Blk)(n:Nat):Option (Tree (V×PT Blk×Nat)):=
  match E.hk g with
  |some K=>ZfM K hb args.plain h n (reachOf hb args.plain h n)
  |none=>zm
def Kn(E:Env)(rec_:Qu)(hb:Nat->Blk)(g:FuncId ⊕ Nat)(args:V)(h:PT Blk)(n:Nat):Tree (V×PT Blk×Nat):=
  match g with
  | .inr b=>ZcU E rec_ hb b args h n
  | .inl g=>match ZfN E hb g args h n with
    |some T=>T
    |none=>
    match E.P.funcs[g]? with
    |some fn=>match fn.body with
     |some c=>(rec_ g c (Base.fn hb) (enter hb args.plain fn.ntmps h n)).bind λx=>
      match x.1 with
      | .exit _=>.stuck
      |_=>(V8 E.P x.2 fn.results.toList).bind λvs=>.leaf ((single vs).plain,x.2.h,x.2.n)
     |none=>.stuck
    |none=>.stuck
def GX(E:Env)(call:Xr)(ops:Array Oper)(draw:Bool)(s:St B):Tree (Ex×St B):=
  match draw with
  |false=>bif ops.toList.all (XG s.N)then(Ko E call ops ops.toList s).bind λs'=>.leaf (.normal,s')else .stuck
  |true=>forceList (bfs ops.toList []) λbf=>bif GD ops bf then(X5 E call ops bf s.n ops.toList 0 [] [] (s.VT ops)).bind λs'=>.leaf (.normal,s')else .stuck
def leave(id:Nat)(x:Ex×St B):Tree (Ex×St B):=
  match x.1 with
  | .exit id'=>bif zo id' id then .leaf (.normal,x.2)else .leaf (.exit id',x.2)
  |e=>.leaf (e,x.2)
def Ur(E:Env)(rec_:Qu)(f:FuncId)(c:Code)(B:Base)(s:St B):Tree (Ex×St B):=
  match c with
  | .skip=>.leaf (.normal,s)
  | .label _=>.leaf (.normal,s)
  | .exit id=>.leaf (.exit id,s)
  | .ret=>.leaf (.ret,s)
  | .scope b=>rec_ f b B s
  | .region _ ops draw=>match E.mg&&ops.toList.any (λo=>o.guard.isSome)with
    |true=>merged s λs=>GX E (Kn E rec_) ops draw s
    |false=>GX E (Kn E rec_) ops draw s
  | .seq a b=>(rec_ f a B s).bind λx=>match x.1 with
    | .normal=>rec_ f b B x.2
    |e=>.leaf (e,x.2)
  | .cond c a b=>match Zu s c with
    | .bool ze t=>match t with
      |true=>rec_ f a B s
      |false=>rec_ f b B s
    | .bool za t=>match E.WV f c s.tmp with
      |some ze=>.need (t=ze) (rec_ f a B (s.Qo c ze))
      |some za=>.need (t=za) (rec_ f b B (s.Qo c za))
      |none=>match E.mg&&!E.nm f with
       |true=>merged s λs=>.node t (rec_ f a _ (s.Qo c ze)) (rec_ f b _ (s.Qo c za))
       |false=>.node t (rec_ f a B (s.Qo c ze)) (rec_ f b B (s.Qo c za))
    |_=>.stuck
  | .block id b=>match E.mg&&!E.nm f with
    |true=>Zds s λs=>(rec_ f b _ s).bind (leave id)
    |false=>(rec_ f b B s).bind (leave id)
  | .loop b=>match QE E f b with
    |some g=>g B s
    |none=>(rec_ f b B s).bind λx=>match x.1 with
     | .normal=>rec_ f (.loop b) B x.2
     |e=>.leaf (e,x.2)
  | .rangeFunc g ps asg bd=>match VD (Zu s g) (.cons (.yld s.n) .nil)with
    |some (.inl g',args)=>(Kn E rec_ B.h (.inl g') args (s.h.set s.n (.rng f ps.toList asg bd s.tmp s.N 0 zm)) (s.n+1)).bind λr=>
        match look B.h r.2.1 s.n with
        | .rng _ _ _ _ _ _ st pend=>bif zo st 1 then .stuck else .leaf (pend.getD .normal,{ s with h:=r.2.1.set s.n .any,n:=r.2.2 })
        |_=>.stuck
    |_=>.stuck
  |_=>.stuck
def ev(E:Env)(k:Nat):Qu:=Nat.rec (λ_ _ _ _=>.stuck) (λ_ ih=>Ur E ih) k
def mapO(f:V->V):V->V
  | .cons a t=>.cons (mapO f a) (mapO f t)
  | .agg cs=>.agg (mapO f cs)
  | .tup cs=>.tup (mapO f cs)
  | .osl st b es i n=>f (.osl st b es i n)
  | .osp st b es i n c=>f (.osp st b es i n c)
  |v=>v
def pubRow(v:V)(st:Bool)(es i n:Nat)(cs:V):V:=bif st&&(cs.clean&&zK ((i+n)*es) cs.len)then .rsl ze es n λj=>(cs.drop ((i+j)*es)).take es else v
def pubO(h:Nat->Blk):Nat->V->V
  |0,v=>v
  |k+1,v=>match v.WB with
   | .osl st b es i n=>match h b with
     | .var cs=>pubRow v st es i n (mapO (pubO h k) cs)
     |_=>v
   |_=>v
def J3(h:Nat->Blk):V->Tree V
  | .cons a t=>(J3 h a).bind λa=>(J3 h t).bind λt=>.leaf (.cons a t)
  | .tup vs=>(J3 h vs).bind λvs=>.leaf (.tup vs)
  | .agg cs=>(J3 h cs).bind λcs=>.leaf (.agg cs)
  | .osl st b es i n=>match h b with
    | .var cs=>bif st&&(cs.clean&&zK ((i+n)*es) cs.len)then .leaf (.rsl ze es n λj=>(cs.drop ((i+j)*es)).take es)else .leaf (pubO h 3 (.osl st b es i n))
    | .arr es' k get=>bif zo es es' then(match st with
        |true=>bif zK (i+n) k then .leaf (.rsl ze es n λj=>get (i+j))else .stuck
        |false=>.need (i+n<=k) (.leaf (.rsl za es n λj=>get (i+j))))else .stuck
    |_=>.leaf (.osl st b es i n)
  | .osp st b es i n c=>bif zo n 0 then .leaf (.rsl ze es 0 λ_=>.nil)else .leaf (pubO h 3 (.osp st b es i n c))
  |v=>.leaf v
def ZU(E:Env)(k:Nat)(g:FuncId)(args:V):Tree V:=(Kn E (ev E k) (λ_=>.none) (.inl g) args .nil 0).bind λr=>J3 (look (λ_=>.none) r.2.1) r.1
end Go.Fw
namespace Go.Fw
section
variable{F:Nat->Prop}{w:World}{n:Nat}{m:Nat->Option Nat}
theorem XP:∀(cs:V)(xs:List Value),RL F w cs n m xs->cs.len=xs.length:=by
 intro cs
 induction cs<;>grind[RL,V.len]
theorem RL_nth:∀(cs:V)(xs:List Value),RL F w cs n m xs->∀i x,xs[i]? =zk x->R F w (cs.nth i) n m x:=by
 intro cs
 induction cs with
 |nil=>grind[RL]
 |cons a t _ ih=>
  intro xs h i x hx
  obtain⟨y,r,rfl,h1,h2⟩:=h
  cases i with
  |zero=>simp at hx;subst hx;exact h1
  |succ i=>exact ih r h2 i x hx
 |_=>grind[RL]
theorem Uf:∀(cs:V)(xs:List Value),RL F w cs n m xs->∀i,RL F w (cs.drop i) n m (xs.drop i):=by
 intro cs
 induction cs with
 |nil=>grind[RL,V.drop]
 |cons a t _ ih=>
  intro xs h i
  have h0:=h
  obtain⟨y,r,rfl,h1,h2⟩:=h
  cases i with
  |zero=>exact h0
  |succ i=>exact ih r h2 i
 |_=>grind[RL]
theorem Vu:∀(cs:V)(xs:List Value),RL F w cs n m xs->∀i,RL F w (cs.take i) n m (xs.take i):=by
 intro cs
 induction cs with
 |nil=>grind[RL,V.take]
 |cons a t _ ih=>
  intro xs h i
  simp only[RL]at h
  obtain⟨y,r,rfl,h1,h2⟩:=h
  cases i with
  |zero=>simp only[List.take_zero];show RL F w .nil n m [];simp only[RL]
  |succ i=>
   simp
   show RL F w (.cons a (t.take i)) n m (y::r.take i)
   grind[RL]
 |_=>grind[RL]
theorem Zcg:∀(cs:V)(xs:List Value),RL F w cs n m xs->∀(ds:V)(ys:List Value),RL F w ds n m ys->RL F w (cs.app ds) n m (xs++ys):=by
 intro cs
 induction cs<;>grind[RL,V.app]
variable{α:Type}
def XW:List α->Nat->List α->List α
 |[],_,_=>[]
 |h::t,0,vs=>match vs with
  |x::r=>x::XW t 0 r
  |[]=>h::t
 |h::t,o+1,vs=>h::XW t o vs
theorem KF:∀(cs:List α)(o:Nat)(vs:List α),(XW cs o vs).length=cs.length:=by
 intro cs
 induction cs with
 |nil=>intro o vs;rfl
 |cons h t ih=>
  intro o vs
  cases o with
  |zero=>cases vs<;>simp only[XW,List.length_cons,ih]
  |succ o=>grind[XW]
theorem Ua:∀(cs:List α)(o:Nat)(vs:List α)(j:Nat),j<cs.length->
  (XW cs o vs)[j]? =if o<=j/\j<o+vs.length then vs[j-o]? else cs[j]?:=by
 intro cs
 induction cs with
 |nil=>grind
 |cons h t ih=>
  intro o vs j hj
  cases o with
  |zero=>cases vs<;>grind[XW]
  |succ o=>grind[XW,List.getElem?_cons_succ,Nat.add_sub_add_right]
theorem Zen:∀(cs:V)(xs:List Value),RL F w cs n m xs->∀(o:Nat)(vs:V)(ys:List Value),RL F w vs n m ys->
  RL F w (cs.splice o vs) n m (XW xs o ys):=by
 intro cs
 induction cs with
 |nil=>grind[RL,V.splice,XW]
 |cons a t _ ih=>
  intro xs h o vs ys hv
  have h0:=h
  simp only[RL]at h
  obtain⟨y,r,rfl,h1,h2⟩:=h
  cases o with
  |zero=>
   cases vs with
   |nil=>subst hv;exact h0
   |cons b u=>
    simp only[RL]at hv
    obtain⟨z,q,rfl,h3,h4⟩:=hv
    show RL F w (.cons b (t.splice 0 u)) n m (z::XW r 0 q)
    grind[RL]
   |_=>grind[RL]
  |succ o=>
   show RL F w (.cons a (t.splice o vs)) n m (y::XW r o ys)
   grind[RL]
 |_=>grind[RL]
theorem Zch(v:Value):R F w (V.VY v) n m v:=by
 unfold V.VY
 split<;>first
  |(simp only[R];done)
  |(simp;exact⟨_,_,rfl,by simp_all[RL],by simp_all[RL]⟩)
  |(simp;split<;>simp_all[R,RL])
  |(split<;>simp_all[R,RL])
theorem ZjZ:∀(l:List Value),RL F w (V.ofList (l.map V.VY)) n m l:=by
 intro l
 induction l<;>grind[V.ofList,RL,Zch]
theorem R_const(v:Value):R F w (V.ofValue v) n m v:=by
 unfold V.ofValue
 grind[R,ZjZ,Zch]
theorem R_cell(v:V)(x:Value)(h:R F w v n m x)(hs:v.cell=ze):(∀cs,x≠.agg cs)/\∀cs,x≠.tuple cs:=by
 cases v
 case ifc=>simp only[R]at h;grind
 case rptr=>simp only[R]at h;grind
 case yld=>simp only[R]at h;grind
 case mp=>simp only[R]at h;grind
 case osl=>simp only[R]at h;grind
 case rsl=>simp only[R]at h;grind
 case fn=>simp only[R]at h;grind
 case rmp=>simp only[R]at h;grind
 case osp=>simp only[R]at h;grind
 case esl=>simp only[R]at h;grind
 case ptr=>simp only[R]at h;grind
 all_goals first
  |(cases hs;done)
  |(simp only[R]at h;subst h;exact⟨(λ_=>by simp),λ_=>by simp⟩)
theorem U3(v:V)(x:Value)(h:R F w v n m x)(hs:v.solid=ze):RL F w v.cells n m x.cells.toList:=by
 cases v with
 |agg cs=>obtain⟨xs,rfl,h⟩:=h;exact h
 |junk=>cases hs
 |nil=>cases hs
 |cons a b=>cases hs
 |_=>
  have hc:x.cells= #[x]:=by
   first
    |(simp at h;subst h;rfl)
    |(obtain⟨ha,_⟩:=R_cell _ x h rfl;cases x<;>first|rfl|exact absurd rfl (ha _))
    |(simp only[R]at h;obtain⟨_,rfl,_⟩:=h;rfl)
    |(simp at h;subst h;rfl)
  grind[V.cells,RL]
theorem ZjY:∀(cs:V)(xs:List Value),RL F w cs n m xs->cs.Y6=ze->∀x∈xs,(∀c,x≠.agg c)/\∀c,x≠.tuple c:=by
 intro cs
 induction cs<;>grind[RL,V.Y6,R_cell]
end
end Go.Fw
namespace Go.Fw
def Val(P:Program)(F:Nat->Prop)(w:World)(n:Nat)(m:Nat->Option Nat)(T:Tree V)(sem:Sem Value):Prop:=
 ∀Q:V->Prop,T.holds P Q->∃v x,Q v/\sem.run P w=.ok x w/\R F w v n m x
section
variable{P:Program}{F:Nat->Prop}{w:World}{n:Nat}{m:Nat->Option Nat}
variable{v:V}{sem:Sem Value}{x:Value}
theorem Val.leaf(h:sem.run P w=.ok x w)(hv:R F w v n m x):Val P F w n m (.leaf v) sem:=
 λ_ hq=>⟨v,x,hq,h,hv⟩
theorem Val.stuck:Val P F w n m .stuck sem:=λ_ hq=>hq.elim
variable{T:Tree V}
theorem Val.need{p:Prop}(h:p->Val P F w n m T sem):Val P F w n m (.need p T) sem:=
 λQ hq=>h hq.1 Q hq.2
variable{st:Bool}{a:Int}
theorem Yx{k:IntKind}:R F w (.int st k a) n m x↔x=.int k a:=by simp only[R]
theorem WZ{a:Bool}:R F w (.bool st a) n m x↔x=.bool a:=by simp only[R]
theorem Q7{a:List UInt8}:R F w (.str st a) n m x↔x=.string ⟨a.toArray⟩:=by simp only[R]
theorem Zl8{y:Int}(h:y≠0->Val P F w n m T sem):Val P F w n m (ZgM st y T) sem:=by
 unfold ZgM
 cases st with
 |false=>exact Val.need h
 |true=>
  dsimp only
  split<;>grind[Val.stuck]
theorem Zl7{y:Int}{T:Nat->Tree V}(h:¬y<0->Val P F w n m (T y.toNat) sem):Val P F w n m (ZgL st y T) sem:=by
 unfold ZgL
 cases st with
 |false=>grind[Val.need]
 |true=>
  dsimp only
  split<;>grind[Val.stuck]
variable{k:Nat}
theorem U7{j:Int}{T:Nat->Tree V}(h:0<=j->j<k->Val P F w n m (T j.toNat) sem):Val P F w n m (KN st j k T) sem:=by
 unfold KN
 cases st with
 |false=>grind[Val.need]
 |true=>
  dsimp only
  split<;>grind[zG,Val.stuck,Nat.blt_eq]
theorem ZdZ{j:Int}{T:Nat->Tree V}(h:0<=j->j<=k->Val P F w n m (T j.toNat) sem):Val P F w n m (ZbR st j k T) sem:=by
 unfold ZbR
 cases st with
 |false=>grind[Val.need]
 |true=>
  dsimp only
  split<;>grind[zK,Val.stuck,Nat.ble_eq]
variable{i:Nat}
theorem atIdx_val(h:i<k->Val P F w n m T sem):Val P F w n m (atIdx st i k T) sem:=by
 unfold atIdx
 grind[Val.need,zG,Val.stuck,Nat.blt_eq]
variable{op:BinOp}
theorem evInt_val{s s':Bool}{k:IntKind}{b:Int}(t:TypeId)(hs:Zbm op=za) :
  Val P F w n m (evInt op s s' k a b) (binOp op t (.int k a) (.int k b)):=by
 have e : ∀k',binOp op t (.int k a) (.int k' b)=if k≠k' then stuck "BinOp: operands of different kinds" else
   match op with
   | .add| .sub| .mul=>Op.intArith op k a b
   | .quo| .rem=>Op.intDiv op k a b
   | .and| .or| .xor| .andNot=>Op.intBits op k a b
   |_=>Op.intCmp op a b:=by
  intro k';cases op<;>first|(cases hs;done)|rfl
 rw[e k,if_neg (by simp)]
 cases op<;>first|(cases hs;done)|skip
 case add=>exact Val.leaf rfl (by rw[Wz,Yx])
 case sub=>exact Val.leaf rfl (by rw[Wz,Yx])
 case mul=>exact Val.leaf rfl (by rw[Wz,Yx])
 case quo=>exact Zl8 λh=>Val.leaf (by simp[Op.intDiv,h];rfl) (by rw[Wz,Yx])
 case rem=>exact Zl8 λh=>Val.leaf (by simp[Op.intDiv,h];rfl) (by rw[Wz,Yx])
 case and=>exact Val.leaf rfl (by rw[Wz,Yx])
 case or=>exact Val.leaf rfl (by rw[Wz,Yx])
 case xor=>exact Val.leaf rfl (by rw[Wz,Yx])
 case andNot=>exact Val.leaf rfl (by rw[Wz,Yx])
 all_goals exact Val.leaf rfl (by rw[Vn,WZ])
theorem ZpC{s s':Bool}{k k':IntKind}{b:Int}(t:TypeId)(hs:Zbm op=ze) :
  Val P F w n m (evShift op s s' k a b) (binOp op t (.int k a) (.int k' b)):=by
 cases op<;>first|(cases hs;done)|skip
 ·exact Zl7 λh=>Val.leaf (by show(Op.shift .shl k a k' b).run P w=_;simp only[Op.shift,if_neg h];rfl) (by rw[Wz,Yx])
 ·exact Zl7 λh=>Val.leaf (by show(Op.shift .shr k a k' b).run P w=_;simp only[Op.shift,if_neg h];rfl) (by rw[Wz,Yx])
variable{t:TypeId}
theorem Zhp{b:Bool}(h:UU P t=zk b):(isAgg t).run P w=.ok b w:=by
 unfold UU at h
 unfold isAgg
 cases hu:P.underlying t with
 |none=>grind
 |some d=>
  rw[hu]at h
  simp only[zO,run_underlying hu,zQ]
  cases d<;>simp_all<;>rfl
theorem XY{z:Nat}(h:ZX P t=zk z):(sizeOf t).run P w=.ok z w:=by
 unfold ZX at h
 cases hi:P.info? t with
 |none=>grind
 |some i=>
  rw[hi]at h
  injection h with h
  subst h
  rw[run_sizeOf w hi]
  grind[Program.cellsOf]
variable{cs:V}
theorem Ka:R F w (.agg cs) n m x↔∃xs,x=.agg xs/\RL F w cs n m xs.toList:=by simp only[R]
variable{o:Nat}
theorem Zmf{xs:List Value}(h:partOf P t cs o=zk v)(hr:RL F w cs n m xs) :
  (UU P t=zk ze/\∃z,ZX P t=zk z/\o+z<=xs.length/\R F w v n m (.agg ((xs.drop o).take z).toArray))\/
  (UU P t=zk za/\∃x,xs[o]? =zk x/\R F w v n m x):=by
 unfold partOf at h
 cases ha:UU P t with
 |none=>grind
 |some b=>
  rw[ha]at h
  cases b with
  |true=>
   dsimp only at h
   cases hz:ZX P t with
   |none=>grind
   |some z=>
    rw[hz]at h
    dsimp only at h
    rw[XP cs xs hr]at h
    cases hle:zK (o+z) xs.length
    ·grind
    ·rw[hle]at h
     injection h with h
     subst h
     simp_all[refine,yx,Ka,Vu,Uf]
  |false=>
   dsimp only at h
   rw[XP cs xs hr]at h
   cases hle:zG o xs.length
   ·grind
   ·rw[hle]at h
    injection h with h
    subst h
    have hlt:o<xs.length:=by simpa[Nat.blt_eq]using hle
    exact .inr ⟨rfl,xs[o],List.getElem?_eq_getElem hlt,RL_nth cs xs hr o _ (List.getElem?_eq_getElem hlt)⟩
theorem ZdB{xs:Array Value}(h:partOf P t cs o=zk v)(hr:RL F w cs n m xs.toList) :
  ∃x,(part t xs o).run P w=.ok x w/\R F w v n m x:=by
 rcases Zmf h hr with⟨ha,z,hz,hle,hv⟩|⟨ha,x,hx,hv⟩
 ·refine⟨_,?_,hv⟩
  unfold part
  simp only[zO,Zhp ha,zQ,if_true,XY hz]
  have e:xs.extract o (o+z)=((xs.toList.drop o).take z).toArray:=by
   grind
  rw[e]
  rfl
 ·refine⟨x,?_,hv⟩
  unfold part
  simp_all[zO,Zhp,zQ,Bool.false_eq_true]
theorem Zdv{o:Option V}(h:∀v,o=zk v->∃x,sem.run P w=.ok x w/\R F w v n m x):Val P F w n m (.UJ o) sem:=by
 cases o with
 |none=>exact Val.stuck
 |some v=>obtain⟨x,hx,hv⟩:=h v rfl;exact Val.leaf hx hv
theorem Zpn{a:V}{f:Nat}(h:R F w a n m x):Val P F w n m (ZcM P t a f) (Instr.field t x f):=by
 unfold ZcM
 cases hu:P.underlying t with
 |none=>exact Val.stuck
 |some d=>
  cases d<;>try exact Val.stuck
  rename_i fields
  dsimp only
  cases hf:fields[f]? with
  |none=>exact Val.stuck
  |some fd=>
   dsimp only
   cases a<;>try exact Val.stuck
   rename_i cs
   rw[Ka]at h
   obtain⟨xs,rfl,hr⟩:=h
   refine Zdv λv hv=>?_
   obtain⟨x,hx,hR⟩:=ZdB hv hr
   refine⟨x,?_,hR⟩
   simp only[Instr.field,zO,run_underlying hu,zQ,hf,asAgg,zX,hx]
theorem Zpl{a:V}(h:R F w a n m x):Val P F w n m (ZfL a i) (Instr.extract x i):=by
 cases a<;>try exact Val.stuck
 rename_i vs
 simp only[R]at h
 obtain⟨xs,rfl,hr⟩:=h
 show Val P F w n m (bif zG i vs.len then .leaf (vs.nth i)else .stuck) _
 rw[XP vs _ hr]
 cases hle:zG i xs.toList.length
 ·exact Val.stuck
 ·have hlt:i<xs.toList.length:=by simpa[Nat.blt_eq]using hle
  have hx:=List.getElem?_eq_getElem hlt
  refine Val.leaf (x:=xs.toList[i]) ?_ (RL_nth vs _ hr i _ hx)
  have hx':xs[i]? =zk xs.toList[i]:=by simp
  simp only[Instr.extract,hx',zX]
variable{b es:Nat}
theorem Wp:R F w (.ptr st b es i o) n m x↔b<n/\∃B,x=.pointer (zk ⟨B,i*es+o,zm⟩)/\m b=zk B:=by simp only[R]
def RRow(F:Nat->Prop)(w:World)(es k:Nat)(get:Nat->V)(B off:Nat):Prop:=
 F B/\∃c el fr,w.heap[B]? =zk (.cells c el fr)/\∀j,j<k->∃xs,RL F w (get j) 0 (λ_=>zm) xs/\xs.length=es/\∀q,q<es->c[off+j*es+q]? =xs[q]?
theorem Kc{get:Nat->V} :
  R F w (.rptr st es k get i o) n m x↔i<k/\∃B off,x=.pointer (zk ⟨B,off+i*es+o,zm⟩)/\RRow F w es k get B off:=by simp only[R,RRow]
theorem Wi{get:Nat->V} :
  R F w (.rsl st es k get) n m x↔∃a cap,x=.slice a k cap/\k<=cap/\(k=0\/∃B off,a=zk ⟨B,off,zm⟩/\RRow F w es k get B off):=by simp only[R,RRow]
variable{F:Nat->Prop}{m:Nat->Option Nat}
theorem KM{w:World}{n:Nat}{c0:Nat} :
  R F w (.osp st b es i k c0) n m x↔b<n/\∃a cap,x=.slice a k cap/\k<=c0/\c0<=cap/\(cap=0\/∃B c el fr,a=zk ⟨B,i*es,zm⟩/\m b=zk B/\w.heap[B]? =zk (.cells c el fr)/\(i+cap)*es<=c.size):=by
 grind[R]
theorem ZaB{w:World}{n:Nat}{nn:Bool} :
  R F w (.esl nn es) n m x↔∃a,x=.slice a 0 0/\(nn=ze->a≠zm):=by
 grind[R]
theorem YE :
  R F w (.osl st b es i k) n m x↔b<n/\∃a cap,x=.slice a k cap/\k<=cap/\(cap=0\/∃B c el fr,a=zk ⟨B,i*es,zm⟩/\m b=zk B/\w.heap[B]? =zk (.cells c el fr)/\(i+cap)*es<=c.size):=by simp only[R]
end
end Go.Fw
namespace Go.Fw
section
variable{F:Nat->Prop}{w:World}
theorem U4{st:Bool}{es:Nat}{get:Nat->V}{n:Nat}{m:Nat->Option Nat}{x:Value}(h:R F w .Zl n m x):R F w (.rsl st es 0 get) n m x:=by
 simp_all[R,Wi,Nat.le_refl]
theorem Zjb(b:Bool):∀(x y:V)(n:Nat)(m:Nat->Option Nat),
  (x.one=ze->∀z,R F w (bif b then x else y) n m z->R F w (Wh b x y) n m z)/\(Jv x y=ze->∀zs,RL F w (bif b then x else y) n m zs->RL F w (Wh b x y) n m zs):=by
 have junk:∀{n:Nat}{m:Nat->Option Nat}{z:Value},R F w .junk n m z:=by intros;simp only[R]
 intro x
 induction x with
 |nil=>
  intro y n m
  refine⟨(λh=>by cases h),λhs zs h=>?_⟩
  cases y<;>try(cases hs;done)
  cases b<;>exact h
 |cons p q ih1 ih2=>
  intro y n m
  refine⟨(λh=>by cases h),λhs zs h=>?_⟩
  cases y<;>try(cases hs;done)
  rename_i p' q'
  have e:(bif b then(V.cons p q)else .cons p' q')=.cons (bif b then p else p') (bif b then q else q'):=by cases b<;>rfl
  rw[e]at h
  simp only[RL]at h
  obtain⟨z,r,rfl,h1,h2⟩:=h
  simp only[Wh,RL]
  simp only[Jv,zM]at hs
  exact⟨z,r,rfl,(ih1 p' n m).1 hs.1 z h1,(ih2 q' n m).2 hs.2 r h2⟩
 |agg cs ih=>
  intro y n m
  refine⟨λ_ z h=>?_,λhs=>by cases hs⟩
  cases y<;>simp only[Wh]<;>try exact junk
  rename_i cs'
  cases hs:Jv cs cs'
  ·exact junk
  ·have e:(bif b then(V.agg cs)else .agg cs')=.agg (bif b then cs else cs'):=by cases b<;>rfl
   rw[e,Ka]at h
   obtain⟨xs,rfl,h⟩:=h
   simp only[cond_true,Ka]
   exact⟨xs,rfl,(ih cs' n m).2 hs _ h⟩
 |tup cs ih=>
  intro y n m
  refine⟨λ_ z h=>?_,λhs=>by cases hs⟩
  cases y<;>simp only[Wh]<;>try exact junk
  rename_i cs'
  cases hs:Jv cs cs'
  ·exact junk
  ·have e:(bif b then(V.tup cs)else .tup cs')=.tup (bif b then cs else cs'):=by cases b<;>rfl
   rw[e]at h
   simp only[cond_true,R]at h⊢
   obtain⟨xs,rfl,h⟩:=h
   exact⟨xs,rfl,(ih cs' n m).2 hs _ h⟩
 |int st k a=>
  intro y n m
  refine⟨λ_ z h=>?_,λhs=>by cases hs⟩
  cases y<;>simp only[Wh]<;>try exact junk
  split
  ·rename_i s' k' n' hk;subst hk
   cases hc:(st&&s')&&decide (a=n')
   ·cases b<;>simp only[cond_true,cond_false,Yx]at h⊢ <;>exact h
   ·simp only[zM,decide_eq_true_eq]at hc
    obtain⟨_,rfl⟩:=hc
    cases b<;>simp only[cond_true,cond_false,Yx]at h⊢ <;>exact h
  ·exact junk
 |bool st a=>
  intro y n m
  refine⟨λ_ z h=>?_,λhs=>by cases hs⟩
  cases y<;>simp only[Wh]<;>try exact junk
  rename_i st' a'
  cases st&&st'
  ·cases b<;>simp only[cond_true,cond_false,WZ]at h⊢ <;>exact h
  ·cases b<;>cases a<;>cases a'<;>simp only[cond_true,cond_false,WZ]at h⊢ <;>exact h
 |ptr st bl es i o=>
  intro y n m
  refine⟨λ_ z h=>?_,λhs=>by cases hs⟩
  cases y<;>simp only[Wh]<;>try exact junk
  rename_i st' bl' es' i' o'
  cases hc:(st&&st')&&(zo bl bl'&&(zo es es'&&(zo i i'&&zo o o')))
  ·exact junk
  ·simp only[zM]at hc
   obtain⟨_,h1,h2,h3,h4⟩:=hc
   obtain rfl:=zP h1
   obtain rfl:=zP h2
   obtain rfl:=zP h3
   obtain rfl:=zP h4
   cases b<;>simp only[cond_true,cond_false,Wp]at h⊢ <;>exact h
 |osl st bl es i k=>
  intro y n m
  refine⟨λ_ z h=>?_,λhs=>by cases hs⟩
  cases y<;>simp only[Wh]<;>try exact junk
  rename_i st' bl' es' i' k'
  cases hc:(st&&st')&&(zo bl bl'&&(zo es es'&&(zo i i'&&zo k k')))
  ·exact junk
  ·simp only[zM]at hc
   obtain⟨_,h1,h2,h3,h4⟩:=hc
   obtain rfl:=zP h1
   obtain rfl:=zP h2
   obtain rfl:=zP h3
   obtain rfl:=zP h4
   cases b<;>simp only[cond_true,cond_false,YE]at h⊢ <;>exact h
 |str st a=>
  intro y n m
  refine⟨λ_ z h=>?_,λhs=>by cases hs⟩
  cases y<;>simp only[Wh]<;>try exact junk
  cases b<;>simp only[cond_true,cond_false,Q7]at h⊢ <;>exact h
 |Zl=>
  intro y n m
  refine⟨λ_ z h=>?_,λhs=>by cases hs⟩
  cases y<;>simp only[Wh]<;>try exact junk
  ·rename_i st es k get
   cases b
   ·simp only[cond_false]at h⊢;rw[Wi]at h⊢;exact h
   ·simp only[cond_true]at h⊢;exact U4 h
  ·cases b<;>exact h
 |rsl st es k get ih=>
  intro y n m
  refine⟨λ_ z h=>?_,λhs=>by cases hs⟩
  cases y<;>simp only[Wh]<;>try exact junk
  ·rename_i st' es' k' get'
   cases he:zo es es'
   ·exact junk
   ·obtain rfl:=zP he
    have e:R F w (.rsl st es (bif b then k else k') λj=>bif b then get j else get' j) n m z:=by
     cases b<;>simp only[cond_true,cond_false]at h⊢ <;>(rw[Wi]at h⊢;exact h)
    simp only[cond_true]
    rw[Wi]at e⊢
    obtain⟨a,cap,h1,h2,h3⟩:=e
    refine⟨a,cap,h1,h2,h3.imp id λ⟨B,off,k1,k2,c,el,fr,k3,k4⟩=>⟨B,off,k1,k2,c,el,fr,k3,λj hj=>?_⟩⟩
    obtain⟨xs,q1,q2,q3⟩:=k4 j hj
    refine⟨xs,?_,q2,q3⟩
    dsimp only at q1⊢
    cases hs:Jv (get j) (get' j)with
    |false=>exact q1
    |true=>exact(ih j (get' j) 0 _).2 hs xs q1
  ·cases b
   ·simp only[cond_false]at h⊢;exact U4 h
   ·simp only[cond_true]at h⊢;rw[Wi]at h⊢;exact h
 |nilif=>
  intro y n m
  refine⟨λ_ z h=>?_,λhs=>by cases hs⟩
  cases y<;>simp only[Wh]<;>try exact junk
  ·cases b<;>exact h
  ·cases b
   ·simp only[cond_false,R]at h⊢;exact h
   ·simp only[cond_true,R]at h⊢;exact .inl ⟨trivial,h⟩
 |ifc st c=>
  intro y n m
  refine⟨λ_ z h=>?_,λhs=>by cases hs⟩
  cases y<;>simp only[Wh]<;>try exact junk
  ·cases b
   ·simp only[cond_false,R]at h⊢;exact .inl ⟨trivial,h⟩
   ·simp only[cond_true,R]at h⊢;exact h
  ·cases b<;>simp only[cond_true,cond_false,R]at h⊢ <;>exact h
 |_=>
  intro y n m
  refine⟨λ_ z h=>?_,λhs=>by cases hs⟩
  cases y<;>simp only[Wh]<;>first
   |exact junk
   |(cases b<;>exact h)
end
theorem VX{F:Nat->Prop}{w:World}{b:Bool}{x y:V}{n:Nat}{m:Nat->Option Nat}{z:Value}(h:R F w (bif b then x else y) n m z):R F w (VW b x y) n m z:=by
 unfold VW
 cases ho:x.one<;>simp_all[Zjb,R]
end Go.Fw
namespace Go.Fw
section
variable{P:Program}{F:Nat->Prop}{w:World}{n:Nat}{m:Nat->Option Nat}
theorem add_plain(B o k:Nat):Addr.add ⟨B,o,zm⟩ k=⟨B,o+k,zm⟩:=by
 unfold Addr.add
 grind
variable{a:V}{x:Value}
theorem Zpw(h:R F w a n m x) :
  ∀Q:V->Prop,(ZiC a).holds P Q->Q a/\(x≠.pointer zm/\x≠.nilIface/\x≠.nilFunc/\∀nm f c,x≠.func (.method nm) f c):=by
 intro Q hq
 cases a<;>try exact hq.elim
 ·rename_i st b es i o
  rw[Wp]at h
  obtain⟨_,B,rfl,_⟩:=h
  exact⟨hq,by simp,by simp,by simp,by simp⟩
 ·rw[Kc]at h
  obtain⟨_,B,off,rfl,_⟩:=h
  exact⟨hq,by simp,by simp,by simp,by simp⟩
 ·rename_i f first cap
  cases f<;>try exact hq.elim
  simp only[R]at h
  obtain⟨xs,ys,rfl,_⟩:=h
  exact⟨hq,by simp,by simp,by simp,by simp⟩
theorem Zpm{s:TypeId}{f:Nat}(h:R F w a n m x) :
  Val P F w n m (ZcN P s a f) (Instr.fieldAt s x f):=by
 unfold ZcN
 cases ho:ZcV P s f with
 |none=>exact Val.stuck
 |some r=>
  obtain⟨off,ft⟩:=r
  dsimp only
  unfold ZcV at ho
  cases hu:P.underlying s with
  |none=>grind
  |some d=>
   rw[hu]at ho
   cases d<;>try(cases ho;done)
   rename_i fields
   dsimp only at ho
   cases hf:fields[f]? with
   |none=>grind
   |some fd=>
    rw[hf]at ho
    dsimp only at ho
    split at ho
    ·rename_i z hz
     injection ho with ho
     injection ho with h1 h2
     subst h1
     have hrun:∀B o,(Instr.fieldAt s (.pointer (zk ⟨B,o,zm⟩)) f).run P w=.ok (.pointer (zk ⟨B,o+fd.offset,zm⟩)) w:=by
      intro B o
      simp only[Instr.fieldAt,zO,run_underlying hu,zQ,hf,Instr.sureAddr,zX,fieldPlace,XY hz]
      grind[zX,zQ,add_plain]
     grind[Val.stuck,Wp,refine,Val.leaf,Nat.add_assoc,Kc]
    ·cases ho
theorem allB_at{f:Nat->Bool}:∀{k:Nat},allB k f=ze->∀j,j<k->f j=ze:=by
 intro k
 induction k<;>grind[allB]
theorem ZmS{st:Bool}{es n':Nat}{get:Nat->V}{i o:Nat}(h:R F w (.rptr st es n' get i o) n m x){len z:Nat}(hle:o+len*z<=(get i).len) :
  ∃B off,x=.pointer (zk ⟨B,off,zm⟩)/\F B/\∃c el fr,w.heap[B]? =zk (.cells c el fr)/\
   ∀q,q<len->∃xs,RL F w (elemAt (get i) o z q) 0 (λ_=>zm) xs/\xs.length=z/\∀p,p<z->c[off+q*z+p]? =xs[p]?:=by
 rw[Kc]at h
 obtain⟨hi,B,off,rfl,hF,c,el,fr,hc,hrow⟩:=h
 obtain⟨xs0,h0,hl,hq⟩:=hrow i hi
 rw[XP _ _ h0,hl]at hle
 refine⟨B,off+i*es+o,rfl,hF,c,el,fr,hc,λq hqn=>⟨(xs0.drop (o+q*z)).take z,Vu _ _ (Uf _ _ h0 _) _,?_,λp hp=>?_⟩⟩
 ·have hmul:(q+1)*z<=len*z:=yw _ hqn
  grind
 ·have hmul:(q+1)*z<=len*z:=yw _ hqn
  grind
variable{F:Nat->Prop}{m:Nat->Option Nat}
theorem selR_RL{row:Nat->V}{j:Nat}{w:World}{n:Nat}:∀(k:Nat),selOk row j (k+1)=ze->j<=k->∀xs,RL F w (row j) n m xs->RL F w (selR row j (k+1)) n m xs:=by
 intro k
 induction k with
 |zero=>
  intro _ hj xs h
  have:j=0:=by omega
  subst this;exact h
 |succ k ih=>
  intro hok hj xs h
  have e:selR row j (k+1+1)=Wh (zo j (k+1)) (row (k+1)) (selR row j (k+1)):=rfl
  have hsame:Jv (row (k+1)) (selR row j (k+1))=ze:=allB_at hok k (by show k<k+1+1-1;omega)
  rw[e]
  refine(Zjb (zo j (k+1)) (row (k+1)) (selR row j (k+1)) n m).2 hsame xs ?_
  by_cases hjk:j=k+1
  ·subst hjk;rw[Nat.beq_refl];exact h
  ·have:zo j (k+1)=za:=by
    cases hb:zo j (k+1)
    ·rfl
    ·exact absurd (zP hb) hjk
   rw[this]
   refine ih ?_ (by omega) xs h
   have e2:selOk row j (k+1+1)=(selOk row j (k+1)&&Jv (row (k+1)) (selR row j (k+1))):=rfl
   rw[e2,zM]at hok
   exact hok.1
theorem selV_R{row:Nat->V}{j:Nat}{w:World}{n:Nat}:∀(k:Nat),j<=k->∀x,R F w (row j) n m x->R F w (selV row j (k+1)) n m x:=by
 intro k
 induction k with
 |zero=>
  intro hj x h
  have:j=0:=by omega
  subst this;exact h
 |succ k ih=>
  intro hj x h
  have e:selV row j (k+1+1)=VW (zo j (k+1)) (row (k+1)) (selV row j (k+1)):=rfl
  rw[e]
  refine VX ?_
  by_cases hjk:j=k+1
  ·subst hjk;rw[Nat.beq_refl];exact h
  ·have:zo j (k+1)=za:=by
    cases hb:zo j (k+1)
    ·rfl
    ·exact absurd (zP hb) hjk
   rw[this]
   exact ih (by omega) x h
variable{t:TypeId}{ix:Value}
theorem Zpp{ia:V}(h:R F w a n m x)(hi:R F w ia n m ix) :
  Val P F w n m (GU P t a ia) (Instr.indexAt t x ix):=by
 unfold GU
 cases ia<;>try exact Val.stuck
 rename_i s k j
 rw[Yx]at hi
 subst hi
 dsimp only
 cases hu:P.underlying t with
 |none=>exact Val.stuck
 |some d=>
  cases d<;>try exact Val.stuck
  ·rename_i e
   dsimp only
   cases hz:ZX P e with
   |none=>exact Val.stuck
   |some z=>
    dsimp only
    have hrun:∀(B o len cap:Nat),0<=j->j<len->(Instr.indexAt t (.slice (zk ⟨B,o,zm⟩) len cap) (.int k j)).run P w=.ok (.pointer (zk ⟨B,o+j.toNat*z,zm⟩)) w:=by
     intro B o len cap h1 h2
     simp only[Instr.indexAt,asIntOf,zO,zX,run_underlying hu,zQ]
     simp_all[zO,XY,zQ,zX,add_plain]
    cases a<;>try exact Val.stuck
    ·grind[zo,Val.stuck,zP,refine,U7,Wi,Val.leaf,Kc]
    ·rename_i st b es i len
     dsimp only
     cases he:zo z es
     ·exact Val.stuck
     ·have he':z=es:=zP he
      grind[refine,U7,YE,Val.leaf,Wp]
  ·rename_i len e
   dsimp only
   cases hz:ZX P e with
   |none=>exact Val.stuck
   |some z=>
    dsimp only
    cases s with
    |false=>
     dsimp only
     cases a<;>try exact Val.stuck
     rename_i st es n' get i o
     dsimp only
     cases hc:(st&&zK (o+len*z) (get i).len)&&selOk (elemAt (get i) o z) j.toNat len
     ·exact Val.stuck
     simp only[cond_true]
     refine U7 λh1 h2=>?_
     simp only[zM]at hc
     obtain⟨B,off,rfl,hF,c,el,fr,hcell,hrow⟩:=ZmS h (yx hc.1.2)
     have hrun:(Instr.indexAt t (.pointer (zk ⟨B,off,zm⟩)) (.int k j)).run P w=.ok (.pointer (zk ⟨B,off+j.toNat*z,zm⟩)) w:=by
      simp only[Instr.indexAt,asIntOf,zO,zX,run_underlying hu,zQ,Instr.sureAddr]
      simp_all[zO,XY,zQ,zX,add_plain]
     have hjn:j.toNat<len:=by omega
     refine Val.leaf hrun ?_
     rw[Kc]
     obtain⟨k,hk⟩:∃k,len=k+1:=⟨len-1,by omega⟩
     obtain⟨xs,hx,hl,hp⟩:=hrow j.toNat hjn
     refine⟨by omega,B,off+j.toNat*z,by rw[Nat.zero_mul];rfl,hF,c,el,fr,hcell,λq hq=>⟨xs,?_,hl,λp hpz=>?_⟩⟩<;>grind[refine,selR_RL]
    |true=>
     dsimp only
     refine U7 λh1 h2=>?_
     have hrun:∀(B o:Nat),(Instr.indexAt t (.pointer (zk ⟨B,o,zm⟩)) (.int k j)).run P w=.ok (.pointer (zk ⟨B,o+j.toNat*z,zm⟩)) w:=by
      intro B o
      simp only[Instr.indexAt,asIntOf,zO,zX,run_underlying hu,zQ,Instr.sureAddr]
      simp_all[zO,XY,zQ,zX,add_plain]
     grind[Val.stuck,Wp,refine,Val.leaf,Nat.add_assoc,Kc]
theorem Zpq{ia:V}(h:R F w a n m x)(hi:R F w ia n m ix):Val P F w n m (ZcP P t a ia) (Instr.index t x ix):=by
 unfold ZcP
 cases ia<;>try exact Val.stuck
 rename_i s k j
 rw[Yx]at hi
 subst hi
 dsimp only
 cases hu:P.underlying t with
 |none=>exact Val.stuck
 |some d=>
  cases d<;>try exact Val.stuck
  ·dsimp only
   cases a<;>try exact Val.stuck
   rename_i st l
   dsimp only
   refine U7 λh1 h2=>?_
   rw[Q7]at h
   subst h
   have hlt:j.toNat<l.length:=by omega
   refine Val.leaf (x:=.int .u8 (l.getD j.toNat 0).toNat) ?_ (by rw[Wz,Yx])
   have hb:(ByteArray.mk l.toArray)[j.toNat]? =zk (l.getD j.toNat 0):=by
    have hs:(ByteArray.mk l.toArray).size=l.length:=by simp[ByteArray.size]
    rw[getElem?_pos _ _ (by rw[hs];exact hlt)]
    congr 1
    simp only[List.getD,List.getElem?_eq_getElem hlt,Option.getD_some]
    rfl
   simp only[Instr.index,asIntOf,zO,zX,run_underlying hu,zQ,if_pos h1,hb]
  ·rename_i len e
   dsimp only
   cases hz:ZX P e with
   |none=>exact Val.stuck
   |some z=>
    dsimp only
    cases s with
    |false=>
     dsimp only
     cases a<;>try exact Val.stuck
     rename_i cs
     dsimp only
     cases hc:zG 0 len&&allB len λk=>(partOf P e cs (k*z)).isSome
     ·exact Val.stuck
     simp only[cond_true]
     simp only[zM]at hc
     refine U7 λh1 h2=>?_
     have hjn:j.toNat<len:=by omega
     rw[Ka]at h
     obtain⟨xs,rfl,hr⟩:=h
     have hsome:=allB_at hc.2 j.toNat hjn
     cases hp:partOf P e cs (j.toNat*z)with
     |none=>grind
     |some v=>
      obtain⟨x,hx,hR⟩:=ZdB hp hr
      refine Val.leaf (x:=x) ?_ ?_
      ·simp only[Instr.index,asIntOf,zO,zX,run_underlying hu,zQ]
       simp_all[zO,XY,zQ]
      ·obtain⟨k,hk⟩:∃k,len=k+1:=⟨len-1,by omega⟩
       grind[refine,selV_R]
    |true=>
     dsimp only
     refine U7 λh1 h2=>?_
     cases a<;>try exact Val.stuck
     rename_i cs
     rw[Ka]at h
     obtain⟨xs,rfl,hr⟩:=h
     refine Zdv λv hv=>?_
     obtain⟨x,hx,hR⟩:=ZdB hv hr
     refine⟨x,?_,hR⟩
     simp only[Instr.index,asIntOf,zO,zX,run_underlying hu,zQ]
     simp_all[zO,XY,zQ]
end
end Go.Fw
end
