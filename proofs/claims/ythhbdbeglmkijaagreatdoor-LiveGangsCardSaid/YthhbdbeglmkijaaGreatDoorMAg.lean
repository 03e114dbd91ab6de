/- Contracts of calls over heaps of their own, out of the evaluator. -/
import Derived.Test.YthhbdbeglmkijaaGreatDoorMAf
set_option maxRecDepth 100000
set_option linter.unusedVariables false
set_option linter.unusedSimpArgs false
noncomputable section
open Bool renaming false→za,true→ze,and_eq_true→zL
open Nat renaming ble→zK,le_of_ble_eq_true→yA,eq_or_lt_of_le→yG,beq→zq,eq_of_beq_eq_true→zO,le_refl→zI
open Option renaming some→zi,none→zm
open Go.IntKind renaming wrap→zD,bits→zY
namespace Go.Fw
def V.sof:V->V
 | .cons h t=>.cons h.sof t.sof
 | .int _ k n=>.int za k n
 | .bool _ b=>.bool za b
 | .str _ s=>.str za s
 | .agg cs=>.agg cs.sof
 | .tup vs=>.tup vs.sof
 | .fn f a b=>.fn f a.sof b.sof
 | .ifc _ b=>.ifc za b
 |v=>v
def Blk.sof:Blk->Blk
 | .var cs=>.var cs.sof
 |b=>b
variable{F:Nat->Prop}{w:World}{n:Nat}{m:Nat->Option Nat}
theorem R_sof:∀(v:V),(∀x,R F w v.sof n m x↔R F w v n m x)/\(∀xs,RL F w v.sof n m xs↔RL F w v n m xs):=by
 intro v
 induction v<;>grind[V.sof,R,RL]
theorem RB_sof{blk:Blk}{B:Option Nat}:RB F w n m blk.sof B↔RB F w n m blk B:=by
 cases blk with
 |var cs=>
  constructor
  ·rintro⟨b,xs,el,ys,zs,e,hc,hsp,hr⟩;exact⟨b,xs,el,ys,zs,e,hc,hsp,(R_sof cs).2 _|>.1 hr⟩
  ·rintro⟨b,xs,el,ys,zs,e,hc,hsp,hr⟩;exact⟨b,xs,el,ys,zs,e,hc,hsp,(R_sof cs).2 _|>.2 hr⟩
 |_=>exact Iff.rfl
theorem sof_any{b:Blk}:b.sof=.any↔b=.any:=by cases b<;>simp[Blk.sof]
theorem Ziz(L:List Blk)(i:Nat):(L.map Blk.sof).getD i .none=(L.getD i .none).sof:=by
 simp only[List.getD_eq_getElem?_getD,List.getElem?_map]
 cases L[i]? <;>rfl
def ptOf:List Blk->Nat->PT Blk->PT Blk
 |[],_,h=>h
 |b::l,i,h=>ptOf l (i+1) (h.set i b)
theorem ptOf_look:∀(bl:List Blk)(i:Nat)(h:PT Blk)(c:Nat),look (λ_=>.none) (ptOf bl i h) c=if i<=c/\c<i+bl.length then bl.getD (c-i) .none else look (λ_=>.none) h c:=by
 intro bl
 induction bl<;>grind[look,ptOf,Yg]
def keepOf(k:Nat)(r:V×PT Blk×Nat):List Nat:=reach (look (λ_=>.none) r.2.1) r.2.2 100 (Zeq (look (λ_=>.none) r.2.1) r.2.2 (List.range k) r.1.names) 0
def Zmt(l:List Nat)(r:V×PT Blk×Nat):V×List Blk:=(r.1.rnm λb=>idxOf b l 0,l.map λb=>(look (λ_=>.none) r.2.1 b).rnm λb=>idxOf b l 0)
def ZfF(k:Nat):List Nat->Nat->Bool
 |[],i=>zK k i
 |b::l,i=>(zK k i||Nat.beq b i)&&ZfF k l (i+1)
def keepOk(k n:Nat)(l:List Nat):Bool:=(l.all λb=>Nat.blt b n)&&(Uq l&&ZfF k l 0)
def evH(E:Env)(k:Nat)(g:FuncId)(args:V)(bl:List Blk):Tree (V×List Blk):=
 (JN E (ev E k) (λ_=>.none) (.inl g) args (ptOf bl 0 .nil) bl.length).bind λr=>
  bif keepOk bl.length r.2.2 (keepOf bl.length r)then .leaf (Zmt (keepOf bl.length r) r)else .stuck
theorem ZpI{k:Nat}:∀{l:List Nat}{i:Nat},ZfF k l i=ze->∀j,i<=j->j<k->l[j-i]? =zi j:=by
 intro l
 induction l with
 |nil=>
  intro i h j h1 h2
  have:=yA h
  omega
 |cons b l ih=>
  intro i h j h1 h2
  unfold ZfF at h
  rw[zL,Bool.or_eq_true]at h
  rcases yG h1 with e|e
  ·subst e
   rw[Nat.sub_self,List.getElem?_cons_zero]
   rcases h.1 with h'|h'
   ·have:=yA h'
    omega
   simp_all
  grind
theorem HR.sub{base:Nat}{h:Nat->Blk}(hr:HR base m F h n w){l:List Nat}(hlt:∀(i b:Nat),l[i]? =zi b->b<n)(hnd:Uq l=ze) :
  HR base (λi=>match l[i]? with|some b=>m b|none=>zm) F (λi=>(l.map λb=>(h b).rnm λb=>idxOf b l 0).getD i .none) l.length w:=by
 have hidx:∀b i,idxOf b l 0=zi i->l[i]? =zi b:=λb i e=>by
  have:=(ZfZ e).2
  omega
 have hll:∀i b,l[i]? =zi b->i<l.length:=λi b e=>(List.getElem?_eq_some_iff.1 e).1
 have hs:∀(i B:Nat),(match l[i]? with|some b=>m b|none=>zm)=zi B->∃b,l[i]? =zi b/\m b=zi B:=λi B e=>by
  grind
 have hbl:∀i b,l[i]? =zi b->(l.map λb=>(h b).rnm λb=>idxOf b l 0).getD i .none=(h b).rnm λb=>idxOf b l 0:=λi b e=>by
  grind
 refine⟨hr.low,hr.fdom,λi hi=>?_,λi B e=>?_,λi hi=>?_,hr.gl,λi B e=>?_,λi j B e1 e2 hne=>?_⟩
 ·obtain⟨b,hb⟩:∃b,l[i]? =zi b:=⟨l[i],List.getElem?_eq_getElem hi⟩
  rw[hbl i b hb,hb]
  exact RB_rnm (λb c e _=>⟨hll _ _ (hidx b c e),by rw[hidx b c e]⟩) (hr.blk b (hlt i b hb))
 ·obtain⟨b,_,e'⟩:=hs i B e
  exact hr.dom b B e'
 ·grind
 ·obtain⟨b,_,e'⟩:=hs i B e
  exact hr.own b B e'
 ·obtain⟨b,h1,e1'⟩:=hs i B e1
  obtain⟨c,h2,e2'⟩:=hs j B e2
  have hbc:b≠c:=λe=>hne (Zgx hnd h1 (by rw[e];exact h2))
  rw[hbl i b h1,hbl j c h2]
  rcases hr.inj b c B e1' e2' hbc with h'|h'
  ·left
   rw[h']
   rfl
  ·right
   rw[h']
   rfl
variable{g:FuncId}
theorem hk_of{E:Env}(hE:E.Ok)(k:Nat){K:HK}
  (h:∀args bl T,K args bl=zi T->∀Q:V×List Blk->Prop,T.holds E.P Q->(evH E k g args bl).holds E.P λr=>∃r',Q r'/\r.1.sof=r'.1.sof/\r.2.map Blk.sof=r'.2.map Blk.sof):Xo E.P g K:=by
 intro args bl T hK base m F w xs Q KK hr ha hq hk
 have hq':=h args bl T hK Q hq
 unfold evH at hq'
 rw[Tree.Yw]at hq'
 have hlook:look (λ_=>.none) (ptOf bl 0 .nil)=λb=>bl.getD b .none:=by
  funext b
  rw[ptOf_look,Nat.zero_add,Nat.sub_zero]
  by_cases hb:b<bl.length
  ·grind
  ·rw[if_neg (λh=>hb h.2),List.getD_eq_getElem?_getD,List.getElem?_eq_none (by omega)]
   rfl
 refine ZcM hE (ev_ok hE k) (λ_=>.none) (.inl g) args (ptOf bl 0 .nil) bl.length base m F w xs _ KK (by rw[hlook];exact hr) ha hq' λv h1 n1 hQ m1 F1 w1 x he hr1 hx=>?_
 dsimp only at hQ
 generalize hl:keepOf bl.length (v,h1,n1)=l at hQ
 cases hok:keepOk bl.length n1 l with
 |false=>
  rw[hok]at hQ
  exact hQ.elim
 |true=>
 rw[hok]at hQ
 obtain⟨⟨v',bl'⟩,hQ',hv,hb⟩:=hQ
 unfold keepOk at hok
 rw[zL,zL,List.all_eq_true]at hok
 obtain⟨hall,hnd,hfirst⟩:=hok
 have hlt:∀i b,l[i]? =zi b->b<n1:=λi b e=>YS.1 (hall b (List.mem_of_getElem? e))
 have hfst:∀j,j<bl.length->l[j]? =zi j:=λj hj=>by
  have:=ZpI hfirst j (Nat.zero_le _) hj
  omega
 have hll:∀i b,l[i]? =zi b->i<l.length:=λi b e=>(List.getElem?_eq_some_iff.1 e).1
 have hidx:∀b i,idxOf b l 0=zi i->l[i]? =zi b:=λb i e=>by
  have:=(ZfZ e).2
  omega
 have hsub:=hr1.sub hlt hnd
 have hlen:bl'.length=l.length:=by
  grind[List.length,Zmt,List.length_map]
 have hkl:bl.length<=l.length:=by
  grind
 have hsof:∀i,((l.map λb=>(look (λ_=>.none) h1 b).rnm λb=>idxOf b l 0).getD i .none).sof=(bl'.getD i .none).sof:=λi=>by
  rw[<- Ziz,<- Ziz]
  exact congrArg (λz=>z.getD i Blk.none) hb
 refine hk v' bl' hQ' (λi=>match l[i]? with|some b=>m1 b|none=>zm) F1 w1 x ?_ ?_ ?_
 ·refine⟨he.f,he.back,he.keep,he.size,he.sz,he.ow.sub λi B e=>?_,by omega,λb hb B e=>?_,he.calm⟩
  ·grind
  ·rw[hfst b hb]
   exact he.map b hb B e
 ·rw[hlen]
  refine⟨hsub.low,hsub.fdom,λi hi=>?_,hsub.dom,hsub.new,hsub.gl,hsub.own,λi j B e1 e2 hne=>?_⟩
  ·exact RB_sof.1 (by rw[<- hsof i];exact RB_sof.2 (hsub.blk i hi))
  ·rcases hsub.inj i j B e1 e2 hne with h'|h'
   ·left
    exact sof_any.1 (by rw[<- hsof i];rw[h'];rfl)
   ·right
    exact sof_any.1 (by rw[<- hsof j];rw[h'];rfl)
 ·rw[hlen]
  have hR:=(R_rnm (f:=λb=>idxOf b l 0) (n':=l.length) (m':=λi=>match l[i]? with|some b=>m1 b|none=>zm) (λb c e _=>⟨hll _ _ (hidx b c e),by rw[hidx b c e]⟩) v).1 x hx
  exact((R_sof v').1 x).1 (by rw[<- hv];exact((R_sof _).1 x).2 hR)
theorem Xo.sof{P:Program}{K:HK}(hK:Xo P g K):Xo P g λargs bl=>K args.sof (bl.map Blk.sof):=by
 intro args bl T h base m F w xs Q KK hr ha hq hk
 have hlen:(bl.map Blk.sof).length=bl.length:=List.length_map _
 have hget:∀i,(bl.map Blk.sof).getD i .none=(bl.getD i .none).sof:=λi=>Ziz bl i
 refine hK args.sof (bl.map Blk.sof) T h base m F w xs Q KK ?_ (by rw[hlen];exact((R_sof args).2 _).2 ha) hq λv bl' hQ m' F' w' x he hr' hx=>hk v bl' hQ m' F' w' x (by rw[hlen]at he;exact he) hr' hx
 rw[hlen]
 refine⟨hr.low,hr.fdom,λi hi=>?_,hr.dom,hr.new,hr.gl,hr.own,λi j B e1 e2 hne=>?_⟩
 ·rw[hget];exact RB_sof.2 (hr.blk i hi)
 ·rw[hget,hget]
  rcases hr.inj i j B e1 e2 hne with h'|h'
  ·left;rw[h'];rfl
  ·right;rw[h'];rfl
end Go.Fw
namespace Go.Fw
def V.Zi:V->Nat
 | .rsl _ _ n _=>n
 |_=>0
def V.Zn:V->Nat->V
 | .rsl _ _ _ g=>g
 |_=>λ_=>.junk
def V.Zg5:V->List UInt8
 | .str _ s=>s
 |_=>[]
def V.inner:V->V
 | .agg cs=>cs
 | .tup vs=>vs
 |_=>.nil
def V.hd:V->V
 | .cons a _=>a
 |_=>.junk
def V.tl:V->V
 | .cons _ b=>b
 |_=>.nil
def Y8:V->V->Bool
 | .int _ k _,v=>match v with| .int _ k' _=>decide (k=k')|_=>za
 | .bool _ _,v=>match v with| .bool _ _=>ze|_=>za
 | .str _ _,v=>match v with| .str _ _=>ze|_=>za
 | .agg p,v=>match v with| .agg cs=>Y8 p cs|_=>za
 | .tup p,v=>match v with| .tup cs=>Y8 p cs|_=>za
 | .cons p q,v=>match v with| .cons a b=>Y8 p a&&Y8 q b|_=>za
 | .nil,v=>match v with| .nil=>ze|_=>za
 | .rsl _ es _ _,v=>match v with| .rsl _ es' _ _=>zq es es'| .Zo=>ze|_=>za
 |_,_=>za
def YA:V->V->V
 | .int _ k _,v=>.int za k v.toInt
 | .bool _ _,v=>.bool za v.toBool
 | .str _ _,v=>.str za v.Zg5
 | .agg p,v=>.agg (YA p v.inner)
 | .tup p,v=>.tup (YA p v.inner)
 | .cons p q,v=>.cons (YA p v.hd) (YA q v.tl)
 | .rsl _ es _ _,v=>.rsl za es v.Zi v.Zn
 |_,_=>.nil
variable{F:Nat->Prop}
theorem read_R{w:World}{n:Nat}{m:Nat->Option Nat}:∀(p v:V),Y8 p v=ze->(∀x,R F w v n m x->R F w (YA p v) n m x)/\(∀xs,RL F w v n m xs->RL F w (YA p v) n m xs):=by
 intro p
 induction p with
 |int st k z=>
  intro v h
  cases v<;>simp only[Y8]at h<;>try(cases h;done)
  rename_i st' k' z'
  obtain rfl:=of_decide_eq_true h
  exact⟨λx hx=>by simp only[YA,V.toInt,R]at hx⊢;exact hx,λxs hx=>by simp only[RL]at hx⟩
 |bool st z=>
  intro v h
  cases v<;>simp only[Y8]at h<;>try(cases h;done)
  exact⟨λx hx=>by simp only[YA,V.toBool,R]at hx⊢;exact hx,λxs hx=>by simp only[RL]at hx⟩
 |str st z=>
  intro v h
  cases v<;>simp only[Y8]at h<;>try(cases h;done)
  exact⟨λx hx=>by simp only[YA,V.Zg5,R]at hx⊢;exact hx,λxs hx=>by simp only[RL]at hx⟩
 |agg p ih=>
  intro v h
  cases v<;>simp only[Y8]at h<;>try(cases h;done)
  rename_i cs
  refine⟨λx hx=>?_,λxs hx=>by simp only[RL]at hx⟩
  simp only[YA,V.inner,R]at hx⊢
  obtain⟨xs,e,h1⟩:=hx
  exact⟨xs,e,(ih cs h).2 _ h1⟩
 |tup p ih=>
  intro v h
  cases v<;>simp only[Y8]at h<;>try(cases h;done)
  rename_i cs
  refine⟨λx hx=>?_,λxs hx=>by simp only[RL]at hx⟩
  simp only[YA,V.inner,R]at hx⊢
  obtain⟨xs,e,h1⟩:=hx
  exact⟨xs,e,(ih cs h).2 _ h1⟩
 |cons p q ih1 ih2=>
  intro v h
  cases v<;>simp only[Y8]at h<;>try(cases h;done)
  rename_i a b
  rw[zL]at h
  refine⟨λx hx=>by simp only[R]at hx,λxs hx=>?_⟩
  simp only[YA,V.hd,V.tl,RL]at hx⊢
  obtain⟨x,r,e,h1,h2⟩:=hx
  exact⟨x,r,e,(ih1 a h.1).1 _ h1,(ih2 b h.2).2 _ h2⟩
 |nil=>
  intro v h
  cases v<;>simp only[Y8]at h<;>try(cases h;done)
  exact⟨λx hx=>by simp only[R]at hx,λxs hx=>by simp only[YA,RL]at hx⊢;exact hx⟩
 |rsl st es k g ih=>
  intro v h
  cases v<;>simp only[Y8]at h<;>try(cases h;done)
  ·rename_i st' es' k' g'
   obtain rfl:=zO h
   refine⟨λx hx=>?_,λxs hx=>by simp only[RL]at hx⟩
   simp only[YA,V.Zi,V.Zn]
   rw[Wi]at hx⊢
   exact hx
  ·exact⟨λx hx=>UM hx,λxs hx=>by simp only[RL]at hx⟩
 |_=>intro v h;cases h
variable{g:FuncId}
theorem Zh.read{P:Program}{args v:V}(p:V)(h:Zh P g args v)(hf:Y8 p v=ze):Zh P g args (YA p v):=
 ⟨h.1,λF w xs hF hg ha=>(h.2 F w xs hF hg ha).mono λ_ _ ⟨x,F',he,hl,hx⟩=>⟨x,F',he,hl,(read_R p v hf).1 x hx⟩⟩
def QT:V->V->Bool
 | .int _ k _,v=>match v with| .int _ k' _=>decide (k=k')|_=>za
 | .bool _ _,v=>match v with| .bool _ _=>ze|_=>za
 | .str _ _,v=>match v with| .str _ _=>ze|_=>za
 | .agg p,v=>match v with| .agg cs=>QT p cs|_=>za
 | .cons p q,v=>match v with| .cons a b=>QT p a&&QT q b|_=>za
 | .nil,v=>match v with| .nil=>ze|_=>za
 | .rsl _ es _ pg,v=>match v with| .rsl st es' n g=>st&&(zq es es'&&allB n λj=>QT (pg 0) (g j))| .Zo=>ze|_=>za
 |_,_=>za
def Jg:V->V->V
 | .int _ k _,v=>.int za k v.toInt
 | .bool _ _,v=>.bool za v.toBool
 | .str _ _,v=>.str za v.Zg5
 | .agg p,v=>.agg (Jg p v.inner)
 | .cons p q,v=>.cons (Jg p v.hd) (Jg q v.tl)
 | .rsl _ es _ pg,v=>.rsl ze es v.Zi λj=>Jg (pg 0) (v.Zn j)
 |_,_=>.nil
theorem allB_get{n:Nat}{f:Nat->Bool}:allB n f=ze->∀k,k<n->f k=ze:=by
 induction n with
 |zero=>intro _ k h;omega
 |succ n ih=>
  intro h k hk
  have h:(allB n f&&f n)=ze:=h
  rw[zL]at h
  rcases yG (Nat.le_of_lt_succ hk)with e|e
  ·rw[e];exact h.2
  ·exact ih h.1 k e
theorem readA_R{w:World}:∀(p v:V),QT p v=ze->∀(n:Nat)(m:Nat->Option Nat),(∀x,R F w v n m x->R F w (Jg p v) n m x)/\(∀xs,RL F w v n m xs->RL F w (Jg p v) n m xs):=by
 intro p
 induction p with
 |int st k z=>
  intro v h n m
  cases v<;>simp only[QT]at h<;>try(cases h;done)
  rename_i st' k' z'
  obtain rfl:=of_decide_eq_true h
  exact⟨λx hx=>by simp only[Jg,V.toInt,R]at hx⊢;exact hx,λxs hx=>by simp only[RL]at hx⟩
 |bool st z=>
  intro v h n m
  cases v<;>simp only[QT]at h<;>try(cases h;done)
  exact⟨λx hx=>by simp only[Jg,V.toBool,R]at hx⊢;exact hx,λxs hx=>by simp only[RL]at hx⟩
 |str st z=>
  intro v h n m
  cases v<;>simp only[QT]at h<;>try(cases h;done)
  exact⟨λx hx=>by simp only[Jg,V.Zg5,R]at hx⊢;exact hx,λxs hx=>by simp only[RL]at hx⟩
 |agg p ih=>
  intro v h n m
  cases v<;>simp only[QT]at h<;>try(cases h;done)
  rename_i cs
  refine⟨λx hx=>?_,λxs hx=>by simp only[RL]at hx⟩
  simp only[Jg,V.inner,R]at hx⊢
  obtain⟨xs,e,h1⟩:=hx
  exact⟨xs,e,(ih cs h n m).2 _ h1⟩
 |cons p q ih1 ih2=>
  intro v h n m
  cases v<;>simp only[QT]at h<;>try(cases h;done)
  rename_i a b
  rw[zL]at h
  refine⟨λx hx=>by simp only[R]at hx,λxs hx=>?_⟩
  simp only[Jg,V.hd,V.tl,RL]at hx⊢
  obtain⟨x,r,e,h1,h2⟩:=hx
  exact⟨x,r,e,(ih1 a h.1 n m).1 _ h1,(ih2 b h.2 n m).2 _ h2⟩
 |nil=>
  intro v h n m
  cases v<;>simp only[QT]at h<;>try(cases h;done)
  exact⟨λx hx=>by simp only[R]at hx,λxs hx=>by simp only[Jg,RL]at hx⊢;exact hx⟩
 |rsl st es k g ih=>
  intro v h n m
  cases v<;>simp only[QT]at h<;>try(cases h;done)
  ·rename_i st' es' k' g'
   rw[zL,zL]at h
   obtain⟨_,he,hall⟩:=h
   obtain rfl:=zO he
   refine⟨λx hx=>?_,λxs hx=>by simp only[RL]at hx⟩
   simp only[Jg,V.Zi,V.Zn]
   rw[Wi]at hx⊢
   obtain⟨a,cap,h1,h2,h3⟩:=hx
   refine⟨a,cap,h1,h2,h3.imp id λ⟨B,off,k1,k2,c,el,fr,k3,k4⟩=>⟨B,off,k1,k2,c,el,fr,k3,λj hj=>?_⟩⟩
   obtain⟨xs,q1,q2,q3⟩:=k4 j hj
   exact⟨xs,(ih 0 (g' j) (allB_get hall j hj) 0 _).2 xs q1,q2,q3⟩
  ·exact⟨λx hx=>UM hx,λxs hx=>by simp only[RL]at hx⟩
 |_=>intro v h;cases h
theorem Zh.args{P:Program}{a b v:V}(h:Zh P g b v)(ha:∀(F:Nat->Prop)(w:World)(n:Nat)(m:Nat->Option Nat)(xs:List Value),RL F w a n m xs->RL F w b n m xs):Zh P g a v:=
 ⟨h.1,λF w xs hF hg hx=>h.2 F w xs hF hg (ha F w 0 _ _ hx)⟩
def AnsOk(P:Program)(g:FuncId)(x:V):Option Ans->Prop
 |some (.sure v)=>Zh P g x v
 |some (.where_ p v)=>p->Zh P g x v
 |some (.fork b v v')=>(b=ze->Zh P g x v)/\(b=za->Zh P g x v')
 |none=>True
def Qy(g:FuncId)(pat:V)(chk:V->Bool)(res:V->V)(arg:V->V)(pre:V->Prop):Con:=
 { g,al:=ze,ans:=λx=>bif x.known then zm else bif QT pat x&&chk x then zi (.sure (res x))else zi (.where_ (x.soft=(arg x.soft).soft/\pre x.soft) (res x.soft)) }
theorem QO{P:Program}{pat:V}{chk:V->Bool}{res arg:V->V}{pre:V->Prop}(hrd:∀x,Jg pat x=arg x)(hchk:∀x,chk x=ze->pre x)(h:∀x,pre x->Zh P g (arg x) (res x)):(Qy g pat chk res arg pre).Ok P:=by
 intro x
 show AnsOk P g x (bif x.known then zm else bif QT pat x&&chk x then zi (.sure (res x))else zi (.where_ (x.soft=(arg x.soft).soft/\pre x.soft) (res x.soft)))
 cases x.known with
 |true=>trivial
 |false=>
  cases hc:QT pat x&&chk x with
  |true=>
   rw[zL]at hc
   exact Zh.args (h x (hchk x hc.2)) λF w n m xs hx=>by rw[<- hrd];exact(readA_R pat x hc.1 n m).2 xs hx
  |false=>
   intro⟨q,hp⟩
   exact Zh.args (h x.soft hp) λF w n m xs hx=>by
    have e:=((YM x n m).2 xs).2 hx
    rw[q]at e
    exact((YM _ n m).2 xs).1 e
abbrev ZM(P:Program)(l:List Con)(nm:List FuncId):Env:={ P,Γ:=KU l,lp:=Ul [],mg:=ze,nm:=λg=>JW g nm }
variable{l:List Con}{nm:List FuncId}
theorem XB{P:Program}:Among (ZM P l nm) (Yc l):=λg args h=>ZjP l g args h
theorem Yz{P:Program}(hm:P.follows .mixedOrders=ze)(hn:Zgs P=ze)(h:AllOk P l):(ZM P l nm).Ok:=
 let e:=Zw hm hn h (ls:=[]) trivial ze
 ⟨e.mixed,e.named,e.sure,e.where_,e.fork,e.lp,e.hk⟩
theorem J2{P:Program}(o N:Nat){E:Env}{gs:List FuncId}(hΓ:Among E gs)(hE:E.Ok)(hP:E.P=P)(k:Nat)(p:V){args:Nat->V}(hhas:Has P g)
  (h:(Xc N λc=>(Ya E gs k g (args (o+c))).total&&((Ya E gs k g (args (o+c))).YO&&Y8 p (Ya E gs k g (args (o+c))).join))=ze){c:Nat}(ho:o<=c)(hc:c<o+N):Zh P g (args c) (YA p (Ya E gs k g (args c)).join):=by
 obtain⟨d,rfl⟩:∃d,c=o+d:=⟨c-o,by omega⟩
 have h:=ZkW h d (by omega)
 simp only[zL]at h
 have hf:=h.2.2
 rw[ZcP hΓ]at h hf⊢
 have:=ZiW (v:=(ZT E k g (args (o+d))).join) hE k (by rw[hP];exact hhas) (Tree.Zme _ h.1) h.2.1 rfl
 rw[hP]at this
 exact this.read p hf
end Go.Fw
namespace Go.Fw
def Zp(f:Nat->Bool)(n:Nat):Bool:=Nat.rec za (λk r=>r||f k) n
variable{f:Nat->Bool}
theorem Zcl:∀{n k:Nat},k<n->f k=ze->Zp f n=ze:=by
 intro n
 induction n with
 |zero=>intro k h;omega
 |succ n ih=>
  intro k h hf
  show(Zp f n||f n)=ze
  rw[Bool.or_eq_true]
  rcases yG (Nat.le_of_lt_succ h)with e|e
  ·right;rw[<- e];exact hf
  ·left;exact ih e hf
theorem Zar:∀{n:Nat},(∀k,k<n->f k=za)->Zp f n=za:=by
 intro n
 induction n with
 |zero=>intro _;rfl
 |succ n ih=>
  intro h
  show(Zp f n||f n)=za
  rw[ih λk hk=>h k (by omega),h n (by omega)];rfl
variable{n:Nat}
theorem Y7(h:Zp f n=za):∀k,k<n->f k=za:=λk hk=>by
 cases hf:f k with
 |false=>rfl
 |true=>rw[Zcl hk hf]at h;cases h
def ZN(f:Nat->Bool):Nat->Nat->Nat
 |0,k=>k
 |m+1,k=>bif f k then k else ZN f m (k+1)
theorem fstTo_eq:∀{m k i:Nat},k<=i->i<k+m->(∀j,k<=j->j<i->f j=za)->f i=ze->ZN f m k=i:=by
 intro m
 induction m with
 |zero=>intro k i h1 h2;omega
 |succ m ih=>
  intro k i h1 h2 h3 h4
  unfold ZN
  rcases yG h1 with e|e
  ·subst e;rw[h4];rfl
  ·rw[h3 k (zI _) e]
   exact ih e (by omega) (λj hj=>h3 j (by omega)) h4
variable{i:Nat}
theorem ZcY(hi:i<n)(hg:∀j,j<i->f j=za)(h:f i=ze):ZN f n 0=i:=fstTo_eq (Nat.zero_le _) (by omega) (λj _ hj=>hg j hj) h
theorem Zlh(hg:∀j,j<i->f j=za)(h:f i=za):∀j,j<i+1->f j=za:=λj hj=>by
 rcases yG (Nat.le_of_lt_succ hj)with e|e
 ·rw[e];exact h
 ·exact hg j e
def ZJ{A:Type}(a0:A)(f:Nat->A->A)(n:Nat):A:=Nat.rec a0 f n
theorem Zep{A:Type}(a0:A)(f:Nat->A->A)(n:Nat):ZJ a0 f (n+1)=f n (ZJ a0 f n):=rfl
theorem nf{x:Bool}(h:(bif !x then ze else za)=za):x=ze:=by cases x;cases h;rfl
theorem cT{α:Type}{c:Bool}{a b v:α}(h:c=ze)(e:a=v):(bif c then a else b)=v:=by rw[h];exact e
theorem cF{α:Type}{c:Bool}{a b v:α}(h:c=za)(e:b=v):(bif c then a else b)=v:=by rw[h];exact e
variable{KT:List Nat}{KH:List (Nat×Src)}
theorem ZiT{B:Base}{P:Program}{E:Env}(hE:E.Ok)(hP:E.P=P){k:Nat}{f:FuncId}{b:Code}(hin:∀b'∈YQ b,Wq P f b'){n1 n0 N0:Nat}(N:Nat)(ts:Nat->V)(ys:Nat->List Blk)(Good:Nat->Prop)(Φ:Ex×St B->Prop)
{T:Nat->Tree (Ex×Bool×V×List Blk)}(hT:∀i,((ev E k f b B (Yl n0 N0 KT KH (ts i) (ys i))).bind λx=>Tree.leaf (x.1,vwN n1 n0 N0 KT KH x.2))=T i)
  (step:∀i,i<=N->Good i->(T i).holds P λy=>match y.1 with
   | .normal=>y.2.1=ze/\i<N/\Good (i+1)/\Le n0 y.2.2.1 (ts (i+1))/\XL n0 y.2.2.2 (ys (i+1))
   |e=>y.2.1=ze/\∃ts' ys',Le n0 y.2.2.1 ts'/\XL n0 y.2.2.2 ys'/\Φ (e,Yl n0 N0 KT KH ts' ys'))
  {s:St B}(hn:s.n=n1)(h0:Good 0)(hs:WT n1 n0 N0 KT KH s (ts 0) (ys 0)):V3 P b s Φ:=by
 refine ZlD (ι:=Nat) (E:=λ_=>E) (λ_=>hE) (λ_=>hP) (k:=k) hin ts ys (λi=>i<=N/\Good i) (λi=>N-i) Φ (T:=T) (λi _=>hT i) (λi hi=>?_) hn (i0:=0) ⟨Nat.zero_le _,h0⟩ hs
 refine Tree.XI _ (λy hy=>?_) (step i hi.1 hi.2)
 obtain⟨e,y⟩:=y
 cases e with
 |normal=>
  obtain⟨h1,h2,h3,h4,h5⟩:=hy
  exact⟨h1,i+1,⟨by omega,h3⟩,by show N-(i+1)<N-i;omega,h4,h5⟩
 |exit id=>exact hy
 |ret=>exact hy
def Yd(g:FuncId)(arg res:V->V)(pre:V->Prop):Con:=
 { g,al:=ze,ans:=λx=>bif x.known then zm else zi (.where_ (x.soft=arg x/\pre x) (res x)) }
theorem Yf{P:Program}{g:FuncId}{arg res:V->V}{pre:V->Prop}(h:∀x,pre x->Zh P g (arg x) (res x)):(Yd g arg res pre).Ok P:=by
 intro x
 show AnsOk P g x (bif x.known then zm else zi (.where_ (x.soft=arg x/\pre x) (res x)))
 cases x.known with
 |true=>trivial
 |false=>
  intro⟨q,hp⟩
  exact Zh.args (h x hp) λF w n m xs hx=>by
   have e:=((YM x n m).2 xs).2 hx
   rw[q]at e
   exact e
def half(i j:Int):Int:=zD .i64 (Int.fdiv (zD .u64 (zD .i64 (i+j))) ((2:Int)^min 1 (zY .u64)))
theorem Zbe{j:Nat}(h:i+j<=4000):half i j=(((i+j)/2:Nat):Int):=by
 unfold half
 have e1:zD .i64 ((i:Int)+(j:Int))=(i:Int)+(j:Int):=IntWalk.i64_in _ ⟨by omega,by omega⟩
 have e2:zD .u64 ((i:Int)+(j:Int))=(i:Int)+(j:Int):=IntWalk.u64_in _ ⟨by omega,by omega⟩
 have e3:(2:Int)^min 1 (zY .u64)=2:=rfl
 rw[e1,e2,e3]
 have e4:Int.fdiv ((i:Int)+(j:Int)) 2=(((i+j)/2:Nat):Int):=by
  rw[Int.fdiv_eq_ediv_of_nonneg _ (by omega)];omega
 rw[e4]
 exact IntWalk.i64_in _ ⟨by omega,by omega⟩
def Xp(lt:Nat->Bool):Nat->Nat->Nat->Nat
 |0,i,_=>i
 |q+1,i,j=>bif decide (i<j)then(bif lt ((i+j)/2)then Xp lt q ((i+j)/2+1) j else Xp lt q i ((i+j)/2))else i
theorem ZnJ{lt:Nat->Bool}(q i j:Nat):Xp lt (q+1) i j=bif decide (i<j)then(bif lt ((i+j)/2)then Xp lt q ((i+j)/2+1) j else Xp lt q i ((i+j)/2))else i:=rfl
theorem ZjT{lt:Nat->Bool}:∀q i,Xp lt q i i=i:=by
 intro q i
 cases q with
 |zero=>rfl
 |succ q=>unfold Xp;rw[decide_eq_false (Nat.lt_irrefl i)];rfl
theorem ZnI{lt:Nat->Bool}:∀q i j,j-i<=q->i<=j->j<=n->(∀k,k<i->lt k=ze)->(∀k,j<=k->k<n->lt k=za)->(∀k l,k<=l->l<n->lt l=ze->lt k=ze)->
  i<=Xp lt q i j/\Xp lt q i j<=j/\(∀k,k<Xp lt q i j->lt k=ze)/\(∀k,Xp lt q i j<=k->k<n->lt k=za):=by
 intro q
 induction q with
 |zero=>
  intro i j h1 h2 h3 h4 h5 h6
  obtain rfl:i=j:=by omega
  exact⟨zI _,zI _,h4,h5⟩
 |succ q ih=>
  intro i j h1 h2 h3 h4 h5 h6
  rcases Nat.lt_or_ge i j with e|e
  ·unfold Xp
   rw[decide_eq_true e]
   simp only[cond_true]
   cases hl:lt ((i+j)/2)with
   |true=>
    simp only[cond_true]
    have:=ih ((i+j)/2+1) j (by omega) (by omega) h3 (λk hk=>h6 k ((i+j)/2) (by omega) (by omega) hl) h5 h6
    exact⟨by omega,this.2⟩
   |false=>
    simp only[cond_false]
    have:=ih i ((i+j)/2) (by omega) (by omega) (by omega) h4 (λk hk hn=>by
     cases hk':lt k with
     |false=>rfl
     |true=>rw[h6 _ _ hk hn hk']at hl;cases hl) h6
    exact⟨this.1,by omega,this.2.2⟩
  ·obtain rfl:i=j:=by omega
   rw[ZjT]
   exact⟨zI _,zI _,h4,h5⟩
theorem Zcp{lt:Nat->Bool}:∀q i j,i<=j->Xp lt q i j<=j:=by
 intro q
 induction q with
 |zero=>intro i j h;exact h
 |succ q ih=>
  intro i j h
  unfold Xp
  cases hc:decide (i<j)with
  |false=>exact h
  |true=>
   have hc:=of_decide_eq_true hc
   simp only[cond_true]
   cases lt ((i+j)/2)with
   |true=>exact ih _ _ (by omega)
   |false=>exact Nat.le_trans (ih _ _ (by omega)) (by omega)
theorem Zbl{B:Base}{P:Program}{E:Env}(hE:E.Ok)(hP:E.P=P){k:Nat}{f:FuncId}{b:Code}(hin:∀b'∈YQ b,Wq P f b'){n1 n0 N0:Nat}(lt:Nat->Bool)(N:Nat)(ts:Nat->Nat->V)(ys:List Blk)(Φ:Ex×St B->Prop)
{T:Nat->Nat->Tree (Ex×Bool×V×List Blk)}(hT:∀i j,((ev E k f b B (Yl n0 N0 KT KH (ts i j) ys)).bind λx=>Tree.leaf (x.1,vwN n1 n0 N0 KT KH x.2))=T i j)
  (step:∀i j,i<=j->j<=N->(T i j).holds P λy=>match y.1 with
   | .normal=>y.2.1=ze/\i<j/\XL n0 y.2.2.2 ys/\(lt ((i+j)/2)=ze->Le n0 y.2.2.1 (ts ((i+j)/2+1) j))/\(lt ((i+j)/2)=za->Le n0 y.2.2.1 (ts i ((i+j)/2)))
   |e=>y.2.1=ze/\i=j/\XL n0 y.2.2.2 ys/\Le n0 y.2.2.1 (ts i i)/\e=.exit 0)
  (hΦ:Φ (.exit 0,Yl n0 N0 KT KH (ts (Xp lt N 0 N) (Xp lt N 0 N)) ys))
  {s:St B}(hn:s.n=n1)(hs:WT n1 n0 N0 KT KH s (ts 0 N) ys):V3 P b s Φ:=by
 refine ZlD (ι:=Nat×Nat×Nat) (E:=λ_=>E) (λ_=>hE) (λ_=>hP) (k:=k) hin (λp=>ts p.2.1 p.2.2) (λ_=>ys) (λp=>p.2.1<=p.2.2/\p.2.2<=N/\p.2.2-p.2.1<=p.1/\Xp lt p.1 p.2.1 p.2.2=Xp lt N 0 N) (λp=>p.1) Φ (T:=λp=>T p.2.1 p.2.2) (λp _=>hT p.2.1 p.2.2) (λp hp=>?_) hn (i0:=(N,0,N)) ⟨Nat.zero_le _,zI _,Nat.sub_le _ _,rfl⟩ hs
 obtain⟨q,i,j⟩:=p
 obtain⟨h1,h2,h3,h4⟩:=hp
 refine Tree.XI _ (λy hy=>?_) (step i j h1 h2)
 obtain⟨e,y⟩:=y
 have other:e=.exit 0->i=j->XL n0 y.2.2 ys->Le n0 y.2.1 (ts i i)->y.1=ze->y.1=ze/\∃ts' ys',Le n0 y.2.1 ts'/\XL n0 y.2.2 ys'/\Φ (e,Yl n0 N0 KT KH ts' ys'):=λhe hij h5 h6 h7=>by
  subst hij
  subst he
  have h4:Xp lt q i i=Xp lt N 0 N:=h4
  rw[ZjT]at h4
  exact⟨h7,ts i i,ys,h6,h5,by rw[h4];exact hΦ⟩
 cases e with
 |normal=>
  obtain⟨k1,k2,k3,k4,k5⟩:=hy
  have h3:j-i<=q:=h3
  cases q with
  |zero=>omega
  |succ q=>
   have h4:Xp lt (q+1) i j=Xp lt N 0 N:=h4
   rw[ZnJ,decide_eq_true k2]at h4
   simp only[cond_true]at h4
   cases hl:lt ((i+j)/2)with
   |true=>
    rw[hl]at h4
    exact⟨k1,(q,(i+j)/2+1,j),⟨by show(i+j)/2+1<=j;omega,h2,by show j-((i+j)/2+1)<=q;omega,h4⟩,Nat.lt_succ_self q,k4 hl,k3⟩
   |false=>
    rw[hl]at h4
    exact⟨k1,(q,i,(i+j)/2),⟨by show i<=(i+j)/2;omega,by show(i+j)/2<=N;have h2:j<=N:=h2;omega,by show(i+j)/2-i<=q;omega,h4⟩,Nat.lt_succ_self q,k5 hl,k3⟩
 |exit id=>obtain⟨k1,k2,k3,k4,k5⟩:=hy;exact other k5 k2 k3 k4 k1
 |ret=>obtain⟨k1,k2,k3,k4,k5⟩:=hy;exact other k5 k2 k3 k4 k1
end Go.Fw
namespace Go.Fw
@[reducible] def vi (x:Int):V:=.int false .i64 x
@[reducible] def ci (x:Int) (t:V):V:=.cons (.int false .i64 x) t
@[reducible] def pt (b:Nat):V:=.ptr true b 0 0 0
def rowK(KR:List Nat)(rs:V):Nat->V:=look (λ_=>.junk) (putT KR rs .nil)
def nfR(KR:List Nat):Blk->Blk
 | .rng f ps asg bd row N st pd=>.rng f ps asg bd (rowK KR (rowOf (KR.map row))) N st pd
 |b=>b
theorem Zmj(row:Nat->V):∀(KR:List Nat)(t:PT V),(∀j,look (λ_=>V.junk) t j=row j\/look (λ_=>V.junk) t j=.junk)->∀j,look (λ_=>V.junk) (putT KR (rowOf (KR.map row)) t) j=row j\/look (λ_=>V.junk) (putT KR (rowOf (KR.map row)) t) j=.junk:=by
 intro KR
 induction KR with
 |nil=>
  intro t h
  exact h
 |cons k ks ih=>
  intro t h
  refine ih (t.set k (row k)) λj=>?_<;>grind[refine,Yg]
variable{n:Nat}
theorem LeK.nfR(KR:List Nat)(b:Blk):LeK n b (nfR KR b):=by
 cases b with
 |rng f ps asg bd row N st pd=>
  refine⟨λe=>(by cases e),λF w m B hb=>?_⟩
  obtain⟨l,r,e,hc,h1,h2,h3,h4,h5,h6,h7⟩:=hb
  refine⟨l,r,e,hc,h1,h2,h3,h4,h5,h6,λi=>?_⟩
  rcases Zmj row KR .nil (λj=>.inr rfl) i with h|h<;>simp_all[Zmj,R,rowK,rowOf]
 |_=>exact LeK.refl _
theorem LeK.trans{x y z:Blk}(h1:LeK n x y)(h2:LeK n y z):LeK n x z:=⟨λe=>h2.1 (h1.1 e),λF w m B h=>h2.2 F w m B (h1.2 F w m B h)⟩
variable{KR:List Nat}
theorem XL.nfR:∀{xs ys:List Blk},XL n (xs.map (Go.Fw.nfR KR)) ys->XL n xs ys:=by
 intro xs
 induction xs with
 |nil=>grind
 |cons x xs ih=>
  intro ys h
  cases ys with
  |nil=>exact h.elim
  |cons y ys=>exact⟨(LeK.nfR KR x).trans h.1,ih h.2⟩
def vwR(n1 n0 N0:Nat)(KT:List Nat)(KH:List (Nat×Src))(KR:List Nat){B:Base}(x:St B):Bool×V×List Blk:=let v:=vwN n1 n0 N0 KT KH x;(v.1,v.2.1,v.2.2.map (nfR KR))
variable{f:FuncId}
theorem LeK.rngS{ps:List Nat}{asg bd:Code}{row:Nat->V}{rs:V}{N st:Nat}{pd:Option Ex}(h:(rowOf (KR.map row)).soft=rs.soft):LeK n (.rng f ps asg bd row N st pd) (.rng f ps asg bd (rowK KR rs) N st pd):=⟨λe=>(by cases e),λF w m B hb=>by
 obtain⟨l,r,e,hc,h1,h2,h3,h4,h5,h6,h7⟩:=hb
 refine⟨l,r,e,hc,h1,h2,h3,h4,h5,h6,Zmk (g:=λj=>r.tmps.getD j Go.undef) KR rs .nil (λj=>by show R F w .junk n _ _;simp only[R]) ?_⟩
 refine(Le.soft h F w m).2 _ (Zmp (F:=F) (w:=w) (n:=n) (m:=m) (g:=λj=>r.tmps.getD j Go.undef) KR (by simp) λi k v hk hv=>?_)
 rw[List.getElem?_map,hk]at hv
 injection hv with hv
 rw[<- hv]
 exact h7 k⟩
theorem ZlC{B:Base}{P:Program}{E:Env}(hE:E.Ok)(hP:E.P=P){k:Nat}{b:Code}(hin:∀b'∈YQ b,Wq P f b'){n1 n0 N0:Nat}{KT:List Nat}{KH:List (Nat×Src)}(N:Nat)(ts:Nat->V)(ys:Nat->List Blk)(Good:Nat->Prop)(Φ:Ex×St B->Prop)
{T:Nat->Tree (Ex×Bool×V×List Blk)}(hT:∀i,((ev E k f b B (Yl n0 N0 KT KH (ts i) (ys i))).bind λx=>Tree.leaf (x.1,vwR n1 n0 N0 KT KH KR x.2))=T i)
  (step:∀i,i<=N->Good i->(T i).holds P λy=>match y.1 with
   | .normal=>y.2.1=ze/\i<N/\Good (i+1)/\Le n0 y.2.2.1 (ts (i+1))/\XL n0 y.2.2.2 (ys (i+1))
   |e=>y.2.1=ze/\∃ts' ys',Le n0 y.2.2.1 ts'/\XL n0 y.2.2.2 ys'/\Φ (e,Yl n0 N0 KT KH ts' ys'))
  {s:St B}(hn:s.n=n1)(h0:Good 0)(hs:WT n1 n0 N0 KT KH s (ts 0) (ys 0)):V3 P b s Φ:=by
 refine ZiT hE hP hin N ts ys Good Φ (T:=λi=>(ev E k f b B (Yl n0 N0 KT KH (ts i) (ys i))).bind λx=>Tree.leaf (x.1,vwN n1 n0 N0 KT KH x.2)) (λi=>rfl) (λi hi hg=>?_) hn h0 hs
 have h:=step i hi hg
 rw[<- hT i,Tree.Yw]at h
 rw[Tree.Yw]
 refine Tree.XI _ (λx hx=>?_) h
 obtain⟨e,x⟩:=x
 cases e with
 |normal=>exact⟨hx.1,hx.2.1,hx.2.2.1,hx.2.2.2.1,hx.2.2.2.2.nfR⟩
 |exit id=>obtain⟨h1,ts',ys',h2,h3,h4⟩:=hx;exact⟨h1,ts',ys',h2,h3.nfR,h4⟩
 |ret=>obtain⟨h1,ts',ys',h2,h3,h4⟩:=hx;exact⟨h1,ts',ys',h2,h3.nfR,h4⟩
end Go.Fw
end
