/- Contracts of calls over heaps of their own, out of the evaluator. -/
import Derived.Test.YthhbdbeglmkijaaGreatDoorMAf
set_option maxRecDepth 100000
set_option linter.unusedVariables false
set_option linter.unusedSimpArgs false
noncomputable section
open Bool renaming false→za,true→ze,and_eq_true→zM
open Nat renaming ble→zK,le_of_ble_eq_true→yx,eq_or_lt_of_le→yE,zero_add→z8,beq→zo,eq_of_beq_eq_true→zP,le_refl→zJ,mul_le_mul_right→yw
open Option renaming some→zk,none→zm
open Go.Fw.Tree renaming leaf→zx
open Go.IntKind renaming wrap→zy,bits→zR
namespace Go.Fw
def V.sof:V->V
 | .cons h t=>.cons h.sof t.sof
 | .int _ k n=>.int za k n
 | .bool _ b=>.bool za b
 | .str _ s=>.str za s
 | .agg cs=>.agg cs.sof
 | .tup vs=>.tup vs.sof
 | .fn f a b=>.fn f a.sof b.sof
 | .ifc _ b=>.ifc za b
 |v=>v
def Blk.sof:Blk->Blk
 | .var cs=>.var cs.sof
 |b=>b
variable{F:Nat->Prop}{w:World}{n:Nat}{m:Nat->Option Nat}
theorem R_sof:∀(v:V),(∀x,R F w v.sof n m x↔R F w v n m x)/\(∀xs,RL F w v.sof n m xs↔RL F w v n m xs):=by
 intro v
 induction v<;>grind[V.sof,R,RL]
theorem RB_sof{blk:Blk}{B:Option Nat}:RB F w n m blk.sof B↔RB F w n m blk B:=by
 cases blk with
 |var cs=>
  constructor
  ·rintro⟨b,xs,el,ys,zs,e,hc,hsp,hr⟩;exact⟨b,xs,el,ys,zs,e,hc,hsp,(R_sof cs).2 _|>.1 hr⟩
  ·rintro⟨b,xs,el,ys,zs,e,hc,hsp,hr⟩;exact⟨b,xs,el,ys,zs,e,hc,hsp,(R_sof cs).2 _|>.2 hr⟩
 |_=>exact Iff.rfl
theorem sof_any{b:Blk}:b.sof=.any↔b=.any:=by cases b<;>simp[Blk.sof]
theorem ZiO(L:List Blk)(i:Nat):(L.map Blk.sof).getD i .none=(L.getD i .none).sof:=by
 simp only[List.getD_eq_getElem?_getD,List.getElem?_map]
 cases L[i]? <;>rfl
def ptOf:List Blk->Nat->PT Blk->PT Blk
 |[],_,h=>h
 |b::l,i,h=>ptOf l (i+1) (h.set i b)
theorem ptOf_look:∀(bl:List Blk)(i:Nat)(h:PT Blk)(c:Nat),look (λ_=>.none) (ptOf bl i h) c=if i<=c/\c<i+bl.length then bl.getD (c-i) .none else look (λ_=>.none) h c:=by
 intro bl
 induction bl<;>grind[look,ptOf,Yj]
def keepOf(k:Nat)(r:V×PT Blk×Nat):List Nat:=reach (look (λ_=>.none) r.2.1) r.2.2 100 (Zer (look (λ_=>.none) r.2.1) r.2.2 (List.range k) r.1.names) 0
def ZmA(l:List Nat)(r:V×PT Blk×Nat):V×List Blk:=(r.1.rnm λb=>idxOf b l 0,l.map λb=>(look (λ_=>.none) r.2.1 b).rnm λb=>idxOf b l 0)
def ZfU(k:Nat):List Nat->Nat->Bool
 |[],i=>zK k i
 |b::l,i=>(zK k i||Nat.beq b i)&&ZfU k l (i+1)
def keepOk(k n:Nat)(l:List Nat):Bool:=(l.all λb=>Nat.blt b n)&&(UF l&&ZfU k l 0)
def evH(E:Env)(k:Nat)(g:FuncId)(args:V)(bl:List Blk):Tree (V×List Blk):=
 (Kn E (ev E k) (λ_=>.none) (.inl g) args (ptOf bl 0 .nil) bl.length).bind λr=>
  bif keepOk bl.length r.2.2 (keepOf bl.length r)then .leaf (ZmA (keepOf bl.length r) r)else .stuck
theorem ZpM{k:Nat}:∀{l:List Nat}{i:Nat},ZfU k l i=ze->∀j,i<=j->j<k->l[j-i]? =zk j:=by
 intro l
 induction l with
 |nil=>
  intro i h j h1 h2
  have:=yx h
  omega
 |cons b l ih=>
  intro i h j h1 h2
  unfold ZfU at h
  rw[zM,Bool.or_eq_true]at h
  rcases yE h1 with e|e
  ·subst e
   rw[Nat.sub_self,List.getElem?_cons_zero]
   rcases h.1 with h'|h'
   ·have:=yx h'
    omega
   simp_all
  grind
theorem HR.sub{base:Nat}{h:Nat->Blk}(hr:HR base m F h n w){l:List Nat}(hlt:∀(i b:Nat),l[i]? =zk b->b<n)(hnd:UF l=ze) :
  HR base (λi=>match l[i]? with|some b=>m b|none=>zm) F (λi=>(l.map λb=>(h b).rnm λb=>idxOf b l 0).getD i .none) l.length w:=by
 have hidx:∀b i,idxOf b l 0=zk i->l[i]? =zk b:=λb i e=>by
  have:=(Zgc e).2
  omega
 have hll:∀i b,l[i]? =zk b->i<l.length:=λi b e=>(List.getElem?_eq_some_iff.1 e).1
 have hs:∀(i B:Nat),(match l[i]? with|some b=>m b|none=>zm)=zk B->∃b,l[i]? =zk b/\m b=zk B:=λi B e=>by
  grind
 have hbl:∀i b,l[i]? =zk b->(l.map λb=>(h b).rnm λb=>idxOf b l 0).getD i .none=(h b).rnm λb=>idxOf b l 0:=λi b e=>by
  grind
 refine⟨hr.low,hr.fdom,λi hi=>?_,λi B e=>?_,λi hi=>?_,hr.gl,λi B e=>?_,λi j B e1 e2 hne=>?_⟩
 ·obtain⟨b,hb⟩:∃b,l[i]? =zk b:=⟨l[i],List.getElem?_eq_getElem hi⟩
  rw[hbl i b hb,hb]
  exact RB_rnm (λb c e _=>⟨hll _ _ (hidx b c e),by rw[hidx b c e]⟩) (hr.blk b (hlt i b hb))
 ·obtain⟨b,_,e'⟩:=hs i B e
  exact hr.dom b B e'
 ·grind
 ·obtain⟨b,_,e'⟩:=hs i B e
  exact hr.own b B e'
 ·obtain⟨b,h1,e1'⟩:=hs i B e1
  obtain⟨c,h2,e2'⟩:=hs j B e2
  have hbc:b≠c:=λe=>hne (ZgK hnd h1 (by rw[e];exact h2))
  rw[hbl i b h1,hbl j c h2]
  rcases hr.inj b c B e1' e2' hbc with h'|h'
  ·left
   rw[h']
   rfl
  ·right
   rw[h']
   rfl
variable{g:FuncId}
theorem hk_of{E:Env}(hE:E.Ok)(k:Nat){K:HK}
  (h:∀args bl T,K args bl=zk T->∀Q:V×List Blk->Prop,T.holds E.P Q->(evH E k g args bl).holds E.P λr=>∃r',Q r'/\r.1.sof=r'.1.sof/\r.2.map Blk.sof=r'.2.map Blk.sof):Xj E.P g K:=by
 intro args bl T hK base m F w xs Q KK hr ha hq hk
 have hq':=h args bl T hK Q hq
 unfold evH at hq'
 rw[Tree.YC]at hq'
 have hlook:look (λ_=>.none) (ptOf bl 0 .nil)=λb=>bl.getD b .none:=by
  funext b
  rw[ptOf_look,z8,Nat.sub_zero]
  by_cases hb:b<bl.length
  ·grind
  ·rw[if_neg (λh=>hb h.2),List.getD_eq_getElem?_getD,List.getElem?_eq_none (by omega)]
   rfl
 refine ZcL hE (ev_ok hE k) (λ_=>.none) (.inl g) args (ptOf bl 0 .nil) bl.length base m F w xs _ KK (by rw[hlook];exact hr) ha hq' λv h1 n1 hQ m1 F1 w1 x he hr1 hx=>?_
 dsimp only at hQ
 generalize hl:keepOf bl.length (v,h1,n1)=l at hQ
 cases hok:keepOk bl.length n1 l with
 |false=>
  rw[hok]at hQ
  exact hQ.elim
 |true=>
 rw[hok]at hQ
 obtain⟨⟨v',bl'⟩,hQ',hv,hb⟩:=hQ
 unfold keepOk at hok
 rw[zM,zM,List.all_eq_true]at hok
 obtain⟨hall,hnd,hfirst⟩:=hok
 have hlt:∀i b,l[i]? =zk b->b<n1:=λi b e=>XQ.1 (hall b (List.mem_of_getElem? e))
 have hfst:∀j,j<bl.length->l[j]? =zk j:=λj hj=>by
  have:=ZpM hfirst j (Nat.zero_le _) hj
  omega
 have hll:∀i b,l[i]? =zk b->i<l.length:=λi b e=>(List.getElem?_eq_some_iff.1 e).1
 have hidx:∀b i,idxOf b l 0=zk i->l[i]? =zk b:=λb i e=>by
  have:=(Zgc e).2
  omega
 have hsub:=hr1.sub hlt hnd
 have hlen:bl'.length=l.length:=by
  grind[List.length,ZmA,List.length_map]
 have hkl:bl.length<=l.length:=by
  grind
 have hsof:∀i,((l.map λb=>(look (λ_=>.none) h1 b).rnm λb=>idxOf b l 0).getD i .none).sof=(bl'.getD i .none).sof:=λi=>by
  rw[<- ZiO,<- ZiO]
  exact congrArg (λz=>z.getD i Blk.none) hb
 refine hk v' bl' hQ' (λi=>match l[i]? with|some b=>m1 b|none=>zm) F1 w1 x ?_ ?_ ?_
 ·refine⟨he.f,he.back,he.keep,he.size,he.sz,he.ow.sub λi B e=>?_,by omega,λb hb B e=>?_,he.calm⟩
  ·grind
  ·rw[hfst b hb]
   exact he.map b hb B e
 ·rw[hlen]
  refine⟨hsub.low,hsub.fdom,λi hi=>?_,hsub.dom,hsub.new,hsub.gl,hsub.own,λi j B e1 e2 hne=>?_⟩
  ·exact RB_sof.1 (by rw[<- hsof i];exact RB_sof.2 (hsub.blk i hi))
  ·rcases hsub.inj i j B e1 e2 hne with h'|h'
   ·left
    exact sof_any.1 (by rw[<- hsof i];rw[h'];rfl)
   ·right
    exact sof_any.1 (by rw[<- hsof j];rw[h'];rfl)
 ·rw[hlen]
  have hR:=(R_rnm (f:=λb=>idxOf b l 0) (n':=l.length) (m':=λi=>match l[i]? with|some b=>m1 b|none=>zm) (λb c e _=>⟨hll _ _ (hidx b c e),by rw[hidx b c e]⟩) v).1 x hx
  exact((R_sof v').1 x).1 (by rw[<- hv];exact((R_sof _).1 x).2 hR)
theorem Xj.sof{P:Program}{K:HK}(hK:Xj P g K):Xj P g λargs bl=>K args.sof (bl.map Blk.sof):=by
 intro args bl T h base m F w xs Q KK hr ha hq hk
 have hlen:(bl.map Blk.sof).length=bl.length:=List.length_map _
 have hget:∀i,(bl.map Blk.sof).getD i .none=(bl.getD i .none).sof:=λi=>ZiO bl i
 refine hK args.sof (bl.map Blk.sof) T h base m F w xs Q KK ?_ (by rw[hlen];exact((R_sof args).2 _).2 ha) hq λv bl' hQ m' F' w' x he hr' hx=>hk v bl' hQ m' F' w' x (by rw[hlen]at he;exact he) hr' hx
 rw[hlen]
 refine⟨hr.low,hr.fdom,λi hi=>?_,hr.dom,hr.new,hr.gl,hr.own,λi j B e1 e2 hne=>?_⟩
 ·rw[hget];exact RB_sof.2 (hr.blk i hi)
 ·rw[hget,hget]
  rcases hr.inj i j B e1 e2 hne with h'|h'
  ·left;rw[h'];rfl
  ·right;rw[h'];rfl
end Go.Fw
namespace Go.Fw
def V.Zy:V->Nat
 | .rsl _ _ n _=>n
 |_=>0
def V.ZB:V->Nat->V
 | .rsl _ _ _ g=>g
 |_=>λ_=>.junk
def V.Zhn:V->List UInt8
 | .str _ s=>s
 |_=>[]
def V.inner:V->V
 | .agg cs=>cs
 | .tup vs=>vs
 |_=>.nil
def V.hd:V->V
 | .cons a _=>a
 |_=>.junk
def V.tl:V->V
 | .cons _ b=>b
 |_=>.nil
def Xe:V->V->Bool
 | .int _ k _,v=>match v with| .int _ k' _=>decide (k=k')|_=>za
 | .bool _ _,v=>match v with| .bool _ _=>ze|_=>za
 | .str _ _,v=>match v with| .str _ _=>ze|_=>za
 | .agg p,v=>match v with| .agg cs=>Xe p cs|_=>za
 | .tup p,v=>match v with| .tup cs=>Xe p cs|_=>za
 | .cons p q,v=>match v with| .cons a b=>Xe p a&&Xe q b|_=>za
 | .nil,v=>match v with| .nil=>ze|_=>za
 | .rsl _ es _ _,v=>match v with| .rsl _ es' _ _=>zo es es'| .Zl=>ze|_=>za
 |_,_=>za
def YM:V->V->V
 | .int _ k _,v=>.int za k v.toInt
 | .bool _ _,v=>.bool za v.toBool
 | .str _ _,v=>.str za v.Zhn
 | .agg p,v=>.agg (YM p v.inner)
 | .tup p,v=>.tup (YM p v.inner)
 | .cons p q,v=>.cons (YM p v.hd) (YM q v.tl)
 | .rsl _ es _ _,v=>.rsl za es v.Zy v.ZB
 |_,_=>.nil
variable{F:Nat->Prop}
theorem read_R{w:World}{n:Nat}{m:Nat->Option Nat}:∀(p v:V),Xe p v=ze->(∀x,R F w v n m x->R F w (YM p v) n m x)/\(∀xs,RL F w v n m xs->RL F w (YM p v) n m xs):=by
 intro p
 induction p with
 |int st k z=>
  intro v h
  cases v<;>simp only[Xe]at h<;>try(cases h;done)
  rename_i st' k' z'
  obtain rfl:=of_decide_eq_true h
  exact⟨λx hx=>by simp only[YM,V.toInt,R]at hx⊢;exact hx,λxs hx=>by simp only[RL]at hx⟩
 |bool st z=>
  intro v h
  cases v<;>simp only[Xe]at h<;>try(cases h;done)
  exact⟨λx hx=>by simp only[YM,V.toBool,R]at hx⊢;exact hx,λxs hx=>by simp only[RL]at hx⟩
 |str st z=>
  intro v h
  cases v<;>simp only[Xe]at h<;>try(cases h;done)
  exact⟨λx hx=>by simp only[YM,V.Zhn,R]at hx⊢;exact hx,λxs hx=>by simp only[RL]at hx⟩
 |agg p ih=>
  intro v h
  cases v<;>simp only[Xe]at h<;>try(cases h;done)
  rename_i cs
  refine⟨λx hx=>?_,λxs hx=>by simp only[RL]at hx⟩
  simp only[YM,V.inner,R]at hx⊢
  obtain⟨xs,e,h1⟩:=hx
  exact⟨xs,e,(ih cs h).2 _ h1⟩
 |tup p ih=>
  intro v h
  cases v<;>simp only[Xe]at h<;>try(cases h;done)
  rename_i cs
  refine⟨λx hx=>?_,λxs hx=>by simp only[RL]at hx⟩
  simp only[YM,V.inner,R]at hx⊢
  obtain⟨xs,e,h1⟩:=hx
  exact⟨xs,e,(ih cs h).2 _ h1⟩
 |cons p q ih1 ih2=>
  intro v h
  cases v<;>simp only[Xe]at h<;>try(cases h;done)
  rename_i a b
  rw[zM]at h
  refine⟨λx hx=>by simp only[R]at hx,λxs hx=>?_⟩
  simp only[YM,V.hd,V.tl,RL]at hx⊢
  obtain⟨x,r,e,h1,h2⟩:=hx
  exact⟨x,r,e,(ih1 a h.1).1 _ h1,(ih2 b h.2).2 _ h2⟩
 |nil=>
  intro v h
  cases v<;>simp only[Xe]at h<;>try(cases h;done)
  exact⟨λx hx=>by simp only[R]at hx,λxs hx=>by simp only[YM,RL]at hx⊢;exact hx⟩
 |rsl st es k g ih=>
  intro v h
  cases v<;>simp only[Xe]at h<;>try(cases h;done)
  ·rename_i st' es' k' g'
   obtain rfl:=zP h
   refine⟨λx hx=>?_,λxs hx=>by simp only[RL]at hx⟩
   simp only[YM,V.Zy,V.ZB]
   rw[Wi]at hx⊢
   exact hx
  ·exact⟨λx hx=>U4 hx,λxs hx=>by simp only[RL]at hx⟩
 |_=>intro v h;cases h
variable{g:FuncId}
theorem Zi.read{P:Program}{args v:V}(p:V)(h:Zi P g args v)(hf:Xe p v=ze):Zi P g args (YM p v):=
 ⟨h.1,λF w xs hF hg ha=>(h.2 F w xs hF hg ha).mono λ_ _ ⟨x,F',he,hl,hx⟩=>⟨x,F',he,hl,(read_R p v hf).1 x hx⟩⟩
def Jh:V->V->Bool
 | .int _ k _,v=>match v with| .int _ k' _=>decide (k=k')|_=>za
 | .bool _ _,v=>match v with| .bool _ _=>ze|_=>za
 | .str _ _,v=>match v with| .str _ _=>ze|_=>za
 | .agg p,v=>match v with| .agg cs=>Jh p cs|_=>za
 | .cons p q,v=>match v with| .cons a b=>Jh p a&&Jh q b|_=>za
 | .nil,v=>match v with| .nil=>ze|_=>za
 | .rsl _ es _ pg,v=>match v with| .rsl st es' n g=>st&&(zo es es'&&allB n λj=>Jh (pg 0) (g j))| .Zl=>ze|_=>za
 |_,_=>za
def JH:V->V->V
 | .int _ k _,v=>.int za k v.toInt
 | .bool _ _,v=>.bool za v.toBool
 | .str _ _,v=>.str za v.Zhn
 | .agg p,v=>.agg (JH p v.inner)
 | .cons p q,v=>.cons (JH p v.hd) (JH q v.tl)
 | .rsl _ es _ pg,v=>.rsl ze es v.Zy λj=>JH (pg 0) (v.ZB j)
 |_,_=>.nil
theorem allB_get{n:Nat}{f:Nat->Bool}:allB n f=ze->∀k,k<n->f k=ze:=by
 induction n with
 |zero=>intro _ k h;omega
 |succ n ih=>
  intro h k hk
  have h:(allB n f&&f n)=ze:=h
  rw[zM]at h
  rcases yE (Nat.le_of_lt_succ hk)with e|e
  ·rw[e];exact h.2
  ·exact ih h.1 k e
theorem readA_R{w:World}:∀(p v:V),Jh p v=ze->∀(n:Nat)(m:Nat->Option Nat),(∀x,R F w v n m x->R F w (JH p v) n m x)/\(∀xs,RL F w v n m xs->RL F w (JH p v) n m xs):=by
 intro p
 induction p with
 |int st k z=>
  intro v h n m
  cases v<;>simp only[Jh]at h<;>try(cases h;done)
  rename_i st' k' z'
  obtain rfl:=of_decide_eq_true h
  exact⟨λx hx=>by simp only[JH,V.toInt,R]at hx⊢;exact hx,λxs hx=>by simp only[RL]at hx⟩
 |bool st z=>
  intro v h n m
  cases v<;>simp only[Jh]at h<;>try(cases h;done)
  exact⟨λx hx=>by simp only[JH,V.toBool,R]at hx⊢;exact hx,λxs hx=>by simp only[RL]at hx⟩
 |str st z=>
  intro v h n m
  cases v<;>simp only[Jh]at h<;>try(cases h;done)
  exact⟨λx hx=>by simp only[JH,V.Zhn,R]at hx⊢;exact hx,λxs hx=>by simp only[RL]at hx⟩
 |agg p ih=>
  intro v h n m
  cases v<;>simp only[Jh]at h<;>try(cases h;done)
  rename_i cs
  refine⟨λx hx=>?_,λxs hx=>by simp only[RL]at hx⟩
  simp only[JH,V.inner,R]at hx⊢
  obtain⟨xs,e,h1⟩:=hx
  exact⟨xs,e,(ih cs h n m).2 _ h1⟩
 |cons p q ih1 ih2=>
  intro v h n m
  cases v<;>simp only[Jh]at h<;>try(cases h;done)
  rename_i a b
  rw[zM]at h
  refine⟨λx hx=>by simp only[R]at hx,λxs hx=>?_⟩
  simp only[JH,V.hd,V.tl,RL]at hx⊢
  obtain⟨x,r,e,h1,h2⟩:=hx
  exact⟨x,r,e,(ih1 a h.1 n m).1 _ h1,(ih2 b h.2 n m).2 _ h2⟩
 |nil=>
  intro v h n m
  cases v<;>simp only[Jh]at h<;>try(cases h;done)
  exact⟨λx hx=>by simp only[R]at hx,λxs hx=>by simp only[JH,RL]at hx⊢;exact hx⟩
 |rsl st es k g ih=>
  intro v h n m
  cases v<;>simp only[Jh]at h<;>try(cases h;done)
  ·rename_i st' es' k' g'
   rw[zM,zM]at h
   obtain⟨_,he,hall⟩:=h
   obtain rfl:=zP he
   refine⟨λx hx=>?_,λxs hx=>by simp only[RL]at hx⟩
   simp only[JH,V.Zy,V.ZB]
   rw[Wi]at hx⊢
   obtain⟨a,cap,h1,h2,h3⟩:=hx
   refine⟨a,cap,h1,h2,h3.imp id λ⟨B,off,k1,k2,c,el,fr,k3,k4⟩=>⟨B,off,k1,k2,c,el,fr,k3,λj hj=>?_⟩⟩
   obtain⟨xs,q1,q2,q3⟩:=k4 j hj
   exact⟨xs,(ih 0 (g' j) (allB_get hall j hj) 0 _).2 xs q1,q2,q3⟩
  ·exact⟨λx hx=>U4 hx,λxs hx=>by simp only[RL]at hx⟩
 |_=>intro v h;cases h
theorem Zi.args{P:Program}{a b v:V}(h:Zi P g b v)(ha:∀(F:Nat->Prop)(w:World)(n:Nat)(m:Nat->Option Nat)(xs:List Value),RL F w a n m xs->RL F w b n m xs):Zi P g a v:=
 ⟨h.1,λF w xs hF hg hx=>h.2 F w xs hF hg (ha F w 0 _ _ hx)⟩
def AnsOk(P:Program)(g:FuncId)(x:V):Option Ans->Prop
 |some (.sure v)=>Zi P g x v
 |some (.where_ p v)=>p->Zi P g x v
 |some (.fork b v v')=>(b=ze->Zi P g x v)/\(b=za->Zi P g x v')
 |none=>True
def QA(g:FuncId)(pat:V)(chk:V->Bool)(res:V->V)(arg:V->V)(pre:V->Prop):Con:=
 { g,al:=ze,ans:=λx=>bif x.known then zm else bif Jh pat x&&chk x then zk (.sure (res x))else zk (.where_ (x.soft=(arg x.soft).soft/\pre x.soft) (res x.soft)) }
theorem Jf{P:Program}{pat:V}{chk:V->Bool}{res arg:V->V}{pre:V->Prop}(hrd:∀x,JH pat x=arg x)(hchk:∀x,chk x=ze->pre x)(h:∀x,pre x->Zi P g (arg x) (res x)):(QA g pat chk res arg pre).Ok P:=by
 intro x
 show AnsOk P g x (bif x.known then zm else bif Jh pat x&&chk x then zk (.sure (res x))else zk (.where_ (x.soft=(arg x.soft).soft/\pre x.soft) (res x.soft)))
 cases x.known with
 |true=>trivial
 |false=>
  cases hc:Jh pat x&&chk x with
  |true=>
   rw[zM]at hc
   exact Zi.args (h x (hchk x hc.2)) λF w n m xs hx=>by rw[<- hrd];exact(readA_R pat x hc.1 n m).2 xs hx
  |false=>
   intro⟨q,hp⟩
   exact Zi.args (h x.soft hp) λF w n m xs hx=>by
    have e:=((Y0 x n m).2 xs).2 hx
    rw[q]at e
    exact((Y0 _ n m).2 xs).1 e
abbrev ZN(P:Program)(l:List Con)(nm:List FuncId):Env:={ P,Γ:=Vl l,lp:=UA [],mg:=ze,nm:=λg=>Kw g nm }
variable{l:List Con}{nm:List FuncId}
theorem XK{P:Program}:Among (ZN P l nm) (Yf l):=λg args h=>Zj2 l g args h
theorem YJ{P:Program}(hm:P.follows .mixedOrders=ze)(hn:ZgF P=ze)(h:AllOk P l):(ZN P l nm).Ok:=
 let e:=ZC hm hn h (ls:=[]) trivial ze
 ⟨e.mixed,e.named,e.sure,e.where_,e.fork,e.lp,e.hk⟩
theorem Kz{P:Program}(o N:Nat){E:Env}{gs:List FuncId}(hΓ:Among E gs)(hE:E.Ok)(hP:E.P=P)(k:Nat)(p:V){args:Nat->V}(hhas:Has P g)
  (h:(Xl N λc=>(Yd E gs k g (args (o+c))).total&&((Yd E gs k g (args (o+c))).Y1&&Xe p (Yd E gs k g (args (o+c))).join))=ze){c:Nat}(ho:o<=c)(hc:c<o+N):Zi P g (args c) (YM p (Yd E gs k g (args c)).join):=by
 obtain⟨d,rfl⟩:∃d,c=o+d:=⟨c-o,by omega⟩
 have h:=Zlb h d (by omega)
 simp only[zM]at h
 have hf:=h.2.2
 rw[ZcO hΓ]at h hf⊢
 have:=Zja (v:=(ZU E k g (args (o+d))).join) hE k (by rw[hP];exact hhas) (Tree.Zmn _ h.1) h.2.1 rfl
 rw[hP]at this
 exact this.read p hf
end Go.Fw
namespace Go.Fw
def Zv(f:Nat->Bool)(n:Nat):Bool:=Nat.rec za (λk r=>r||f k) n
variable{f:Nat->Bool}
theorem Zev:∀{n k:Nat},k<n->f k=ze->Zv f n=ze:=by
 intro n
 induction n with
 |zero=>intro k h;omega
 |succ n ih=>
  intro k h hf
  show(Zv f n||f n)=ze
  rw[Bool.or_eq_true]
  rcases yE (Nat.le_of_lt_succ h)with e|e
  ·right;rw[<- e];exact hf
  ·left;exact ih e hf
theorem Zcj:∀{n:Nat},(∀k,k<n->f k=za)->Zv f n=za:=by
 intro n
 induction n with
 |zero=>intro _;rfl
 |succ n ih=>
  intro h
  show(Zv f n||f n)=za
  rw[ih λk hk=>h k (by omega),h n (by omega)];rfl
variable{n:Nat}
theorem XI(h:Zv f n=za):∀k,k<n->f k=za:=λk hk=>by
 cases hf:f k with
 |false=>rfl
 |true=>rw[Zev hk hf]at h;cases h
def Yc(f:Nat->Bool):Nat->Nat->Nat
 |0,k=>k
 |m+1,k=>bif f k then k else Yc f m (k+1)
theorem fstTo_eq:∀{m k i:Nat},k<=i->i<k+m->(∀j,k<=j->j<i->f j=za)->f i=ze->Yc f m k=i:=by
 intro m
 induction m with
 |zero=>intro k i h1 h2;omega
 |succ m ih=>
  intro k i h1 h2 h3 h4
  unfold Yc
  rcases yE h1 with e|e
  ·subst e;rw[h4];rfl
  ·rw[h3 k (zJ _) e]
   exact ih e (by omega) (λj hj=>h3 j (by omega)) h4
variable{i:Nat}
theorem ZfX(hi:i<n)(hg:∀j,j<i->f j=za)(h:f i=ze):Yc f n 0=i:=fstTo_eq (Nat.zero_le _) (by omega) (λj _ hj=>hg j hj) h
theorem Zlu(hg:∀j,j<i->f j=za)(h:f i=za):∀j,j<i+1->f j=za:=λj hj=>by
 rcases yE (Nat.le_of_lt_succ hj)with e|e
 ·rw[e];exact h
 ·exact hg j e
def ZQ{A:Type}(a0:A)(f:Nat->A->A)(n:Nat):A:=Nat.rec a0 f n
theorem ZaC{A:Type}(a0:A)(f:Nat->A->A)(n:Nat):ZQ a0 f (n+1)=f n (ZQ a0 f n):=rfl
theorem nf{x:Bool}(h:(bif !x then ze else za)=za):x=ze:=by cases x;cases h;rfl
theorem cT{α:Type}{c:Bool}{a b v:α}(h:c=ze)(e:a=v):(bif c then a else b)=v:=by rw[h];exact e
theorem cF{α:Type}{c:Bool}{a b v:α}(h:c=za)(e:b=v):(bif c then a else b)=v:=by rw[h];exact e
variable{KT:List Nat}{KH:List (Nat×Src)}
theorem Zi8{B:Base}{P:Program}{E:Env}(hE:E.Ok)(hP:E.P=P){k:Nat}{f:FuncId}{b:Code}(hin:∀b'∈Y4 b,WL P f b'){n1 n0 N0:Nat}(N:Nat)(ts:Nat->V)(ys:Nat->List Blk)(Good:Nat->Prop)(Φ:Ex×St B->Prop)
{T:Nat->Tree (Ex×Bool×V×List Blk)}(hT:∀i,((ev E k f b B (YN n0 N0 KT KH (ts i) (ys i))).bind λx=>zx (x.1,vwN n1 n0 N0 KT KH x.2))=T i)
  (step:∀i,i<=N->Good i->(T i).holds P λy=>match y.1 with
   | .normal=>y.2.1=ze/\i<N/\Good (i+1)/\Le n0 y.2.2.1 (ts (i+1))/\X8 n0 y.2.2.2 (ys (i+1))
   |e=>y.2.1=ze/\∃ts' ys',Le n0 y.2.2.1 ts'/\X8 n0 y.2.2.2 ys'/\Φ (e,YN n0 N0 KT KH ts' ys'))
  {s:St B}(hn:s.n=n1)(h0:Good 0)(hs:Qv n1 n0 N0 KT KH s (ts 0) (ys 0)):U5 P b s Φ:=by
 refine ZlN (ι:=Nat) (E:=λ_=>E) (λ_=>hE) (λ_=>hP) (k:=k) hin ts ys (λi=>i<=N/\Good i) (λi=>N-i) Φ (T:=T) (λi _=>hT i) (λi hi=>?_) hn (i0:=0) ⟨Nat.zero_le _,h0⟩ hs
 refine Tree.XT _ (λy hy=>?_) (step i hi.1 hi.2)
 obtain⟨e,y⟩:=y
 cases e with
 |normal=>
  obtain⟨h1,h2,h3,h4,h5⟩:=hy
  exact⟨h1,i+1,⟨by omega,h3⟩,by show N-(i+1)<N-i;omega,h4,h5⟩
 |exit id=>exact hy
 |ret=>exact hy
def Yh(g:FuncId)(arg res:V->V)(pre:V->Prop):Con:=
 { g,al:=ze,ans:=λx=>bif x.known then zm else zk (.where_ (x.soft=arg x/\pre x) (res x)) }
theorem Yi{P:Program}{g:FuncId}{arg res:V->V}{pre:V->Prop}(h:∀x,pre x->Zi P g (arg x) (res x)):(Yh g arg res pre).Ok P:=by
 intro x
 show AnsOk P g x (bif x.known then zm else zk (.where_ (x.soft=arg x/\pre x) (res x)))
 cases x.known with
 |true=>trivial
 |false=>
  intro⟨q,hp⟩
  exact Zi.args (h x hp) λF w n m xs hx=>by
   have e:=((Y0 x n m).2 xs).2 hx
   rw[q]at e
   exact e
def half(i j:Int):Int:=zy .i64 (Int.fdiv (zy .u64 (zy .i64 (i+j))) ((2:Int)^min 1 (zR .u64)))
theorem Zbl{j:Nat}(h:i+j<=4000):half i j=(((i+j)/2:Nat):Int):=by
 unfold half
 have e1:zy .i64 ((i:Int)+(j:Int))=(i:Int)+(j:Int):=IntWalk.i64_in _ ⟨by omega,by omega⟩
 have e2:zy .u64 ((i:Int)+(j:Int))=(i:Int)+(j:Int):=IntWalk.u64_in _ ⟨by omega,by omega⟩
 have e3:(2:Int)^min 1 (zR .u64)=2:=rfl
 rw[e1,e2,e3]
 have e4:Int.fdiv ((i:Int)+(j:Int)) 2=(((i+j)/2:Nat):Int):=by
  rw[Int.fdiv_eq_ediv_of_nonneg _ (by omega)];omega
 rw[e4]
 exact IntWalk.i64_in _ ⟨by omega,by omega⟩
def XB(lt:Nat->Bool):Nat->Nat->Nat->Nat
 |0,i,_=>i
 |q+1,i,j=>bif decide (i<j)then(bif lt ((i+j)/2)then XB lt q ((i+j)/2+1) j else XB lt q i ((i+j)/2))else i
theorem ZnL{lt:Nat->Bool}(q i j:Nat):XB lt (q+1) i j=bif decide (i<j)then(bif lt ((i+j)/2)then XB lt q ((i+j)/2+1) j else XB lt q i ((i+j)/2))else i:=rfl
theorem Zj7{lt:Nat->Bool}:∀q i,XB lt q i i=i:=by
 intro q i
 cases q with
 |zero=>rfl
 |succ q=>unfold XB;rw[decide_eq_false (Nat.lt_irrefl i)];rfl
theorem ZnK{lt:Nat->Bool}:∀q i j,j-i<=q->i<=j->j<=n->(∀k,k<i->lt k=ze)->(∀k,j<=k->k<n->lt k=za)->(∀k l,k<=l->l<n->lt l=ze->lt k=ze)->
  i<=XB lt q i j/\XB lt q i j<=j/\(∀k,k<XB lt q i j->lt k=ze)/\(∀k,XB lt q i j<=k->k<n->lt k=za):=by
 intro q
 induction q with
 |zero=>
  intro i j h1 h2 h3 h4 h5 h6
  obtain rfl:i=j:=by omega
  exact⟨zJ _,zJ _,h4,h5⟩
 |succ q ih=>
  intro i j h1 h2 h3 h4 h5 h6
  rcases Nat.lt_or_ge i j with e|e
  ·unfold XB
   rw[decide_eq_true e]
   simp only[cond_true]
   cases hl:lt ((i+j)/2)with
   |true=>
    simp only[cond_true]
    have:=ih ((i+j)/2+1) j (by omega) (by omega) h3 (λk hk=>h6 k ((i+j)/2) (by omega) (by omega) hl) h5 h6
    exact⟨by omega,this.2⟩
   |false=>
    simp only[cond_false]
    have:=ih i ((i+j)/2) (by omega) (by omega) (by omega) h4 (λk hk hn=>by
     cases hk':lt k with
     |false=>rfl
     |true=>rw[h6 _ _ hk hn hk']at hl;cases hl) h6
    exact⟨this.1,by omega,this.2.2⟩
  ·obtain rfl:i=j:=by omega
   rw[Zj7]
   exact⟨zJ _,zJ _,h4,h5⟩
theorem Zcm{lt:Nat->Bool}:∀q i j,i<=j->XB lt q i j<=j:=by
 intro q
 induction q with
 |zero=>intro i j h;exact h
 |succ q ih=>
  intro i j h
  unfold XB
  cases hc:decide (i<j)with
  |false=>exact h
  |true=>
   have hc:=of_decide_eq_true hc
   simp only[cond_true]
   cases lt ((i+j)/2)with
   |true=>exact ih _ _ (by omega)
   |false=>exact Nat.le_trans (ih _ _ (by omega)) (by omega)
theorem Zbp{B:Base}{P:Program}{E:Env}(hE:E.Ok)(hP:E.P=P){k:Nat}{f:FuncId}{b:Code}(hin:∀b'∈Y4 b,WL P f b'){n1 n0 N0:Nat}(lt:Nat->Bool)(N:Nat)(ts:Nat->Nat->V)(ys:List Blk)(Φ:Ex×St B->Prop)
{T:Nat->Nat->Tree (Ex×Bool×V×List Blk)}(hT:∀i j,((ev E k f b B (YN n0 N0 KT KH (ts i j) ys)).bind λx=>zx (x.1,vwN n1 n0 N0 KT KH x.2))=T i j)
  (step:∀i j,i<=j->j<=N->(T i j).holds P λy=>match y.1 with
   | .normal=>y.2.1=ze/\i<j/\X8 n0 y.2.2.2 ys/\(lt ((i+j)/2)=ze->Le n0 y.2.2.1 (ts ((i+j)/2+1) j))/\(lt ((i+j)/2)=za->Le n0 y.2.2.1 (ts i ((i+j)/2)))
   |e=>y.2.1=ze/\i=j/\X8 n0 y.2.2.2 ys/\Le n0 y.2.2.1 (ts i i)/\e=.exit 0)
  (hΦ:Φ (.exit 0,YN n0 N0 KT KH (ts (XB lt N 0 N) (XB lt N 0 N)) ys))
  {s:St B}(hn:s.n=n1)(hs:Qv n1 n0 N0 KT KH s (ts 0 N) ys):U5 P b s Φ:=by
 refine ZlN (ι:=Nat×Nat×Nat) (E:=λ_=>E) (λ_=>hE) (λ_=>hP) (k:=k) hin (λp=>ts p.2.1 p.2.2) (λ_=>ys) (λp=>p.2.1<=p.2.2/\p.2.2<=N/\p.2.2-p.2.1<=p.1/\XB lt p.1 p.2.1 p.2.2=XB lt N 0 N) (λp=>p.1) Φ (T:=λp=>T p.2.1 p.2.2) (λp _=>hT p.2.1 p.2.2) (λp hp=>?_) hn (i0:=(N,0,N)) ⟨Nat.zero_le _,zJ _,Nat.sub_le _ _,rfl⟩ hs
 obtain⟨q,i,j⟩:=p
 obtain⟨h1,h2,h3,h4⟩:=hp
 refine Tree.XT _ (λy hy=>?_) (step i j h1 h2)
 obtain⟨e,y⟩:=y
 have other:e=.exit 0->i=j->X8 n0 y.2.2 ys->Le n0 y.2.1 (ts i i)->y.1=ze->y.1=ze/\∃ts' ys',Le n0 y.2.1 ts'/\X8 n0 y.2.2 ys'/\Φ (e,YN n0 N0 KT KH ts' ys'):=λhe hij h5 h6 h7=>by
  subst hij
  subst he
  have h4:XB lt q i i=XB lt N 0 N:=h4
  rw[Zj7]at h4
  exact⟨h7,ts i i,ys,h6,h5,by rw[h4];exact hΦ⟩
 cases e with
 |normal=>
  obtain⟨k1,k2,k3,k4,k5⟩:=hy
  have h3:j-i<=q:=h3
  cases q with
  |zero=>omega
  |succ q=>
   have h4:XB lt (q+1) i j=XB lt N 0 N:=h4
   rw[ZnL,decide_eq_true k2]at h4
   simp only[cond_true]at h4
   cases hl:lt ((i+j)/2)with
   |true=>
    rw[hl]at h4
    exact⟨k1,(q,(i+j)/2+1,j),⟨by show(i+j)/2+1<=j;omega,h2,by show j-((i+j)/2+1)<=q;omega,h4⟩,Nat.lt_succ_self q,k4 hl,k3⟩
   |false=>
    rw[hl]at h4
    exact⟨k1,(q,i,(i+j)/2),⟨by show i<=(i+j)/2;omega,by show(i+j)/2<=N;have h2:j<=N:=h2;omega,by show(i+j)/2-i<=q;omega,h4⟩,Nat.lt_succ_self q,k5 hl,k3⟩
 |exit id=>obtain⟨k1,k2,k3,k4,k5⟩:=hy;exact other k5 k2 k3 k4 k1
 |ret=>obtain⟨k1,k2,k3,k4,k5⟩:=hy;exact other k5 k2 k3 k4 k1
end Go.Fw
namespace Go.Fw
def Zb(v:Value):Int:=match v with
 | .int _ a=>a
 |_=>0
def Blk.hasK(b:Blk)(kd:IntKind)(j:Int):Bool:=match b with
 | .Zm _ _ f _=>(f (.int kd j)).1
 |_=>za
def Blk.getB(b:Blk)(kd:IntKind)(j:Int):Bool:=match b with
 | .Zm _ _ f _=>(f (.int kd j)).2.toBool
 |_=>za
def Blk.getI(b:Blk)(kd:IntKind)(j:Int):Int:=match b with
 | .Zm _ _ f _=>(f (.int kd j)).2.toInt
 |_=>0
def Blk.cells(b:Blk):V:=match b with
 | .var c=>c
 |_=>.nil
def YR(k:IntKind)(f g:Value->Bool×V):Prop:=∀a,(f (.int k a)).1=(g (.int k a)).1/\(f (.int k a)).2.soft=(g (.int k a)).2.soft
variable{β:Type 1}
def V.Zam(v:V)(d:β)(k:Nat->(Nat->V)->β):β:=match v with
 | .rsl _ _ n f=>k n f
 |_=>d
def V.VZ(v:V)(d:β)(k:Int->β):β:=match v with
 | .int _ _ x=>k x
 |_=>d
def Blk.onMap(b:Blk)(d:β)(k:(Value->Bool×V)->β):β:=match b with
 | .Zm _ _ f _=>k f
 |_=>d
def Blk.onVar(b:Blk)(d:β)(k:V->β):β:=match b with
 | .var c=>k c
 |_=>d
section
variable{P:Program}{α:Type}{Q:α->Prop}
theorem Zby{v:V}{k:Nat->(Nat->V)->Tree α}(h:(v.Zam .stuck k).holds P Q):∃n f,(k n f).holds P Q:=by
 cases v<;>first|exact h.elim|exact⟨_,_,h⟩
theorem UL{v:V}{k:Int->Tree α}(h:(v.VZ .stuck k).holds P Q):∃x,(k x).holds P Q:=by
 cases v<;>first|exact h.elim|exact⟨_,h⟩
theorem Zji{b:Blk}{k:(Value->Bool×V)->Tree α}(h:(b.onMap .stuck k).holds P Q):∃f,(k f).holds P Q:=by
 cases b<;>first|exact h.elim|exact⟨_,h⟩
theorem onVar_h{b:Blk}{k:V->Tree α}(h:(b.onVar .stuck k).holds P Q):∃c,(k c).holds P Q:=by
 cases b<;>first|exact h.elim|exact⟨_,h⟩
end
def YG(P:Program)(g:FuncId)(args:V)(bl:List Blk)(T:Tree (V×List Blk)):Prop:=
 ∀(base:Nat)(m:Nat->Option Nat)(F:Nat->Prop)(w:World)(xs:Array Value)(Q:V×List Blk->Prop)(KK:Ending->World->Prop),
  HR base m F (λb=>bl.getD b .none) bl.length w->RL F w args bl.length m xs.toList->T.holds P Q->
  (∀v bl',Q (v,bl')->∀m' F' w' x,Ext base m F bl.length w m' F' bl'.length w'->HR base m' F' (λb=>bl'.getD b .none) bl'.length w'->R F' w' v bl'.length m' x->KK (.returned x) w')->
  Has P g/\Calls P g xs w KK
variable{g:FuncId}{bl:List Blk}{T:Tree (V×List Blk)}
open Classical in
theorem hk_at{E:Env}(hE:E.Ok)(k:Nat){args:V}
  (h:∀Q:V×List Blk->Prop,T.holds E.P Q->(evH E k g args bl).holds E.P λr=>∃r',Q r'/\r.1.sof=r'.1.sof/\r.2.map Blk.sof=r'.2.map Blk.sof):YG E.P g args bl T:=by
 have H:=hk_of hE k (g:=g) (K:=λa b=>if a=args/\b=bl then zk T else zm) (λa b T' hT Q hq=>by
  by_cases e:a=args/\b=bl
  ·obtain⟨rfl,rfl⟩:=e
   rw[if_pos ⟨rfl,rfl⟩]at hT
   injection hT with hT
   subst hT
   exact h Q hq
  ·rw[if_neg e]at hT;cases hT)
 exact H args bl T (if_pos ⟨rfl,rfl⟩)
theorem YG.le{P:Program}{args:V}{bl0:List Blk}(H:YG P g args bl0 T)(hn:bl.length=bl0.length)(hle:∀b,LeK bl0.length (bl.getD b .none) (bl0.getD b .none)):YG P g args bl T:=by
 intro base m F w xs Q KK hr ha hq hk
 rw[hn]at hr ha hk
 exact H base m F w xs Q KK ⟨hr.low,hr.fdom,λi hi=>(hle i).2 _ _ _ _ (hr.blk i hi),hr.dom,hr.new,hr.gl,hr.own,λi j B e1 e2 hne=>(hr.inj i j B e1 e2 hne).imp (hle i).1 (hle j).1⟩ ha hq hk
def Jm(p:Prop)(l:Lp):Lp:=⟨l.f,l.id,λB s=>.need p (l.g B s)⟩
theorem Zdc{P:Program}{p:Prop}{l:Lp}(h:p->l.Ok P):(Jm p l).Ok P:=λbody hin hfr B s Q hq=>h hq.1 body hin hfr B s Q hq.2
variable{c:Bool}
theorem WI{α:Type}{p:α->Prop}{a b:α}(ha:p a)(hb:p b):p (bif c then a else b):=by cases c<;>assumption
theorem Zeq{A:Type}{m:A->Nat}{a0:A}{f:Nat->A->A}(h0:m a0<=0)(h:∀k z,m (f k z)<=m z+1):∀k,m (ZQ a0 f k)<=k:=by
 intro k
 induction k with
 |zero=>exact h0
 |succ k ih=>rw[ZaC];have:=h k (ZQ a0 f k);omega
theorem ZbN{a b:V}{g:V->V}(ha:a.soft=g a)(hb:b.soft=g b):(bif c then a else b).soft=g (bif c then a else b):=by cases c<;>assumption
theorem LeK.QL{n es k k':Nat}{g g':Nat->V}(hn:k=k')(h:∀j,j<k->(g j).soft=(g' j).soft):LeK n (.arr es k g) (.arr es k' g'):=⟨λe=>(by cases e),λF w m B hb=>by
 subst hn
 rcases hb with h0|⟨b,c,el,k1,k2,k3,k4⟩
 ·exact .inl h0
 ·exact .inr ⟨b,c,el,k1,k2,k3,λj hj=>by obtain⟨xs,hx,hr⟩:=k4 j hj;have e:=((Y0 (g j) _ _).2 _).2 hx;rw[h j hj]at e;exact⟨xs,((Y0 (g' j) _ _).2 _).1 e,hr⟩⟩⟩
def V.Jj(c:V)(k:V->β):β:=match c with
 | .cons h t=>match h with
  | .int s kd n=>t.Jj λt'=>k (.cons (.int s kd n) t')
  | .bool s b=>t.Jj λt'=>k (.cons (.bool s b) t')
  | .rsl s e n g=>t.Jj λt'=>k (.cons (.rsl s e n g) t')
  | .mp b=>VK b λb=>t.Jj λt'=>k (.cons (.mp b) t')
  |h=>t.Jj λt'=>k (.cons h t')
 |c=>k c
theorem V.JU:∀(c:V)(k:V->β),c.Jj k=k c:=by
 intro c
 induction c with
 |cons h t _ ih=>intro k;unfold V.Jj;cases h<;>first|exact ih _|(show VK _ _=_;rw[Zbc];exact ih _)
 |_=>intro k;rfl
theorem Jr{x n:Int}(hb:(bif !c then ze else za)=za)(h:c=ze->0<=x/\x<n):0<=(bif c then x else 0)/\(bif c then x else 0)<n:=by
 cases c
 ·cases hb
 ·exact h rfl
theorem nf5{a b:Int}(h:(bif a != b then ze else za)=za):a=b:=by
 have h':(a != b)=za:=by cases e:(a != b)<;>rw[e]at h<;>first|rfl|cases h
 simpa using h'
theorem nf4{x:Bool}(h:(bif x then ze else za)=za):x=za:=by cases x;rfl;cases h
theorem nf3{p:Bool}{a b:Int}(h:(bif (bif p then ze else a != b)then ze else za)=za):a=b:=by
 cases p
 ·have h':(a != b)=za:=by cases e:(a != b)<;>rw[e]at h<;>first|rfl|cases h
  simpa using h'
 ·cases h
theorem Wd{n:Nat}{k:IntKind}{st st':Bool}{ks:Ks}{f f':Value->Bool×V}(h:∀a,(f (.int k a)).1=(f' (.int k a)).1/\Le n (f (.int k a)).2 (f' (.int k a)).2):LeK n (.Zm (.int k) st f ks) (.Zm (.int k) st' f' Option.none):=LeK.Zm λv hv=>by
 cases v with
 |int k' a=>have e:k=k':=of_decide_eq_true hv;subst e;exact h a
 |_=>cases hv
end Go.Fw
namespace Go.Fw
@[reducible] def vi (x:Int):V:=.int false .i64 x
@[reducible] def ci (x:Int) (t:V):V:=.cons (.int false .i64 x) t
@[reducible] def pt (b:Nat):V:=.ptr true b 0 0 0
def rowK(KR:List Nat)(rs:V):Nat->V:=look (λ_=>.junk) (putT KR rs .nil)
def nfR(KR:List Nat):Blk->Blk
 | .rng f ps asg bd row N st pd=>.rng f ps asg bd (rowK KR (rowOf (KR.map row))) N st pd
 |b=>b
theorem Zmr(row:Nat->V):∀(KR:List Nat)(t:PT V),(∀j,look (λ_=>V.junk) t j=row j\/look (λ_=>V.junk) t j=.junk)->∀j,look (λ_=>V.junk) (putT KR (rowOf (KR.map row)) t) j=row j\/look (λ_=>V.junk) (putT KR (rowOf (KR.map row)) t) j=.junk:=by
 intro KR
 induction KR with
 |nil=>
  intro t h
  exact h
 |cons k ks ih=>
  intro t h
  refine ih (t.set k (row k)) λj=>?_<;>grind[refine,Yj]
variable{n:Nat}
theorem LeK.nfR(KR:List Nat)(b:Blk):LeK n b (nfR KR b):=by
 cases b with
 |rng f ps asg bd row N st pd=>
  refine⟨λe=>(by cases e),λF w m B hb=>?_⟩
  obtain⟨l,r,e,hc,h1,h2,h3,h4,h5,h6,h7⟩:=hb
  refine⟨l,r,e,hc,h1,h2,h3,h4,h5,h6,λi=>?_⟩
  rcases Zmr row KR .nil (λj=>.inr rfl) i with h|h<;>simp_all[Zmr,R,rowK,rowOf]
 |_=>exact LeK.refl _
theorem LeK.trans{x y z:Blk}(h1:LeK n x y)(h2:LeK n y z):LeK n x z:=⟨λe=>h2.1 (h1.1 e),λF w m B h=>h2.2 F w m B (h1.2 F w m B h)⟩
variable{KR:List Nat}
theorem X8.nfR:∀{xs ys:List Blk},X8 n (xs.map (Go.Fw.nfR KR)) ys->X8 n xs ys:=by
 intro xs
 induction xs with
 |nil=>grind
 |cons x xs ih=>
  intro ys h
  cases ys with
  |nil=>exact h.elim
  |cons y ys=>exact⟨(LeK.nfR KR x).trans h.1,ih h.2⟩
def vwR(n1 n0 N0:Nat)(KT:List Nat)(KH:List (Nat×Src))(KR:List Nat){B:Base}(x:St B):Bool×V×List Blk:=let v:=vwN n1 n0 N0 KT KH x;(v.1,v.2.1,v.2.2.map (nfR KR))
variable{f:FuncId}
theorem LeK.rngS{ps:List Nat}{asg bd:Code}{row:Nat->V}{rs:V}{N st:Nat}{pd:Option Ex}(h:(rowOf (KR.map row)).soft=rs.soft):LeK n (.rng f ps asg bd row N st pd) (.rng f ps asg bd (rowK KR rs) N st pd):=⟨λe=>(by cases e),λF w m B hb=>by
 obtain⟨l,r,e,hc,h1,h2,h3,h4,h5,h6,h7⟩:=hb
 refine⟨l,r,e,hc,h1,h2,h3,h4,h5,h6,Zms (g:=λj=>r.tmps.getD j Go.undef) KR rs .nil (λj=>by show R F w .junk n _ _;simp only[R]) ?_⟩
 refine(Le.soft h F w m).2 _ (Zmw (F:=F) (w:=w) (n:=n) (m:=m) (g:=λj=>r.tmps.getD j Go.undef) KR (by simp) λi k v hk hv=>?_)
 rw[List.getElem?_map,hk]at hv
 injection hv with hv
 rw[<- hv]
 exact h7 k⟩
theorem Zql{B:Base}{P:Program}{E:Env}(hE:E.Ok)(hP:E.P=P){k:Nat}{b:Code}(hin:∀b'∈Y4 b,WL P f b'){n1 n0 N0:Nat}{KT:List Nat}{KH:List (Nat×Src)}(N:Nat)(ts:Nat->V)(ys:Nat->List Blk)(Good:Nat->Prop)(Φ:Ex×St B->Prop)
{T:Nat->Tree (Ex×Bool×V×List Blk)}(hT:∀i,((ev E k f b B (YN n0 N0 KT KH (ts i) (ys i))).bind λx=>zx (x.1,vwR n1 n0 N0 KT KH KR x.2))=T i)
  (step:∀i,i<=N->Good i->(T i).holds P λy=>match y.1 with
   | .normal=>y.2.1=ze/\i<N/\Good (i+1)/\Le n0 y.2.2.1 (ts (i+1))/\X8 n0 y.2.2.2 (ys (i+1))
   |e=>y.2.1=ze/\∃ts' ys',Le n0 y.2.2.1 ts'/\X8 n0 y.2.2.2 ys'/\Φ (e,YN n0 N0 KT KH ts' ys'))
  {s:St B}(hn:s.n=n1)(h0:Good 0)(hs:Qv n1 n0 N0 KT KH s (ts 0) (ys 0)):U5 P b s Φ:=by
 refine Zi8 hE hP hin N ts ys Good Φ (T:=λi=>(ev E k f b B (YN n0 N0 KT KH (ts i) (ys i))).bind λx=>zx (x.1,vwN n1 n0 N0 KT KH x.2)) (λi=>rfl) (λi hi hg=>?_) hn h0 hs
 have h:=step i hi hg
 rw[<- hT i,Tree.YC]at h
 rw[Tree.YC]
 refine Tree.XT _ (λx hx=>?_) h
 obtain⟨e,x⟩:=x
 cases e with
 |normal=>exact⟨hx.1,hx.2.1,hx.2.2.1,hx.2.2.2.1,hx.2.2.2.2.nfR⟩
 |exit id=>obtain⟨h1,ts',ys',h2,h3,h4⟩:=hx;exact⟨h1,ts',ys',h2,h3.nfR,h4⟩
 |ret=>obtain⟨h1,ts',ys',h2,h3,h4⟩:=hx;exact⟨h1,ts',ys',h2,h3.nfR,h4⟩
end Go.Fw
namespace Go.Fw
abbrev Rd:Type:=Ex×Bool×V×List Blk
def Tree.early:Tree Rd->Bool
 | .leaf y=>match y.1 with
  | .normal=>za
  |_=>ze
 | .node b t f=>bif b then t.early else f.early
 | .need _ t=>t.early
 |_=>ze
variable{A:Type}
def Tree.carry(rd:V->List Blk->A)(z:A):Tree Rd->A
 | .leaf y=>match y.1 with
  | .normal=>rd y.2.2.1 y.2.2.2
  |_=>z
 | .node b t f=>bif b then t.carry rd z else f.carry rd z
 | .need _ t=>t.carry rd z
 |_=>z
variable{α:Type}
def Tree.leaves(p:α->Prop):Tree α->Prop
 | .leaf y=>p y
 | .node _ t f=>t.leaves p/\f.leaves p
 | .need _ t=>t.leaves p
 |_=>True
theorem Tree.Zp2{P:Program}{rd:V->List Blk->A}{z:A}{p:Rd->Prop}:∀T:Tree Rd,T.pre->T.leaves p->T.holds P λy=>p y/\(match y.1 with
  | .normal=>T.early=za/\T.carry rd z=rd y.2.2.1 y.2.2.2
  |_=>T.early=ze):=by
 intro T
 induction T with
 |leaf y=>
  intro _ h
  refine⟨h,?_⟩
  obtain⟨e,y⟩:=y
  cases e<;>first|exact⟨rfl,rfl⟩|rfl
 |node b t f iht ihf=>
  intro h hl
  refine⟨λhb=>Tree.XT t (λy hy=>⟨hy.1,?_⟩) (iht (h.1 hb) hl.1),λhb=>Tree.XT f (λy hy=>⟨hy.1,?_⟩) (ihf (h.2 hb) hl.2)⟩
  all_goals
   subst hb
   obtain⟨e,y⟩:=y
   have h2:=hy.2
   cases e<;>exact h2
 |need p t ih=>
  intro h hl
  refine⟨h.1,Tree.XT t (λy hy=>⟨hy.1,?_⟩) (ih h.2 hl)⟩
  obtain⟨e,y⟩:=y
  have h2:=hy.2
  cases e<;>exact h2
 |_=>intro h;exact h.elim
theorem cS{c:Bool}{x y v:α}(h1:x=v)(h2:y=v):(bif c then x else y)=v:=by cases c;exact h2;exact h1
theorem cC{c:Bool}{x y x' y':α}(h1:x=x')(h2:y=y'):(bif c then x else y)=bif c then x' else y':=by cases c;exact h2;exact h1
def Zb1(n0:Nat)(t1:A->V)(y1:A->List Blk)(rd:V->List Blk->A)(eex:Ex)(ets:V)(eys:List Blk)(y:Rd):Prop:=match y.1 with
 | .normal=>y.2.1=ze/\Le n0 y.2.2.1 (t1 (rd y.2.2.1 y.2.2.2))/\X8 n0 y.2.2.2 (y1 (rd y.2.2.1 y.2.2.2))
 |e=>y.2.1=ze/\e=eex/\Le n0 y.2.2.1 ets/\X8 n0 y.2.2.2 eys
theorem Yg{n:Nat}:∀ys:List Blk,X8 n ys ys:=by
 intro ys
 induction ys with
 |nil=>trivial
 |cons y ys ih=>exact⟨LeK.refl _,ih⟩
theorem loop_gen{B:Base}{P:Program}{E:Env}(hE:E.Ok)(hP:E.P=P){k:Nat}{f:FuncId}{b:Code}(hin:∀b'∈Y4 b,WL P f b'){n1 n0 N0:Nat}{KT:List Nat}{KH:List (Nat×Src)}{KR:List Nat}(N:Nat)(ts:Int->A->V)(ys:Int->A->List Blk)(ex eex:Ex)(hex:ex≠.normal)
{c:Int->Bool}{R:Int->A->Tree Rd}(hT:∀(B:Base) i z,((ev E k f b B (YN n0 N0 KT KH (ts i z) (ys i z))).bind λx=>zx (x.1,vwR n1 n0 N0 KT KH KR x.2))=.node (c i) (.leaf (ex,ze,ts i z,ys i z)) (R i z))
  (hc:∀i:Nat,i<=N->(c i=ze↔i=N)){a0:A}{step:Nat->A->A}{bad:Nat->Bool}{rd:Nat->A->V->List Blk->A}{ets:Int->A->V}{eys:Int->A->List Blk}
  (hstep:∀(i:Nat) z,(R i z).carry (rd i z) z=step i z)(hbad:∀i:Nat,(R i (ZQ a0 step i)).early=bad i)
  (hpre:∀i:Nat,i<N->(∀j,j<i->bad j=za)->(R i (ZQ a0 step i)).pre)
  (hlv:∀i:Nat,i<N->(∀j,j<i->bad j=za)->(R i (ZQ a0 step i)).leaves (Zb1 n0 (ts ((i+1:Nat):Int)) (ys ((i+1:Nat):Int)) (rd i (ZQ a0 step i)) eex (ets i (ZQ a0 step i)) (eys i (ZQ a0 step i))))
  {Q:Ex×St B->Prop}(he:Zv bad N=ze->Q (eex,YN n0 N0 KT KH (ets (Yc bad N 0:Nat) (ZQ a0 step (Yc bad N 0))) (eys (Yc bad N 0:Nat) (ZQ a0 step (Yc bad N 0)))))
  (hq:Zv bad N=za->Q (ex,YN n0 N0 KT KH (ts (N:Nat) (ZQ a0 step N)) (ys (N:Nat) (ZQ a0 step N))))
  {s:St B}(hn:s.n=n1)(hs:Qv n1 n0 N0 KT KH s (ts (0:Nat) a0) (ys (0:Nat) a0)):U5 P b s Q:=by
 refine Zql hE hP hin N (λi=>ts i (ZQ a0 step i)) (λi=>ys i (ZQ a0 step i)) (λi=>∀j,j<i->bad j=za) Q (λi=>hT B i _) (λi hi hg=>?_) hn (λj hj=>absurd hj (Nat.not_lt_zero j)) hs
 refine⟨λh=>?_,λh=>?_⟩
 ·have e:=(hc i hi).1 h
  subst e
  have h1:=hq (Zcj hg)
  cases ex with
  |normal=>grind
  |exit id=>exact⟨rfl,_,_,Le.refl _,Yg _,h1⟩
  |ret=>exact⟨rfl,_,_,Le.refl _,Yg _,h1⟩
 ·have hlt:i<N:=by
   grind
  refine Tree.XT _ (λy hy=>?_) (Tree.Zp2 (rd:=rd i (ZQ a0 step i)) (z:=ZQ a0 step i) _ (hpre i hlt hg) (hlv i hlt hg))
  obtain⟨e,y⟩:=y
  obtain⟨h1,h2⟩:=hy
  have early:e=eex->(R i (ZQ a0 step i)).early=ze->y.1=ze->Le n0 y.2.1 (ets i (ZQ a0 step i))->X8 n0 y.2.2 (eys i (ZQ a0 step i))->y.1=ze/\∃ts' ys',Le n0 y.2.1 ts'/\X8 n0 y.2.2 ys'/\Q (e,YN n0 N0 KT KH ts' ys'):=λh3 h4 h5 h6 h7=>by
   grind[ZfX,Zev]
  cases e with
  |normal=>
   obtain⟨h3,h4,h5⟩:=h1
   obtain⟨k1,k2⟩:=h2
   rw[hbad]at k1
   rw[hstep]at k2
   have e2:ZQ a0 step (i+1)=rd i (ZQ a0 step i) y.2.1 y.2.2:=k2
   grind
  |exit id=>exact early h1.2.1 h2 h1.1 h1.2.2.1 h1.2.2.2
  |ret=>exact early h1.2.1 h2 h1.1 h1.2.2.1 h1.2.2.2
end Go.Fw
namespace Go.Fw
def sEq(n0:Nat):V->V->Prop
 | .cons h t,.cons h' t'=>sEq n0 h h'/\sEq n0 t t'
 | .Zl,.osl _ b _ _ n=>n=0/\b<n0
 | .Zl,.rsl _ _ n _=>n=0
 |v,v'=>v.soft=v'.soft
variable{n0:Nat}
theorem sEq_le:∀v v':V,sEq n0 v v'->Le n0 v v':=by
 intro v
 induction v with
 |cons h t ih1 ih2=>
  intro v' e
  cases v'<;>first|exact Le.soft e|exact Le.cons (ih1 _ e.1) (ih2 _ e.2)
 |Zl=>
  intro v' e
  cases v'<;>first|exact Le.soft e|(obtain⟨rfl,h⟩:=e;exact Le.Zl h)|(obtain rfl:=e;exact λF w m=>⟨λx hx=>U4 hx,λxs hx=>by simp only[RL]at hx⟩)
 |_=>intro v' e;cases v'<;>exact Le.soft e
def V.hasOsl:V->Bool
 | .cons h t=>h.hasOsl||t.hasOsl
 | .osl ..=>ze
 |_=>za
def vEq(n0:Nat)(v v':V):Prop:=match v'.hasOsl with
 |true=>sEq n0 v v'
 |false=>v.soft=v'.soft
theorem vEq_le{v v':V}(h:vEq n0 v v'):Le n0 v v':=by
 unfold vEq at h
 split at h
 ·exact sEq_le _ _ h
 ·exact Le.soft h
def blkEq(n0:Nat)(KR:List Nat):Blk->Blk->Prop
 | .var c,.var c'=>vEq n0 c c'
 | .Zm (.int k) _ f _,.Zm (.int k') _ f' zm=>k=k'/\YR k f' f
 | .none,.arr _ n _=>n=0
 | .arr es n g,.arr es' n' g'=>es=es'/\n=n'/\∀j,(g j).soft=(g' j).soft
 | .rng f ps asg bd row N st pd,.rng f' ps' asg' bd' row' N' st' pd'=>f=f'/\ps=ps'/\asg=asg'/\bd=bd'/\N=N'/\st=st'/\pd=pd'/\(rowOf (KR.map row)).soft=(rowOf (KR.map row')).soft
 |_,_=>False
variable{KR:List Nat}
theorem blkEq_le{b b':Blk}(h:blkEq n0 KR b b'):LeK n0 b (nfR KR b'):=by
 unfold blkEq at h
 split at h
 ·exact LeK.var (vEq_le h)
 ·obtain⟨rfl,hm⟩:=h
  exact Wd λa=>⟨(hm a).1.symm,Le.soft (hm a).2.symm⟩
 ·subst h;exact LeK.none
 ·obtain⟨rfl,rfl,hg⟩:=h
  exact LeK.QL rfl λj _=>hg j
 ·obtain⟨rfl,rfl,rfl,rfl,rfl,rfl,rfl,hr⟩:=h
  exact LeK.rngS hr
 ·exact h.elim
def Ze1(n0:Nat)(KR:List Nat):List Blk->List Blk->Prop
 |[],[]=>True
 |b::l,b'::l'=>blkEq n0 KR b b'/\Ze1 n0 KR l l'
 |_,_=>False
theorem blksEq_le:∀{l l':List Blk},Ze1 n0 KR l l'->X8 n0 l (l'.map (nfR KR)):=by
 intro l
 induction l with
 |nil=>intro l' h;cases l' with|nil=>trivial|cons=>exact h.elim
 |cons b l ih=>intro l' h;cases l' with|nil=>exact h.elim|cons b' l'=>exact⟨blkEq_le h.1,ih h.2⟩
def lpG(f:FuncId)(id n1 n0 N0:Nat)(KT:List Nat)(KH:List (Nat×Src))(KR:List Nat)(t0:V)(y0:List Blk)(R:(B:Base)->Tree (Ex×St B)):Lp:=⟨f,id,λB s=>match vwN n1 n0 N0 KT KH s with
 |(ze,t,bl)=>bif zo s.n n1 then .need (vEq n0 t t0/\Ze1 n0 KR bl y0) (R B)else .stuck
 |_=>.stuck⟩
def V.oslN:V->Nat
 | .osl _ _ _ _ n=>n
 |_=>0
def Blk.Kg:Blk->Nat->V
 | .arr _ _ g=>g
 |_=>λ_=>.nil
theorem Zi9{P:Program}{E:Env}(hE:E.Ok)(hP:E.P=P){k:Nat}{f:FuncId}{id n1 N0:Nat}{KT:List Nat}{KH:List (Nat×Src)}(h1:Zbz P f id=ze){A:Type}(N:Nat)(ts:Int->A->V)(ys:Int->A->List Blk)(ex eex:Ex)(hex:ex≠.normal)
{c:Int->Bool}{R:Int->A->Tree Rd}(hT:∀(B:Base) i z,((ev E k f (JD P f id) B (YN n0 N0 KT KH (ts i z) (ys i z))).bind λx=>zx (x.1,vwR n1 n0 N0 KT KH KR x.2))=.node (c i) (.leaf (ex,ze,ts i z,ys i z)) (R i z))
  (hc:∀i:Nat,i<=N->(c i=ze↔i=N)){a0:A}{step:Nat->A->A}{bad:Nat->Bool}{rd:Nat->A->V->List Blk->A}{ets:Int->A->V}{eys:Int->A->List Blk}
  (hstep:∀(i:Nat) z,(R i z).carry (rd i z) z=step i z)(hbad:∀i:Nat,(R i (ZQ a0 step i)).early=bad i)
  (hpre:∀i:Nat,i<N->(∀j,j<i->bad j=za)->(R i (ZQ a0 step i)).pre)
  (hlv:∀i:Nat,i<N->(∀j,j<i->bad j=za)->(R i (ZQ a0 step i)).leaves (Zb1 n0 (ts ((i+1:Nat):Int)) (ys ((i+1:Nat):Int)) (rd i (ZQ a0 step i)) eex (ets i (ZQ a0 step i)) (eys i (ZQ a0 step i))))
{Rs:(B:Base)->Tree (Ex×St B)}(hR:∀B(Q:Ex×St B->Prop),(Rs B).holds P Q->(Zv bad N=ze->Q (eex,YN n0 N0 KT KH (ets (Yc bad N 0:Nat) (ZQ a0 step (Yc bad N 0))) (eys (Yc bad N 0:Nat) (ZQ a0 step (Yc bad N 0)))))/\(Zv bad N=za->Q (ex,YN n0 N0 KT KH (ts (N:Nat) (ZQ a0 step N)) (ys (N:Nat) (ZQ a0 step N)))))
  (hy:(ys (0:Nat) a0).map (nfR KR)=ys (0:Nat) a0):(lpG f id n1 n0 N0 KT KH KR (ts (0:Nat) a0) (ys (0:Nat) a0) Rs).Ok P:=by
 refine VU h1 λhin B s Q hq=>?_
 dsimp only[lpG]at hq hin⊢
 split at hq
 ·rename_i t bl heq
  cases hsn:zo s.n n1
  ·rw[hsn]at hq;exact hq.elim
  ·rw[hsn]at hq
   obtain⟨⟨h2,h3⟩,hq⟩:=hq
   have hr:=hR B Q hq
   exact loop_gen hE hP hin N ts ys ex eex hex hT hc hstep hbad hpre hlv hr.1 hr.2 (zP hsn) ⟨by rw[heq],by rw[heq];exact vEq_le h2,by rw[heq,<- hy];exact blksEq_le h3⟩
 ·exact hq.elim
theorem YL{A:Type}{ts:Int->A->V}{x y:Int}(h:x=y){v:V}{a:A}(hv:v.soft=(ts x a).soft):Le n0 v (ts y a):=by subst h;exact Le.soft hv
theorem YK{N:Nat}(i:Nat)(h:i<=N):(bif decide ((i:Int)<((N:Nat):Int))then za else ze)=ze↔i=N:=by
 by_cases e:(i:Int)<((N:Nat):Int)
 ·rw[decide_eq_true e];exact⟨λh=>(by cases h),λh=>by omega⟩
 ·rw[decide_eq_false e];exact⟨λ_=>by omega,λ_=>rfl⟩
section
variable{A:Type}(P:Program)(E:Env)(f:FuncId)(id n1 n0 N0:Nat)(KT:List Nat)(KH:List (Nat×Src))(KR:List Nat)(ts:Int->A->V)(ys:Int->A->List Blk)
def Yo(c:Int->Bool)(ex:Ex)(R:Int->A->Tree Rd):Prop:=∀(B:Base) i z,((ev E 400 f (JD P f id) B (YN n0 N0 KT KH (ts i z) (ys i z))).bind λx=>zx (x.1,vwR n1 n0 N0 KT KH KR x.2))=.node (c i) (.leaf (ex,ze,ts i z,ys i z)) (R i z)
def lpL(ex eex:Ex)(a0:A)(acc:Nat->A)(bad:Nat->Bool)(N:Nat)(ets:Int->A->V)(eys:Int->A->List Blk):Lp:=lpG f id n1 n0 N0 KT KH KR (ts (0:Nat) a0) (ys (0:Nat) a0) λ_=>
 .node (Zv bad N) (.leaf (eex,YN n0 N0 KT KH (ets (Yc bad N 0:Nat) (acc (Yc bad N 0))) (eys (Yc bad N 0:Nat) (acc (Yc bad N 0))))) (.leaf (ex,YN n0 N0 KT KH (ts (N:Nat) (acc N)) (ys (N:Nat) (acc N))))
def JE(ex:Ex)(a0:A)(acc:Nat->A)(N:Nat):Lp:=lpG f id n1 n0 N0 KT KH KR (ts (0:Nat) a0) (ys (0:Nat) a0) λ_=>.leaf (ex,YN n0 N0 KT KH (ts (N:Nat) (acc N)) (ys (N:Nat) (acc N)))
def YW(a0:A)(t:V)(bl:List Blk):Prop:=vEq n0 t (ts (0:Nat) a0)/\Ze1 n0 KR bl (ys (0:Nat) a0)
end
section
variable{P:Program}{E:Env}{f:FuncId}{id n1 n0 N0:Nat}{KT:List Nat}{KH:List (Nat×Src)}{KR:List Nat}
variable{A:Type}{ex:Ex}{bad:Nat->Bool}{N:Nat}{c:Int->Bool}
theorem Xg{ts:Int->A->V}{ys:Int->A->List Blk}{eex:Ex}{a0:A}{acc:Nat->A}{ets:Int->A->V}{eys:Int->A->List Blk}(hE:E.Ok)(hP:E.P=P)(h1:Zbz P f id=ze){R:Int->A->Tree Rd}(hT:Yo P E f id n1 n0 N0 KT KH KR ts ys c ex R)(hex:ex≠.normal)(hc:∀i:Nat,i<=N->(c i=ze↔i=N))
  {step:Nat->A->A}(hacc:∀n,acc n=ZQ a0 step n){rd:A->V->List Blk->A}(hstep:∀(i:Nat) z,(R i z).carry (rd z) z=step i z)(hbad:∀i:Nat,(R i (ZQ a0 step i)).early=bad i)(hy:(ys (0:Nat) a0).map (nfR KR)=ys (0:Nat) a0)
  (hpre:∀i:Nat,i<N->(∀j,j<i->bad j=za)->(R i (acc i)).pre)(hlv:∀(i:Nat)(z:A),i<N->(R i z).leaves (Zb1 n0 (ts ((i+1:Nat):Int)) (ys ((i+1:Nat):Int)) (rd z) eex (ets i z) (eys i z))):(lpL f id n1 n0 N0 KT KH KR ts ys ex eex a0 acc bad N ets eys).Ok P:=by
 obtain rfl:acc=ZQ a0 step:=funext hacc
 exact Zi9 hE hP h1 N ts ys ex eex hex hT hc (rd:=λ_=>rd) hstep hbad hpre (λi hi _=>hlv i _ hi) (λB Q h=>h) hy
theorem lpL_okA{ts:Int->A->V}{ys:Int->A->List Blk}{eex:Ex}{a0:A}{acc:Nat->A}{ets:Int->A->V}{eys:Int->A->List Blk}(hE:E.Ok)(hP:E.P=P)(h1:Zbz P f id=ze){R:Int->A->Tree Rd}(hT:Yo P E f id n1 n0 N0 KT KH KR ts ys c ex R)(hex:ex≠.normal)(hc:∀i:Nat,i<=N->(c i=ze↔i=N))
  {step:Nat->A->A}(hacc:∀n,acc n=ZQ a0 step n){rd:A->V->List Blk->A}(hstep:∀(i:Nat) z,(R i z).carry (rd z) z=step i z)(hbad:∀i:Nat,(R i (ZQ a0 step i)).early=bad i)(hy:(ys (0:Nat) a0).map (nfR KR)=ys (0:Nat) a0)
  (hpre:∀i:Nat,i<N->(∀j,j<i->bad j=za)->(R i (acc i)).pre)(hlv:∀i:Nat,i<N->(∀j,j<i->bad j=za)->(R i (acc i)).leaves (Zb1 n0 (ts ((i+1:Nat):Int)) (ys ((i+1:Nat):Int)) (rd (acc i)) eex (ets i (acc i)) (eys i (acc i)))):(lpL f id n1 n0 N0 KT KH KR ts ys ex eex a0 acc bad N ets eys).Ok P:=by
 obtain rfl:acc=ZQ a0 step:=funext hacc
 exact Zi9 hE hP h1 N ts ys ex eex hex hT hc (rd:=λ_=>rd) hstep hbad hpre hlv (λB Q h=>h) hy
theorem JY{ts:Int->A->V}{ys:Int->A->List Blk}{a0:A}{acc:Nat->A}(hE:E.Ok)(hP:E.P=P)(h1:Zbz P f id=ze){R:Int->A->Tree Rd}(hT:Yo P E f id n1 n0 N0 KT KH KR ts ys c ex R)(hex:ex≠.normal)(hc:∀i:Nat,i<=N->(c i=ze↔i=N))
  {step:Nat->A->A}(hacc:∀n,acc n=ZQ a0 step n){rd:A->V->List Blk->A}(hstep:∀(i:Nat) z,(R i z).carry (rd z) z=step i z)(hbad:∀i:Nat,(R i (ZQ a0 step i)).early=za)(hy:(ys (0:Nat) a0).map (nfR KR)=ys (0:Nat) a0)
  (hpre:∀i:Nat,i<N->True->(R i (acc i)).pre)(hlv:∀(i:Nat)(z:A),i<N->(R i z).leaves (Zb1 n0 (ts ((i+1:Nat):Int)) (ys ((i+1:Nat):Int)) (rd z) .ret .nil [])):(JE f id n1 n0 N0 KT KH KR ts ys ex a0 acc N).Ok P:=by
 obtain rfl:acc=ZQ a0 step:=funext hacc
 exact Zi9 hE hP h1 N ts ys ex .ret hex hT hc (rd:=λ_=>rd) (ets:=λ_ _=>.nil) (eys:=λ_ _=>[]) (bad:=λ_=>za) hstep hbad (λi hi _=>hpre i hi trivial) (λi hi _=>hlv i _ hi) (λB Q h=>⟨λh2=>(by rw[Zcj λ_ _=>rfl]at h2;cases h2),λ_=>h⟩) hy
theorem exN{i:Nat}:Ex.exit i≠.normal:=λh=>by cases h
theorem hcBy{q:Int->Prop}[∀i,Decidable (q i)](h:∀i:Nat,i<=N->(q i↔i<N))(i:Nat)(hi:i<=N):(bif decide (q i)then za else ze)=ze↔i=N:=by
 by_cases hx:q i
 ·rw[decide_eq_true hx]
  exact⟨λh=>(by cases h),λe=>absurd ((h i hi).1 hx) (by omega)⟩
 ·rw[decide_eq_false hx]
  exact⟨λ_=>(by
   have h2:¬i<N:=λh3=>hx ((h i hi).2 h3)
   omega),λ_=>rfl⟩
end
end Go.Fw
namespace Go.Fw
def Wk(r r':V×List Blk):Prop:=∀(base:Nat)(m:Nat->Option Nat)(F:Nat->Prop)(w:World)(x:Value),HR base m F (λb=>r.2.getD b .none) r.2.length w->R F w r.1 r.2.length m x->
 ∃m',Ext base m F r.2.length w m' F r'.2.length w/\HR base m' F (λb=>r'.2.getD b .none) r'.2.length w/\R F w r'.1 r'.2.length m' x
theorem Wk.refl(r:V×List Blk):Wk r r:=λbase m F w x hr hx=>⟨m,Ext.refl _ _ _ _ _,hr,hx⟩
theorem Wk.nil(es:Nat)(g:Nat->V):Wk (.Zl,[]) (.osl za 0 es 0 0,[.arr es 0 g]):=by
 intro base m F w x hr hx
 refine⟨λc=>if c=0 then zm else m c,(Ext.refl base m F 0 w).name (B:=zm) (λk hk=>by cases hk),hr.name (n:=0) (B:=zm) (blk:=.arr es 0 g) (λk hk=>by cases hk) (λc=>?_) (.inl ⟨rfl,rfl⟩),?_⟩
 ·cases c with
  |zero=>rfl
  |succ c=>rfl
 ·simp only[R]at hx
  subst hx
  rw[YE]
  exact⟨Nat.zero_lt_one,zm,0,rfl,zJ _,.inl rfl⟩
variable{g:FuncId}
theorem YG.weak{P:Program}{args:V}{bl:List Blk}{T T':Tree (V×List Blk)}(H:YG P g args bl T)(hw:∀Q:V×List Blk->Prop,T'.holds P Q->T.holds P λr=>∃r',Q r'/\Wk r r'):YG P g args bl T':=by
 intro base m F w xs Q KK hr ha hq hk
 refine H base m F w xs _ KK hr ha (hw Q hq) ?_
 rintro v bl' ⟨⟨v',bl''⟩,hQ,hwk⟩ m' F' w' x he hr' hx
 obtain⟨m2,h1,h2,h3⟩:=hwk base m' F' w' x hr' hx
 exact hk v' bl'' hQ m2 F' w' x (he.trans h1) h2 h3
theorem VF{E:Env}(hE:E.Ok){es by_ n:Nat}{get:Nat->V}(hhas:Has E.P g)
  (hT:ZU E 400 g (.cons (.rsl za es n get) .nil)=.both (.given (n=0) (.leaf .Zl)) (.need (True/\fits n by_/\∀j,j<n->(get j).Y6=ze/\(get j).clean=ze) (.need (0+n<=n) (.leaf (.rsl za es n λj=>get (0+j))))))
  (hl:n<=1000)(hb:1000*by_<=140737488355328)(hc:∀j,(get j).Y6=ze/\(get j).clean=ze):Zi E.P g (.cons (.rsl za es n get) .nil) (.rsl za es n get):=by
 refine ZgB hE (k:=400) hhas ?_
 rw[hT]
 have hcl:(V.rsl za es n get).clean=ze:=rfl
 refine⟨λh0 F w k m x hx=>?_,⟨trivial,⟨Nat.le_trans (yw _ hl) hb,by omega⟩,λj _=>hc j⟩,by omega,λF w k m x hx=>?_⟩
 ·simp only[R]at hx
  subst hx h0
  rw[Wi]
  exact⟨zm,0,rfl,zJ _,.inl rfl⟩
 ·rw[show(λj=>get (0+j))=get from funext λj=>by rw[z8]]at hx
  exact(Qf _ hcl k 0 m _).1 x hx
def Za0{A:Type}(es:Nat)(cells:A->V)(rd:V->A):HK:=λargs bl=>match args,bl with
 | .cons (.rsl _ es' n get) .nil,[]=>bif zo es es' then zk (.need (n<=1000/\∀j,(get j).soft=cells (rd (get j))) (.leaf (.osl za 0 es 0 n,[.arr es n λj=>cells (rd (get j))])))else zm
 |_,_=>zm
theorem ZfA{E:Env}(hE:E.Ok){A:Type}{es by_:Nat}{cells:A->V}{rd:V->A}
  (hT:∀(n:Nat)(r:Nat->A),evH E 400 g (.cons (.rsl za es n λj=>cells (r j)) .nil) []=.both (.given (n=0) (.leaf (.Zl,[]))) (.need (True/\fits n by_/\∀j,j<n->(cells (r j)).Y6=ze/\(cells (r j)).clean=ze) (.leaf (.osl za 0 es 0 n,[.arr es n λj=>cells (r j)]))))
  (hb:1000*by_<=140737488355328)(hc:∀a,(cells a).Y6=ze/\(cells a).clean=ze):Xj E.P g (Za0 es cells rd):=by
 intro args bl T h
 unfold Za0 at h
 split at h
 case h_2=>cases h
 rename_i st es' n get
 cases he:zo es es'
 ·rw[he]at h;cases h
 rw[he]at h
 obtain rfl:=zP he
 injection h with h
 subst h
 intro base m F w xs Q KK h1 h2 hq hk
 obtain⟨⟨hl,hs⟩,hq⟩:=hq
 have h2':=((Y0 (.cons (.rsl st es n get) .nil) 0 m).2 xs.toList).2 h2
 rw[show V.soft (.cons (.rsl st es n get) .nil)=.cons (.rsl za es n λj=>(get j).soft) .nil from rfl,show(λj=>(get j).soft)=λj=>cells (rd (get j))from funext hs]at h2'
 refine YG.weak (hk_at hE 400 (T:=evH E 400 g (.cons (.rsl za es n λj=>cells (rd (get j))) .nil) []) λQ hQ=>Tree.XT _ (λr hr=>⟨r,hr,rfl,rfl⟩) hQ) (T':=.leaf (.osl za 0 es 0 n,[.arr es n λj=>cells (rd (get j))])) (λQ hQ=>?_) base m F w xs Q KK h1 h2' hq hk
 rw[hT]
 refine⟨λh0=>?_,⟨trivial,⟨Nat.le_trans (yw _ hl) hb,by omega⟩,λj _=>hc _⟩,_,hQ,Wk.refl _⟩
 subst h0
 exact⟨_,hQ,Wk.nil _ _⟩
end Go.Fw
end
