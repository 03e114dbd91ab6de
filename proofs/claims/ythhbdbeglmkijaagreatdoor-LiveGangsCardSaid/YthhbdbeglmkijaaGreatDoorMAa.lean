/- Maps: what is found in a row of entries, behind what is put there and taken away. -/
import Derived.WalkKit
import Derived.MapKept
import Derived.RangeFuncRecord
import Derived.Maps.RangeRun
import GoSem.Instr.MapUpdate
import GoSem.Builtin.Delete
import Derived.Laws.Cells
import Derived.ChangeKeysEq
import Derived.CallsIn
import Derived.TacticsIn
import Derived.OrdersIn
set_option maxRecDepth 100000
set_option linter.unusedVariables false
set_option linter.unusedSimpArgs false
noncomputable section
open Bool renaming true→ze,false→za,and_eq_true→zL
open Option renaming some→zi,none→zm
open Nat renaming beq→zq,eq_of_beq_eq_true→zO,le_refl→zI,not_lt_zero→yB
namespace Go.Fw
inductive MK where
 |int (k:IntKind)
 |str
def MK.is:MK->Value->Bool
 | .int k,.int k' _=>decide (k=k')
 | .str,.string _=>ze
 |_,_=>za
def MK.of:MK->TypeDesc->Bool
 | .int k,.int k'=>decide (k=k')
 | .str,.string=>ze
 |_,_=>za
def ZO:Value->Value->Bool
 | .int _ a,.int _ b=>a==b
 | .string a,.string b=>a==b
 |_,_=>za
theorem bytes_eq(a b:ByteArray):(a==b)=ze↔a=b:=by
 cases a
 cases b
 rename_i x y
 show(x==y)=ze↔_
 grind
variable{kd:MK}{x:Value}
theorem Jf{y:Value}(hx:kd.is x=ze)(hy:kd.is y=ze):ZO x y=ze↔x=y:=by
 cases kd with
 |int k=>
  cases x<;>try(cases hx;done)
  rename_i k1 a
  cases y<;>try(cases hy;done)
  grind[MK.is,ZO]
 |str=>
  cases x<;>try(cases hx;done)
  cases y<;>try(cases hy;done)
  grind[ZO,bytes_eq]
variable{d:TypeDesc}
theorem Zrk{y:Value}(hd:kd.of d=ze)(hx:kd.is x=ze)(hy:kd.is y=ze):Instr.sameNow d x y=zi (ZO x y):=by
 cases kd with
 |int k=>
  cases d<;>try(cases hd;done)
  cases x<;>try(cases hx;done)
  rename_i k1 a
  cases y<;>try(cases hy;done)
  rename_i k2 b
  simp only[MK.is,decide_eq_true_eq]at hx hy
  subst hx;subst hy
  simp[Instr.sameNow,ZO]
 |str=>
  cases d<;>try(cases hd;done)
  cases x<;>try(cases hx;done)
  cases y<;>try(cases hy;done)
  simp[Instr.sameNow,ZO]
def Y6(key:Value):List MapEntry->Option (Nat×Value)
 |[]=>zm
 |e::es=>match ZO key e.key with
  |true=>zi (0,e.val)
  |false=>(Y6 key es).map λp=>(p.1+1,p.2)
theorem ZpG{key:Value}(hd:kd.of d=ze)(hk:kd.is key=ze):∀(es:List MapEntry)(i:Nat),(∀e∈es,kd.is e.key=ze)->
  Instr.findNow d key es i=zi ((Y6 key es).map λp=>(i+p.1,p.2)):=by
 intro es
 induction es with
 |nil=>
  intro i _
  rfl
 |cons e es ih=>
  intro i h
  simp only[Instr.findNow,Zrk hd hk (h e (by simp)),Y6]
  cases ZO key e.key
  ·dsimp only
   rw[ih (i+1) λe he=>h e (List.mem_cons_of_mem _ he)]
   cases Y6 key es<;>grind
  ·rfl
structure Entries(kd:MK)(es:List MapEntry):Prop where
 is:∀e∈es,kd.is e.key=ze
 one:(es.map (·.key)).Nodup
theorem Entries.nil:Entries kd []:=⟨λe h=>(by cases h),List.nodup_nil⟩
def Xq(key:Value)(es:List MapEntry):Option Value:=(Y6 key es).map (·.2)
abbrev Ks:=Option (Nat×List (Nat×Value))
def Qw(e:MapEntry):Nat×Value:=(e.born,e.key)
structure KG(kd:MK)(ks:Ks)(es:Array MapEntry)(clock:Nat):Prop where
 ent:Entries kd es.toList
 told:∀c l,ks=zi (c,l)->clock=c/\es.toList.map Qw=l
theorem KG.unk{es:Array MapEntry}{clock:Nat}(h:Entries kd es.toList):KG kd zm es clock:=⟨h,λ_ _ e=>by cases e⟩
def putKs(put lit:Bool)(ks:Ks)(key:Value):Ks:=
 match put,lit with
 |true,ze=>match ks with
  |some (c,l)=>bif l.any (λe=>ZO key e.2)then zi (c,l)else zi (c+1,l++[(c,key)])
  |none=>zm
 |_,_=>zm
theorem Zdo{key:Value}:∀es:List MapEntry,Y6 key es=zm↔∀e∈es,ZO key e.key=za:=by
 intro es
 induction es with
 |nil=>simp[Y6]
 |cons e es ih=>
  simp only[Y6,List.mem_cons,forall_eq_or_imp]
  cases h:ZO key e.key<;>simp_all
theorem Zgc{key:Value}:∀(es:List MapEntry){i:Nat}{v:Value},Y6 key es=zi (i,v)->∃e,es[i]? =zi e/\ZO key e.key=ze/\e.val=v:=by
 intro es
 induction es with
 |nil=>
  intro i v h
  cases h
 |cons e es ih=>
  intro i v h
  simp only[Y6]at h
  cases hk:ZO key e.key
  ·rw[hk]at h
   dsimp only at h
   cases hm:Y6 key es<;>grind
  grind
variable{k v:Value}
theorem Zqv{key:Value}{v:Value}{c:Nat}:∀(es:List MapEntry),Y6 key es=zm->Xq k (es++[{ key,val:=v,born:=c }])=(match ZO k key with
  |true=>(match Xq k es with|some x=>zi x|none=>zi v)
  |false=>Xq k es):=by
 intro es
 induction es with
 |nil=>grind[Xq,Y6,ZO]
 |cons e es ih=>
  intro h
  have h':=Zdo (e::es)|>.1 h
  have h2:Y6 key es=zm:=(Zdo es).2 λe he=>h' e (List.mem_cons_of_mem _ he)
  have:=ih h2
  simp only[Xq,List.cons_append,Y6]at this⊢
  cases hk:ZO k e.key
  ·dsimp only
   rw[Option.map_map,Option.map_map]
   exact this
  grind
theorem Zqw{key v:Value}(hkey:kd.is key=ze)(hk:kd.is k=ze):∀(es:List MapEntry){i:Nat}{x:Value},(∀e∈es,kd.is e.key=ze)->Y6 key es=zi (i,x)->
  Xq k (es.modify i λe=>{ e with key,val:=v })=(match ZO k key with|true=>zi v|false=>Xq k es):=by
 intro es
 induction es with
 |nil=>
  intro i x _ h
  cases h
 |cons e es ih=>
  intro i x his h
  have he:=his e (by simp)
  simp only[Y6]at h
  cases hke:ZO key e.key
  ·rw[hke]at h
   dsimp only at h
   cases hm:Y6 key es with
   |none=>grind
   |some p=>
    rw[hm]at h
    simp only[Option.map_some,Option.some.injEq,Prod.mk.injEq]at h
    obtain⟨rfl,rfl⟩:=h
    have:=ih (i:=p.1) (x:=p.2) (λe he=>his e (List.mem_cons_of_mem _ he)) hm
    simp only[List.modify_succ_cons,Xq,Y6]at this⊢
    cases hk2:ZO k e.key
    ·dsimp only
     rw[Option.map_map,Option.map_map]
     exact this
    grind[Jf,ZO]
  grind[Jf,Xq,Y6,ZO]
variable{es:List MapEntry}
theorem Entries.push{key v:Value}{c:Nat}(h:Entries kd es)(hk:kd.is key=ze)(hn:Y6 key es=zm):Entries kd (es++[{ key,val:=v,born:=c }]):=by
 refine⟨λe he=>?_,?_⟩
 ·rcases List.mem_append.1 he with h1|h1
  ·exact h.is e h1
  grind
 ·rw[List.map_append,List.nodup_append]
  refine⟨h.one,by simp,λa ha b hb=>?_⟩
  grind[Zdo,Jf]
theorem ZqR{key v:Value}:∀(es:List MapEntry)(i:Nat),(∀e,es[i]? =zi e->e.key=key)->(es.modify i λe=>{ e with key,val:=v }).map (·.key)=es.map (·.key):=by
 intro es
 induction es<;>grind
theorem Entries.set{key v:Value}{i:Nat}(h:Entries kd es)(hk:kd.is key=ze)(hf:Y6 key es=zi (i,x)):Entries kd (es.modify i λe=>{ e with key,val:=v }):=by
 have hkeys:(es.modify i λe=>{ e with key,val:=v }).map (·.key)=es.map (·.key):=ZqR es i λe he=>by
  obtain⟨e',h1,h2,_⟩:=Zgc es hf
  rw[he]at h1
  injection h1 with h1
  subst h1
  exact((Jf hk (h.is e (List.mem_of_getElem? he))).1 h2).symm
 refine⟨λe he=>?_,by rw[hkeys];exact h.one⟩
 have:e.key∈es.map (·.key):=by
  grind
 obtain⟨e',h1,h2⟩:=List.mem_map.1 this
 rw[<- h2]
 exact h.is e' h1
theorem Zqu{key:Value}(hkey:kd.is key=ze)(hk:kd.is k=ze):∀(es:List MapEntry){i:Nat}{x:Value},Entries kd es->Y6 key es=zi (i,x)->
  Xq k (es.eraseIdx i)=(match ZO k key with|true=>zm|false=>Xq k es):=by
 intro es
 induction es with
 |nil=>
  intro i x _ h
  cases h
 |cons e es ih=>
  intro i x hE h
  have he:=hE.is e (by simp)
  have hE':Entries kd es:=⟨λe he=>hE.is e (List.mem_cons_of_mem _ he),(List.nodup_cons.1 hE.one).2⟩
  simp only[Y6]at h
  cases hke:ZO key e.key
  ·rw[hke]at h
   dsimp only at h
   cases hm:Y6 key es with
   |none=>grind
   |some p=>
    rw[hm]at h
    simp only[Option.map_some,Option.some.injEq,Prod.mk.injEq]at h
    obtain⟨rfl,rfl⟩:=h
    have:=ih (i:=p.1) (x:=p.2) hE' hm
    simp only[List.eraseIdx_cons_succ,Xq,Y6]at this⊢
    cases hk2:ZO k e.key
    ·dsimp only
     rw[Option.map_map,Option.map_map]
     exact this
    grind[Jf,ZO]
  ·rw[hke]at h
   simp only[Option.some.injEq,Prod.mk.injEq]at h
   obtain⟨rfl,rfl⟩:=h
   have e1:=(Jf hkey he).1 hke
   have hnot:∀e'∈es,e'.key≠key:=λe' he' h3=>(List.nodup_cons.1 hE.one).1 (List.mem_map.2 ⟨e',he',h3.trans e1⟩)
   simp only[List.eraseIdx_cons_zero,Xq,Y6]
   cases hk2:ZO k key
   ·have:ZO k e.key=za:=by
     grind
    rw[this,Option.map_map]
    rfl
   ·have e2:=(Jf hk hkey).1 hk2
    dsimp only
    have:Y6 k es=zm:=(Zdo es).2 λe' he'=>by
     cases h4:ZO k e'.key
     ·rfl
     ·exact absurd ((Jf hk (hE'.is e' he')).1 h4).symm (by rw[e2];exact hnot e' he')
    grind
theorem Entries.erase{i:Nat}(h:Entries kd es):Entries kd (es.eraseIdx i):=
 ⟨λe he=>h.is e (List.mem_of_mem_eraseIdx he),by
  have:List.Sublist ((es.eraseIdx i).map (·.key)) (es.map (·.key)):=(List.eraseIdx_sublist es i).map _
  exact this.nodup h.one⟩
end Go.Fw
namespace Go.Fw
section
variable{P:Program}{w:World}{t kt et:TypeId}{d:TypeDesc}{kd:MK}{r:Nat}{es:Array MapEntry}{clock:Nat}{key:Value}
theorem Zf2(hkd:kd.of d=ze)(hk:kd.is key=ze):MapKept.IsKey d key:=by
 cases kd<;>cases d<;>first|(cases hkd;done)|skip
 ·cases key<;>first|(cases hk;done)|skip
  simp only[MK.of,MK.is,decide_eq_true_eq]at hkd hk
  subst hkd;subst hk;rfl
 ·cases key<;>first|(cases hk;done)|trivial
theorem ZdN(hd:P.underlying kt=zi d)(hkd:kd.of d=ze)(hE:Entries kd es.toList)(hk:kd.is key=ze):(Instr.findKey kt key es.toList).run P w=.ok (Y6 key es.toList) w:=by
 refine MapKept.run_findKey hd ?_
 rw[ZpG hkd hk es.toList 0 hE.is]
 simp_all
theorem Zmh{lit:Bool}{ks:Ks}{key:Value}{c:Nat}{l:List (Nat×Value)}(h:putKs ze lit ks key=zi (c,l)) :
  ∃c0 l0,ks=zi (c0,l0)/\(bif l0.any (λe=>ZO key e.2)then(c0,l0)else(c0+1,l0++[(c0,key)]))=(c,l)/\lit=ze:=by
 cases lit with
 |false=>cases h
 |true=>
  cases ks with
  |none=>cases h
  |some p=>
   obtain⟨c0,l0⟩:=p
   refine⟨c0,l0,rfl,?_,rfl⟩
   grind[putKs,ZO]
theorem ZqQ{key v:Value}:∀(es:List MapEntry)(i:Nat),(∀e,es[i]? =zi e->e.key=key)->(es.modify i λe=>{ e with key,val:=v }).map Qw=es.map Qw:=by
 intro es
 induction es<;>grind[List.modify_zero_cons,Qw,List.modify_succ_cons]
theorem Zrj(hm:P.underlying t=zi (.map kt et))(hd:P.underlying kt=zi d)(hkd:kd.of d=ze)(hb:w.heap[r]? =zi (.map es clock))(hE:Entries kd es.toList)(hk:kd.is key=ze)(v:Value) :
  ∃es' clock',(Instr.mapUpdate t (.map (zi r)) key v).run P w=.ok () (w.putObj r (.map es' clock'))/\Entries kd es'.toList/\(∀k,kd.is k=ze->Xq k es'.toList=(match ZO k key with|true=>zi v|false=>Xq k es.toList))/\∀(lit:Bool)(ks:Ks),KG kd ks es clock->KG kd (putKs ze lit ks key) es' clock':=by
 have hK:=Zf2 hkd hk
 cases hf:Y6 key es.toList with
 |none=>
  refine⟨es.push { key,val:=v,born:=clock },clock+1,?_,?_,λk hk'=>?_,λlit ks ho=>⟨by rw[Array.toList_push];exact hE.push hk hf,λc l e=>?_⟩⟩
  ·have h1:=ZdN (w:=w) hd hkd hE hk
   rw[hf]at h1
   simp[Instr.mapUpdate,run_underlying hm,MapKept.run_getObj_map hb,MapKept.run_checkKey hd hK,h1,MapKept.run_setObj_map _ hb,Result.andThen,World.putObj]
  ·rw[Array.toList_push]
   exact hE.push hk hf
  ·grind[Array.toList_push,Zqv,ZO,Jf,Xq]
  ·obtain⟨c0,l0,h1,h2,rfl⟩:=Zmh e
   obtain⟨rfl,rfl⟩:=ho.told _ _ h1
   grind[Qw,ZO,List.any_eq_false,Zdo,Array.toList_push]
 |some p=>
  obtain⟨i,x⟩:=p
  refine⟨es.modify i λe=>{ e with key,val:=v },clock,?_,?_,λk hk'=>?_,λlit ks ho=>⟨by rw[Array.toList_modify];exact hE.set hk hf,λc l e=>?_⟩⟩
  ·have h1:=ZdN (w:=w) hd hkd hE hk
   rw[hf]at h1
   obtain⟨e,he1,he2,he3⟩:=Zgc es.toList hf
   have he4:e.key=key:=((Jf hk (hE.is e (List.mem_of_getElem? he1))).1 he2).symm
   have he5:es[i]? =zi e:=by
    grind
   simp[Instr.mapUpdate,run_underlying hm,MapKept.run_getObj_map hb,MapKept.run_checkKey hd hK,h1,he5,he4,MapKept.run_keyThatStays hK,MapKept.run_setObj_map _ hb,Result.andThen,World.putObj]
  ·rw[Array.toList_modify]
   exact hE.set hk hf
  ·rw[Array.toList_modify]
   exact Zqw hk hk' es.toList hE.is hf
  ·obtain⟨c0,l0,h1,h2,rfl⟩:=Zmh e
   obtain⟨rfl,rfl⟩:=ho.told _ _ h1
   obtain⟨e1,he1,he2,he3⟩:=Zgc es.toList hf
   have he4:e1.key=key:=((Jf hk (hE.is e1 (List.mem_of_getElem? he1))).1 he2).symm
   have hany:(es.toList.map Qw).any (λe=>ZO key e.2)=ze:=by
    rw[List.any_eq_true]
    exact⟨Qw e1,List.mem_map.2 ⟨e1,List.mem_of_getElem? he1,rfl⟩,he2⟩
   simp_all[Array.toList_modify,ZqQ]
theorem Zmr(hm:P.underlying t=zi (.map kt et))(hd:P.underlying kt=zi d)(hkd:kd.of d=ze)(hb:w.heap[r]? =zi (.map es clock))(hE:Entries kd es.toList)(hk:kd.is key=ze){z:Value}(hz:(zeroValue et).run P w=.ok z w)(ok:Bool) :
  (Instr.lookup t (.map (zi r)) key ok).run P w=.ok (if ok then .tuple #[((Xq key es.toList).getD z),.bool (Xq key es.toList).isSome]else(Xq key es.toList).getD z) w:=by
 have hK:=Zf2 hkd hk
 have h1:=ZdN (w:=w) hd hkd hE hk
 unfold Xq
 cases hf:Y6 key es.toList with
 |none=>
  rw[hf]at h1
  cases ok<;>simp[Instr.lookup,run_underlying hm,MapKept.run_getObj_map hb,MapKept.run_checkKey hd hK,h1,hz,Result.andThen]
 |some p=>
  rw[hf]at h1
  cases ok<;>simp[Instr.lookup,run_underlying hm,MapKept.run_getObj_map hb,MapKept.run_checkKey hd hK,h1,Result.andThen]
theorem Zrh(hm:P.underlying t=zi (.map kt et))(hd:P.underlying kt=zi d)(hkd:kd.of d=ze)(hk:kd.is key=ze){z:Value}(hz:(zeroValue et).run P w=.ok z w)(ok:Bool) :
  (Instr.lookup t (.map zm) key ok).run P w=.ok (if ok then .tuple #[z,.bool za]else z) w:=by
 have hK:=Zf2 hkd hk
 have h1:=ZdN (w:=w) (es:=#[]) hd hkd Entries.nil hk
 cases ok<;>simp[Instr.lookup,run_underlying hm,MapKept.run_checkKey hd hK,h1,hz,Y6,Result.andThen]
theorem run_erase(hm:P.underlying t=zi (.map kt et))(hd:P.underlying kt=zi d)(hkd:kd.of d=ze)(hb:w.heap[r]? =zi (.map es clock))(hE:Entries kd es.toList)(hk:kd.is key=ze)(ty:TypeId)(ts:Array TypeId)(hts:ts[0]? =zi t) :
  ∃es' clock',(Builtin.delete_ ts ty #[.map (zi r),key]).run P w=.ok (.tuple #[]) (w.putObj r (.map es' clock'))/\Entries kd es'.toList/\∀k,kd.is k=ze->Xq k es'.toList=(match ZO k key with|true=>zm|false=>Xq k es.toList):=by
 have hK:=Zf2 hkd hk
 have h1:=ZdN (w:=w) hd hkd hE hk
 cases hf:Y6 key es.toList with
 |none=>
  rw[hf]at h1
  refine⟨es,clock,?_,hE,λk hk'=>?_⟩
  ·simp[Builtin.delete_,hts,run_underlying hm,MapKept.run_getObj_map hb,MapKept.run_checkKey hd hK,h1,MapKept.run_setObj_map _ hb,Result.andThen,World.putObj]
  grind[ZO,Jf,Xq]
 |some p=>
  obtain⟨i,x⟩:=p
  rw[hf]at h1
  obtain⟨e,he1,_,_⟩:=Zgc es.toList hf
  have hi:i<es.size:=by
   grind
  have hel:(es.eraseIdxIfInBounds i).toList=es.toList.eraseIdx i:=by
   simp_all
  refine⟨es.eraseIdxIfInBounds i,clock,?_,by rw[hel];exact hE.erase,λk hk'=>?_⟩
  ·simp[Builtin.delete_,hts,run_underlying hm,MapKept.run_getObj_map hb,MapKept.run_checkKey hd hK,h1,MapKept.run_setObj_map _ hb,Result.andThen,World.putObj]
  grind[Zqu]
end
def leftL(seen:List Nat)(l:List (Nat×Value)):List (Nat×Value):=l.filter λe=>!seen.contains e.1
def oldL(since:Nat):List (Nat×Value)->Bool
 |[]=>ze
 |e::l=>Nat.blt e.1 since&&((l.all λx=>!zq x.1 e.1)&&oldL since l)
theorem ZlZ{since:Nat}:∀{l:List (Nat×Value)},oldL since l=ze->(∀x∈l,x.1<since)/\(l.map (·.1)).Nodup:=by
 intro l
 induction l with
 |nil=>grind
 |cons e l ih=>
  intro h
  simp only[oldL,zL,List.all_eq_true]at h
  obtain⟨h1,h2,h3⟩:=h
  obtain⟨k1,k2⟩:=ih h3
  refine⟨λx hx=>?_,?_⟩
  ·rcases List.mem_cons.1 hx with hx|hx
   ·simp_all
   grind
  ·rw[List.map_cons]
   refine List.nodup_cons.2 ⟨λhm=>?_,k2⟩
   obtain⟨x,hx,e1⟩:=List.mem_map.1 hm
   have:=h2 x hx
   simp_all
theorem Zlv(seen:List Nat)(es:Array MapEntry):(leftOf es seen.toArray).toList.map Qw=leftL seen (es.toList.map Qw):=by
 unfold leftOf leftL
 rw[Array.toList_filter,List.filter_map]
 congr 1
 refine List.filter_congr λe _=>?_
 grind[Qw]
theorem ZlL{kd:MK}:∀{es:List MapEntry},Entries kd es->∀e∈es,Xq e.key es=zi e.val:=by
 intro es
 induction es with
 |nil=>grind
 |cons x es ih=>
  intro hE e he
  have hE':Entries kd es:=⟨λe he=>hE.is e (List.mem_cons_of_mem _ he),(List.nodup_cons.1 hE.one).2⟩
  simp only[Xq,Y6]
  rcases List.mem_cons.1 he with rfl|he'
  ·rw[(Jf (hE.is _ he) (hE.is _ he)).2 rfl]
   rfl
  ·cases hk:ZO e.key x.key
   ·simp_all[Option.map_map,Xq]
   ·exact absurd (List.mem_map.2 ⟨e,he',(Jf (hE.is _ he) (hE.is _ (by simp))).1 hk⟩) (List.nodup_cons.1 hE.one).1
end Go.Fw
namespace Go.Fw
inductive V where
 |junk
 |undef
 |nil
 |cons (h t:V)
 |int (st:Bool) (k:IntKind) (n:Int)
 |bool (st:Bool) (b:Bool)
 |str (st:Bool) (s:List UInt8)
 |agg (cs:V)
 |tup (vs:V)
 |ptr (st:Bool) (b es i o:Nat)
 |rptr (st:Bool) (es n:Nat) (get:Nat->V) (i o:Nat)
 |nilptr
 |rsl (st:Bool) (es n:Nat) (get:Nat->V)
 |osl (st:Bool) (b es i n:Nat)
 |osp (st:Bool) (b es i n c:Nat)
 |Zo
 |fn (f:Fn) (first cap:V)
 |nilfn
 |nilmap
 |nilif
 |yld (b:Nat)
 |mp (b:Nat)
 |ifc (st b:Bool)
 |esl (nn:Bool) (es:Nat)
 |rmp (st:Bool) (kd:MK) (has:Value->Bool) (get:Value->V)
inductive PT(α:Type) where
 |nil
 |fill (v:α)
 |node (v:Option α) (l r:PT α)
section
variable{α β:Type}
def PT.get:PT α->Nat->Option α
 | .nil,_=>zm
 | .fill v,_=>zi v
 | .node v l r,i=>bif zq i 0 then v else bif zq (i%2) 1 then l.get (i/2)else r.get (i/2-1)
def PT.Qt(k:Nat):PT α->Nat->α->PT α:=Nat.rec (λt _ _=>t) (λ_ ih t i x=>
 match t with
 | .nil=>bif zq i 0 then .node (zi x) .nil .nil else bif zq (i%2) 1 then .node zm (ih .nil (i/2) x) .nil else .node zm .nil (ih .nil (i/2-1) x)
 | .fill v=>bif zq i 0 then .node (zi x) (.fill v) (.fill v)else bif zq (i%2) 1 then .node (zi v) (ih (.fill v) (i/2) x) (.fill v)else .node (zi v) (.fill v) (ih (.fill v) (i/2-1) x)
 | .node v l r=>bif zq i 0 then .node (zi x) l r else bif zq (i%2) 1 then .node v (ih l (i/2) x) r else .node v l (ih r (i/2-1) x)) k
def PT.set(t:PT α)(i:Nat)(x:α):PT α:=PT.Qt (i+1) t i x
def PT.Zdw(v:α):PT α->PT α
 | .nil=>.fill v
 | .fill x=>.fill x
 | .node v' l r=>.node (match v' with|some x=>zi x|none=>zi v) (l.Zdw v) (r.Zdw v)
def PT.over:PT α->PT α->PT α
 | .nil,u=>u
 | .fill v,u=>u.Zdw v
 | .node v l r,u=>match u with
  | .nil=>.node v l r
  | .fill x=>.fill x
  | .node v' l' r'=>.node (match v' with|some x=>zi x|none=>v) (l.over l') (r.over r')
def PT.idx(f:Nat->β):PT α->Nat->Nat->PT β
 | .nil,_,_=>.nil
 | .fill _,_,_=>.nil
 | .node v l r,a,b=>.node (match v with|some _=>zi (f b)|none=>zm) (l.idx f (2*a) (a+b)) (r.idx f (2*a) (2*a+b))
def PT.both(f:Nat->β):PT α->PT α->Nat->Nat->PT β
 | .nil,u,a,b=>u.idx f a b
 | .fill _,_,_,_=>.nil
 | .node v l r,u,a,b=>match u with
  | .nil=>(PT.node v l r).idx f a b
  | .fill _=>.nil
  | .node v' l' r'=>.node (match v with|some _=>zi (f b)|none=>match v' with|some _=>zi (f b)|none=>zm) (l.both f l' (2*a) (a+b)) (r.both f r' (2*a) (2*a+b))
def PT.QI(p:Nat->Bool):PT α->Nat->Nat->Bool
 | .nil,_,_=>ze
 | .fill _,_,_=>za
 | .node v l r,a,b=>(match v with|some _=>p b|none=>ze)&&(l.QI p (2*a) (a+b)&&r.QI p (2*a) (2*a+b))
def PT.fin:PT α->Bool
 | .nil=>ze
 | .fill _=>za
 | .node _ l r=>l.fin&&r.fin
theorem PT.JQ(p:Nat->Bool):∀(t:PT α)(a b:Nat),t.QI p a b=ze->t.fin=ze:=by
 intro t
 induction t with
 |nil=>intro a b _;rfl
 |fill v=>intro a b h;cases h
 |node v l r ihl ihr=>
  intro a b h
  simp only[PT.QI,zL]at h
  simp only[PT.fin,zL]
  exact⟨ihl _ _ h.2.1,ihr _ _ h.2.2⟩
theorem PT.get_setF(x:α):∀(k:Nat)(t:PT α)(i j:Nat),i<k->(PT.Qt k t i x).get j=if j=i then zi x else t.get j:=by
 intro k
 induction k with
 |zero=>intro t i j h;omega
 |succ k ih=>
  intro t i j h
  have e:PT.Qt (k+1) t i x=(match t with
   | .nil=>bif zq i 0 then .node (zi x) .nil .nil else bif zq (i%2) 1 then .node zm (PT.Qt k .nil (i/2) x) .nil else .node zm .nil (PT.Qt k .nil (i/2-1) x)
   | .fill v=>bif zq i 0 then .node (zi x) (.fill v) (.fill v)else bif zq (i%2) 1 then .node (zi v) (PT.Qt k (.fill v) (i/2) x) (.fill v)else .node (zi v) (.fill v) (PT.Qt k (.fill v) (i/2-1) x)
   | .node v l r=>bif zq i 0 then .node (zi x) l r else bif zq (i%2) 1 then .node v (PT.Qt k l (i/2) x) r else .node v l (PT.Qt k r (i/2-1) x)):=by cases t<;>rfl
  rw[e]
  have hb:∀a b:Nat,zq a b=decide (a=b):=λa b=>by
   cases h:zq a b
   ·exact(decide_eq_false λe=>by subst e;simp at h).symm
   ·exact(decide_eq_true (zO h)).symm
  cases t with
  |nil=>
   dsimp only
   rw[hb i 0,hb (i%2) 1]
   by_cases h0:i=0
   ·simp only[h0,decide_true,cond_true,PT.get,hb]
    by_cases hj:j=0<;>simp[hj]
   ·by_cases h1:i%2=1
    ·simp only[h0,h1,decide_false,decide_true,cond_true,cond_false,PT.get,hb]
     rw[ih _ _ _ (by omega)]
     by_cases hj:j=0
     ·simp[hj];omega
     ·by_cases hj1:j%2=1
      ·have e:(j/2=i/2)↔(j=i):=by omega
       simp[hj,hj1,e,PT.get]
      ·have:j≠i:=by omega
       simp[hj,hj1,this]
    ·simp only[h0,h1,decide_false,cond_false,PT.get,hb]
     rw[ih _ _ _ (by omega)]
     by_cases hj:j=0
     ·simp[hj];omega
     ·by_cases hj1:j%2=1
      ·have:j≠i:=by omega
       simp[hj,hj1,this]
      ·have e:(j/2-1=i/2-1)↔(j=i):=by omega
       simp[hj,hj1,e,PT.get]
  |fill v=>
   dsimp only
   rw[hb i 0,hb (i%2) 1]
   by_cases h0:i=0
   ·simp only[h0,decide_true,cond_true,PT.get,hb]
    by_cases hj:j=0<;>simp[hj]
   ·by_cases h1:i%2=1
    ·simp only[h0,h1,decide_false,decide_true,cond_true,cond_false,PT.get,hb]
     rw[ih _ _ _ (by omega)]
     by_cases hj:j=0
     ·simp[hj];omega
     ·by_cases hj1:j%2=1
      ·have e:(j/2=i/2)↔(j=i):=by omega
       simp[hj,hj1,e,PT.get]
      ·have:j≠i:=by omega
       simp[hj,hj1,this]
    ·simp only[h0,h1,decide_false,cond_false,PT.get,hb]
     rw[ih _ _ _ (by omega)]
     by_cases hj:j=0
     ·simp[hj];omega
     ·by_cases hj1:j%2=1
      ·have:j≠i:=by omega
       simp[hj,hj1,this]
      ·have e:(j/2-1=i/2-1)↔(j=i):=by omega
       simp[hj,hj1,e,PT.get]
  |node v l r=>
   dsimp only
   rw[hb i 0,hb (i%2) 1]
   by_cases h0:i=0
   ·simp only[h0,decide_true,cond_true,PT.get,hb]
    by_cases hj:j=0<;>simp[hj]
   ·by_cases h1:i%2=1
    ·simp only[h0,h1,decide_false,decide_true,cond_true,cond_false,PT.get,hb]
     rw[ih _ _ _ (by omega)]
     by_cases hj:j=0
     ·simp[hj];omega
     ·by_cases hj1:j%2=1
      ·have e:(j/2=i/2)↔(j=i):=by omega
       simp[hj,hj1,e]
      ·have:j≠i:=by omega
       simp[hj,hj1,this]
    ·simp only[h0,h1,decide_false,cond_false,PT.get,hb]
     rw[ih _ _ _ (by omega)]
     by_cases hj:j=0
     ·simp[hj];omega
     ·by_cases hj1:j%2=1
      ·have:j≠i:=by omega
       simp[hj,hj1,this]
      ·have e:(j/2-1=i/2-1)↔(j=i):=by omega
       simp[hj,hj1,e]
theorem PT.get_set(t:PT α)(i:Nat)(x:α)(j:Nat):(t.set i x).get j=if j=i then zi x else t.get j:=PT.get_setF x (i+1) t i j (Nat.lt_succ_self i)
theorem PT.get_over:∀(t u:PT α)(i:Nat),(t.over u).get i=match u.get i with|some x=>zi x|none=>t.get i:=by
 intro t
 induction t with
 |nil=>intro u i;simp only[PT.over,PT.get];cases u.get i<;>rfl
 |fill v=>
  intro u
  show ∀i,(u.Zdw v).get i=match u.get i with|some x=>zi x|none=>zi v
  induction u with
  |nil=>intro i;rfl
  |fill x=>intro i;rfl
  |node v' l r ihl ihr=>
   intro i
   simp only[PT.Zdw,PT.get]
   cases zq i 0
   ·cases zq (i%2) 1
    ·simp only[cond_false];exact ihr _
    ·simp only[cond_false,cond_true];exact ihl _
   ·simp only[cond_true]
 |node v l r ihl ihr=>
  intro u i
  cases u with
  |nil=>simp only[PT.over,PT.get]
  |fill x=>simp only[PT.over,PT.get]
  |node v' l' r'=>
   simp only[PT.over,PT.get]
   cases zq i 0
   ·cases zq (i%2) 1
    ·simp only[cond_false];exact ihr _ _
    ·simp only[cond_false,cond_true];exact ihl _ _
   ·simp only[cond_true]
theorem place0(a b i:Nat)(h:zq i 0=ze):a*i+b=b:=by rw[zO h];simp
theorem place1(a b i:Nat)(h:zq (i%2) 1=ze):a*i+b=2*a*(i/2)+(a+b):=by
 have:=zO h
 have e:i=2*(i/2)+1:=by omega
 generalize i/2=k at e
 subst e
 rw[Nat.mul_add,Nat.mul_one,<- Nat.mul_assoc,Nat.mul_comm a 2]
 omega
theorem place2(a b i:Nat)(h0:zq i 0=za)(h:zq (i%2) 1=za):a*i+b=2*a*(i/2-1)+(2*a+b):=by
 have h0':i≠0:=λe=>by subst e;cases h0
 have h1':i%2≠1:=λe=>by rw[e]at h;cases h
 have e:i=2*(i/2-1)+2:=by omega
 generalize i/2-1=k at e
 subst e
 rw[Nat.mul_add,<- Nat.mul_assoc,Nat.mul_comm a 2]
 omega
theorem PT.get_idx(f:Nat->β):∀(t:PT α)(a b i:Nat),t.fin=ze->(t.idx f a b).get i=match t.get i with|some _=>zi (f (a*i+b))|none=>zm:=by
 intro t
 induction t with
 |nil=>intro a b i _;rfl
 |fill v=>intro a b i h;cases h
 |node v l r ihl ihr=>
  intro a b i hf
  simp only[PT.fin,zL]at hf
  simp only[PT.idx,PT.get]
  cases h0:zq i 0
  ·cases h1:zq (i%2) 1
   ·simp only[cond_false];rw[ihr _ _ _ hf.2,place2 a b i h0 h1]
   ·simp only[cond_false,cond_true];rw[ihl _ _ _ hf.1,place1 a b i h1]
  ·simp only[cond_true];rw[place0 a b i h0]
theorem PT.get_both(f:Nat->β):∀(t u:PT α)(a b i:Nat),t.fin=ze->u.fin=ze->(t.both f u a b).get i=match t.get i,u.get i with|none,zm=>zm|_,_=>zi (f (a*i+b)):=by
 intro t
 induction t with
 |nil=>intro u a b i _ hu;simp only[PT.both,PT.get];rw[PT.get_idx _ _ _ _ _ hu];cases u.get i<;>rfl
 |fill v=>intro u a b i h;cases h
 |node v l r ihl ihr=>
  intro u a b i ht hu
  cases u with
  |nil=>simp only[PT.both];rw[PT.get_idx _ _ _ _ _ ht];simp only[PT.get];split<;>simp_all
  |fill v=>cases hu
  |node v' l' r'=>
   simp only[PT.fin,zL]at ht hu
   simp only[PT.both,PT.get]
   cases h0:zq i 0
   ·cases h1:zq (i%2) 1
    ·simp only[cond_false];rw[ihr _ _ _ _ ht.2 hu.2,place2 a b i h0 h1]
    ·simp only[cond_false,cond_true];rw[ihl _ _ _ _ ht.1 hu.1,place1 a b i h1]
   ·simp only[cond_true];rw[place0 a b i h0];cases v<;>cases v'<;>rfl
theorem PT.allK_get(p:Nat->Bool):∀(t:PT α)(a b:Nat),t.QI p a b=ze->∀i x,t.get i=zi x->p (a*i+b)=ze:=by
 intro t
 induction t with
 |nil=>intro a b _ i x h;cases h
 |fill v=>intro a b h;cases h
 |node v l r ihl ihr=>
  intro a b h i x hx
  simp only[PT.QI,zL]at h
  simp only[PT.get]at hx
  cases h0:zq i 0
  ·rw[h0]at hx
   cases h1:zq (i%2) 1
   ·rw[h1]at hx;rw[place2 a b i h0 h1];exact ihr _ _ h.2.2 _ _ hx
   ·rw[h1]at hx;rw[place1 a b i h1];exact ihl _ _ h.2.1 _ _ hx
  ·rw[h0]at hx
   simp only[cond_true]at hx
   subst hx
   rw[place0 a b i h0]
   exact h.1
end
def V.nth:V->Nat->V
 | .cons h t,i=>bif zq i 0 then h else t.nth (i-1)
 |_,_=>.junk
def V.len:V->Nat
 | .cons _ t=>t.len+1
 |_=>0
def V.drop:V->Nat->V
 | .cons h t,i=>bif zq i 0 then .cons h t else t.drop (i-1)
 |v,_=>v
def V.take:V->Nat->V
 | .cons h t,i=>bif zq i 0 then .nil else .cons h (t.take (i-1))
 |_,_=>.nil
def V.app:V->V->V
 | .cons h t,y=>.cons h (t.app y)
 |_,y=>y
def V.splice:V->Nat->V->V
 | .cons h t,o,vs=>bif zq o 0 then(match vs with| .cons x r=>.cons x (t.splice 0 r)|_=>.cons h t)else .cons h (t.splice (o-1) vs)
 |v,_,_=>v
def V.cells:V->V
 | .agg cs=>cs
 |v=>.cons v .nil
def V.ofList:List V->V
 |[]=>.nil
 |v::l=>.cons v (V.ofList l)
def V.clean:V->Bool
 | .cons h t=>h.clean&&t.clean
 | .agg cs=>cs.clean
 | .tup vs=>vs.clean
 | .ptr .. | .osl .. | .osp .. | .yld _| .mp _=>za
 | .fn _ a b=>a.clean&&b.clean
 |_=>ze
def V.solid:V->Bool
 | .junk| .nil| .cons _ _=>za
 |_=>ze
def V.cell:V->Bool
 | .junk| .nil| .cons _ _| .undef| .agg _| .tup _=>za
 |_=>ze
def V.YN:V->Bool
 | .nil=>ze
 | .cons h t=>h.cell&&t.YN
 |_=>za
def V.VG:Value->V
 | .int k n=>.int ze k n
 | .bool b=>.bool ze b
 | .string s=>.str ze s.data.toList
 | .pointer zm=>.nilptr
 | .slice zm 0 0=>.Zo
 | .map zm=>.nilmap
 | .nilFunc=>.nilfn
 | .nilIface=>.nilif
 | .func f first cap=>match first.toList,cap.toList with|[],[]=>.fn f .nil .nil|_,_=>.junk
 |_=>.junk
def V.ofValue:Value->V
 | .agg cs=>.agg (V.ofList (cs.toList.map V.VG))
 |v=>V.VG v
universe u
variable{β:Type u}
def Vr(m:Nat)(f:Nat->β):β:=Nat.rec (f 0) (λk _=>f (k+1)) m
theorem Za5(m:Nat)(f:Nat->β):Vr m f=f m:=by cases m<;>rfl
def ZfH(n:Int)(f:Int->β):β:=
 match n with
 | .ofNat m=>Vr m λm=>f (.ofNat m)
 | .negSucc m=>Vr m λm=>f (.negSucc m)
theorem ZpJ(n:Int)(f:Int->β):ZfH n f=f n:=by
 cases n<;>simp only[ZfH,Za5]
def mkInt(st:Bool)(k:IntKind)(n:Int):V:=
 match st with
 |true=>ZfH n λn=>.int ze k n
 |false=>.int za k n
theorem Wp(st:Bool)(k:IntKind)(n:Int):mkInt st k n=.int st k n:=by
 cases st<;>simp only[mkInt,ZpJ]
def Qq(st:Bool)(b:Bool):V:=
 match st with
 |true=>match b with|true=>.bool ze ze|false=>.bool ze za
 |false=>.bool za b
theorem KX(st:Bool)(b:Bool):Qq st b=.bool st b:=by
 cases st<;>cases b<;>rfl
inductive Ex where
 |normal
 |exit (id:Nat)
 |ret
def Ex.J8:Ex->Exit
 | .normal=>.normal
 | .exit id=>.exit id
 | .ret=>.ret
inductive Blk where
 |none
 |any
 |var (cs:V)
 |arr (es n:Nat) (get:Nat->V)
 |Zk (kd:MK) (st:Bool) (f:Value->Bool×V) (ks:Ks)
 |iter (mb:Option Nat) (since:Nat) (seen:List Nat) (last:Nat)
 |rng (f:FuncId) (ps:List Nat) (asg bd:Code) (row:Nat->V) (N:Nat) (st:Nat) (pend:Option Ex)
structure Base where
 t:Nat->V
 h:Nat->Blk
structure St(B:Base) where
 t:PT V
 h:PT Blk
 n:Nat
 N:Nat
variable{α:Type}
def look(d:Nat->α)(t:PT α)(i:Nat):α:=
 match t.get i with
 |some v=>v
 |none=>d i
theorem Yg(d:Nat->α)(t:PT α)(i:Nat)(x:α)(j:Nat):look d (t.set i x) j=if j=i then x else look d t j:=by
 unfold look
 rw[PT.get_set]
 by_cases h:j=i<;>simp[h]
theorem GR(d:Nat->α)(t:PT α){i j:Nat}(x:α)(h:j≠i):look d (t.set i x) j=look d t j:=by rw[Yg,if_neg h]
theorem Un(d:Nat->α)(t:PT α)(i:Nat)(x:α):look d (t.set i x) i=x:=by rw[Yg,if_pos rfl]
section
variable{B:Base}
abbrev St.tmp(s:St B)(i:Nat):V:=look B.t s.t i
abbrev St.blk(s:St B)(b:Nat):Blk:=look B.h s.h b
def St.put(s:St B)(dst:Option Tmp)(v:V):St B:=
 match dst with
 |some d=>{ s with t:=s.t.set d v }
 |none=>s
def St.bs(s:St B):Base:=⟨s.tmp,s.blk⟩
def St.sub(s:St B):St s.bs:=⟨.nil,.nil,s.n,s.N⟩
end
inductive Tree(α:Type):Type 1 where
 |leaf (a:α)
 |stuck
 |node (b:Bool) (t f:Tree α)
 |need (p:Prop) (t:Tree α)
 |all (σ:Type) (t:σ->Tree α)
 |given (p:Prop) (t:Tree α)
 |both (t f:Tree α)
def Tree.bind{β:Type}:Tree α->(α->Tree β)->Tree β
 | .leaf a,k=>k a
 | .stuck,_=>.stuck
 | .node b t f,k=>.node b (t.bind k) (f.bind k)
 | .need p t,k=>.need p (t.bind k)
 | .all σ t,k=>.all σ λx=>(t x).bind k
 | .given p t,k=>.given p (t.bind k)
 | .both t f,k=>.both (t.bind k) (f.bind k)
def Tree.flat:Tree α->Bool
 | .leaf _=>ze
 | .stuck=>ze
 | .node _ t f=>t.flat&&f.flat
 | .need _ t=>t.flat
 | .all ..=>za
 | .given ..=>za
 | .both ..=>za
section
variable(F:Nat->Prop)(w:World)
mutual
def R:V->Nat->(Nat->Option Nat)->Value->Prop
 | .junk,_,_,_=>True
 | .undef,_,_,x=>x=Go.undef
 | .nil,_,_,_=>False
 | .cons _ _,_,_,_=>False
 | .int _ k n,_,_,x=>x=.int k n
 | .bool _ b,_,_,x=>x=.bool b
 | .str _ s,_,_,x=>x=.string ⟨s.toArray⟩
 | .agg cs,n,m,x=>∃xs,x=.agg xs/\RL cs n m xs.toList
 | .tup vs,n,m,x=>∃xs,x=.tuple xs/\RL vs n m xs.toList
 | .ptr _ b es i o,n,m,x=>b<n/\∃B,x=.pointer (zi ⟨B,i*es+o,zm⟩)/\m b=zi B
 | .rptr _ es n' get i o,_,_,x=>i<n'/\∃B off,x=.pointer (zi ⟨B,off+i*es+o,zm⟩)/\F B/\∃c el fr,w.heap[B]? =zi (.cells c el fr)/\
   ∀j,j<n'->∃xs,RL (get j) 0 (λ_=>zm) xs/\xs.length=es/\∀q,q<es->c[off+j*es+q]? =xs[q]?
 | .nilptr,_,_,x=>x=.pointer zm
 | .rsl _ es n' get,_,_,x=>∃a cap,x=.slice a n' cap/\n'<=cap/\(n'=0\/∃B off,a=zi ⟨B,off,zm⟩/\F B/\∃c el fr,w.heap[B]? =zi (.cells c el fr)/\
   ∀j,j<n'->∃xs,RL (get j) 0 (λ_=>zm) xs/\xs.length=es/\∀q,q<es->c[off+j*es+q]? =xs[q]?)
 | .osl _ b es i n',n,m,x=>b<n/\∃a cap,x=.slice a n' cap/\n'<=cap/\(cap=0\/∃B c el fr,a=zi ⟨B,i*es,zm⟩/\m b=zi B/\w.heap[B]? =zi (.cells c el fr)/\(i+cap)*es<=c.size)
 | .osp _ b es i n' c',n,m,x=>b<n/\∃a cap,x=.slice a n' cap/\n'<=c'/\c'<=cap/\(cap=0\/∃B c el fr,a=zi ⟨B,i*es,zm⟩/\m b=zi B/\w.heap[B]? =zi (.cells c el fr)/\(i+cap)*es<=c.size)
 | .Zo,_,_,x=>x=.slice zm 0 0
 | .fn f first cap,n,m,x=>∃xs ys,x=.func f xs ys/\RL first n m xs.toList/\RL cap n m ys.toList
 | .nilfn,_,_,x=>x=.nilFunc
 | .nilmap,_,_,x=>x=.map zm
 | .nilif,_,_,x=>x=.nilIface
 | .yld b,n,m,x=>b<n/\∃l,x=.func (.yield l) #[] #[]/\m b=zi l
 | .mp b,n,m,x=>b<n/\∃B,x=.map (zi B)/\m b=zi B
 | .esl nn _,_,_,x=>∃a,x=.slice a 0 0/\(nn=ze->a≠zm)
 | .rmp _ kd has get,_,_,x=>∃B,x=.map (zi B)/\F B/\∃(es:Array MapEntry)(clock:Nat),w.heap[B]? =zi (.map es clock)/\Entries kd es.toList/\
   ∀k,kd.is k=ze->has k=(Xq k es.toList).isSome/\∀v,Xq k es.toList=zi v->R (get k) 0 (λ_=>zm) v
 | .ifc _ b,_,_,x=>(b=ze/\x=.nilIface)\/(b=za/\∃t v,x=.iface t v)
def RL:V->Nat->(Nat->Option Nat)->List Value->Prop
 | .nil,_,_,xs=>xs=[]
 | .cons h t,n,m,xs=>∃x r,xs=x::r/\R h n m x/\RL t n m r
 |_,_,_,_=>False
end
end
end Go.Fw
namespace Go.Fw
def Zae(k:IntKind):List Int->V
 |[]=>.nil
 |n::l=>.cons (.int ze k n) (Zae k l)
def tab0:List Int:=[0,1,28,2,29,14,24,3,30,22,20,15,25,17,4,8,31,27,13,23,21,19,16,7,26,12,18,6,11,5,10,9]
def glob:Nat->Option V
 |0=>zi (.rptr ze 32 1 (λ_=>Zae .u8 tab0) 0 0)
 |_=>zm
end Go.Fw
namespace Go.Fw
section
variable{F F':Nat->Prop}{w w':World}
def Yk(w w':World):Prop:=∀(B:Nat)(c:Array Value)(el:TypeId)(fr:Nat×Nat),w.heap[B]? =zi (Obj.cells c el fr)->∃(c':Array Value)(fr':Nat×Nat),w'.heap[B]? =zi (Obj.cells c' el fr')/\c'.size=c.size
theorem Yk.refl(w:World):Yk w w:=λ_ c _ fr h=>⟨c,fr,h,rfl⟩
theorem Yk.trans{w w1 w2:World}(h:Yk w w1)(h':Yk w1 w2):Yk w w2:=λB c el fr hB=>by
 obtain⟨c1,fr1,h1,e1⟩:=h B c el fr hB
 obtain⟨c2,fr2,h2,e2⟩:=h' B c1 el fr1 h1
 exact⟨c2,fr2,h2,e2.trans e1⟩
theorem Yk.Kt{w w':World}(h:∀B,B<w.heap.size->w'.heap[B]? =w.heap[B]?):Yk w w':=λB c el fr hB=>by
 rcases Nat.lt_or_ge B w.heap.size with h'|h'
 ·exact⟨c,fr,by rw[h B h'];exact hB,rfl⟩
 ·rw[Array.getElem?_eq_none h']at hB;cases hB
theorem Xj(hs:Yk w w')(hF:∀B,F B->F' B)(hw:∀B,F B->w'.heap[B]? =w.heap[B]?):∀(v:V)(n n':Nat)(m m':Nat->Option Nat),
  n<=n'->(∀b,b<n->∀B,m b=zi B->m' b=zi B)->
  (∀x,R F w v n m x->R F' w' v n' m' x)/\(∀xs,RL F w v n m xs->RL F' w' v n' m' xs):=by
 intro v
 induction v with
 |cons h t ih1 ih2=>
  intro n n' m m' hn hm
  refine⟨λx h=>by simp only[R]at h,λxs h=>?_⟩
  simp only[RL]at h⊢
  obtain⟨x,r,rfl,h1,h2⟩:=h
  exact⟨x,r,rfl,(ih1 n n' m m' hn hm).1 _ h1,(ih2 n n' m m' hn hm).2 _ h2⟩
 |agg cs ih=>
  intro n n' m m' hn hm
  refine⟨λx h=>?_,λxs h=>by simp only[RL]at h⟩
  simp only[R]at h⊢
  obtain⟨xs,rfl,h1⟩:=h
  exact⟨xs,rfl,(ih n n' m m' hn hm).2 _ h1⟩
 |tup cs ih=>
  intro n n' m m' hn hm
  refine⟨λx h=>?_,λxs h=>by simp only[RL]at h⟩
  simp only[R]at h⊢
  obtain⟨xs,rfl,h1⟩:=h
  exact⟨xs,rfl,(ih n n' m m' hn hm).2 _ h1⟩
 |fn f a b ih1 ih2=>
  intro n n' m m' hn hm
  refine⟨λx h=>?_,λxs h=>by simp only[RL]at h⟩
  simp only[R]at h⊢
  obtain⟨xs,ys,rfl,h1,h2⟩:=h
  exact⟨xs,ys,rfl,(ih1 n n' m m' hn hm).2 _ h1,(ih2 n n' m m' hn hm).2 _ h2⟩
 |ptr st b es i o=>
  intro n n' m m' hn hm
  refine⟨λx h=>?_,λxs h=>by simp only[RL]at h⟩
  grind[R]
 |osl st b es i k=>
  intro n n' m m' hn hm
  refine⟨λx h=>?_,λxs h=>by simp only[RL]at h⟩
  simp only[R]at h⊢
  obtain⟨hb,a,cap,hx,hk,h⟩:=h
  exact⟨Nat.lt_of_lt_of_le hb hn,a,cap,hx,hk,h.imp id λ⟨B,c,el,fr,ha,h,hc,hz⟩=>by
   obtain⟨c',fr',hc',e⟩:=hs B c el fr hc
   exact⟨B,c',el,fr',ha,hm b hb B h,hc',by rw[e];exact hz⟩⟩
 |osp st b es i k c0=>
  intro n n' m m' hn hm
  refine⟨λx h=>?_,λxs h=>by simp only[RL]at h⟩
  simp only[R]at h⊢
  obtain⟨hb,a,cap,hx,hk,hk2,h⟩:=h
  exact⟨Nat.lt_of_lt_of_le hb hn,a,cap,hx,hk,hk2,h.imp id λ⟨B,c,el,fr,ha,h,hc,hz⟩=>by
   obtain⟨c',fr',hc',e⟩:=hs B c el fr hc
   exact⟨B,c',el,fr',ha,hm b hb B h,hc',by rw[e];exact hz⟩⟩
 |rptr st es k get i o ih=>
  intro n n' m m' hn hm
  refine⟨λx h=>?_,λxs h=>by simp only[RL]at h⟩
  simp only[R]at h⊢
  obtain⟨hi,B,off,rfl,hB,c,el,fr,hc,hr⟩:=h
  refine⟨hi,B,off,rfl,hF B hB,c,el,fr,by rw[hw B hB];exact hc,λj hj=>?_⟩
  obtain⟨xs,h1,h2,h3⟩:=hr j hj
  exact⟨xs,(ih j 0 0 _ _ (zI _) (λb hb=>absurd hb (yB _))).2 _ h1,h2,h3⟩
 |rsl st es k get ih=>
  intro n n' m m' hn hm
  refine⟨λx h=>?_,λxs h=>by simp only[RL]at h⟩
  simp only[R]at h⊢
  obtain⟨a,cap,rfl,hk,h⟩:=h
  refine⟨a,cap,rfl,hk,?_⟩
  rcases h with h|⟨B,off,rfl,hB,c,el,fr,hc,hr⟩
  ·omega
  ·refine .inr ⟨B,off,rfl,hF B hB,c,el,fr,by rw[hw B hB];exact hc,λj hj=>?_⟩
   obtain⟨xs,h1,h2,h3⟩:=hr j hj
   exact⟨xs,(ih j 0 0 _ _ (zI _) (λb hb=>absurd hb (yB _))).2 _ h1,h2,h3⟩
 |rmp st kd has get ih=>
  intro n n' m m' hn hm
  refine⟨λx h=>?_,λxs h=>by simp only[RL]at h⟩
  simp only[R]at h⊢
  obtain⟨B,rfl,hB,es,cl,hc,he,hr⟩:=h
  exact⟨B,rfl,hF B hB,es,cl,by rw[hw B hB];exact hc,he,λk hk=>⟨(hr k hk).1,λv hv=>(ih k 0 0 _ _ (zI _) (λb hb=>absurd hb (yB _))).1 _ ((hr k hk).2 v hv)⟩⟩
 |yld b=>
  intro n n' m m' hn hm
  refine⟨λx h=>?_,λxs h=>by simp only[RL]at h⟩
  grind[R]
 |mp b=>
  intro n n' m m' hn hm
  refine⟨λx h=>?_,λxs h=>by simp only[RL]at h⟩
  grind[R]
 |nil=>grind[R,RL]
 |junk=>grind[R,RL]
 |_=>grind[R,RL]
theorem WS:∀(v:V),v.clean=ze->∀(n n':Nat)(m m':Nat->Option Nat),
  (∀x,R F w v n m x->R F w v n' m' x)/\(∀xs,RL F w v n m xs->RL F w v n' m' xs):=by
 intro v
 induction v with
 |cons h t ih1 ih2=>
  intro hc n n' m m'
  simp only[V.clean,zL]at hc
  refine⟨λx h=>by simp only[R]at h,λxs h=>?_⟩
  grind[RL]
 |agg cs ih=>
  intro hc n n' m m'
  refine⟨λx h=>?_,λxs h=>by simp only[RL]at h⟩
  simp only[R]at h⊢
  obtain⟨xs,rfl,h1⟩:=h
  exact⟨xs,rfl,(ih hc n n' m m').2 _ h1⟩
 |tup cs ih=>
  intro hc n n' m m'
  refine⟨λx h=>?_,λxs h=>by simp only[RL]at h⟩
  simp only[R]at h⊢
  obtain⟨xs,rfl,h1⟩:=h
  exact⟨xs,rfl,(ih hc n n' m m').2 _ h1⟩
 |fn f a b ih1 ih2=>
  intro hc n n' m m'
  simp only[V.clean,zL]at hc
  refine⟨λx h=>?_,λxs h=>by simp only[RL]at h⟩
  grind[R]
 |ptr st b es i o=>
  intro hc
  cases hc
 |osl st b es i k=>
  intro hc
  cases hc
 |osp st b es i k c=>
  intro hc
  cases hc
 |yld b=>
  intro hc
  cases hc
 |mp b=>
  intro hc
  cases hc
 |nil=>grind[R,RL]
 |junk=>grind[R,RL]
 |_=>grind[R,RL]
end
variable{xs:Array Value}{ys zs:List Value}
theorem Kv(h:xs.toList=ys++zs){q:Nat}(hq:q<ys.length):xs[q]? =ys[q]?:=by
 rw[<- Array.getElem?_toList,h,List.getElem?_append_left hq]
theorem Zbx(h:xs.toList=ys++zs):ys.length<=xs.size:=by
 have:=congrArg List.length h
 grind
def stOf:Nat->LoopState
 |0=>.ready
 |1=>.busy
 |_=>.done
def codeOf:Option Ex->Option Code
 |some .ret=>zi .ret
 |some (.exit i)=>zi (.exit i)
 |_=>zm
def RB(F:Nat->Prop)(w:World)(n:Nat)(m:Nat->Option Nat):Blk->Option Nat->Prop
 | .none,B=>B=zm
 | .any,_=>True
 | .var cs,B=>∃b xs el ys zs,B=zi b/\w.heap[b]? =zi (.cells xs el (0,0))/\xs.toList=ys++zs/\RL F w cs n m ys
 | .arr es k get,B=>(k=0/\B=zm)\/∃b c el,B=zi b/\w.heap[b]? =zi (.cells c el (0,0))/\k*es<=c.size/\
   ∀j,j<k->∃xs,RL F w (get j) 0 (λ_=>zm) xs/\xs.length=es/\∀q,q<es->c[j*es+q]? =xs[q]?
 | .iter mb since seen last,B=>∃(r:Nat)(x:Option Nat),B=zi r/\w.heap[r]? =zi (.mapIter x since seen.toArray last)/\match mb with
   |none=>x=zm
   |some b=>∃y,b<n/\x=zi y/\m b=zi y
 | .Zk kd _ f ks,B=>∃(b:Nat)(es:Array MapEntry)(clock:Nat),B=zi b/\w.heap[b]? =zi (.map es clock)/\KG kd ks es clock/\
   ∀k,kd.is k=ze->(f k).1=(Xq k es.toList).isSome/\∀v,Xq k es.toList=zi v->R F w (f k).2 n m v
 | .rng _ ps asg bd row N st pend,B=>∃l r,B=zi l/\w.heap[l]? =zi (.loop r)/\r.params.toList=ps/\r.assign=asg/\r.body=bd/\r.state=stOf st/\r.pending=codeOf pend/\N=r.tmps.size/\∀i,R F w (row i) n m (r.tmps.getD i Go.undef)
def exactAt(F:Nat->Prop)(w:World)(g:Nat):V->Prop
 | .rptr _ es n _ _ _=>F g/\∃c el fr,w.heap[g]? =zi (.cells c el fr)/\c.size=n*es
 |_=>True
def GOk(F:Nat->Prop)(w:World):Prop:=∀g v,glob g=zi v->v.clean=ze/\R F w v 0 (λ_=>zm) (.pointer (zi ⟨g,0,zm⟩))/\exactAt F w g v
variable{F F':Nat->Prop}{w w':World}
theorem GOk.mono(h:GOk F w)(hs:Yk w w')(hF:∀B,F B->F' B)(hw:∀B,F B->w'.heap[B]? =w.heap[B]?):GOk F' w':=λg v hg=>
 ⟨(h g v hg).1,(Xj hs hF hw v 0 0 _ _ (zI _) (λ_ _ _ h=>h)).1 _ (h g v hg).2.1,by
  have h3:=(h g v hg).2.2
  cases v<;>try(exact trivial)
  obtain⟨h1,c,el,fr,h2,h4⟩:=h3
  exact⟨hF _ h1,c,el,fr,by rw[hw _ h1];exact h2,h4⟩⟩
structure HR(base:Nat)(m:Nat->Option Nat)(F:Nat->Prop)(h:Nat->Blk)(n:Nat)(w:World):Prop where
 low:base<=w.heap.size
 fdom:∀B,F B->B<w.heap.size
 blk:∀b,b<n->RB F w n m (h b) (m b)
 dom:∀b B,m b=zi B->B<w.heap.size
 new:∀b,n<=b->m b=zm
 gl:GOk F w
 own:∀b B,m b=zi B->base<=B/\¬F B
 inj:∀b b' B,m b=zi B->m b'=zi B->b≠b'->h b=.any\/h b'=.any
structure Marks(lo:Nat)(m:Nat->Option Nat)(F:Nat->Prop)(w:World)(ds:List Deferred)(rs:List Nat):Prop where
 eq:ds=rs.map λr=>{ target:=.collected r,args:=#[] }
 nodup:rs.Nodup
 le:lo<=w.heap.size
 lo:∀r∈rs,lo<=r
 obj:∀r∈rs,w.heap[r]? =zi (.deferred (zi []))
 un:∀r∈rs,¬F r/\∀b,m b≠zi r
structure Rel{B:Base}(lo base:Nat)(m:Nat->Option Nat)(F:Nat->Prop)(s:St B)(a:Act)(w:World):Prop where
 hr:HR base m F s.blk s.n w
 defers:∃rs,Marks lo m F w a.defers rs
 size:a.tmps.size=s.N
 tmp:∀i,R F w (s.tmp i) s.n m (a.tmps.getD i Go.undef)
structure Calm(w w':World):Prop where
 os:w'.os=w.os
 tape:w'.tape=w.tape
 output:w'.output=w.output
theorem Calm.refl(w:World):Calm w w:=⟨rfl,rfl,rfl⟩
variable{w1 w2:World}
theorem Calm.trans(h:Calm w w1)(h':Calm w1 w2):Calm w w2:=⟨h'.os.trans h.os,h'.tape.trans h.tape,h'.output.trans h.output⟩
structure Own(m:Nat->Option Nat)(w:World)(m':Nat->Option Nat)(w':World):Prop where
 un:∀B,B<w.heap.size->(∀b,m b≠zi B)->w'.heap[B]? =w.heap[B]?
 old:∀b B,m' b=zi B->B<w.heap.size->∃c,m c=zi B
variable{m:Nat->Option Nat}
theorem Own.Kt(h:∀B,B<w.heap.size->w'.heap[B]? =w.heap[B]?):Own m w m w':=⟨λB hB _=>h B hB,λb _ hb _=>⟨b,hb⟩⟩
theorem Own.refl(m:Nat->Option Nat)(w:World):Own m w m w:=Own.Kt λ_ _=>rfl
variable{m1 m2:Nat->Option Nat}
theorem Own.trans(h:Own m w m1 w1)(h':Own m1 w1 m2 w2)(hs:w.heap.size<=w1.heap.size):Own m w m2 w2 where
 un B hB hn:=by
  rw[h'.un B (Nat.lt_of_lt_of_le hB hs) λb hb=>?_,h.un B hB hn]
  obtain⟨c,hc⟩:=h.old b B hb hB
  exact hn c hc
 old b B hb hB:=by
  obtain⟨c,hc⟩:=h'.old b B hb (Nat.lt_of_lt_of_le hB hs)
  exact h.old c B hc hB
theorem Own.sub(h:Own m w m1 w')(hs:∀b B,m2 b=zi B->∃c,m1 c=zi B):Own m w m2 w':=
 ⟨h.un,λb B hb hB=>let⟨c,hc⟩:=hs b B hb;h.old c B hc hB⟩
structure Ext(base:Nat)(m:Nat->Option Nat)(F:Nat->Prop)(n:Nat)(w:World)(m':Nat->Option Nat)(F':Nat->Prop)(n':Nat)(w':World):Prop where
 f:∀B,F B->F' B
 back:∀B,F' B->F B\/w.heap.size<=B
 keep:∀B,B<base\/F B->w'.heap[B]? =w.heap[B]?
 size:w.heap.size<=w'.heap.size
 sz:Yk w w'
 ow:Own m w m' w'
 le:n<=n'
 map:∀b,b<n->∀B,m b=zi B->m' b=zi B
 calm:Calm w w'
theorem Ext.refl(base:Nat)(m:Nat->Option Nat)(F:Nat->Prop)(n:Nat)(w:World):Ext base m F n w m F n w:=
 ⟨λ_ h=>h,λ_ h=>.inl h,λ_ _=>rfl,zI _,Yk.refl w,Own.refl m w,zI _,λ_ _ _ h=>h,Calm.refl w⟩
variable{base n:Nat}
theorem Ext.trans{F1 F2:Nat->Prop}{n1 n2:Nat}
  (h:Ext base m F n w m1 F1 n1 w1)(h':Ext base m1 F1 n1 w1 m2 F2 n2 w2):Ext base m F n w m2 F2 n2 w2 where
 f B hB:=h'.f B (h.f B hB)
 back B hB:=(h'.back B hB).elim (λhB=>h.back B hB) (λhB=>.inr (Nat.le_trans h.size hB))
 keep B hB:=by rw[h'.keep B (hB.imp id (h.f B)),h.keep B hB]
 size:=Nat.le_trans h.size h'.size
 sz:=h.sz.trans h'.sz
 ow:=h.ow.trans h'.ow h.size
 le:=Nat.le_trans h.le h'.le
 map b hb B hB:=h'.map b (Nat.lt_of_lt_of_le hb h.le) B (h.map b hb B hB)
 calm:=h.calm.trans h'.calm
variable{m':Nat->Option Nat}{n':Nat}{ds:List Deferred}
theorem Marks.ext{lo:Nat}(h:∃rs,Marks lo m F w ds rs)(he:Ext base m F n w m' F' n' w'):∃rs,Marks lo m' F' w' ds rs:=by
 obtain⟨rs,hm⟩:=h
 have hlt:∀r∈rs,r<w.heap.size:=λr hr=>by
  have:=hm.obj r hr
  grind
 refine⟨rs,hm.eq,hm.nodup,Nat.le_trans hm.le he.size,hm.lo,λr hr=>?_,λr hr=>⟨λhF=>?_,λb hb=>?_⟩⟩
 ·rw[he.ow.un r (hlt r hr) (hm.un r hr).2]
  exact hm.obj r hr
 ·rcases he.back r hF with h1|h1
  ·exact(hm.un r hr).1 h1
  grind
 ·obtain⟨c,hc⟩:=he.ow.old b r hb (hlt r hr)
  exact(hm.un r hr).2 c hc
theorem Marks.sub{lo:Nat}(h:∃rs,Marks lo m F w ds rs)(hs:∀b B,m' b=zi B->∃c,m c=zi B):∃rs,Marks lo m' F w ds rs:=by
 obtain⟨rs,hm⟩:=h
 exact⟨rs,hm.eq,hm.nodup,hm.le,hm.lo,hm.obj,λr hr=>⟨(hm.un r hr).1,λb hb=>let⟨c,hc⟩:=hs b r hb;(hm.un r hr).2 c hc⟩⟩
theorem Ext.val(h:Ext base m F n w m' F' n' w'){v:V}{x:Value}
  (hv:R F w v n m x):R F' w' v n' m' x:=
 (Xj h.sz h.f (λB hB=>h.keep B (.inr hB)) v n n' m m' h.le h.map).1 x hv
theorem Ext.row(h:Ext base m F n w m' F' n' w'){v:V}{xs:List Value}
  (hv:RL F w v n m xs):RL F' w' v n' m' xs:=
 (Xj h.sz h.f (λB hB=>h.keep B (.inr hB)) v n n' m m' h.le h.map).2 xs hv
abbrev fen(ro:Option Nat):Fence:={ fn:=λ_=>True,depth:=zm,alive:=za,round:=ro }
theorem ZkP(ro:Option Nat)(n:Nat):(fen ro).room n:=λd hd=>by cases hd
theorem ZfD(ro:Option Nat):(fen ro).depth.isSome=ze->1<=0:=λh=>(by cases h)
theorem ZkO(P:Program)(ro:Option Nat)(m:Machine):m.fenced P (fen ro):=fenced_wide P m
variable{ro:Option Nat}
theorem ZkN{P:Program}{f:FuncId}{args:Array Value}{K:Ending->World->Prop}(h:Calls P f args w K):CallsIn (fen ro) n P f args w K:=(callsIn_wide (n:=n)).2 h
variable{a:Act}{Q:Exit->Act->World->Prop}
theorem WH{P:Program}{o:Oper}{K:Act->World->Prop}(h:o.wp P a w K Q)(hd:∀c,o.op≠.defer c):o.wpIn (fen ro) 0 P a w K Q:=by
 refine⟨λ_ _=>trivial,?_⟩
 rw[Oper.semAt_eq _ _ _ hd]
 unfold Oper.wp at h
 generalize(execOp a.eval o).run P w=r at h⊢
 cases r with
 |ok x w'=>cases x<;>first
  |exact h
  |exact h.elim
  |exact⟨ZfD ro,ZkN h⟩
  |exact⟨ZfD ro,λc cs _=>let⟨v,w'',q,r⟩:=h c cs;⟨v,w'',q,stepsIn_wide.2 r⟩⟩
 |halt x w'=>cases x<;>first|exact h|exact h.elim
def JC(P:Program)(ro:Option Nat)(b:Code)(Q:Exit->Act->World->Prop)(a:Act)(w:World):Prop:=
 ∀(fr:Frame)(k:List Item)(cs:List Frame),fr.roundOf=ro->∃e a' w',Q e a' w'/\ArrivesIn (Machine.fenced P (fen ro)) P (lone (fr.atR a (.code b::.inLoop b::k)) cs w) fr k cs e a' w'
theorem JC.wp{P:Program}{b:Code}(h:JC P ro b Q a w):(Code.loop b).wpIn (fen ro) 0 P Q a w:=
 λfr k cs hro _ _=>let⟨e,a',w',q,r⟩:=h fr k cs hro;⟨e,a',w',q,.of_steps (.one (ZkO P ro _) stepR_loop) r⟩
theorem JC.round{P:Program}{b:Code}(h:b.wpIn (fen ro) 0 P (Exit.then (JC P ro b Q) Q) a w):JC P ro b Q a w:=by
 intro fr k cs hro
 obtain⟨e,a1,w1,h1,h2⟩:=h fr (.inLoop b::k) cs hro trivial (ZkP ro _)
 cases e with
 |normal=>
  obtain⟨e2,a2,w2,h3,h4⟩:=h1 fr k cs hro
  exact⟨e2,a2,w2,h3,.of_steps (StepsIn.trans h2 (.one (ZkO P ro _) stepR_inLoop)) h4⟩
 |exit id=>exact⟨_,a1,w1,h1,.pass (x:=.inLoop b) rfl (λ_ _=>.inl (by simp)) h2⟩
 |goto l=>exact⟨_,a1,w1,h1,.pass (x:=.inLoop b) rfl (λ_ _=>.inl (by simp)) h2⟩
 |ret=>exact⟨_,a1,w1,h1,.pass (x:=.inLoop b) rfl (λ_ _=>.inl (by simp)) h2⟩
 |panic ch=>exact⟨_,a1,w1,h1,.pass (x:=.inLoop b) rfl (λ_ _=>.inl (by simp)) h2⟩
 |outgrown=>exact⟨_,a1,w1,h1,.pass (x:=.inLoop b) rfl (λ_ _=>.inl (by simp)) h2⟩
def XR:Code->Bool
 | .rangeFunc ..=>za
 | .seq a b=>XR a&&XR b
 | .cond _ a b=>XR a&&XR b
 | .block _ b=>XR b
 | .loop b=>XR b
 | .scope b=>XR b
 |_=>ze
def V3(P:Program)(body:Code){Bs:Base}(s:St Bs)(Φ:Ex×St Bs->Prop):Prop:=
 ∀(ro:Option Nat)(lo base:Nat)(m:Nat->Option Nat)(F:Nat->Prop)(a:Act)(w:World)(Q:Exit->Act->World->Prop),(ro=zm\/XR body=ze)->Rel lo base m F s a w->
  (∀e s',Φ (e,s')->∀m' F' a' w',Ext base m F s.n w m' F' s'.n w'->Rel lo base m' F' s' a' w'->Q e.J8 a' w')->JC P ro body Q a w
variable{α:Type}
def Tree.holds(P:Program):Tree α->(α->Prop)->Prop
 | .leaf a,Q=>Q a
 | .stuck,_=>False
 | .node b t f,Q=>(b=ze->t.holds P Q)/\(b=za->f.holds P Q)
 | .need p t,Q=>p/\t.holds P Q
 | .all σ t,Q=>∀x:σ,(t x).holds P Q
 | .given p t,Q=>p->t.holds P Q
 | .both t f,Q=>t.holds P Q/\f.holds P Q
theorem Tree.Yw{β:Type}{P:Program}{k:α->Tree β}{Q:β->Prop}:∀(T:Tree α),(T.bind k).holds P Q↔T.holds P λa=>(k a).holds P Q:=by
 intro T
 induction T<;>grind[Tree.bind,Tree.holds]
theorem Tree.XI{P:Program}:∀(T:Tree α){Q Q':α->Prop},(∀a,Q a->Q' a)->T.holds P Q->T.holds P Q':=by
 intro T
 induction T with
 |leaf a=>exact λh hq=>h _ hq
 |stuck=>exact λ_ h=>h
 |node b t f iht ihf=>exact λh hq=>⟨λhb=>iht h (hq.1 hb),λhb=>ihf h (hq.2 hb)⟩
 |need p t ih=>exact λh hq=>⟨hq.1,ih h hq.2⟩
 |all σ t ih=>exact λh hq x=>ih x h (hq x)
 |given p t ih=>exact λh hq hp=>ih h (hq hp)
 |both t f iht ihf=>exact λh hq=>⟨iht h hq.1,ihf h hq.2⟩
end Go.Fw
end
