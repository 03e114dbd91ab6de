/- From a row's reading of its arguments to the evaluator's values; and from the evaluator's word back to the row's end. -/
import Derived.Test.YthhbdbeglmkijaaGreatDoorMAf
import Derived.Carry
import Derived.OpenShut
import Derived.ProofKit
import Derived.Test.YthhbdbeglmkijaaGreatDoorMAp
import Derived.Test.YthhbdbeglmkijaaGreatDoorMAg
import Derived.Test.YthhbdbeglmkijaaGreatDoorMAh
import Derived.Test.YthhbdbeglmkijaaGreatDoorMAq
set_option maxRecDepth 100000
set_option linter.unusedVariables false
set_option linter.unusedSimpArgs false
noncomputable section
open Bool renaming false→za,true→ze
open Option renaming some→zk,none→zm
open Nat renaming not_lt_zero→yB,zero_add→z8,beq→zo,eq_of_beq_eq_true→zP
open Int renaming toNat→zi
namespace Go.Fw
open Go.WideShapes Go.RowKit Go.ChangeShapes
inductive Sh where
 |int (k:IntKind)
 |bool
 |str
 |unit
 |pair (a b:Sh)
 |sl (es:Nat) (e:Sh)
@[reducible] def Sh.den:Sh->Type
 | .int _=>Int
 | .bool=>Bool
 | .str=>List UInt8
 | .unit=>Unit
 | .pair a b=>a.den×b.den
 | .sl _ e=>Nat×(Nat->e.den)
def Sh.dflt:(s:Sh)->s.den
 | .int _=>(0:Int)
 | .bool=>za
 | .str=>([]:List UInt8)
 | .unit=>()
 | .pair a b=>(a.dflt,b.dflt)
 | .sl _ e=>((0:Nat),λ_=>e.dflt)
def Sh.push:(s:Sh)->s.den->V->V
 | .int k,x,tl=>.cons (.int za k x) tl
 | .bool,x,tl=>.cons (.bool za x) tl
 | .str,x,tl=>.cons (.str za x) tl
 | .unit,_,tl=>tl
 | .pair a b,x,tl=>a.push x.1 (b.push x.2 tl)
 | .sl es e,x,tl=>.cons (.rsl za es x.1 λi=>e.push (x.2 i) .nil) tl
def Sh.wf:(s:Sh)->s.den->Prop
 | .int k,x=>(Lit.int k x).wf=ze
 | .bool,_=>True
 | .str,x=>x.length<=maxLen
 | .unit,_=>True
 | .pair a b,x=>a.wf x.1/\b.wf x.2
 | .sl _ e,x=>x.1<=maxLen/\∀i,i<x.1->e.wf (x.2 i)
def shRep(s:Sh):Nat->Sh
 |0=>.unit
 |n+1=>.pair s (shRep s n)
section
variable(P:Program)
def shFs(rec_:TypeId->Option Sh):List Field->Nat->Option (Sh×Nat)
 |[],o=>zk (.unit,o)
 |f::fs,o=>if f.offset=o then match rec_ f.type,shFs rec_ fs (o+P.cellsOf f.type)with
  |some a,zk (b,o')=>zk (.pair a b,o')
  |_,_=>zm
  else zm
def shOf:Nat->TypeId->Option Sh
 |0,_=>zm
 |k+1,t=>match P.underlying t with
  |some .bool=>if P.cellsOf t=1 then zk .bool else zm
  |some (.int k)=>if P.cellsOf t=1 then zk (.int k)else zm
  |some .string=>if P.cellsOf t=1 then zk .str else zm
  |some (.struct fs)=>match shFs P (shOf k) fs.toList 0 with
   |some (s,o)=>if o=P.cellsOf t then zk s else zm
   |none=>zm
  |some (.slice e)=>if P.cellsOf e=0\/P.cellsOf t≠1 then zm else match shOf k e with
   |some s=>zk (.sl (P.cellsOf e) s)
   |none=>zm
  |some (.array n e)=>if P.cellsOf t=n*P.cellsOf e/\n<=8 then match shOf k e with
   |some s=>zk (shRep s n)
   |none=>zm
   else zm
  |_=>zm
end
theorem Zaa{α:Type}{p:Prop}[Decidable p]{a b:α}(h:(if p then zk a else zm)=zk b):p/\a=b:=by
 grind
variable{F:Nat->Prop}{w:World}{n:Nat}
theorem Zj0{m:Nat->Option Nat}:∀(s:Sh)(x:s.den)(tl:V)(xs ys:List Value),
  RL F w (s.push x .nil) n m xs->RL F w tl n m ys->RL F w (s.push x tl) n m (xs++ys):=by
 suffices H:∀(s:Sh)(x:s.den)(t1 t2:V)(xs ys:List Value),(∀zs,RL F w t1 n m zs->RL F w t2 n m (zs++ys))->RL F w (s.push x t1) n m xs->RL F w (s.push x t2) n m (xs++ys)from
  λs x tl xs ys h1 h2=>H s x .nil tl xs ys (λzs hz=>by simp only[RL]at hz;subst hz;exact h2) h1
 intro s
 induction s with
 |int k=>intro x t1 t2 xs ys ht h;obtain⟨a,r,rfl,h1,h2⟩:=h;exact⟨a,r++ys,rfl,h1,ht r h2⟩
 |bool=>intro x t1 t2 xs ys ht h;obtain⟨a,r,rfl,h1,h2⟩:=h;exact⟨a,r++ys,rfl,h1,ht r h2⟩
 |str=>intro x t1 t2 xs ys ht h;obtain⟨a,r,rfl,h1,h2⟩:=h;exact⟨a,r++ys,rfl,h1,ht r h2⟩
 |unit=>intro x t1 t2 xs ys ht h;exact ht xs h
 |pair a b iha ihb=>intro x t1 t2 xs ys ht h;exact iha x.1 _ _ xs ys (λzs hz=>ihb x.2 t1 t2 zs ys ht hz) h
 |sl es e ih=>intro x t1 t2 xs ys ht h;obtain⟨a,r,rfl,h1,h2⟩:=h;exact⟨a,r++ys,rfl,h1,ht r h2⟩
theorem Zqq{α β:Type}{f:α->Option β}:∀{l:List α}{r:List β},l.mapM f=zk r->r.length=l.length/\∀i(h:i<l.length),f l[i]=r[i]?:=by
 intro l
 induction l<;>grind[Option.bind_eq_bind,Option.bind_eq_some_iff,Option.pure_def,refine]
variable{base:Nat}
theorem Zic{a:Addr}{cs:List Value}(h:w.cells? base a n=zk cs):cs.length=n/\∀i,i<n->w.cell? (a.add i)=cs[i]?:=by
 unfold World.cells? at h
 split at h
 ·obtain⟨h1,h2⟩:=Zqq h
  grind
 ·cases h
theorem Zj1(a:Addr)(h:a.spot=zm)(n:Nat):a.add n=⟨a.block,a.off+n,zm⟩:=by
 cases a
 simp only at h
 subst h
 unfold Addr.add
 grind
section
variable{H:Type}{enc:TypeId×Value->H}{P:Program}{w:World}{spare:Nat->Bool}{held:Bool}{F:Nat->Prop}
variable{fuel:Nat}{cs:List Value}
theorem sh_fs{k:Nat}
  (ih:∀t s,shOf P k t=zk s->∀cs d ps,DataW.trod enc P w 0 spare held fuel t cs=zk (d,ps)->(∀p∈ps,F p.block)->
   cs.length=P.cellsOf t/\∃x,RL F w (s.push x .nil) 0 (λ_=>zm) cs/\s.wf x) :
  ∀(fs:List Field)(o:Nat)(s:Sh)(o':Nat),shFs P (shOf P k) fs o=zk (s,o')->
   (∀f∈fs,∃d ps,DataW.trod enc P w 0 spare held fuel f.type ((cs.drop f.offset).take (P.cellsOf f.type))=zk (d,ps)/\∀p∈ps,F p.block)->
   o'=cs.length->∃x,RL F w (s.push x .nil) 0 (λ_=>zm) (cs.drop o)/\s.wf x:=by
 intro fs
 induction fs with
 |nil=>
  intro o s o' h _ ho
  simp only[shFs,Option.some.injEq,Prod.mk.injEq]at h
  obtain⟨rfl,rfl⟩:=h
  refine⟨(),?_,trivial⟩
  show RL F w .nil 0 _ _
  grind[RL,List.drop_length]
 |cons f fs ihf=>
  intro o s o' h hall ho
  simp only[shFs]at h
  split at h
  ·rename_i hoff
   split at h
   ·rename_i a b o'' ha hb
    simp only[Option.some.injEq,Prod.mk.injEq]at h
    obtain⟨rfl,rfl⟩:=h
    obtain⟨d,ps,h1,h2⟩:=hall f (List.mem_cons_self ..)
    obtain⟨hl,x,hx,hwx⟩:=ih f.type a ha _ d ps h1 h2
    obtain⟨y,hy,hwy⟩:=ihf _ b o'' hb (λg hg=>hall g (List.mem_cons_of_mem _ hg)) ho
    refine⟨(x,y),?_,hwx,hwy⟩
    have e:cs.drop o=(cs.drop f.offset).take (P.cellsOf f.type)++cs.drop (o+P.cellsOf f.type):=by
     grind[List.drop_drop,List.take_append_drop]
    rw[e]
    exact Zj0 a x _ _ _ hx hy
   ·cases h
  ·cases h
theorem sh_rep{e:TypeId}{s:Sh}{z:Nat}
  (ih:∀cs d ps,DataW.trod enc P w 0 spare held fuel e cs=zk (d,ps)->(∀p∈ps,F p.block)->∃x,RL F w (s.push x .nil) 0 (λ_=>zm) cs/\s.wf x) :
  ∀(n o:Nat),(∀i,i<n->∃d ps,DataW.trod enc P w 0 spare held fuel e ((cs.drop ((o+i)*z)).take z)=zk (d,ps)/\∀p∈ps,F p.block)->cs.length=(o+n)*z->
   ∃x,RL F w ((shRep s n).push x .nil) 0 (λ_=>zm) (cs.drop (o*z))/\(shRep s n).wf x:=by
 intro n
 induction n with
 |zero=>
  intro o _ hl
  refine⟨(),?_,trivial⟩
  show RL F w .nil 0 _ _
  simp_all[RL,Nat.add_zero,List.drop_length]
 |succ n ihn=>
  intro o hall hl
  obtain⟨d,ps,h1,h2⟩:=hall 0 (by omega)
  obtain⟨x,hx,hwx⟩:=ih _ d ps h1 h2
  obtain⟨y,hy,hwy⟩:=ihn (o+1) (λi hi=>by
   have:=hall (i+1) (by omega)
   rwa[show o+(i+1)=o+1+i by omega]at this) (by rw[hl];congr 1;omega)
  refine⟨(x,y),?_,hwx,hwy⟩
  have e1:cs.drop (o*z)=(cs.drop ((o+0)*z)).take z++cs.drop ((o+1)*z):=by
   rw[Nat.add_zero,Nat.add_mul,Nat.one_mul,<- List.drop_drop,List.take_append_drop]
  rw[e1]
  exact Zj0 s x _ _ _ hx hy
theorem sh_ok:∀(k:Nat)(t:TypeId)(s:Sh),shOf P k t=zk s->∀(fuel:Nat)(cs:List Value)(d:DataW H)(ps:List MemPlace),DataW.trod enc P w 0 spare held fuel t cs=zk (d,ps)->(∀p∈ps,F p.block)->
  cs.length=P.cellsOf t/\∃x,RL F w (s.push x .nil) 0 (λ_=>zm) cs/\s.wf x:=by
 intro k
 induction k with
 |zero=>intro t s h;cases h
 |succ k ih=>
  intro t s h fuel cs d ps hd hps
  simp only[shOf]at h
  split at h
  ·rename_i hu
   rcases Zaa h with⟨h1,rfl⟩
   obtain⟨b,rfl,_⟩:=DataW.trod_bool hu hd
   exact⟨h1.symm,b,⟨_,[],rfl,rfl,rfl⟩,trivial⟩
  ·rename_i ik hu
   rcases Zaa h with⟨h1,rfl⟩
   obtain⟨n,rfl,_,hw⟩:=DataW.trod_int hu hd
   exact⟨h1.symm,n,⟨_,[],rfl,rfl,rfl⟩,hw⟩
  ·rename_i hu
   rcases Zaa h with⟨h1,rfl⟩
   obtain⟨b,rfl,_,hl⟩:=DataW.trod_string hu hd
   exact⟨h1.symm,b.data.toList,⟨_,[],rfl,rfl,rfl⟩,by simpa[Sh.wf]using hl⟩
  ·rename_i fs hu
   split at h
   ·rename_i s' o hs
    split at h
    ·rename_i ho
     cases h
     obtain⟨xs,n,rfl,hx,hlen,hxl,hf⟩:=DataW.trod_struct hu hd
     simp only[Prod.mk.injEq]at hx
     refine⟨hlen,?_⟩
     have:=sh_fs (enc:=enc) (spare:=spare) (held:=held) (fuel:=n) (cs:=cs) (λt s h cs d ps=>ih t s h n cs d ps) fs.toList 0 s o hs (λf hfm=>?_) (ho.trans hlen.symm)
     ·simpa using this
     ·obtain⟨i,hi,rfl⟩:=List.getElem_of_mem hfm
      have hi':i<fs.size:=by simpa using hi
      have h1:=hf i fs[i] (by simp[hi'])
      have hxi:i<xs.length:=by omega
      refine⟨xs[i].1,xs[i].2,?_,λp hp=>hps p ?_⟩
      ·simp only[Array.getElem_toList]
       rw[h1,List.getElem?_eq_getElem hxi]
      ·rw[hx.2]
       exact List.mem_flatMap.2 ⟨xs[i],List.getElem_mem _,hp⟩
    ·cases h
   ·cases h
  ·rename_i e hu
   split at h
   ·cases h
   ·rename_i hes'
    have hes:P.cellsOf e≠0:=λe0=>hes' (.inl e0)
    have hlen1:P.cellsOf t=1:=Classical.byContradiction λe0=>hes' (.inr e0)
    split at h
    ·rename_i s' hs
     cases h
     rcases DataW.trod_slice hu hd with⟨rfl,_⟩|⟨a,len,cap,elems,rest,n,rfl,rfl,hx,_,hlc,hcm,hlen,hel,_,_⟩
     ·refine⟨hlen1.symm,((0:Nat),λ_=>s'.dflt),⟨_,[],rfl,⟨zm,0,rfl,Nat.le_refl _,.inl rfl⟩,rfl⟩,Nat.zero_le _,λi hi=>absurd hi (yB _)⟩
     ·simp only[Prod.mk.injEq]at hx
      have hpl:∀p∈MemPlace.row a ((elems.length+rest.length)*P.cellsOf e)++(elems++rest).flatMap (·.2),F p.block:=λp hp=>hps p (by rw[hx.2];exact hp)
      have hi:∀i,i<len->∃cs',w.cells? 0 (a.add (i*P.cellsOf e)) (P.cellsOf e)=zk cs'/\∃x,RL F w (s'.push x .nil) 0 (λ_=>zm) cs'/\s'.wf x:=by
       intro i hil
       have h1:=hel i hil
       have hil':i<elems.length:=by omega
       rw[List.getElem?_eq_getElem hil']at h1
       obtain⟨cs',h2,h3⟩:=Option.bind_eq_some_iff.1 h1
       exact⟨cs',h2,(ih e s' hs n cs' elems[i].1 elems[i].2 h3 (λp hp=>hpl p (List.mem_append_right _ (List.mem_flatMap.2 ⟨elems[i],List.mem_append_left _ (List.getElem_mem _),hp⟩)))).2⟩
      refine⟨hlen1.symm,(len,λi=>if h:i<len then(hi i h).choose_spec.2.choose else s'.dflt),⟨_,[],rfl,⟨zk a,cap,rfl,hlc,?_⟩,rfl⟩,Nat.le_trans hlc hcm,λi hil=>?_⟩
      ·rcases Nat.eq_zero_or_pos len with h0|h0
       ·exact .inl h0
       ·refine .inr ?_
        have hpos:0<P.cellsOf e:=Nat.pos_of_ne_zero hes
        obtain⟨cs0,hc0,_⟩:=hi 0 h0
        obtain⟨hl0,hg0⟩:=Zic hc0
        have hz:=hg0 0 hpos
        rw[List.getElem?_eq_getElem (by omega)]at hz
        have hz':w.cell? a=zk cs0[0]:=by simpa[Addr.add]using hz
        unfold World.cell? at hz'
        split at hz'
        ·rename_i c el fr hb
         split at hz'
         ·cases hz'
         ·rename_i hsp
          have hsp':a.spot=zm:=by simpa using hsp
          have ea:a=⟨a.block,a.off,zm⟩:=by cases a;simp_all
          refine⟨a.block,a.off,congrArg zk ea,hpl (.cell a.block a.off) (List.mem_append_left _ ?_),c,el,fr,hb,λj hj=>?_⟩
          ·exact List.mem_map.2 ⟨0,List.mem_range.2 (Nat.mul_pos (by omega) hpos),rfl⟩
          ·refine⟨(hi j hj).choose,?_,?_,λq hq=>?_⟩
           ·simp only[hj,dif_pos]
            exact(hi j hj).choose_spec.2.choose_spec.1
           ·exact(Zic (hi j hj).choose_spec.1).1
           ·have h4:=(Zic (hi j hj).choose_spec.1).2 q hq
            rw[<- h4]
            have eb:((a.add (j*P.cellsOf e)).add q)=⟨a.block,a.off+j*P.cellsOf e+q,zm⟩:=by
             rw[Zj1 a hsp',Zj1 _ rfl]
            rw[eb]
            simp[World.cell?,hb]
        ·cases hz'
      ·simp only[hil,dif_pos]
       exact(hi i hil).choose_spec.2.choose_spec.2
    ·cases h
  ·rename_i n e hu
   split at h
   ·rename_i hc
    split at h
    ·rename_i s' hs
     cases h
     obtain⟨xs,q,rfl,hx,hlen,hxl,hf⟩:=DataW.trod_array hu hd
     simp only[Prod.mk.injEq]at hx
     refine⟨hlen,?_⟩
     have:=sh_rep (enc:=enc) (spare:=spare) (held:=held) (fuel:=q) (cs:=cs) (s:=s') (z:=P.cellsOf e) (λcs d ps h1 h2=>(ih e s' hs q cs d ps h1 h2).2) n 0 (λi hi=>by
      have h1:=hf i hi
      have hxi:i<xs.length:=by omega
      refine⟨xs[i].1,xs[i].2,?_,λp hp=>hps p ?_⟩
      ·rw[z8,h1,List.getElem?_eq_getElem hxi]
      ·rw[hx.2]
       exact List.mem_flatMap.2 ⟨xs[i],List.getElem_mem _,hp⟩) (by rw[hlen,hc.1,z8])
     simpa using this
    ·cases h
   ·cases h
  ·cases h
theorem Zhb{k:Nat}{t:TypeId}{s:Sh}{v:Value}{d:DataW H}{ps:List MemPlace}(hs:shOf P k t=zk s)(hd:DataW.Trod enc P w 0 spare held t v d ps)(hps:∀p∈ps,F p.block) :
  ∃x,RL F w (s.push x .nil) 0 (λ_=>zm) v.cells.toList/\s.wf x:=by
 obtain⟨fuel,hf⟩:=hd
 exact(sh_ok k t s hs fuel _ d ps hf hps).2
end
def Sh.val(s:Sh)(x:s.den):V:=match s,x with
 | .int k,x=>.int za k x
 | .bool,x=>.bool za x
 | .str,x=>.str za x
 | .unit,_=>.agg .nil
 | .pair a b,x=>.agg (a.push x.1 (b.push x.2 .nil))
 | .sl es e,x=>.rsl za es x.1 λi=>e.push (x.2 i) .nil
variable{W:World}{k:Nat}
theorem sh_val{P:Program}{b0:Nat}{r:Reach}{t:TypeId}{s:Sh}{v:Value}(hs:shOf P (k+1) t=zk s)(hv:Value.okWide P W r b0 t v){x:s.den}
  (h:RL F w (s.push x .nil) 0 (λ_=>zm) v.cells.toList):R F w (s.val x) 0 (λ_=>zm) v:=by
 have scal:∀y:V,(∀z,P.underlying t=zk (.struct z)->False)->(∀z z',P.underlying t=zk (.array z z')->False)->RL F w (.cons y .nil) 0 (λ_=>zm) v.cells.toList->R F w y 0 (λ_=>zm) v:=by
  intro y h1 h2 h3
  obtain⟨a,r,e1,h4,h5⟩:=h3
  simp only[RL]at h5
  subst h5
  have:v.cells= #[v]:=by
   cases v with
   |agg cs=>
    exfalso
    simp only[Value.okWide]at hv
    unfold Cell.okWide at hv
    split at hv<;>simp_all[Cell.ok]
   |_=>rfl
  grind
 simp only[shOf]at hs
 split at hs
 ·rename_i hu
  obtain⟨_,rfl⟩:=Zaa hs
  exact scal _ (by simp[hu]) (by simp[hu]) h
 ·rename_i ik hu
  obtain⟨_,rfl⟩:=Zaa hs
  exact scal _ (by simp[hu]) (by simp[hu]) h
 ·rename_i hu
  obtain⟨_,rfl⟩:=Zaa hs
  exact scal _ (by simp[hu]) (by simp[hu]) h
 ·rename_i fs hu
  obtain⟨cs,rfl,_⟩:=okWide_struct hu hv
  split at hs
  ·rename_i s' o hfs
   obtain⟨_,rfl⟩:=Zaa hs
   cases hl:fs.toList with
   |nil=>
    rw[hl]at hfs
    simp only[shFs,Option.some.injEq,Prod.mk.injEq]at hfs
    obtain⟨rfl,_⟩:=hfs
    exact⟨cs,rfl,h⟩
   |cons f fs'=>
    rw[hl]at hfs
    simp only[shFs]at hfs
    split at hfs
    ·split at hfs
     ·simp only[Option.some.injEq,Prod.mk.injEq]at hfs
      obtain⟨rfl,_⟩:=hfs
      exact⟨cs,rfl,h⟩
     grind
    grind
  ·cases hs
 ·rename_i e hu
  split at hs
  ·cases hs
  ·split at hs
   ·cases hs
    exact scal _ (by simp[hu]) (by simp[hu]) h
   ·cases hs
 ·rename_i n' e hu
  obtain⟨cs,rfl⟩:∃cs,v=.agg cs:=by
   grind[Value.okWide]
  split at hs
  ·split at hs
   ·rename_i s' _
    cases hs
    cases n' with
    |zero=>exact⟨cs,rfl,h⟩
    |succ n'=>exact⟨cs,rfl,h⟩
   ·cases hs
  ·cases hs
 ·cases hs
def shAll(P:Program)(k:Nat):List TypeId->Option Sh
 |[]=>zk .unit
 |t::ts=>match shOf P k t,shAll P k ts with
  |some a,zk b=>zk (.pair a b)
  |_,_=>zm
def Sh.vals:(s:Sh)->s.den->V
 | .pair a b,x=>.cons (a.val x.1) (b.vals x.2)
 |_,_=>.nil
variable{H:Type}
theorem sh_all{enc:TypeId×Value->H}{P:Program}{b0:Nat}{r:Reach}{spare:Nat->Bool}{held:Bool} :
  ∀(ts:List TypeId)(s:Sh)(vs:List Value)(ds:List (DataW H))(ps:List MemPlace),shAll P (k+1) ts=zk s->DataW.TrodAll enc P w 0 spare held ts vs ds ps->
   (∀(j:Nat) t v,ts[j]? =zk t->vs[j]? =zk v->Value.okWide P w r b0 t v)->(∀p∈ps,F p.block)->
   ∃x,RL F w (s.vals x) 0 (λ_=>zm) vs/\s.wf x:=by
 intro ts
 induction ts with
 |nil=>
  intro s vs ds ps hs h _ _
  simp only[shAll,Option.some.injEq]at hs
  subst hs
  obtain⟨rfl,_,_⟩:=trodAll_nil h
  exact⟨(),rfl,trivial⟩
 |cons t ts ih=>
  intro s vs ds ps hs h hok hps
  simp only[shAll]at hs
  split at hs
  ·rename_i a b ha hb
   cases hs
   obtain⟨v,vs1,d,ds1,p,q,rfl,rfl,rfl,h1,h2⟩:=trodAll_cons h
   obtain⟨x,hx,hwx⟩:=Zhb ha h1 (λz hz=>hps z (List.mem_append_left _ hz))
   obtain⟨y,hy,hwy⟩:=ih b vs1 ds1 q hb h2 (λj t v h3 h4=>hok (j+1) t v (by simpa using h3) (by simpa using h4)) (λz hz=>hps z (List.mem_append_right _ hz))
   exact⟨(x,y),⟨v,vs1,rfl,sh_val ha (hok 0 t v rfl rfl) hx,hy⟩,hwx,hwy⟩
  ·cases hs
variable{W':World}
theorem ZrI{enc:TypeId×Value->H}{P:Program}(hl:laidOutB P=ze)(hs:∀p:MemPlace,p.block<W.heap.size->W.sameAt W' p) :
  ∀(ts:List TypeId)(vs:List Value)(ds:List (DataW H))(ps:List MemPlace),(ts.all λt=>P.readableRec t&&decide (t<P.types.size))=ze->DataW.TrodAll enc P W 0 (λ_=>ze) ze ts vs ds ps->
   (∀p∈ps,p.block<W.heap.size)->∀sp:Nat->Bool,(∀p∈ps,sp p.block=ze)->DataW.TrodAll enc P W' 0 sp ze ts vs ds ps:=by
 intro ts
 induction ts with
 |nil=>
  intro vs ds ps _ h _ sp _
  obtain⟨rfl,rfl,rfl⟩:=trodAll_nil h
  exact trodAll_mk0
 |cons t ts ih=>
  intro vs ds ps ht h hps sp hsp
  obtain⟨v,vs1,d,ds1,p,q,rfl,rfl,rfl,h1,h2⟩:=trodAll_cons h
  simp only[List.all_cons,Bool.and_eq_true,decide_eq_true_eq]at ht
  exact trodAll_cons_mk (WideElems.Trod_stays hl ht.1.1 ht.1.2 h1 (λz hz=>hs z (hps z (List.mem_append_left _ hz))) (λz hz=>hsp z (List.mem_append_left _ hz)))
   (ih vs1 ds1 q ht.2 h2 (λz hz=>hps z (List.mem_append_right _ hz)) sp (λz hz=>hsp z (List.mem_append_right _ hz)))
variable{s:ChangeSpec}{apart fresh handsOn again:Bool}{before:List MemPlace}{tb:TypeId}
theorem law_post{enc:TypeId×Value->H}{P:Program}{f:Func}{fresh handsOn again:Bool}{args:Array Value}{ds gs:List (DataW H)}
  (hW:DataW.Whole enc P f.params.toList s.vars apart W args.toList ds gs before)(hvars:s.vars=[])(hb:Below W.heap.size W W')(hl:laidOutB P=ze)
  (hr:(f.params.toList.all λt=>P.readableRec t&&decide (t<P.types.size))=ze)(ht:f.resultTypes= #[tb])(hu:P.underlying tb=zk .bool)
  (hfn:s.fn H (ds++gs)={ results:=[.lit (.bool ze)],args:=ds }):s.post enc P f apart fresh handsOn again W args (.bool ze) W':=by
 have hlt:=hW.lt
 have hW0:=hW
 obtain⟨p,q,hA,hV,rfl,hfz,hnd⟩:=hW
 have hA':∀sp:Nat->Bool,(∀z∈p++q,sp z.block=ze)->DataW.TrodAll enc P W' 0 sp ze f.params.toList args.toList ds p:=λsp hsp=>
  ZrI hl (λz hz=>hb.same hz) _ _ _ _ hr hA (λz hz=>hlt z (List.mem_append_left _ hz)) sp (λz hz=>hsp z (List.mem_append_left _ hz))
 have hV':q=[]/\∀sp:Nat->Bool,DataW.TrodVars enc P W' sp s.vars [] []:=by
  rw[hvars]at hV⊢
  obtain⟨_,h2⟩:=trodVars_none hV
  exact⟨h2,λsp=>rfl⟩
 obtain⟨rfl,hV'⟩:=hV'
 have hres:∀(b:Nat)(sp:Nat->Bool)(hd:Bool),DataW.TrodAll enc P W' b sp hd f.resultTypes.toList ((Value.bool ze).resultList f.resultTypes.size) [.lit (.bool ze)] []:=by
  intro b sp hd
  rw[ht]
  exact trodAll_cons_mk (shut_bool hu _) trodAll_mk0
 refine⟨ds,gs,p++[],[],p,[],hW0,?_,?_,?_,hb.frame _,λ_=>⟨ok_one ht rfl (okWide_bool_mk hu _),_,_,([]++p)++[],⟨[]++p,[],trodAll_append (hA' _ (λ_ _=>rfl)) (hres _ _ _),hV' _,rfl,?_,?_⟩,?_⟩⟩
 ·rw[hfn];exact hres _ _ _
 ·rw[hfn];exact hA' _ (λz hz=>by simpa using hlt z hz)
 ·rw[hfn];exact hV' _
 ·intro b off hp
  have hp':MemPlace.cell b off∈p++[]:=by simpa using hp
  have:=hlt _ hp'
  rw[hb.frozen (p:=⟨b,off,zm⟩) this]
  exact hfz b off hp'
 ·intro ha
  have:=hnd ha
  simpa using this
 ·intro z hz _
  simpa using hz
theorem Zqi{enc:TypeId×Value->H}{P:Program}{f:Func}{sh:Sh}{apart fresh handsOn again:Bool}{W:World}{base:Nat}{args:Array Value}{ds gs:List (DataW H)}{before:List MemPlace}
{st:Bool}(hmeets:∀x:sh.den,sh.wf x->Zi P n (sh.vals x) (.bool st ze))(hsh:shAll P (k+1) f.params.toList=zk sh)
  (hvars:s.vars=[])(hl:laidOutB P=ze)(hr:(f.params.toList.all λt=>P.readableRec t&&decide (t<P.types.size))=ze)(ht:f.resultTypes= #[tb])(hu:P.underlying tb=zk .bool)
  (hfn:∀ds:List (DataW H),ds.length=f.params.toList.length->s.fn H ds={ results:=[.lit (.bool ze)],args:=ds })
  (hgl:GOk (λB=>B<W.heap.size) W)
  (hval:∀(j:Nat) t v,f.params[j]? =zk t->args[j]? =zk v->Value.okWide P W .any base t v)
  (hW:DataW.Whole enc P f.params.toList s.vars apart W args.toList ds gs before) :
  Calls P n args W λe W'=>∃v,e=.returned v/\s.post enc P f apart fresh handsOn again W args v W':=by
 have hlt:=hW.lt
 have hW0:=hW
 obtain⟨p,q,hA,hV,rfl,hfz,hnd⟩:=hW
 have hg:gs=[]:=by
  rw[hvars]at hV
  exact(trodVars_none hV).1
 obtain⟨x,hx,hwf⟩:=sh_all (F:=λB=>B<W.heap.size) (k:=k) (b0:=base) (r:=.any) f.params.toList sh args.toList ds p hsh hA
  (λj t v h1 h2=>hval j t v (by simpa using h1) (by simpa using h2)) (λz hz=>hlt z (List.mem_append_left _ hz))
 refine((hmeets x hwf).2 (λB=>B<W.heap.size) W args (λ_ h=>h) hgl hx).mono λe W' ⟨v,F',he,hlat,hR⟩=>?_
 subst he
 simp only[R]at hR
 subst hR
 refine⟨_,rfl,law_post hW0 hvars ⟨hlat.calm.os,hlat.calm.tape,hlat.calm.output,hlat.size,hlat.keep⟩ hl hr ht hu ?_⟩
 subst hg
 rw[List.append_nil]
 refine hfn ds ?_
 have:∀(ts:List TypeId)(vs:List Value)(ds:List (DataW H))(p:List MemPlace),DataW.TrodAll enc P W 0 (λ_=>ze) ze ts vs ds p->ds.length=ts.length:=by
  intro ts
  induction ts with
  |nil=>
   intro vs ds p h
   obtain⟨_,rfl,_⟩:=trodAll_nil h
   rfl
  |cons t ts ih=>
   intro vs ds p h
   obtain⟨_,vs1,_,ds1,_,q,rfl,rfl,rfl,_,h2⟩:=trodAll_cons h
   grind
 grind
end Go.Fw
namespace Go.Proofs.YthhbdbeglmkijaaGreatDoor
open Go.Fw
def cutG(x:Yn):Yn:=⟨x.f0,Yp 17 x.n1,x.r1⟩
def KO(g:Nat->Yn)(i j:Nat):Yn:=bif decide (j<i)then cutG (g j)else g j
def ZbL(e:Za)(i:Int):V:=.cons (.ptr ze 0 0 0 0) (.cons (.ptr ze 1 0 0 0) (.cons (.int za .i64 ((e.n5:Nat):Int)) (.cons (.int za .i64 i) .nil)))
def ZbM(e:Za)(z:Nat->Yn):List Blk:=[.var (ZaX 33 e),.var UR,.arr 2 e.n5 (λj=>Zw za (z j))]
def Zhb(x:Yn):V:=.cons (.rsl za 1 x.n1 λj=>ZP za (x.r1 j)) (.cons (.int za .i64 17) .nil)
def sh_T(e:Za)(i:Int)(z:Nat->Yn):Tree (Ex×Bool×V×List Blk):=
 .node (bif decide (i<((e.n5:Nat):Int))then za else ze) (.leaf (.exit 0,ze,ZbL e i,ZbM e z))
  (.need (((0:Int)<=i/\i<((e.n5:Nat):Int))/\0+zi i<e.n5/\(Zhb (z (0+zi i))=Zhb (z (0+zi i))/\True)/\((0:Int)<=i/\i<((e.n5:Nat):Int))/\0+zi i<e.n5)
   (.leaf (.normal,ze,ZbL e (IntKind.wrap .i64 (i+1)),[.var (ZaX 33 e),.var UR,.arr 2 e.n5 (λj=>bif zo j (0+zi i)then Zw za (cutG (z (0+zi i)))else Zw za (z j))])))
theorem sh_round(B:Base)(e:Za)(i:Int)(z:Nat->Yn):((ev (Zp P [Zcp] [] ze) 400 8 (JD P 8 5) B (YN 44 89 [1,2,43,44] [(0,.own),(1,.own),(33,.own)] (ZbL e i) (ZbM e z))).bind λx=>Tree.leaf (x.1,vwN 44 44 89 [1,2,43,44] [(0,.own),(1,.own),(33,.own)] x.2))=sh_T e i z:=by kernel_rfl
def sh_lp(e:Za)(g:Nat->Yn):Lp:=⟨8,5,λ_ s=>match vwN 44 44 89 [1,2,43,44] [(0,.own),(1,.own),(33,.own)] s with
 |(ze,.cons (.ptr ze 0 0 0 0) (.cons (.ptr ze 1 0 0 0) (.cons (.int _ .i64 t2) (.cons (.int _ .i64 t3) .nil))),[.var u0,.var u1,.arr 2 n f])=>bif zo s.n 44 then .need (((e.n5:Nat):Int)=t2/\0=t3/\V.soft u0=V.soft (ZaX 33 e)/\V.soft u1=V.soft UR/\e.n5=n/\∀j,(f j).soft=(Zw za (g j)).soft)
  (.leaf (.exit 0,YN 44 89 [1,2,43,44] [(0,.own),(1,.own),(33,.own)] (ZbL e ((e.n5:Nat):Int)) (ZbM e (λj=>cutG (g j)))))else .stuck
 |_=>.stuck⟩
theorem ZoM(g:Nat->Yn)(i j:Nat):(bif zo j (0+zi (i:Int))then Zw za (cutG (KO g i (0+zi (i:Int))))else Zw za (KO g i j))=Zw za (KO g (i+1) j):=by
 have e0:0+zi (i:Int)=i:=by omega
 rw[e0]
 unfold KO
 by_cases h:j=i
 ·subst h
  rw[decide_eq_false (Nat.lt_irrefl j),decide_eq_true (Nat.lt_succ_self j),Nat.beq_refl];rfl
 ·have h0:zo j i=za:=by
   cases hb:zo j i
   ·rfl
   ·exact absurd (zP hb) h
  have h1:decide (j<i+1)=decide (j<i):=by
   rw[decide_eq_decide];omega
  rw[h0,h1];rfl
theorem cutTo_end(g:Nat->Yn)(i j:Nat)(h:j<i):KO g i j=cutG (g j):=by
 unfold KO
 rw[decide_eq_true h];rfl
theorem cutTo_0(g:Nat->Yn):KO g 0=g:=by
 funext j
 unfold KO
 rw[decide_eq_false (yB j)];rfl
theorem sh_lp_ok(e:Za)(g:Nat->Yn)(hl:e.n5<=1000):(sh_lp e g).Ok P:=by
 refine VU (by kernel_rfl) λhin B s Q hq=>?_
 dsimp only[sh_lp]at hq hin⊢
 split at hq
 ·rename_i q1 t2 q2 t3 u0 u1 n f heq
  cases hsn:zo s.n 44
  ·rw[hsn]at hq;exact hq.elim
  ·rw[hsn]at hq
   obtain⟨⟨rfl,rfl,hw0,hw1,rfl,hf⟩,hq⟩:=hq
   have hsame:Qv 44 44 89 [1,2,43,44] [(0,.own),(1,.own),(33,.own)] s (ZbL e 0) (ZbM e (KO g 0)):=by
    rw[cutTo_0]
    refine⟨by rw[heq],by rw[heq];exact Le.soft rfl,by rw[heq];exact⟨LeK.var (Le.soft hw0),LeK.var (Le.soft hw1),LeK.QL rfl (λj _=>hf j),trivial⟩⟩
   refine Zi8 (k:=400) (f:=8) (ZC hm hn (l:=[Zcp]) ⟨Zke,trivial⟩ (ls:=[]) trivial ze) rfl hin e.n5 (λi=>ZbL e i) (λi=>ZbM e (KO g i)) (λ_=>True) Q (λi=>sh_round B e i (KO g i)) (λi hi hg=>?_) (zP hsn) trivial hsame
   refine⟨λhc=>?_,λhc=>?_⟩
   ·have hge:¬((i:Int)<((e.n5:Nat):Int)):=λh=>by rw[decide_eq_true h]at hc;cases hc
    have ei:i=e.n5:=by omega
    subst ei
    exact⟨rfl,_,ZbM e (λj=>cutG (g j)),Le.refl _,⟨LeK.refl _,LeK.refl _,LeK.arr rfl (λj hj=>by rw[cutTo_end g _ j hj]),trivial⟩,hq⟩
   ·have hlt:((i:Int)<((e.n5:Nat):Int)):=by
     apply Classical.byContradiction;intro h;rw[decide_eq_false h]at hc;cases hc
    refine⟨⟨⟨by omega,hlt⟩,by omega,⟨rfl,trivial⟩,⟨by omega,hlt⟩,by omega⟩,?_⟩
    rw[IntWalk.i64_in ((i:Int)+1) ⟨by omega,by omega⟩]
    exact⟨rfl,by omega,trivial,Le.soft rfl,⟨LeK.refl _,LeK.refl _,LeK.arr rfl (λj hj=>ZoM g i j),trivial⟩⟩
 ·exact hq.elim
def cutA(a:Za):Za:={ a with n1:=Yp 9 a.n1,n2:=Yp 5 a.n2,n3:=Yp 9 a.n3,n4:=Yp 17 a.n4,n5:=Yp 9 a.n5,n8:=Yp 33 a.n8 }
def WQ(a:Za):Za:={ cutA a with n6:=Yp 17 a.n6,n7:=Yp 9 a.n7,n10:=Yp 33 a.n10,n11:=Yp 17 a.n11,n12:=Yp 9 a.n12,r5:=λj=>cutG (a.r5 j) }
def Vq(v:V):Prop:=v=v/\True
theorem Zrx(a:Za):ZU (Zp P [ZhO,ZhP,ZhQ,ZhR,ZhS,Zcp,ZhT,ZhU,ZhV,ZhW,ZhX] [sh_lp (cutA a) (λj=>a.r5 j)] ze) 400 8 (.cons (.agg (Z9 za a)) .nil)=
 .need (Vq (.cons (.rsl za 2 a.n1 λj=>ZR za (a.r1 j)) (.cons (.int za .i64 9) .nil))) (.need (Vq (.cons (.rsl za 1 a.n2 λj=>ZL za (a.r2 j)) (.cons (.int za .i64 5) .nil))) (.need (Vq (.cons (.rsl za 4 a.n3 λj=>Zr za (a.r3 j)) (.cons (.int za .i64 9) .nil))) (.need (Vq (.cons (.rsl za 4 a.n4 λj=>Zn za (a.r4 j)) (.cons (.int za .i64 17) .nil))) (.need ((0:Int)<=cutI 9 a.n5/\cutI 9 a.n5<=((a.n5:Nat):Int)) (.need (True/\fits (Yp 9 a.n5-0) 32/\∀(j:Nat),j<Yp 9 a.n5-0->V.Y6 (Zw za (a.r5 (0+j)))=ze/\V.clean (Zw za (a.r5 (0+j)))=ze) (.need (Vq (.cons (.rsl za 5 a.n8 λj=>ZI za (a.r8 j)) (.cons (.int za .i64 33) .nil))) (.need ((((cutA a).n5:Nat):Int)=((Yp 9 a.n5-0:Nat):Int)/\(0:Int)=0/\V.soft (ZaX 33 (cutA a))=V.soft (ZaX 33 (cutA a))/\V.soft UR=V.soft UR/\(cutA a).n5=(cutA a).n5/\∀j,(Zw za (a.r5 (0+j))).soft=(Zw za (a.r5 j)).soft) (.need (Vq (.cons (.rsl za 3 a.n11 λj=>Zx za (a.r11 j)) (.cons (.int za .i64 17) .nil))) (.need (Vq (.cons (.rsl za 2 a.n10 λj=>ZE za (a.r10 j)) (.cons (.int za .i64 33) .nil))) (.need (Vq (.cons (.rsl za 11 a.n6 λj=>Zo za (a.r6 j)) (.cons (.int za .i64 17) .nil))) (.need (Vq (.cons (.rsl za 2 a.n7 λj=>ZO za (a.r7 j)) (.cons (.int za .i64 9) .nil))) (.need (Vq (.cons (.rsl za 2 a.n12 λj=>Zt za (a.r12 j)) (.cons (.int za .i64 9) .nil))) (.need (0+Yp 9 a.n5<=Yp 9 a.n5) (.leaf (.agg (Z9 za { WQ a with r5:=λj=>cutG (a.r5 (0+j)) })))))))))))))))):=by kernel_rfl
theorem Zrw(a:Za):Zi P 8 (.cons (.agg (Z9 za a)) .nil) (.agg (Z9 za (WQ a))):=by
 refine meets (ZC hm hn (l:=[ZhO,ZhP,ZhQ,ZhR,ZhS,Zcp,ZhT,ZhU,ZhV,ZhW,ZhX]) ⟨ZnW,ZnX,ZnY,ZnZ,Zn0,Zke,Zn1,Zn2,Zn3,Zn4,Zn5,trivial⟩ (ls:=[sh_lp (cutA a) (λj=>a.r5 j)]) ⟨sh_lp_ok _ _ (Nat.le_trans (JA (m:=9)).1 (by decide)),trivial⟩ ze) 400 (Has.of hn Tryz.func8 rfl) (Zrx a) ?_
 refine⟨⟨rfl,trivial⟩,⟨rfl,trivial⟩,⟨rfl,trivial⟩,⟨rfl,trivial⟩,ZkF (m:=9),⟨trivial,ZkE (m:=9) (by decide),λj _=>⟨rfl,rfl⟩⟩,⟨rfl,trivial⟩,⟨rfl,rfl,rfl,rfl,rfl,λj=>by rw[z8]⟩,⟨rfl,trivial⟩,⟨rfl,trivial⟩,⟨rfl,trivial⟩,⟨rfl,trivial⟩,⟨rfl,trivial⟩,Nat.le_of_eq (z8 _),rfl,?_⟩
 have e:(λj=>cutG (a.r5 (0+j)))=λj=>cutG (a.r5 j):=by funext j;rw[z8]
 rw[e]
 rfl
theorem ZkD(a:Za):(WQ a).n1<=9/\(WQ a).n2<=5/\(WQ a).n3<=9/\(WQ a).n4<=17/\(WQ a).n5<=9/\(WQ a).n6<=17/\(WQ a).n8<=33/\(WQ a).n10<=33/\(WQ a).n11<=17/\(WQ a).n12<=9/\∀j,((WQ a).r5 j).n1<=17:=
 ⟨(JA (m:=9)).1,(JA (m:=5)).1,(JA (m:=9)).1,(JA (m:=17)).1,(JA (m:=9)).1,(JA (m:=17)).1,(JA (m:=33)).1,(JA (m:=33)).1,(JA (m:=17)).1,(JA (m:=9)).1,λj=>(JA (m:=17)).1⟩
theorem vcheck0:ZU (Zp P [] [] ze) 400 60 (.cons (.agg (.cons (.int ze .i64 0) (.cons .Zl (.cons .Zl .nil)))) .nil)=.leaf (.int ze .i64 0):=by
 rw[<- ZcO Za5]
 kernel_rfl
theorem Zr7:Zi P 60 (.cons (.agg (.cons (.int ze .i64 0) (.cons .Zl (.cons .Zl .nil)))) .nil) (.int ze .i64 0):=
 meets (E:=en []) (GJ (l:=[]) trivial) 400 (Has.of hn Tryz.func60 rfl) vcheck0 ⟨rfl,rfl⟩
def Wt:Con:={ g:=60,al:=ze,ans:=λx=>match x with
 | .cons (.agg (.cons (.int _ .i64 (.ofNat 0)) (.cons .Zl (.cons .Zl .nil)))) .nil=>zk (.sure (.int ze .i64 0))
 |_=>zm }
theorem ZaR:Wt.Ok P:=by
 intro x
 dsimp only[Wt]
 split
 ·rename_i h
  split at h
  ·injection h with h;injection h with h;subst h
   exact Zr7
  ·cases h
 ·rename_i h
  split at h<;>cases h
 ·rename_i h
  split at h<;>cases h
 ·trivial
theorem Zrz(z:Int):ZU (en [Wt]) 400 71 (.cons (.agg (.cons (.int ze .i64 0) (.cons .Zl (.cons .Zl .nil)))) (.cons (.int za .i64 z) .nil))=
  Tree.node (bif !bif decide (z>=(1:Int))then decide (z<=(16:Int))else za then ze else za) (.leaf (.tup (.cons (.int ze .i64 0) (.cons (.bool ze za) .nil)))) (.leaf (.tup (.cons (.int ze .i64 0) (.cons (.bool ze za) .nil)))):=by kernel_rfl
theorem Zry(z:Int):Zi P 71 (.cons (.agg (.cons (.int ze .i64 0) (.cons .Zl (.cons .Zl .nil)))) (.cons (.int za .i64 z) .nil)) (.tup (.cons (.int ze .i64 0) (.cons (.bool ze za) .nil))):=
 meets (E:=en [Wt]) (GJ (l:=[Wt]) ⟨ZaR,trivial⟩) 400 (Has.of hn Tryz.func71 rfl) (Zrz z) ⟨λ_=>⟨rfl,rfl⟩,λ_=>⟨rfl,rfl⟩⟩
def Qb:Con:={ g:=71,al:=ze,ans:=λx=>match x with
 | .cons (.agg (.cons (.int _ .i64 (.ofNat 0)) (.cons .Zl (.cons .Zl .nil)))) (.cons (.int _ .i64 _) .nil)=>zk (.sure (.tup (.cons (.int ze .i64 0) (.cons (.bool ze za) .nil))))
 |_=>zm }
theorem Zcs:Qb.Ok P:=by
 intro x
 dsimp only[Qb]
 split
 ·rename_i h
  split at h
  ·injection h with h;injection h with h;subst h
   exact Zry _
  ·cases h
 ·rename_i h
  split at h<;>cases h
 ·rename_i h
  split at h<;>cases h
 ·trivial
def m60_0_a:V:=(.cons (.agg (.cons (.rsl ze 4 1 (J6 [(.cons (.int ze .i64 1) (.cons (.int ze .i64 256) (.cons (.int ze .i64 0) (.cons (.int ze .i64 0) .nil))))])) (.cons (.rsl ze 4 2 (J6 [(.cons (.int ze .i64 1) (.cons (.int ze .i64 1) (.cons (.int ze .u32 3) (.cons (.int ze .u32 0) .nil)))),(.cons (.int ze .i64 2) (.cons (.int ze .i64 1) (.cons (.int ze .u32 3) (.cons (.int ze .u32 0) .nil))))])) .nil))) .nil)
def m60_0_r:V:=(.int ze .i64 0)
theorem m60_0:Zi P 57 m60_0_a m60_0_r:=
 ZgA (E:=Zp P [Wt,Qb] [] ze) (gs:=Yf [Wt,Qb]) Za5 (GJ (l:=[Wt,Qb]) ⟨ZaR,Zcs,trivial⟩) 400 (Has.of hn Tryz.func57 rfl) (by kernel_rfl) rfl
def Jb:Con:=Zgh 57 [(m60_0_a,m60_0_r)]
theorem Zfq:Jb.Ok P:=Zi5 ⟨m60_0,trivial⟩
def ZlP:V:=(.cons (.agg (.cons (.rsl ze 4 1 (J6 [(.cons (.int ze .i64 1) (.cons (.int ze .i64 256) (.cons (.int ze .i64 0) (.cons (.int ze .i64 0) .nil))))])) (.cons (.rsl ze 4 2 (J6 [(.cons (.int ze .i64 1) (.cons (.int ze .i64 1) (.cons (.int ze .u32 3) (.cons (.int ze .u32 0) .nil)))),(.cons (.int ze .i64 2) (.cons (.int ze .i64 1) (.cons (.int ze .u32 3) (.cons (.int ze .u32 0) .nil))))])) .nil))) (.cons (.int ze .i64 1) .nil))
def ZlQ:V:=(.tup (.cons (.agg (.cons (.int ze .i64 1) (.cons (.int ze .i64 1) (.cons (.int ze .u32 3) (.cons (.int ze .u32 0) .nil))))) (.cons (.bool ze ze) .nil)))
theorem m186_0:Zi P 110 ZlP ZlQ:=
 ZgA (E:=Zp P [Wt,Qb,Jb] [] ze) (gs:=Yf [Wt,Qb,Jb]) Za5 (GJ (l:=[Wt,Qb,Jb]) ⟨ZaR,Zcs,Zfq,trivial⟩) 400 (Has.of hn Tryz.func110 rfl) (by kernel_rfl) rfl
def ZlR:V:=(.cons (.agg (.cons (.rsl ze 4 1 (J6 [(.cons (.int ze .i64 1) (.cons (.int ze .i64 256) (.cons (.int ze .i64 0) (.cons (.int ze .i64 0) .nil))))])) (.cons (.rsl ze 4 2 (J6 [(.cons (.int ze .i64 1) (.cons (.int ze .i64 1) (.cons (.int ze .u32 3) (.cons (.int ze .u32 0) .nil)))),(.cons (.int ze .i64 2) (.cons (.int ze .i64 1) (.cons (.int ze .u32 3) (.cons (.int ze .u32 0) .nil))))])) .nil))) (.cons (.int ze .i64 2) .nil))
def ZlS:V:=(.tup (.cons (.agg (.cons (.int ze .i64 2) (.cons (.int ze .i64 1) (.cons (.int ze .u32 3) (.cons (.int ze .u32 0) .nil))))) (.cons (.bool ze ze) .nil)))
theorem m186_1:Zi P 110 ZlR ZlS:=
 ZgA (E:=Zp P [Wt,Qb,Jb] [] ze) (gs:=Yf [Wt,Qb,Jb]) Za5 (GJ (l:=[Wt,Qb,Jb]) ⟨ZaR,Zcs,Zfq,trivial⟩) 400 (Has.of hn Tryz.func110 rfl) (by kernel_rfl) rfl
def VB:Con:=Zgh 110 [(ZlP,ZlQ),(ZlR,ZlS)]
theorem Zkk:VB.Ok P:=Zi5 ⟨m186_0,m186_1,trivial⟩
def m20_0_a:V:=(.cons (.agg (.cons (.int ze .i64 0) (.cons (.rsl ze 2 2 (J6 [(.cons (.int ze .i64 0) (.cons (.int ze .i64 0) .nil)),(.cons (.int ze .i64 0) (.cons (.int ze .i64 1) .nil))])) (.cons (.rsl ze 1 1 (J6 [(.cons (.int ze .u32 3) .nil)])) (.cons (.rsl ze 4 1 (J6 [(.cons (.int ze .i64 1) (.cons (.int ze .i64 256) (.cons (.int ze .i64 0) (.cons (.int ze .i64 0) .nil))))])) (.cons (.rsl ze 4 2 (J6 [(.cons (.int ze .i64 1) (.cons (.int ze .i64 1) (.cons (.int ze .u32 3) (.cons (.int ze .u32 0) .nil)))),(.cons (.int ze .i64 2) (.cons (.int ze .i64 1) (.cons (.int ze .u32 3) (.cons (.int ze .u32 0) .nil))))])) (.cons .Zl (.cons (.rsl ze 11 2 (J6 [(.cons (.int ze .i64 1) (.cons (.int ze .i64 1) (.cons (.int ze .i64 0) (.cons (.int ze .u32 0) (.cons (.int ze .i64 0) (.cons (.int ze .u64 0) (.cons (.int ze .u64 0) (.cons (.int ze .u64 256) (.cons (.int ze .u64 1) (.cons (.int ze .i64 0) (.cons (.int ze .i64 0) .nil))))))))))),(.cons (.int ze .i64 2) (.cons (.int ze .i64 1) (.cons (.int ze .i64 0) (.cons (.int ze .u32 0) (.cons (.int ze .i64 0) (.cons (.int ze .u64 0) (.cons (.int ze .u64 0) (.cons (.int ze .u64 256) (.cons (.int ze .u64 2) (.cons (.int ze .i64 0) (.cons (.int ze .i64 0) .nil)))))))))))])) (.cons (.rsl ze 2 1 (J6 [(.cons (.int ze .i64 0) (.cons (.int ze .i64 0) .nil))])) (.cons .Zl (.cons (.int ze .i64 0) (.cons .Zl (.cons .Zl (.cons (.rsl ze 2 2 (J6 [(.cons (.int ze .i64 1) (.cons (.int ze .i64 0) .nil)),(.cons (.int ze .i64 2) (.cons (.int ze .i64 1) .nil))])) (.cons (.int ze .u64 2) .nil))))))))))))))) .nil)
def m20_0_r:V:=(.int ze .i64 0)
theorem m20_0:Zi P 9 m20_0_a m20_0_r:=
 ZgA (E:=Zp P [Wt,Qb,Jb,VB] [] ze) (gs:=Yf [Wt,Qb,Jb,VB]) Za5 (GJ (l:=[Wt,Qb,Jb,VB]) ⟨ZaR,Zcs,Zfq,Zkk,trivial⟩) 400 (Has.of hn Tryz.func9 rfl) (by kernel_rfl) rfl
def ZaM:Con:=Zgh 9 [(m20_0_a,m20_0_r)]
theorem c_m20_ok:ZaM.Ok P:=Zi5 ⟨m20_0,trivial⟩
end Go.Proofs.YthhbdbeglmkijaaGreatDoor
end
