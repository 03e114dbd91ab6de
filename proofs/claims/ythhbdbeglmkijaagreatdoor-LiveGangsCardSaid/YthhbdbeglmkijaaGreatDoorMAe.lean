/- A region that draws its order: the proof that every order serves. -/
import Derived.Test.YthhbdbeglmkijaaGreatDoorMAd
set_option maxRecDepth 100000
set_option linter.unusedVariables false
set_option linter.unusedSimpArgs false
noncomputable section
open Bool renaming true→ze,false→za,and_eq_true→zL,not_eq_true'→yg
open Option renaming some→zi,none→zm
open Nat renaming not_lt_zero→yB,le_refl→zI,zero_add→zX,beq→zq,ble→zK,le_of_ble_eq_true→yA,eq_of_beq_eq_true→zO,blt→zG
open Go.Sem renaming run_bind→zM,run_pure→zV
open Go.Result renaming andThen_ok→zP
namespace Go.Fw
variable{W:Nat->Prop}
theorem stays{α:Type}{f:Nat->α}{N:Nat}(h:∀i,i<N->¬W i->f (i+1)=f i):∀a c,a<=c->c<=N->(∀d,a<=d->d<c->¬W d)->f c=f a:=by
 intro a c
 induction c<;>grind
theorem reads{α:Type}{f:Nat->α}{N:Nat}{L:Nat->Prop}(h:∀i,i<N->¬W i->f (i+1)=f i){k i:Nat}(hk:k<=N)(hi:i<N)
  (hL:∀d,d<N->W d->(L d↔d<k))(hlow:∀d,d<i->W d->L d)(hhigh:∀d,i<=d->d<N->W d->¬L d):f k=f i:=by
 rcases Nat.le_total k i with hki|hki
 ·exact(stays h k i hki (by omega) λd h1 h2 hw=>by have:=(hL d (by omega) hw).1 (hlow d h2 hw);omega).symm
 ·exact stays h i k hki hk λd h1 h2 hw=>hhigh d h1 (by omega) hw ((hL d (by omega) hw).2 h2)
theorem cnt_lt(p q:Nat->Bool)(i:Nat):∀(l:List Nat),(∀j,q j=ze->p j=ze)->i∈l->p i=ze->q i=za->(l.filter q).length<(l.filter p).length:=by
 have le:∀(l:List Nat),(∀j,q j=ze->p j=ze)->(l.filter q).length<=(l.filter p).length:=by
  intro l h
  induction l<;>grind
 intro l
 induction l<;>grind
section
variable{E:Env}{call:Xh}{ops:Array Oper}{bf:List Nat}{nb:Nat}{Bs:Base}{S:Nat->St Bs}{fp:Nat->Ft}
def WrT(ops:Array Oper)(t d:Nat):Prop:=∃o,ops[d]? =zi o/\o.dst=zi t
def WrB(fp:Nat->Ft)(b d:Nat):Prop:=(fp d).m=zi (ze,zi b)\/((fp d).m=zi (ze,zm)/\(fp d).w b=ze)\/(fp d).l=zi b
def Ji(fp:Nat->Ft)(d:Nat):Prop:=(fp d).m=zi (ze,zm)
variable{s:St Bs}{nm b:Nat}{o:Op}
theorem foot_l(h:(foot s nm o).l=zi b):b=nm:=by
 cases o<;>simp only[foot]at h<;>try(cases h;done)
 all_goals first
  |(injection h with h;exact h.symm)
  |(split at h<;>first|(cases h;done)|(injection h with h;exact h.symm))
theorem foot_lays{o:Oper}(h:(foot s nm o.op).l=zi b):lays o=ze:=by
 unfold lays
 cases hop:o.op<;>rw[hop]at h<;>simp only[foot]at h<;>try rfl
 all_goals try(cases h;done)
 all_goals try(split at h<;>cases h;done)
 grind
theorem ZkV:(foot s nm o).m≠zi (ze,zm):=by
 intro h
 cases o<;>simp only[foot]at h<;>try(cases h;done)
 all_goals split at h<;>try(cases h;done)
 grind
variable{dst:Option Tmp}{v:V}
theorem ZbA{t:Nat}(h:dst≠zi t):(s.put dst v).tmp t=s.tmp t:=by
 unfold St.put
 grind[GR]
theorem ZmO{x:Option (Nat×Blk)}(h:∀blk,x≠zi (b,blk)):(s.wr x).blk b=s.blk b:=by
 cases x with
 |none=>rfl
 |some q=>obtain⟨b',blk⟩:=q;exact GR _ _ _ (λe=>h blk (by rw[e]))
variable{sz:Nat}{kn:List (Nat×Bool)}
theorem ZkC{nb:Nat}{r:V×Option (Nat×Blk)}(hf:(evD E call s nb sz nm kn o).flat=ze)(hr:(evD E call s nb sz nm kn o).holds E.P λx=>x=r){blk:Blk}(h2:r.2=zi (b,blk)) :
  (foot s nm o).m=zi (ze,zi b)\/(foot s nm o).l=zi b:=by
 obtain⟨r',hp',e⟩:=Tree.All_holds _ hf evD_All hr
 grind
theorem ZgC{α:Type}(d:Nat->α)(t u:PT α)(i:Nat):look d (t.over u) i=look (look d t) u i:=by
 grind[look,PT.get_over]
theorem Zl2(s:St Bs)(o:PT Blk)(n' b:Nat):({ s with h:=s.h.over o,n:=n' }:St Bs).blk b=look s.blk o b:=ZgC _ _ _ _
theorem Path.tmp(hp:Path E call ops bf nb S fp)(t:Nat):∀i,i<ops.size->¬WrT ops t i->(S (i+1)).tmp t=(S i).tmp t:=by
 intro i hi hw
 have ho:ops[i]? =zi ops[i]:=Array.getElem?_eq_getElem hi
 have hne:ops[i].dst≠zi t:=λe=>hw ⟨ops[i],ho,e⟩
 rcases hp.step i _ ho with⟨r,_,_,_,_,_,_,_,e,_⟩|⟨r,_,_,_,_,_,e,_⟩|⟨r,_,_,_,_,e,_⟩|⟨_,_,e,_⟩<;>simp_all[ZbA,St.tmp,St.wr_t]
theorem Path.blk(hp:Path E call ops bf nb S fp)(b:Nat):∀i,i<ops.size->¬WrB fp b i->(S (i+1)).blk b=(S i).blk b:=by
 intro i hi hw
 have ho:ops[i]? =zi ops[i]:=Array.getElem?_eq_getElem hi
 rcases hp.step i _ ho with⟨r,_,_,_,_,hf,hr,_,e,hfp⟩|⟨r,_,_,_,_,_,e,hfp⟩|⟨r,_,_,_,_,e,hfp⟩|⟨_,_,e,_⟩
 ·rw[e]
  simp only[St.blk,St.VJ]
  grind[ZmO,WrB,ZkC]
 ·simp_all[St.blk,St.VJ]
 ·rw[e]
  have h1:(({ S i with h:=(S i).h.over r.2.1,n:=r.2.2 }:St Bs).put ops[i].dst r.1).blk b=look (S i).blk r.2.1 b:=by
   rw[show(({ S i with h:=(S i).h.over r.2.1,n:=r.2.2 }:St Bs).put ops[i].dst r.1).blk b=({ S i with h:=(S i).h.over r.2.1,n:=r.2.2 }:St Bs).blk b by simp only[St.blk,St.VJ]]
   simp_all[Zl2]
  grind[look,WrB,Jl]
 simp_all[St.blk,St.VJ]
theorem Path.nn(hp:Path E call ops bf nb S fp):∀i,i<ops.size->¬Ji fp i->(S (i+1)).n=(S i).n:=by
 intro i hi hw
 have ho:ops[i]? =zi ops[i]:=Array.getElem?_eq_getElem hi
 rcases hp.step i _ ho with⟨r,_,_,_,_,hf,hr,_,e,hfp⟩|⟨r,_,_,_,_,_,e,hfp⟩|⟨r,_,_,_,_,e,hfp⟩|⟨_,_,e,_⟩
 ·rw[e,St.J4,St.wr_n]
 ·rw[e,St.J4]
 ·exact absurd (show Ji fp i by rw[Ji,hfp];rfl) hw
 ·rw[e,St.J4]
theorem Path.fixed(hp:Path E call ops bf nb S fp):∀i,i<=ops.size->(S i).N=(S 0).N:=by
 intro i
 induction i with
 |zero=>omega
 |succ i ih=>
  intro hi
  have h2:=ih (by omega)
  have ho:ops[i]? =zi ops[i]:=Array.getElem?_eq_getElem (by omega)
  rcases hp.step i _ ho with⟨r,_,_,_,_,_,_,_,e,_⟩|⟨r,_,_,_,_,_,e,_⟩|⟨r,_,_,_,_,e,_⟩|⟨_,_,e,_⟩<;>grind[St.Zbz,St.wr_N]
variable{i:Nat}
theorem Path.lay(hp:Path E call ops bf nb S fp)(hi:i<ops.size)(h:(fp i).l=zi b):b=nb+i:=by
 have ho:ops[i]? =zi ops[i]:=Array.getElem?_eq_getElem hi
 rcases hp.step i _ ho with⟨r,_,_,_,_,_,_,_,_,hfp⟩|⟨r,_,_,_,_,_,_,hfp⟩|⟨r,_,_,_,_,_,hfp⟩|⟨_,_,_,hfp⟩
 ·grind[foot_l]
 ·rw[hfp]at h
  cases h
 ·rw[hfp]at h
  cases h
 grind
structure Inv(ops:Array Oper)(bf:List Nat)(nb:Nat)(S:Nat->St Bs)(fp:Nat->Ft)(L:Array Bool)(s:St Bs):Prop where
 size:L.size=ops.size
 closed:∀d e,L.getD d za=ze->(bf.getD d 0).testBit e=ze->L.getD e za=ze
 tmp:∀t,∃k,k<=ops.size/\s.tmp t=(S k).tmp t/\∀d,d<ops.size->WrT ops t d->(L.getD d za=ze↔d<k)
 blk:∀b,∃k,k<=ops.size/\s.blk b=(S k).blk b/\∀d,d<ops.size->WrB fp b d->(L.getD d za=ze↔d<k)
 n:∃k,k<=ops.size/\s.n=(S k).n/\∀d,d<ops.size->Ji fp d->(L.getD d za=ze↔d<k)
 N:s.N=(S 0).N
 res:ops.toList.any lays=ze->nb+ops.size<=s.n
 late:∀i d,WC ops bf i d (fp i)=ze->L.getD d za=ze->L.getD i za=ze
theorem getD_none(N d:Nat):(Array.replicate N za).getD d za=za:=by
 rw[Array.getD_eq_getD_getElem?,Array.getElem?_replicate]
 grind
theorem Inv.start(hres:ops.toList.any lays=ze->nb+ops.size<=(S 0).n):Inv ops bf nb S fp (Array.replicate ops.size za) (S 0) where
 size:=by simp
 closed d e h:=by rw[getD_none]at h;cases h
 tmp t:=⟨0,Nat.zero_le _,rfl,λd hd _=>by rw[getD_none];simp⟩
 blk b:=⟨0,Nat.zero_le _,rfl,λd hd _=>by rw[getD_none];simp⟩
 n:=⟨0,Nat.zero_le _,rfl,λd hd _=>by rw[getD_none];simp⟩
 N:=rfl
 res:=hres
 late i d _ h:=by rw[getD_none]at h;cases h
theorem Zaf{x y:Oper}(h:tied ops x y=za):(∀d,x.dst=zi d->d∉looks ops y/\y.dst≠zi d)/\(∀d,y.dst=zi d->d∉looks ops x):=by
 grind[tied,refine]
structure VX(ops:Array Oper)(bf:List Nat):Prop where
 ties:∀i j x y,i<j->ops[i]? =zi x->ops[j]? =zi y->tied ops x y=ze->(bf.getD j 0).testBit i=ze
 edge:∀i o,ops[i]? =zi o->∀e,(bf.getD i 0).testBit e=ze->∃ed∈o.after.toList,Region.binds .any ed=ze/\(e=ed.on\/(bf.getD ed.on 0).testBit e=ze)
 back:∀i o,ops[i]? =zi o->∀ed∈o.after.toList,Region.binds .any ed=ze->ed.on<i
theorem ZnE:∀(l:List Oper)(j:Nat),ZeT l j=ze->∀i o,l[i]? =zi o->∀ed∈o.after.toList,Region.binds .any ed=ze->ed.on<j+i:=by
 intro l
 induction l with
 |nil=>grind
 |cons a l ih=>
  intro j h i o ho ed hed hb
  simp only[ZeT,zL]at h
  grind[List.getElem?_cons_zero,Nat.blt_eq,List.getElem?_cons_succ]
theorem edges_of(h:Gb ops (bfs ops.toList [])=ze):VX ops (bfs ops.toList []):=by
 simp only[Gb,zL]at h
 refine⟨λi j x y hij hx hy ht=>?_,λi o ho=>?_,λi o ho ed hed hb=>?_⟩
 ·have hj:j<ops.size:=(Array.getElem?_eq_some_iff.1 hy).1
  have h1:=List.all_eq_true.1 h.2 j (List.mem_range.2 hj)
  grind
 ·exact bfs_spec ops.toList ops.toList [] (by simp) (λi=>by simp) (λi hi=>absurd hi (yB _)) i o (by simpa using ho)
 ·have:=ZnE ops.toList 0 h.1 i o (by simpa using ho) ed hed hb
  omega
section
variable{L:Array Bool}{s:St Bs}{i:Nat}{o:Oper}
theorem Wz(hi:i<L.size)(d:Nat):(L.setIfInBounds i ze).getD d za=ze↔d=i\/L.getD d za=ze:=by
 by_cases e:d=i
 ·simp_all
 ·simp[Array.getD_eq_getD_getElem?,Array.getElem?_setIfInBounds_ne (Ne.symm e),e]
def Wr(f:Ft)(b:Nat):Prop:=f.m=zi (ze,zi b)\/(f.m=zi (ze,zm)/\f.w b=ze)\/f.l=zi b
variable{nb sz b:Nat}{f g:Ft}
theorem Zfn(hf:Wr f b)(hg:Wr g b):clash nb sz f g=ze:=by
 unfold clash
 rcases hf with hf|⟨hf,hf2⟩|hf<;>rcases hg with hg|⟨hg,hg2⟩|hg<;>simp[U8,ZaR,Zfm,hf,hg]
variable{w:Bool}
theorem Zkn(hf:f.m=zi (ze,zm))(hg:g.m=zi (w,zm)):clash nb sz f g=ze/\clash nb sz g f=ze:=by
 grind[clash,U8]
theorem clash_rd(hf:Wr f b)(hg:g.m=zi (w,zi b)):clash nb sz f g=ze/\clash nb sz g f=ze:=by
 unfold clash
 constructor<;>rcases hf with hf|⟨hf,hf2⟩|hf<;>simp[U8,ZaR,Zfm,hf,hg]
 ·simp[hf2]
 grind
theorem clash_all(hf:Wr f b)(hl:f.l=zi b->JX nb sz b=ze)(hb:w=ze\/g.q=ze\/JX nb sz b=za)(hg:g.m=zi (w,zm)):clash nb sz f g=ze/\clash nb sz g f=ze:=by
 unfold clash
 rcases hf with hf|⟨hf,hf2⟩|hf
 ·grind[U8,JX]
 ·grind[U8]
 simp_all[ZaR,Bool.true_or,Bool.or_true]
theorem clash_lay(hf:Wr f b)(hg:g.l=zi b):clash nb sz f g=ze/\clash nb sz g f=ze:=by
 unfold clash
 constructor<;>rcases hf with hf|⟨hf,hf2⟩|hf<;>simp[U8,ZaR,Zfm,hf,hg]
section
variable(hp:Path E call ops bf nb S fp)(he:VX ops bf)(hv:Inv ops bf nb S fp L s)(hi:i<ops.size)(ho:ops[i]? =zi o)(hn:L.getD i za=za)
  (hready:∀e,(bf.getD i 0).testBit e=ze->L.getD e za=ze)(hlate:∀i',WC ops bf i' i (fp i')=ze->L.getD i' za=ze)
include hp he hv hi ho hn hready hlate
theorem Inv.ZlT{v:V}{s2 S2:St Bs}(h1:s2.t=s.t)(h2:S2.t=(S i).t)(hS:S (i+1)=S2.put o.dst v)(t:Nat):∃k,k<=ops.size/\(s2.put o.dst v).tmp t=(S k).tmp t/\∀d,d<ops.size->WrT ops t d->((L.setIfInBounds i ze).getD d za=ze↔d<k):=by
 have _:=hp
 have hiL:i<L.size:=by
  rw[hv.size]
  exact hi
 have high:∀d,L.getD d za=ze->(bf.getD d 0).testBit i=ze->False:=λd h1 h2=>by
  have:=hv.closed d i h1 h2
  grind
 by_cases ht:o.dst=zi t
 ·refine⟨i+1,by omega,?_,λd hd hwr=>?_⟩
  ·grind[St.put,look,PT.set,Un]
  ·rw[Wz hiL]
   obtain⟨o',ho',hd'⟩:=hwr
   constructor
   ·rintro(rfl|h)
    ·omega
    ·rcases Nat.lt_or_ge i d with hlt|hge
     ·exfalso
      refine high d h (he.ties i d o o' hlt ho ho' ?_)<;>grind[refine,tied,Zaf]
     ·omega
   ·intro hlt
    by_cases e:d=i
    ·omega
    ·right
     refine hready d (he.ties d i o' o (by omega) ho' ho ?_)<;>grind[refine,tied,Zaf]
 ·obtain⟨k,hk,h3,h4⟩:=hv.tmp t
  refine⟨k,hk,by rw[ZbA ht];simp only[St.tmp,h1];exact h3,λd hd hwr=>?_⟩
  rw[Wz hiL]
  have hne:d≠i:=by
   rintro rfl
   obtain⟨o',ho',hd'⟩:=hwr
   grind
  grind
variable{W:Nat->Prop}
theorem Inv.order(hW:∀d,W d->d≠i->clash nb ops.size (fp d) (fp i)=ze/\clash nb ops.size (fp i) (fp d)=ze)(d:Nat)(hd:d<ops.size)(hwr:W d):(L.setIfInBounds i ze).getD d za=ze↔d<i+1:=by
 have _:=he
 have hiL:i<L.size:=by
  rw[hv.size]
  exact hi
 have high:∀d,L.getD d za=ze->(bf.getD d 0).testBit i=ze->False:=λd h1 h2=>by
  have:=hv.closed d i h1 h2
  grind
 rw[Wz hiL]
 constructor
 ·rintro(rfl|h)
  ·omega
  ·rcases Nat.lt_or_ge i d with hlt|hge
   ·cases hlb:WC ops bf i d (fp i)with
    |true=>
     have:=hv.late i d hlb h
     grind
    |false=>exact absurd (hp.cl i d hlt hd (by unfold KL;rw[(hW d hwr (by omega)).2,hlb];rfl)) (λhbit=>high d h hbit)
   ·omega
 ·intro hlt
  by_cases e:d=i
  ·omega
  ·cases hlb:WC ops bf d i (fp d)with
   |true=>grind
   |false=>exact .inr (hready d (hp.cl d i (by omega) hi (by unfold KL;rw[(hW d hwr e).1,hlb];rfl)))
theorem Inv.next{v:V}{x:Option (Nat×Blk)}(hx:∀b blk,x=zi (b,blk)->WrB fp b i)(hnb:¬Ji fp i)
  (hrd:∀b,WrB fp b i->s.blk b=(S i).blk b)(hS:S (i+1)=((S i).wr x).put o.dst v):Inv ops bf nb S fp (L.setIfInBounds i ze) ((s.wr x).put o.dst v):=by
 have hiL:i<L.size:=by
  rw[hv.size]
  exact hi
 refine⟨by simp[hv.size],λd e hd hb=>?_,λt=>hv.ZlT hp he hi ho hn hready hlate (St.wr_t _ _) (St.wr_t _ _) hS t,λb=>?_,?_,by rw[St.Zbz,St.wr_N,hv.N],λh=>by rw[St.J4,St.wr_n];exact hv.res h,λi' d hl hd=>by
  rw[Wz hiL]at hd⊢
  rcases hd with rfl|hd
  ·exact .inr (hlate i' hl)
  ·exact .inr (hv.late i' d hl hd)⟩
 ·rw[Wz hiL]at hd⊢
  rcases hd with rfl|hd
  ·grind
  ·exact .inr (hv.closed d e hd hb)
 ·by_cases hb:WrB fp b i
  ·refine⟨i+1,by omega,?_,hv.order hp he hi ho hn hready hlate (W:=WrB fp b) λd hd _=>⟨Zfn hd hb,Zfn hb hd⟩⟩
   rw[hS]
   simp only[St.blk,St.VJ]
   cases x with
   |none=>exact hrd b hb
   |some q=>
    obtain⟨b',blk⟩:=q
    show look _ (PT.set _ _ _) _=look _ (PT.set _ _ _) _
    grind[Yg]
  ·obtain⟨k,hk,h1,h2⟩:=hv.blk b
   refine⟨k,hk,?_,λd hd hwr=>?_⟩
   ·rw[<- h1]
    simp only[St.blk,St.VJ]
    grind[ZmO]
   grind[Wz]
 ·obtain⟨k,hk,h1,h2⟩:=hv.n
  grind[refine,St.J4,St.wr_n,Wz]
theorem Inv.nextBig{r:V×PT Blk×Nat}(hb:fp i=Jl r.2.1)(hle:s.n<=r.2.2)(hS:S (i+1)=(({ S i with h:=(S i).h.over r.2.1,n:=r.2.2 }:St Bs)).put o.dst r.1):Inv ops bf nb S fp (L.setIfInBounds i ze) ((({ s with h:=s.h.over r.2.1,n:=r.2.2 }:St Bs)).put o.dst r.1):=by
 have hiL:i<L.size:=by
  rw[hv.size]
  exact hi
 have hbig:Ji fp i:=by
  rw[Ji,hb]
  rfl
 have hblk:∀(s:St Bs) b,((({ s with h:=s.h.over r.2.1,n:=r.2.2 }:St Bs)).put o.dst r.1).blk b=look s.blk r.2.1 b:=λs b=>by
  rw[show(({ s with h:=s.h.over r.2.1,n:=r.2.2 }:St Bs).put o.dst r.1).blk b=({ s with h:=s.h.over r.2.1,n:=r.2.2 }:St Bs).blk b by simp only[St.blk,St.VJ]]
  simp_all[Zl2]
 refine⟨by simp[hv.size],λd e hd hbit=>?_,λt=>hv.ZlT hp he hi ho hn hready hlate (s2:={ s with h:=s.h.over r.2.1,n:=r.2.2 }) (S2:={ S i with h:=(S i).h.over r.2.1,n:=r.2.2 }) rfl rfl hS t,λb=>?_,?_,by rw[St.Zbz];exact hv.N,λh=>by rw[St.J4];exact Nat.le_trans (hv.res h) hle,λi' d hl hd=>by
  rw[Wz hiL]at hd⊢
  rcases hd with rfl|hd
  ·exact .inr (hlate i' hl)
  ·exact .inr (hv.late i' d hl hd)⟩
 ·rw[Wz hiL]at hd⊢
  rcases hd with rfl|hd
  ·grind
  ·exact .inr (hv.closed d e hd hbit)
 ·rw[hblk]
  cases hg:r.2.1.get b with
  |some y=>
   have hB:WrB fp b i:=by
    grind[WrB,Jl]
   refine⟨i+1,by omega,?_,hv.order hp he hi ho hn hready hlate (W:=WrB fp b) λd hd _=>⟨Zfn hd hB,Zfn hB hd⟩⟩
   grind[look]
  |none=>
   have hB:¬WrB fp b i:=λh=>by
    grind[WrB,Jl]
   obtain⟨k,hk,h1,h2⟩:=hv.blk b
   grind[refine,look,Wz]
 ·exact⟨i+1,by omega,by rw[hS];simp only[St.J4],hv.order hp he hi ho hn hready hlate (W:=Ji fp) λd hd _=>Zkn hd hbig⟩
theorem Inv.readsF{α:Type}{f:Nat->α}(hst:∀j,j<ops.size->¬W j->f (j+1)=f j){k:Nat}(hk:k<=ops.size)(h2:∀d,d<ops.size->W d->(L.getD d za=ze↔d<k))
  (hW:∀d,d<ops.size->W d->clash nb ops.size (fp d) (fp i)=ze/\clash nb ops.size (fp i) (fp d)=ze):f k=f i:=by
 have _:=he
 have high:∀d,L.getD d za=ze->(bf.getD d 0).testBit i=ze->False:=λd h1 h2=>by
  have:=hv.closed d i h1 h2;rw[hn]at this;cases this
 refine Fw.reads (f:=f) (W:=W) (L:=λd=>L.getD d za=ze) hst hk hi h2 (λd hd hwr=>?_) (λd h3 h4 hwr h5=>?_)
 ·cases hlb:WC ops bf d i (fp d)with
  |true=>exact hlate d hlb
  |false=>exact hready d (hp.cl d i hd hi (by unfold KL;rw[(hW d (by omega) hwr).1,hlb];rfl))
 ·by_cases e:d=i
  ·subst e;rw[hn]at h5;cases h5
  ·cases hlb:WC ops bf i d (fp i)with
   |true=>have:=hv.late i d hlb h5;rw[hn]at this;cases this
   |false=>exact high d h5 (hp.cl i d (by omega) h4 (by unfold KL;rw[(hW d h4 hwr).2,hlb];rfl))
theorem Inv.reads :
  (∀t∈looks ops o,s.tmp t=(S i).tmp t)/\(∀w c b,(fp i).m=zi (w,c)->((c=zm/\(w=ze\/(fp i).q=ze\/JX nb ops.size b=za))\/c=zi b)->s.blk b=(S i).blk b)/\
   (∀b,(fp i).l=zi b->s.blk b=(S i).blk b)/\((∃w,(fp i).m=zi (w,zm))->s.n=(S i).n):=by
 have high:∀d,L.getD d za=ze->(bf.getD d 0).testBit i=ze->False:=λd h1 h2=>by
  have:=hv.closed d i h1 h2
  grind
 refine⟨λt ht=>?_,λw c b hf hcb=>?_,λb hb=>?_,λhb=>?_⟩
 ·obtain⟨k,hk,h1,h2⟩:=hv.tmp t
  rw[h1]
  refine Fw.reads (f:=λk=>(S k).tmp t) (W:=WrT ops t) (L:=λd=>L.getD d za=ze) (hp.tmp t) hk hi h2 (λd hd hwr=>?_) (λd h3 h4 hwr h5=>?_)
  ·obtain⟨o',ho',hd'⟩:=hwr
   refine hready d (he.ties d i o' o hd ho' ho ?_)<;>grind[refine,tied,Zaf]
  ·obtain⟨o',ho',hd'⟩:=hwr
   by_cases e:d=i
   ·grind
   ·refine high d h5 (he.ties i d o o' (by omega) ho ho' ?_)<;>grind[refine,tied,Zaf]
 ·obtain⟨k,hk,h1,h2⟩:=hv.blk b
  rw[h1]
  refine hv.readsF hp he hi ho hn hready hlate (f:=λk=>(S k).blk b) (W:=WrB fp b) (hp.blk b) hk h2 λd hd hwr=>?_
  rcases hcb with⟨rfl,hw⟩|rfl
  ·refine clash_all hwr (λhl=>?_) hw hf
   have:=hp.lay hd hl
   simp_all[JX,zL,Nat.blt_eq,Nat.ble_eq]
  ·exact clash_rd hwr hf
 ·obtain⟨k,hk,h1,h2⟩:=hv.blk b
  rw[h1]
  exact hv.readsF hp he hi ho hn hready hlate (f:=λk=>(S k).blk b) (W:=WrB fp b) (hp.blk b) hk h2 λd hd hwr=>clash_lay hwr hb
 ·obtain⟨k,hk,h1,h2⟩:=hv.n
  rw[h1]
  obtain⟨w,hb⟩:=hb
  exact hv.readsF hp he hi ho hn hready hlate (f:=λk=>(S k).n) (W:=Ji fp) hp.nn hk h2 λd hd hwr=>Zkn hwr hb
end
end
variable{base n:Nat}{m:Nat->Option Nat}{F F':Nat->Prop}{h h':Nat->Blk}{w w':World}
theorem HR.lay2(hr:HR base m F h n w)(hl:Later F w F' w'){B:Nat}{blk:Blk}(hnm:m nm=zm)(hlt:nm<n)(hB1:w.heap.size<=B)(hB2:B<w'.heap.size)(hBF:¬F' B)
  (hh:∀b,h' b=if b=nm then blk else h b)(hblk:RB F' w' n (λb=>if b=nm then zi B else m b) blk (zi B)) :
  HR base (λb=>if b=nm then zi B else m b) F' h' n w'/\Ext base m F n w (λb=>if b=nm then zi B else m b) F' n w':=by
 have hext:Ext base m F n w (λb=>if b=nm then zi B else m b) F' n w':=
  ⟨hl.f,hl.back,λC hC=>hl.keep C (hC.elim (λh=>Nat.lt_of_lt_of_le h hr.low) (hr.fdom C)),hl.size,Yk.Kt hl.keep,
   ⟨λC hC _=>hl.keep C hC,λb C hb hC=>by
    by_cases e:b=nm
    ·rw[if_pos e]at hb;injection hb with hb;omega
    ·rw[if_neg e]at hb;exact⟨b,hb⟩⟩,zI _,
   λb hb C hC=>by
    rw[if_neg (λe=>by rw[e,hnm]at hC;cases hC)]
    exact hC,hl.calm⟩
 have hlater:=hr.later hl
 refine⟨⟨hlater.low,hlater.fdom,λb hb=>?_,λb C hC=>?_,λb hb=>?_,hlater.gl,λb C hC=>?_,λb b' C h1 h2 hne=>?_⟩,hext⟩
 ·rw[hh b]
  by_cases e:b=nm
  ·grind
  ·rw[if_neg e,if_neg e]
   exact Ka hext (λC hC=>hl.keep C (hr.dom b C hC)) (hr.blk b hb)
 ·by_cases e:b=nm
  ·grind
  ·rw[if_neg e]at hC
   exact hlater.dom b C hC
 ·rw[if_neg (by omega)]
  exact hr.new b hb
 ·by_cases e:b=nm
  ·rw[if_pos e]at hC
   injection hC with hC
   subst hC
   exact⟨Nat.le_trans hr.low hB1,hBF⟩
  ·rw[if_neg e]at hC
   exact hlater.own b C hC
 ·by_cases e1:b=nm<;>by_cases e2:b'=nm
  ·omega
  ·rw[if_pos e1]at h1
   rw[if_neg e2]at h2
   injection h1 with h1
   subst h1
   exact absurd (hr.dom _ _ h2) (Nat.not_lt.2 hB1)
  ·rw[if_neg e1]at h1
   rw[if_pos e2]at h2
   injection h2 with h2
   subst h2
   exact absurd (hr.dom _ _ h1) (Nat.not_lt.2 hB1)
  ·rw[if_neg e1]at h1
   rw[if_neg e2]at h2
   rw[hh b,hh b',if_neg e1,if_neg e2]
   exact hr.inj b b' C h1 h2 hne
theorem R_zero:∀(v:V)(m:Nat->Option Nat),(∀x,R F w v 0 m x->v.clean=ze)/\(∀xs,RL F w v 0 m xs->v.clean=ze):=by
 intro v
 induction v<;>grind[refine,R,RL,V.clean]
theorem R_lt:∀(v:V)(m:Nat->Option Nat),(∀x,R F w v n m x->v.QJ n=ze)/\(∀xs,RL F w v n m xs->v.QJ n=ze):=by
 intro v
 induction v<;>grind[refine,R,RL,V.QJ,Bool.and_self,Nat.blt_eq]
variable{n':Nat}{m':Nat->Option Nat}
theorem RB_cut{blk:Blk}{B B':Option Nat}(h:RB F w n m blk B)(h':RB F' w' n' m' blk B'):RB F' w' n (Qz m' n) blk B':=by
 cases blk with
 |none=>exact h'
 |any=>exact trivial
 |var cs=>
  obtain⟨_,_,_,ys,_,_,_,_,h1⟩:=h
  obtain⟨b,xs,el,ys',zs,e1,e2,e3,e4⟩:=h'
  exact⟨b,xs,el,ys',zs,e1,e2,e3,(Zap cs n' ((R_lt cs m).2 _ h1)).2 _ e4⟩
 |arr es k get=>exact h'
 |iter mb since seen last=>
  obtain⟨_,_,_,_,k0⟩:=h
  obtain⟨r,x,e,hc,h1⟩:=h'
  refine⟨r,x,e,hc,?_⟩<;>grind[refine,Qz]
 |Zk kd st f ks=>
  obtain⟨_,es0,_,_,_,_,k0⟩:=h
  obtain⟨b',es,clock,k1,k2,k3,k4⟩:=h'
  refine⟨b',es,clock,k1,k2,k3,λk hk=>?_⟩
  obtain⟨h1,h2⟩:=k4 k hk
  refine⟨h1,λv hv=>?_⟩
  have ht:(f k).1=ze:=by
   grind
  obtain⟨h5,h6⟩:=k0 k hk
  rw[ht]at h5
  obtain⟨v0,hv0⟩:=Option.isSome_iff_exists.1 h5.symm
  exact(Zap _ n' ((R_lt _ m).1 _ (h6 v0 hv0))).1 _ (h2 v hv)
 |rng f ps asg bd row N st pend=>
  obtain⟨_,r0,_,_,_,_,_,_,_,_,k0⟩:=h
  obtain⟨l,r,k1,k2,k3,k4,k5,k6,k7,k8,k9⟩:=h'
  exact⟨l,r,k1,k2,k3,k4,k5,k6,k7,k8,λi=>(Zap _ n' ((R_lt _ m).1 _ (k0 i))).1 _ (k9 i)⟩
theorem HR.cut(hr:HR base m F h n w)(he:Ext base m F n w m' F' n' w')(hh:HR base m' F' h' n' w')(hs:∀b,b<n->h' b=h b) :
  HR base (Qz m' n) F' h n w'/\Ext base m F n w (Qz m' n) F' n w':=by
 have hc:∀b B,Qz m' n b=zi B->b<n/\m' b=zi B:=λb B hb=>by
  grind[Qz]
 refine⟨⟨hh.low,hh.fdom,λb hb=>?_,λb B hb=>hh.dom b B (hc b B hb).2,λb hb=>by unfold Qz;rw[if_neg (by omega)],hh.gl,λb B hb=>hh.own b B (hc b B hb).2,λb b' B h1 h2 hne=>?_⟩,?_⟩
 ·have h1:=hh.blk b (Nat.lt_of_lt_of_le hb he.le)
  rw[hs b hb]at h1
  have e:Qz m' n b=m' b:=by
   grind[Qz]
  rw[e]
  exact RB_cut (hr.blk b hb) h1
 ·obtain⟨l1,k1⟩:=hc b B h1
  obtain⟨l2,k2⟩:=hc b' B h2
  rw[<- hs b l1,<- hs b' l2]
  exact hh.inj b b' B k1 k2 hne
 ·exact⟨he.f,he.back,he.keep,he.size,he.sz,he.ow.sub λb B hb=>⟨b,(hc b B hb).2⟩,zI _,λb hb B hB=>by unfold Qz;rw[if_pos hb];exact he.map b hb B hB,he.calm⟩
variable{lo:Nat}{a:Act}
theorem ZmD(hr:Rel lo base m F s a w):Rel lo base m F s.sub a w:=⟨hr.hr,hr.defers,hr.size,hr.tmp⟩
variable{F0:Nat->Prop}{Q:V×Option (Nat×Blk)->Prop}
theorem Zls(hr:HR base m F s.blk s.n w)(hnm:nm<s.n){rl:Bool}(hF0:∀B,F B->F0 B)(hrl:rl=za->∀B,F0 B->F B)
{h':PT Blk}(hq:(GL s nm rl (v,h',n')).holds E.P Q){x:Value}
  (he:Ext w.heap.size (λ_=>zm) F0 0 w m' F' n' w')(hh:HR w.heap.size m' F' (look (λ_=>.none) h') n' w')(hx:R F' w' v n' m' x) :
  ∃v' wr m'' F'',Q (v',wr)/\Ext base m F s.n w m'' F'' s.n w'/\HR base m'' F'' (s.wr wr).blk s.n w'/\R F'' w' v' s.n m'' x:=by
 have hl0:Later F w F w':=⟨λ_ h=>h,λ_ h=>.inl h,λB hB=>he.keep B (.inl hB),he.size,λh B hB=>Nat.lt_of_lt_of_le (h B hB) he.size,he.calm⟩
 have hl1:rl=za->Later F w F' w':=λe=>⟨λB hB=>he.f B (hF0 B hB),λB hB=>(he.back B hB).imp (hrl e B) id,λB hB=>he.keep B (.inl hB),he.size,λ_=>hh.fdom,he.calm⟩
 obtain⟨F2,hF2⟩:∃F2:Nat->Prop,(Later F w F2 w')/\(∀B,F2 B->F B\/F' B)/\(rl=za->F2=F'):=by
  cases rl<;>grind
 obtain⟨hl,hF2',hF2e⟩:=hF2
 have val:∀(u:V),u.clean=ze->(!rl||u.Xg)=ze->∀(k:Nat)(mm:Nat->Option Nat)(k':Nat)(mm':Nat->Option Nat),(∀y,R F' w' u k mm y->R F2 w' u k' mm' y)/\(∀ys,RL F' w' u k mm ys->RL F2 w' u k' mm' ys):=by
  intro u hc hrow k mm k' mm'
  cases rl with
  |false=>
   rw[hF2e rfl]
   exact WS u hc k k' mm mm'
  |true=>exact Zho u hc (by simpa using hrow) k k' mm mm'
 unfold GL at hq
 dsimp only at hq
 cases hc:(v.clean&&(!rl||v.Xg))
 ·rw[hc]at hq
  simp only[cond_false]at hq
  cases v<;>try exact hq.elim
  rename_i st b es i k
  dsimp only at hq
  rw[Yp]at hx
  obtain⟨hb,a,cap,rfl,hk,hcap⟩:=hx
  have main:∀blk,(∀B,m' b=zi B->RB F2 w' s.n (λc=>if c=nm then zi B else m c) blk (zi B))->(m' b=zm->RB F2 w' s.n m blk zm)->(Wj s nm blk (.osl st nm es i k)).holds E.P Q->
    ∃v' wr m'' F'',Q (v',wr)/\Ext base m F s.n w m'' F'' s.n w'/\HR base m'' F'' (s.wr wr).blk s.n w'/\R F'' w' v' s.n m'' (.slice a k cap):=by
   intro blk hrb hrb0 hq
   unfold Wj at hq
   have hbn:=hr.blk nm hnm
   cases hnb:s.blk nm<;>rw[hnb]at hq<;>try exact hq.elim
   rw[hnb]at hbn
   have hm0:m nm=zm:=hbn
   cases hmb:m' b with
   |none=>
    have hcap0:cap=0:=by
     rcases hcap with h|⟨B,_,_,_,_,h,_⟩
     ·exact h
     ·rw[hmb]at h;cases h
    have hlat:=hr.later hl
    refine⟨_,_,m,F2,hq,hr.ext hl,⟨hlat.low,hlat.fdom,λc hc=>?_,hlat.dom,hlat.new,hlat.gl,hlat.own,λc c' C h1 h2 hne=>?_⟩,?_⟩
    ·show RB F2 w' s.n m (look _ (PT.set _ _ _) c) (m c)
     rw[Yg]
     by_cases e:c=nm
     ·subst e;rw[if_pos rfl,hm0];exact hrb0 hmb
     ·rw[if_neg e];exact hlat.blk c hc
    ·have e1:c≠nm:=λe=>by rw[e,hm0]at h1;cases h1
     have e2:c'≠nm:=λe=>by rw[e,hm0]at h2;cases h2
     show look _ (PT.set _ _ _) c=Blk.any\/look _ (PT.set _ _ _) c'=Blk.any
     rw[Yg,Yg,if_neg e1,if_neg e2]
     exact hlat.inj c c' C h1 h2 hne
    ·rw[Yp]
     exact⟨hnm,a,cap,rfl,hk,.inl hcap0⟩
   |some B=>
    have hown:=hh.own b B hmb
    have hBF:¬F2 B:=λh=>(hF2' B h).elim (λh=>absurd (hr.fdom B h) (Nat.not_lt.2 hown.1)) hown.2
    obtain⟨k1,k2⟩:=hr.lay2 (h':=(s.wr (zi (nm,blk))).blk) hl hm0 hnm hown.1 (hh.dom b B hmb) hBF (λc=>Yg _ _ _ _ _) (hrb B hmb)
    refine⟨_,_,_,F2,hq,k2,k1,?_⟩
    rw[Yp]
    refine⟨hnm,a,cap,rfl,hk,hcap.imp id λ⟨B',c,el,fr,h1,h2,h3,h4⟩=>⟨B',c,el,fr,h1,?_,h3,h4⟩⟩
    rw[hmb]at h2
    simpa using h2
  have hbb:=hh.blk b hb
  cases hblk:look (λ_=>Blk.none) h' b<;>rw[hblk]at hq hbb<;>try exact hq.elim
  ·rename_i cs
   dsimp only at hq
   cases hcc:(cs.clean&&(!rl||cs.Xg))
   ·rw[hcc]at hq
    exact hq.elim
   ·rw[hcc]at hq
    simp only[zL]at hcc
    obtain⟨B,xs,el,ys,zs,h1,h2,h3,h4⟩:=hbb
    refine main (.var cs) (λB' hB'=>?_) (λh=>by rw[h]at h1;cases h1) hq
    rw[h1]at hB'
    injection hB' with hB'
    subst hB'
    exact⟨B,xs,el,ys,zs,rfl,h2,h3,(val cs hcc.1 hcc.2 _ _ _ _).2 _ h4⟩
  ·rename_i es' k' get
   dsimp only at hq
   have go:(∀j,j<k'->(!rl||(get j).Xg)=ze)->(Wj s nm (.arr es' k' get) (.osl st nm es i k)).holds E.P Q->∃v' wr m'' F'',Q (v',wr)/\Ext base m F s.n w m'' F'' s.n w'/\HR base m'' F'' (s.wr wr).blk s.n w'/\R F'' w' v' s.n m'' (.slice a k cap):=by
    intro hrow hq
    refine main (.arr es' k' get) (λB' hB'=>?_) (λh=>?_) hq
    ·rcases hbb with⟨_,h1⟩|⟨B,c,el,h1,h2,h3,h4⟩
     ·grind
     ·rw[hB']at h1
      injection h1 with h1
      subst h1
      refine .inr ⟨B',c,el,rfl,h2,h3,λj hj=>?_⟩
      obtain⟨xs,h5,h6,h7⟩:=h4 j hj
      exact⟨xs,(val (get j) ((R_zero _ _).2 _ h5) (hrow j hj) _ _ _ _).2 _ h5,h6,h7⟩
    ·rcases hbb with⟨h1,_⟩|⟨B,c,el,h1,_⟩
     ·exact .inl ⟨h1,rfl⟩
     grind
   cases rl with
   |false=>grind
   |true=>
    dsimp only at hq
    cases st with
    |true=>
     dsimp only at hq
     cases hall:WU k' (λj=>(get j).Xg)
     ·rw[hall]at hq
      exact hq.elim
     grind[Zcj]
    |false=>exact go (λj hj=>by simpa using hq.1 j hj) hq.2
 ·rw[hc]at hq
  simp only[zL]at hc
  exact⟨v,zm,m,F2,hq,hr.ext hl,hr.later hl,(val v hc.1 hc.2 n' m' s.n m).1 _ hx⟩
theorem layR_ok(hr:HR base m F s.blk s.n w)(hnm:nm<s.n){rl:Bool}(hF0:∀B,F B->F0 B)(hrl:rl=za->∀B,F0 B->F B)
{h':PT Blk}(hq:(layR s nm rl (v,h',n')).holds E.P Q){x:Value}
  (he:Ext w.heap.size (λ_=>zm) F0 0 w m' F' n' w')(hh:HR w.heap.size m' F' (look (λ_=>.none) h') n' w')(hx:R F' w' v n' m' x) :
  ∃v' wr m'' F'',Q (v',wr)/\Ext base m F s.n w m'' F'' s.n w'/\HR base m'' F'' (s.wr wr).blk s.n w'/\R F'' w' v' s.n m'' x:=by
 unfold layR at hq
 dsimp only at hq
 split at hq
 ·rename_i u
  rw[Tree.Yw]at hq
  rw[JD]at hx
  obtain⟨xs,rfl,hxs⟩:=hx
  simp only[RL]at hxs
  obtain⟨y,l,hl,hy,hnil⟩:=hxs
  ·subst hnil
   obtain⟨v',wr,m2,F2,k1,k2,k3,k4⟩:=Zls hr hnm hF0 hrl hq he hh hy
   refine⟨_,wr,m2,F2,k1,k2,k3,?_⟩<;>grind[refine,JD,RL]
 grind[Zls]
theorem HR.weak(hr:HR base m F h n w)(hh:∀b,h' b=h b\/h' b=.any):HR base m F h' n w:=
 ⟨hr.low,hr.fdom,λb hb=>(hh b).elim (λe=>e▸hr.blk b hb) (λe=>by rw[e];simp only[RB]),hr.dom,hr.new,hr.gl,hr.own,λb b' B h1 h2 hne=>by
  rcases hh b with e|e
  ·rcases hh b' with e'|e'
   ·rw[e,e'];exact hr.inj b b' B h1 h2 hne
   ·exact .inr e'
  ·exact .inl e⟩
variable{Qx:Exit->Act->World->Prop}
theorem evD_wp(hE:E.Ok)(hcall:UF E call)(hr:Rel lo base m F s a w){o:Oper}(hnm:∀b,(foot s nm o.op).l=zi b->nm<s.n)(hkn:Qg s kn)
{K:Act->World->Prop}(hq:(evD E call s nb sz nm kn o.op).holds E.P Q)
  (hK:∀v wr,Q (v,wr)->∀m' F' w' x,Ext base m F s.n w m' F' s.n w'->HR base m' F' (s.wr wr).blk s.n w'->R F' w' v s.n m' x->K (a.put o.dst x) w'):o.wp E.P a w K Qx:=by
 have hopndK:∀x,R F w (Z4 s kn x) s.n m (a.eval x):=by
  intro x
  cases x with
  |tmp t=>
   have:=hr.tmp t
   simp only[Z4,Act.eval]
   grind[Zjd,R]
  |const v=>exact hr.Zr (.const v)
  |global g=>exact hr.Zr (.global g)
  |func f=>exact hr.Zr (.func f)
 have quiet:(evDQ E call s nb sz nm kn o.op).holds E.P Q->o.wp E.P a w K Qx:=by
  intro hq
  unfold evDQ at hq
  cases hT:evQ E (Z4 s kn) s.blk o.op with
  |none=>
   rw[hT]at hq
   dsimp only at hq
   unfold evVal at hq
   cases ho:o.op<;>rw[ho]at hq<;>try exact hq.elim
   rename_i c
   dsimp only at hq
   cases hcal:c.callee<;>rw[hcal]at hq<;>try exact hq.elim
   rename_i f
   dsimp only at hq
   have hnm':nm<s.n:=hnm nm (by rw[ho];simp only[foot,hcal])
   have hone:HR base m F (Gx (foot s nm (.call c)).m (seen nb sz s.blk)) s.n w:=hr.hr.weak λb=>by
    unfold Gx seen
    grind
   generalize(Gx (foot s nm (.call c)).m (seen nb sz s.blk))=hh at hq hone
   cases hc:callee (Z4 s kn f) (.ofList (c.args.toList.map (Z4 s kn)))with
   |none=>
    rw[hc]at hq
    exact hq.elim
   |some r=>
    obtain⟨g,args⟩:=r
    rw[hc]at hq
    dsimp only at hq
    have hargs:RL F w (.ofList (c.args.toList.map (Z4 s kn))) s.n m (c.args.map a.eval).toList:=by
     simp_all[Zao]
    obtain⟨ys,hy,hy2⟩:=ZhV (P:=E.P) hc (hopndK f) hargs
    obtain⟨hrun,hys⟩:=hy2 w
    have fin:∀{K':Ending->World->Prop},Has E.P g->(∀e w'',K' e w''->match e with| .returned v=>K (a.put o.dst v) w''|_=>False)->Calls E.P g ys w K'->o.wp E.P a w K Qx:=by
     intro K' hhas hK' hcalls
     have hexec:(execOp a.eval o).run E.P w=.ok (.enter g ys) w:=by
      simp only[execOp,ho,resolve,hcal,zM,hrun,zP,invoke,ZgP hhas,hys]
     unfold Oper.wp
     rw[hexec]
     simp only[Oper.upon]
     refine hcalls.mono λe w' he=>?_<;>grind
    cases hcl:args.clean
    ·rw[hcl]at hq
     simp only[cond_false]at hq
     have hfd:∀B,(F B\/∃b,m b=zi B)->B<w.heap.size:=λB hB=>hB.elim (hr.hr.fdom B) λ⟨b,hb⟩=>hr.hr.dom b B hb
     have hgl:GOk (λB=>F B\/∃b,m b=zi B) w:=hr.hr.gl.mono (Yk.refl w) (λB h=>.inl h) (λ_ _=>rfl)
     have hr0:HR w.heap.size (λ_=>zm) (λB=>F B\/∃b,m b=zi B) (look (λ_=>.none) .nil) 0 w:=
      ⟨zI _,hfd,λb hb=>absurd hb (yB _),λb B hB=>(by cases hB),λ_ _=>rfl,hgl,λb B hB=>(by cases hB),λb b' B hB=>(by cases hB)⟩
     have frz:∀fv:V,fv.clean=ze->(∀ys,RL F w args s.n m ys->RL (λB=>F B\/∃b,m b=zi B) w fv s.n m ys)->(Uc E call s nm g fv).holds E.P Q->o.wp E.P a w K Qx:=by
      intro fv hfc hfv hq
      have hfy:RL (λB=>F B\/∃b,m b=zi B) w fv 0 (λ_=>zm) ys.toList:=(WS _ hfc s.n 0 m _).2 _ (hfv _ hy)
      have told:∀v,Zh E.P g fv v->(bif v.clean&&v.Xg then Tree.leaf (v,(zm:Option (Nat×Blk)))else .stuck).holds E.P Q->o.wp E.P a w K Qx:=by
       intro v hm hq
       cases hcv:v.clean
       ·rw[hcv]at hq
        exact hq.elim
       cases hrv:v.Xg
       ·rw[hcv,hrv]at hq
        exact hq.elim
       rw[hcv,hrv]at hq
       refine fin hm.1 (λe w'' h=>?_) (hm.2 _ w ys hfd hgl hfy)
       obtain⟨x,F',rfl,h1,h2⟩:=h
       have hl:Later F w F w'':=⟨λ_ h=>h,λ_ h=>.inl h,λB hB=>h1.keep B hB,h1.size,λh B hB=>Nat.lt_of_lt_of_le (h B hB) h1.size,h1.calm⟩
       exact hK v zm hq m F w'' x (hr.hr.ext hl) (hr.hr.later hl) ((Zho v hcv hrv 0 s.n _ m).1 _ h2)
      unfold Uc at hq
      cases hΓ:E.Γ g fv with
      |none=>
       rw[hΓ]at hq
       dsimp only at hq
       rw[Tree.Yw]at hq
       obtain⟨hhas,hcalls⟩:=hcall (λ_=>.none) (.inl g) fv .nil 0 w.heap.size (λ_=>zm) (λB=>F B\/∃b,m b=zi B) w ys _
        (λe w''=>match e with| .returned v=>K (a.put o.dst v) w''|_=>False) hr0 hfy hq
        (λv h' n' hQ m' F' w' x h1 h2 h3=>by
         obtain⟨v',wr,m2,F2,k1,k2,k3,k4⟩:=layR_ok hr.hr hnm' (λB h=>.inl h) (λh=>by cases h) hQ h1 h2 h3
         exact hK v' wr k1 m2 F2 w' x k2 k3 k4)
       grind
      |some an=>
       rw[hΓ]at hq
       cases an with
       |sure v=>exact told v (hE.sure g fv v hΓ) hq
       |where_ p v=>
        dsimp only at hq
        cases hcv:(v.clean&&v.Xg)
        ·rw[hcv]at hq
         exact hq.elim
        ·rw[hcv]at hq
         refine told v (hE.where_ g fv p v hΓ hq.1) ?_
         rw[hcv]
         exact hq.2
       |fork b v v'=>exact hq.elim
     cases hfc:(fz hh 6 args).clean
     ·rw[hfc]at hq
      exact hq.elim
     rw[hfc]at hq
     simp only[cond_true]at hq
     obtain⟨hfn,hq⟩:=Zhc hq
     exact frz _ hfc (fz_R hone 6 _ hfn).2 hq
    ·rw[hcl]at hq
     simp only[cond_true]at hq
     rw[Tree.Yw]at hq
     have hr0:HR w.heap.size (λ_=>zm) F (look (λ_=>.none) .nil) 0 w:=
      ⟨zI _,hr.hr.fdom,λb hb=>absurd hb (yB _),λb B hB=>(by cases hB),λ_ _=>rfl,hr.hr.gl,λb B hB=>(by cases hB),λb b' B hB=>(by cases hB)⟩
     obtain⟨hhas,hcalls⟩:=hcall (λ_=>.none) (.inl g) args .nil 0 w.heap.size (λ_=>zm) F w ys _
      (λe w''=>match e with| .returned v=>K (a.put o.dst v) w''|_=>False) hr0 ((WS args hcl s.n 0 m _).2 _ hy) hq
      (λv h' n' hQ m' F' w' x h1 h2 h3=>by
       obtain⟨v',wr,m2,F2,k1,k2,k3,k4⟩:=layR_ok hr.hr hnm' (λB h=>h) (λ_ B h=>h) hQ h1 h2 h3
       exact hK v' wr k1 m2 F2 w' x k2 k3 k4)
     grind
  |some T=>
   rw[hT]at hq
   dsimp only at hq
   rw[Tree.Yw]at hq
   exact evQ_wp hE hr.hr hopndK hT hq λv x w' F' h1 h2 h3=>hK v zm h1 m F' w' x (hr.hr.ext h2) (hr.hr.later h2) h3
 have newO:nm<s.n->∀(blk:Blk)(v:V)(X:Value)(ob:Obj),(∀m',(∀b,b<s.n->∀B,m b=zi B->m' b=zi B)->Ext base m F s.n w m' F s.n (w.alloc ob)->RB F (w.alloc ob) s.n m' blk (zi w.heap.size))->(execOp a.eval o).run E.P w=.ok (.value X) (w.alloc ob)->
   (nm<s.n->∀m',m' nm=zi w.heap.size->R F (w.alloc ob) v s.n m' X)->(Wj s nm blk v).holds E.P Q->o.wp E.P a w K Qx:=by
  intro hlt' blk v X ob hrb hrun hX hq
  unfold Wj at hq
  ·have hb:=hr.hr.blk nm hlt'
   cases hbl:s.blk nm<;>rw[hbl]at hq<;>try exact hq.elim
   rw[hbl]at hb
   have h0:m nm=zm:=hb
   obtain⟨h1,h2⟩:=hr.hr.layO (h':=(s.wr (zi (nm,blk))).blk) (nm:=nm) (n':=s.n) (o:=ob) h0 (zI _) hlt' (λb h3 h4=>by omega) (λb=>Yg _ _ _ _ _) (λhe=>hrb _ he.map he)
   unfold Oper.wp
   rw[hrun]
   simp only[Oper.upon]
   exact hK _ _ hq _ F _ _ h2 h1 (hX hlt' _ (by simp))
 have new:nm<s.n->∀(cs v:V)(X:Value)(xs:Array Value)(el:TypeId),RL F w cs s.n m xs.toList->(execOp a.eval o).run E.P w=.ok (.value X) (w.alloc (.cells xs el))->
   (nm<s.n->∀m',m' nm=zi w.heap.size->R F (w.alloc (.cells xs el)) v s.n m' X)->(Wj s nm (.var cs) v).holds E.P Q->o.wp E.P a w K Qx:=λhlt' cs v X xs el hrow hrun hX hq=>
  newO hlt' (.var cs) v X (.cells xs el) (λm' hm he=>⟨_,xs,el,xs.toList,[],rfl,heap_alloc_new w _,by simp,he.row hrow⟩) hrun hX hq
 have ptr:nm<s.n->∀(w':World)(m':Nat->Option Nat),m' nm=zi w.heap.size->R F w' (.ptr ze nm 0 0 0) s.n m' (.pointer (zi ⟨w.heap.size,0,zm⟩)):=λhlt w' m' hm=>by
  grind[Wm]
 cases ho:o.op<;>rw[ho]at hq<;>try(exact quiet (by rw[ho];exact hq))
 case alloc t=>
  simp only[evD]at hq
  cases hz:X5 E.P t with
  |none=>
   rw[hz]at hq
   exact hq.elim
  |some cs=>
   rw[hz]at hq
   obtain⟨z,hz1,hz2⟩:=K4 (F:=F) (w:=w) (n:=s.n) (m:=m) hz
   exact new (hnm nm (by rw[ho];rfl)) cs _ _ z.cells t hz2 (by simp only[execOp,ho,Instr.alloc,zM,hz1,zP];rfl) (λhlt m' hm=>ptr hlt _ m' hm) hq
 case box t x=>
  simp only[evD]at hq
  cases hs:(Z4 s kn x).solid
  ·rw[hs]at hq
   exact hq.elim
  ·rw[hs]at hq
   exact new (hnm nm (by rw[ho];rfl)) _ _ _ (a.eval x).cells t (UL _ _ (hopndK x) hs) (by simp only[execOp,ho];rfl) (λhlt m' hm=>ptr hlt _ m' hm) hq
 case buildSlice t len parts=>
  simp only[evD]at hq
  cases hz:Gj E.P t len (parts.toList.map λp=>(p.1,Z4 s kn p.2))with
  |none=>
   rw[hz]at hq
   exact hq.elim
  |some zc=>
   obtain⟨z,cs⟩:=zc
   rw[hz]at hq
   obtain⟨outc,e,hrun,hrow,hsz⟩:=run_buildSlice (E:=E) ho hopndK hz
   exact new (hnm nm (by rw[ho];rfl)) _ _ _ outc e hrow hrun (λhlt m' hm=>by
    rcases Zgt nm z len with h|⟨rfl,h⟩
    ·rw[h,Yp];exact⟨hlt,_,len,rfl,zI _,.inr ⟨w.heap.size,outc,e,(0,0),by rw[Nat.zero_mul],hm,heap_alloc_new w _,by rw[zX,hsz];exact zI _⟩⟩
    ·rw[h];simp only[R];exact⟨_,rfl,λ_ h=>by cases h⟩) hq
 case makeSlice t len cap=>
  simp only[evD]at hq
  cases hz:ZcR E.P t (Z4 s kn len) (Z4 s kn cap)with
  |none=>
   rw[hz]at hq
   exact hq.elim
  |some zc=>
   obtain⟨z,k,cs⟩:=zc
   rw[hz]at hq
   obtain⟨outc,e,hrun0,hrow,hsz⟩:=Zri (w:=w) (F:=F) (n:=s.n) (m:=m) (hopndK len) (hopndK cap) hz
   exact new (hnm nm (by rw[ho];rfl)) _ _ _ outc e hrow (by simp only[execOp,ho,zM,hrun0,zP];rfl) (λhlt m' hm=>by
    rcases Zgt nm z k with h|⟨rfl,h⟩
    ·rw[h,Yp];exact⟨hlt,_,k,rfl,zI _,.inr ⟨w.heap.size,outc,e,(0,0),by rw[Nat.zero_mul],hm,heap_alloc_new w _,by rw[zX,hsz];exact zI _⟩⟩
    ·rw[h];simp only[R];exact⟨_,rfl,λ_ h=>by cases h⟩) hq
 case makeMap t r=>
  simp only[evD]at hq
  cases hz:Gt E.P t (r.map (Z4 s kn))with
  |none=>
   rw[hz]at hq
   exact hq.elim
  |some blk=>
   rw[hz]at hq
   obtain⟨hrun0,kd,z,rfl⟩:=ZlK (F:=F) (w:=w) (n:=s.n) (m:=m) (X:=r.map a.eval) hz (λv hv=>by
    cases r with
    |none=>cases hv
    |some y=>injection hv with hv;subst hv;exact⟨_,rfl,hopndK y⟩) (λhv=>by cases r with|none=>rfl|some y=>cases hv)
   exact newO (hnm nm (by rw[ho];rfl)) _ _ _ (.map #[] 0) (λm' _ _=>ZjJ (heap_alloc_new w _)) (by simp only[execOp,ho,zM,hrun0,zP];rfl) (λhlt m' hm=>by simp only[R];exact⟨hlt,_,rfl,hm⟩) hq
 case mapUpdate t mx k x=>
  simp only[evD]at hq
  cases hz:WQ E.P s.blk t (Zr s mx) (Z4 s kn k) (ze,Z4 s kn x)with
  |none=>
   rw[hz]at hq
   exact hq.elim
  |some bb=>
   obtain⟨b,blk⟩:=bb
   rw[hz]at hq
   obtain⟨w',hrun0,k1,k2⟩:=(Zdp hr.hr (hr.Zr mx) (hopndK k) hz).1 _ rfl (hopndK x)
   have hrun:(execOp a.eval o).run E.P w=.ok .skip w':=by
    simp only[execOp,ho,zM,hrun0,zP,zV]
   unfold Oper.wp
   rw[hrun]
   simp only[Oper.upon]
   exact hK _ _ hq m F w' _ k2 (k1 _ (λc=>Yg _ _ _ _ _)) (by simp only[R])
 case insert t mx k x=>
  simp only[evD]at hq
  cases hz:WQ E.P s.blk t (Zr s mx) (Z4 s kn k) (ze,Z4 s kn x)with
  |none=>
   rw[hz]at hq
   exact hq.elim
  |some bb=>
   obtain⟨b,blk⟩:=bb
   rw[hz]at hq
   obtain⟨w',hrun0,k1,k2⟩:=(Zdp hr.hr (hr.Zr mx) (hopndK k) hz).1 _ rfl (hopndK x)
   have hrun:(execOp a.eval o).run E.P w=.ok .skip w':=by
    simp only[execOp,ho,zM,hrun0,zP,zV]
   unfold Oper.wp
   rw[hrun]
   simp only[Oper.upon]
   exact hK _ _ hq m F w' _ k2 (k1 _ (λc=>Yg _ _ _ _ _)) (by simp only[R])
 case load t ax=>
  simp only[evD]at hq
  rw[Tree.Yw]at hq
  exact WI (by simp only[execOp,ho]) (Zih hr.hr (hr.Zr ax)) hq λv x w' F' h1 h2 h3=>hK v zm h1 m F' w' x (hr.hr.ext h2) (hr.hr.later h2) h3
 rename_i t ax xx
 simp only[evD,ZfC]at hq
 cases hz:ZW E.P t with
 |none=>
  rw[hz]at hq
  exact hq.elim
 |some z=>
  rw[hz]at hq
  dsimp only at hq
  cases h1:zq (Z4 s kn xx).cells.len z
  ·rw[h1]at hq
   exact hq.elim
  ·cases h2:(Z4 s kn xx).cells.YN
   ·rw[h1,h2]at hq
    exact hq.elim
   ·cases h3:(Z4 s kn xx).solid
    ·rw[h1,h2,h3]at hq
     exact hq.elim
    ·rw[h1,h2,h3]at hq
     simp only[Bool.and_self,cond_true]at hq
     have hax:=hr.Zr ax
     have hxx:=hopndK xx
     cases hva:Zr s ax<;>rw[hva]at hq<;>try exact hq.elim
     rename_i st b es i' o'
     have hlen:(a.eval xx).cells.size=z:=by
      have:=XM _ _ (UL _ _ hxx h3)
      simp_all
     rw[hva,Wm]at hax
     obtain⟨hb,B,hae,hB⟩:=hax
     dsimp only at hq
     rw[Tree.Yw]at hq
     obtain⟨blk,w',k1,k2,k3,k4⟩:=ZkK hr.hr hb hB hxx h3 hlen h2 hq
     have hrun:(execOp a.eval o).run E.P w=.ok .skip w':=by
      simp only[execOp,ho,zM,Instr.storeAt,hae,Instr.sureAddr,pure_bind,storeVar,XU hz,zP]
      simp_all
     unfold Oper.wp
     rw[hrun]
     simp only[Oper.upon]
     exact hK _ _ k1 m F w' _ k4 (k3 _ (λc=>Yg _ _ _ _ _)) (by simp only[R])
theorem Zpe{E:Env}{call:Xh}{Bs:Base}{s:St Bs}{nb:Nat}(hq:(evD E call s nb sz nm kn o).holds E.P Q):∀c,o≠.defer c:=by
 intro c e
 subst e
 exact hq
theorem Zps{B B':Base}{s:St B}{s':St B'}{c:Call}(hx:∀x∈(Op.call c).operands,Zr s x=Zr s' x)(hB:B.h=B'.h)(hh:s.h=s'.h)(hn:s.n=s'.n):Xl E call s (.call c)=Xl E call s' (.call c):=by
 have hb:s.blk=s'.blk:=by
  grind
 simp only[Op.operands]at hx
 have hargs:c.args.toList.map (Zr s)=c.args.toList.map (Zr s'):=List.map_congr_left λx h=>hx x (by simp[Call.operands];right;simpa using h)
 simp only[Xl,evQ]
 rw[hargs,hb,hh,hn,hB]
 cases hcal:c.callee with
 |value f=>
  have hf:Zr s f=Zr s' f:=hx f (by simp[Call.operands,hcal])
  grind[Gr]
 |builtin b=>
  dsimp only
  cases b<;>try rfl
  grind
 |invoke r m=>rfl
variable{t:TypeId}
theorem ZmP{P:Program}{i:TypeInfo}{z:Value}(hi:P.info? t=zi i)(hz:i.zero=zi z)(w:World):(zeroValue t).run P w=.ok z w:=by
 simp only[zeroValue,zM,run_typeInfo w hi,zP,hz,zV]
theorem ZrC{P:Program}{cs:V}(h:X5 P t=zi cs):∃z,∀(F:Nat->Prop)(w:World)(n:Nat)(m:Nat->Option Nat),(zeroValue t).run P w=.ok z w/\RL F w cs n m z.cells.toList:=by
 have h0:=h
 unfold X5 at h0
 cases hi:P.info? t with
 |none=>grind
 |some i=>
  rw[hi]at h0
  dsimp only at h0
  cases hz:i.zero with
  |none=>grind
  |some z=>
   refine⟨z,λF w n m=>⟨ZmP hi hz w,?_⟩⟩
   obtain⟨z2,h1,h2⟩:=K4 (F:=F) (w:=w) (n:=n) (m:=m) h
   simp_all[ZmP]
variable{L:Array Bool}
theorem Zq7(he:VX ops bf)(hsz:L.size=ops.size)(hcl:∀d e,L.getD d za=ze->(bf.getD d 0).testBit e=ze->L.getD e za=ze)(hmem:i∈Region.ready .any ops L) :
  i<ops.size/\L.getD i za=za/\∀e,(bf.getD i 0).testBit e=ze->L.getD e za=ze:=by
 unfold Region.ready at hmem
 rw[List.mem_filter]at hmem
 obtain⟨hi,hcond⟩:=hmem
 have hi:=List.mem_range.1 hi
 have hlt:i<L.size:=by
  omega
 have ho:ops[i]? =zi ops[i]:=Array.getElem?_eq_getElem hi
 simp only[ho,Option.map_some,Option.getD_some,zL,yg]at hcond
 obtain⟨hL,hedges⟩:=hcond
 refine⟨hi,by simp[Array.getD_eq_getD_getElem?,hlt]at hL⊢;exact hL,λe hbit=>?_⟩
 obtain⟨ed,h1,h2,h3⟩:=he.edge i _ ho e hbit
 rw[<- Array.all_toList,List.all_eq_true]at hedges
 grind
theorem ready_of(he:VX ops bf)(hsz:L.size=ops.size)(hi:i<ops.size)(hn:L.getD i za=za)(hb:∀j,j<i->L.getD j za=ze):i∈Region.ready .any ops L:=by
 unfold Region.ready
 rw[List.mem_filter]
 refine⟨List.mem_range.2 hi,?_⟩
 have ho:ops[i]? =zi ops[i]:=Array.getElem?_eq_getElem hi
 have hL':L.getD i ze=za:=by
  grind
 simp only[hL',Bool.not_false,Bool.true_and,ho,Option.map_some,Option.getD_some]
 rw[<- Array.all_toList,List.all_eq_true]
 intro ed hed
 cases hbd:Region.binds .any ed with
 |false=>rfl
 |true=>
  have hlt:=he.back i _ ho ed hed hbd
  grind
variable{ro:Option Nat}
theorem any_end{fuel:Nat}(hsz:L.size=ops.size)(hall:∀i,i<ops.size->L.getD i za=ze)(h:Qx .normal a w):wpAnyIn (fen ro) 0 E.P .any ops Qx fuel L a w:=by
 have hnil:Region.ready .any ops L=[]:=by
  unfold Region.ready
  simp_all
 cases fuel with
 |zero=>exact⟨hnil,h⟩
 |succ n=>exact⟨λ_=>h,λi hi=>by rw[hnil]at hi;cases hi⟩
theorem Rel.congr{s':St Bs}(hr:Rel lo base m F s a w)(hb:∀b,s'.blk b=s.blk b)(hn:s'.n=s.n)(hN:s'.N=s.N)(ht:∀t,s'.tmp t=s.tmp t\/s'.tmp t=.junk):Rel lo base m F s' a w:=by
 refine⟨by rw[hn,funext hb];exact hr.hr,hr.defers,by rw[hr.size,hN],λt=>?_⟩
 rw[hn]
 rcases ht t with h|h
 ·rw[h]
  exact hr.tmp t
 grind[R]
def St.YX(s:St Bs)(ts:List Nat):St Bs:={ s with t:=ts.foldr (λd t=>t.set d .junk) s.t }
theorem Uj(s:St Bs)(ts:List Nat)(t:Nat):(s.YX ts).tmp t=if t∈ts then .junk else s.tmp t:=by
 unfold St.YX St.tmp
 dsimp only
 induction ts<;>grind[Yg]
structure Pend(P:Program)(ops:Array Oper)(bf:List Nat)(fp:Nat->Ft)(base:Nat)(w0:World)(L':Array Bool)(m:Nat->Option Nat)(F:Nat->Prop)(a:Act)(w:World)(e:Nat×Nat×Nat):Prop where
 lt:e.1<ops.size
 op:∃o t cs xs,ops[e.1]? =zi o/\o.op=.alloc t/\o.dst=zi e.2.1/\o.guard=zm/\X5 P t=zi cs/\w.heap[e.2.2]? =zi (.cells xs t)/\∀(F:Nat->Prop)(w:World)(n:Nat)(m:Nat->Option Nat),RL F w cs n m xs.toList
 tmp:e.2.1<a.tmps.size/\a.tmps.getD e.2.1 Go.undef=.pointer (zi ⟨e.2.2,0,zm⟩)
 base:base<=e.2.2
 new:w0.heap.size<=e.2.2
 fr:¬F e.2.2
 un:∀b,m b≠zi e.2.2
 rdy:∀x,(bf.getD e.1 0).testBit x=ze->L'.getD x za=ze
 not:L'.getD e.1 za=za
variable{ops:Array Oper}{bf:List Nat}{fp:Nat->Ft}{w0:World}{L':Array Bool}{e:Nat×Nat×Nat}
theorem Pend.lt'{P:Program}(h:Pend P ops bf fp base w0 L' m F a w e):e.2.2<w.heap.size:=by
 obtain⟨o,t,cs,xs,_,_,_,_,_,h2,_⟩:=h.op
 grind
theorem Pend.next{P:Program}(h:Pend P ops bf fp base w0 L' m F a w e)(hx:Ext base m F n w m' F' n' w')
(hi:i<L'.size)(hne:i≠e.1){v:Value}(hd:dst≠zi e.2.1):Pend P ops bf fp base w0 (L'.setIfInBounds i ze) m' F' (a.put dst v) w' e:=by
 have hlt:=h.lt'
 obtain⟨o,t,cs,xs,h1,h2,h3,h4,h5,h6,h7⟩:=h.op
 refine⟨h.lt,⟨o,t,cs,xs,h1,h2,h3,h4,h5,by rw[hx.ow.un _ hlt h.un];exact h6,h7⟩,?_,h.base,h.new,λhF=>(hx.back _ hF).elim h.fr (λhge=>absurd hlt (Nat.not_lt.2 hge)),λb hb=>?_,λx hb=>(Wz hi x).2 (.inr (h.rdy x hb)),?_⟩
 ·cases dst with
  |none=>exact h.tmp
  |some d=>
   have hne':d≠e.2.1:=λe'=>hd (by rw[e'])
   refine⟨by simp[Act.put,h.tmp.1],?_⟩
   have:=h.tmp.2
   simp only[Act.put,Array.getD_eq_getD_getElem?]at this⊢
   grind
 ·obtain⟨c,hc⟩:=hx.ow.old b _ hb hlt
  exact h.un c hc
 ·cases hg:(L'.setIfInBounds i ze).getD e.1 za with
  |false=>rfl
  |true=>
   rcases(Wz hi e.1).1 hg with h'|h'
   ·omega
   ·rw[h.not]at h'
    cases h'
structure Held(P:Program)(ops:Array Oper)(bf:List Nat)(nb:Nat)(S:Nat->St Bs)(fp:Nat->Ft)(lo base:Nat)(m0:Nat->Option Nat)(F0:Nat->Prop)(n0:Nat)(w0:World)(L L':Array Bool)(PL:List (Nat×Nat×Nat))(s:St Bs)(a:Act)(w:World)(m:Nat->Option Nat)(F:Nat->Prop):Prop where
 inv:Inv ops bf nb S fp L' s
 rel:Rel lo base m F (s.YX (PL.map (·.2.1))) a w
 ext:Ext base m0 F0 n0 w0 m F s.n w
 size:L.size=ops.size
 mem:∀d,L.getD d za=ze↔L'.getD d za=ze\/∃e∈PL,e.1=d
 nod:PL.Pairwise λe e'=>e.1≠e'.1/\e.2.2≠e'.2.2
 each:∀e∈PL,Pend P ops bf fp base w0 L' m F a w e
theorem lateB_lt{j:Nat}{f:Ft}(h:WC ops bf i j f=ze):i<j:=by
 simp_all[WC,zL,Nat.blt_eq]
theorem ZiK{j:Nat}{f:Ft}(h:WC ops bf i j f=ze):(∃w,f.m=zi (w,zm))/\(∃o,ops[j]? =zi o/\Zf1 o=ze)/\∀e,e<ops.size->(bf.getD e 0).testBit j=ze->(bf.getD e 0).testBit i=ze:=by
 unfold WC at h
 simp only[zL]at h
 obtain⟨_,h1,h2⟩:=h
 refine⟨?_,?_⟩
 ·grind[isBigF]
 ·cases ho:ops[j]? with
  |none=>grind
  |some o=>
   rw[ho]at h2
   simp only[zL]at h2
   refine⟨⟨o,rfl,h2.1⟩,λe he hb=>?_⟩
   have:=List.all_eq_true.1 h2.2 e (List.mem_range.2 he)
   grind
section
variable{lo base:Nat}{m0:Nat->Option Nat}{F0:Nat->Prop}{n0:Nat}{w0:World}{L L':Array Bool}{PL:List (Nat×Nat×Nat)}{s:St Bs}{a:Act}{w:World}{m:Nat->Option Nat}{F:Nat->Prop}
variable{e:Nat×Nat×Nat}
theorem Pend.small(hp:Path E call ops bf nb S fp)(h:Pend E.P ops bf fp base w0 L' m F a w e):(fp e.1).m=zm/\∃cs,(∃xs t,w.heap[e.2.2]? =zi (.cells xs t)/\∀(F:Nat->Prop)(w:World)(n:Nat)(m:Nat->Option Nat),RL F w cs n m xs.toList)/\S (e.1+1)=((S e.1).wr (zi (nb+e.1,.var cs))).put (zi e.2.1) (.ptr ze (nb+e.1) 0 0 0)/\(S e.1).blk (nb+e.1)=.none/\fp e.1={ m:=zm,l:=zi (nb+e.1) }/\e.2.1<(S e.1).N:=by
 obtain⟨o,t,cs,xs,h1,h2,h3,h4,h5,h6,h7⟩:=h.op
 rcases hp.step e.1 o h1 with⟨r,kn,hw,hkn,hknl,hf,hh,hd,hS,hfp⟩|⟨r,hw,hbg,_⟩|⟨r,hw,hbg,_⟩|⟨hw,_⟩
 ·rw[h2]at hfp hh
  refine⟨by rw[hfp];rfl,cs,⟨xs,t,h6,h7⟩,?_⟩
  simp only[evD,h5]at hh
  unfold Wj at hh
  cases hb:(S e.1).blk (nb+e.1)<;>rw[hb]at hh<;>try exact hh.elim
  have hh':(V.ptr ze (nb+e.1) 0 0 0,zi (nb+e.1,Blk.var cs))=r:=hh
  subst hh'
  rw[h3]at hS
  exact⟨hS,rfl,hfp,Gc (o:=o) hd _ h3⟩
 ·rw[h2]at hbg
  cases hbg
 ·rw[h2]at hbg
  cases hbg
 grind[truth]
theorem Held.ready(hp:Path E call ops bf nb S fp)(hh:Held E.P ops bf nb S fp lo base m0 F0 n0 w0 L L' PL s a w m F)(hwait:∀e∈PL,∃i,WC ops bf i e.1 (fp i)=ze/\L'.getD i za=za)
{i:Nat}(hi:i<ops.size)(hready:∀e,(bf.getD i 0).testBit e=ze->L.getD e za=ze):∀e,(bf.getD i 0).testBit e=ze->L'.getD e za=ze:=by
 intro x hx
 rcases(hh.mem x).1 (hready x hx)with h|⟨e,he,rfl⟩
 ·exact h
 ·obtain⟨i1,h1,h2⟩:=hwait e he
  obtain⟨k1,_,k3⟩:=ZiK h1
  have hL1:=hready i1 (k3 i hi hx)
  rcases(hh.mem i1).1 hL1 with h|⟨e',he',rfl⟩
  ·grind
  ·have:=((hh.each e' he').small hp).1
   grind
theorem Held.realize(hp:Path E call ops bf nb S fp)(he:VX ops bf){l1 l2:List (Nat×Nat×Nat)}(hh:Held E.P ops bf nb S fp lo base m0 F0 n0 w0 L L' (l1++e::l2) s a w m F)
  (hlate:∀i',WC ops bf i' e.1 (fp i')=ze->L'.getD i' za=ze):∃L'' s'' m'',Held E.P ops bf nb S fp lo base m0 F0 n0 w0 L L'' (l1++l2) s'' a w m'' F:=by
 have hmem:e∈l1++e::l2:=by simp
 have hpe:=hh.each e hmem
 obtain⟨hm,cs,⟨xs,t,h6,h7⟩,hS,hbS,hfp,hdN⟩:=hpe.small hp
 obtain⟨o,t',cs',xs',g1,g2,g3,g4,_⟩:=hpe.op
 obtain⟨_,_,hrl,_⟩:=hh.inv.reads hp he hpe.lt g1 hpe.not hpe.rdy hlate
 have hbs:s.blk (nb+e.1)=.none:=by rw[hrl _ (by rw[hfp]),hbS]
 have hlt:nb+e.1<s.n:=by
  have hl:ops.toList.any lays=ze:=List.any_eq_true.2 ⟨o,Array.mem_toList_iff.2 (Array.mem_of_getElem? g1),by unfold lays;rw[g2]⟩
  have h1:=hh.inv.res hl
  have h2:=hpe.lt
  omega
 have hjb:∀(s:St Bs) ts b,(s.YX ts).blk b=s.blk b:=λ_ _ _=>rfl
 have hm0:m (nb+e.1)=zm:=by
  have:=hh.rel.hr.blk (nb+e.1) hlt
  rw[show(s.YX ((l1++e::l2).map (·.2.1))).blk (nb+e.1)=.none from hbs]at this
  exact this
 have hdiff:∀e'∈l1++l2,e'.1≠e.1/\e'.2.2≠e.2.2:=by
  intro e' he'
  have hpw:=List.pairwise_append.1 hh.nod
  rcases List.mem_append.1 he' with h|h
  ·exact hpw.2.2 e' h e (by simp)
  ·have:=(List.pairwise_cons.1 hpw.2.1).1 e' h
   exact⟨λh=>this.1 h.symm,λh=>this.2 h.symm⟩
 have hLs:L'.size=ops.size:=hh.inv.size
 have hiL:e.1<L'.size:=by rw[hLs];exact hpe.lt
 have hinv:=hh.inv.next hp he hpe.lt g1 hpe.not hpe.rdy hlate (v:=.ptr ze (nb+e.1) 0 0 0) (x:=zi (nb+e.1,.var cs))
  (λb blk hx=>by injection hx with hx;injection hx with hx _;subst hx;rw[WrB,hfp];exact .inr (.inr rfl)) (λh=>by rw[Ji,hm]at h;cases h)
  (λb hb=>by
   rw[WrB,hfp]at hb
   rcases hb with hb|⟨hb,_⟩|hb
   ·cases hb
   ·cases hb
   ·injection hb with hb;subst hb;rw[hbs,hbS]) (by rw[g3];exact hS)
 rw[g3]at hinv
 have hext:Ext base m0 F0 n0 w0 (λb=>if b=nb+e.1 then zi e.2.2 else m b) F s.n w:=by
  have h:=hh.ext
  refine⟨h.f,h.back,h.keep,h.size,h.sz,⟨h.ow.un,λb C hb hC=>?_⟩,h.le,λb hb C hC=>?_,h.calm⟩
  ·by_cases e1:b=nb+e.1
   ·rw[if_pos e1]at hb;injection hb with hb;have:=hpe.new;omega
   ·rw[if_neg e1]at hb;exact h.ow.old b C hb hC
  ·have:=h.map b hb C hC
   rw[if_neg (λe1=>by rw[e1,hm0]at this;cases this)]
   exact this
 have mono:∀(v:V)(x:Value),R F w v s.n m x->R F w v s.n (λb=>if b=nb+e.1 then zi e.2.2 else m b) x:=λv x h=>
  (Xj (Yk.refl w) (λ_ h=>h) (λ_ _=>rfl) v s.n s.n m _ (zI _) (λb _ B hb=>by rw[if_neg (λe1=>by rw[e1,hm0]at hb;cases hb)];exact hb)).1 x h
 have hr:=hh.rel.hr
 have hHR:HR base (λb=>if b=nb+e.1 then zi e.2.2 else m b) F (s.wr (zi (nb+e.1,.var cs))).blk s.n w:=by
  refine⟨hr.low,hr.fdom,λb hb=>?_,λb C hC=>?_,λb hb=>?_,hr.gl,λb C hC=>?_,λb b' C h1 h2 hne=>?_⟩
  ·show RB F w s.n _ (look _ (PT.set _ _ _) b) _
   rw[Yg]
   by_cases e1:b=nb+e.1
   ·rw[if_pos e1,if_pos e1]
    exact⟨e.2.2,xs,t,xs.toList,[],rfl,h6,by simp,h7 _ _ _ _⟩
   ·rw[if_neg e1,if_neg e1]
    exact RB_more (zI _) (λc _ C hc=>by rw[if_neg (λe1=>by rw[e1,hm0]at hc;cases hc)];exact hc) (hr.blk b hb)
  ·by_cases e1:b=nb+e.1
   ·rw[if_pos e1]at hC;injection hC with hC;subst hC;exact hpe.lt'
   ·rw[if_neg e1]at hC;exact hr.dom b C hC
  ·rw[if_neg (by have hb':s.n<=b:=hb;omega)];exact hr.new b hb
  ·by_cases e1:b=nb+e.1
   ·rw[if_pos e1]at hC;injection hC with hC;subst hC;exact⟨hpe.base,hpe.fr⟩
   ·rw[if_neg e1]at hC;exact hr.own b C hC
  ·by_cases e1:b=nb+e.1<;>by_cases e2:b'=nb+e.1
   ·exact absurd (e1.trans e2.symm) hne
   ·rw[if_pos e1]at h1;rw[if_neg e2]at h2;injection h1 with h1;subst h1;exact absurd h2 (hpe.un b')
   ·rw[if_neg e1]at h1;rw[if_pos e2]at h2;injection h2 with h2;subst h2;exact absurd h1 (hpe.un b)
   ·rw[if_neg e1]at h1;rw[if_neg e2]at h2
    show look _ (PT.set _ _ _) b=Blk.any\/look _ (PT.set _ _ _) b'=Blk.any
    rw[Yg,Yg,if_neg e1,if_neg e2]
    exact hr.inj b b' C h1 h2 hne
 refine⟨L'.setIfInBounds e.1 ze,(s.wr (zi (nb+e.1,.var cs))).put (zi e.2.1) (.ptr ze (nb+e.1) 0 0 0),λb=>if b=nb+e.1 then zi e.2.2 else m b,hinv,?_,by rw[St.J4,St.wr_n];exact hext,hh.size,λd=>?_,?_,λe' he'=>?_⟩
 ·refine⟨?_,?_,?_,λt=>?_⟩
  ·show HR base _ F (s.wr (zi (nb+e.1,.var cs))).blk s.n w
   exact hHR
  ·obtain⟨rs,hk⟩:=hh.rel.defers
   refine⟨rs,hk.eq,hk.nodup,hk.le,hk.lo,hk.obj,λr hr'=>⟨(hk.un r hr').1,λb hb=>?_⟩⟩
   by_cases e1:b=nb+e.1
   ·rw[if_pos e1]at hb
    injection hb with hb
    have:=hk.obj r hr'
    rw[<- hb,h6]at this
    cases this
   ·rw[if_neg e1]at hb;exact(hk.un r hr').2 b hb
  ·exact hh.rel.size
  ·rw[Uj]
   have hn':(((s.wr (zi (nb+e.1,.var cs))).put (zi e.2.1) (.ptr ze (nb+e.1) 0 0 0)).YX ((l1++l2).map (·.2.1))).n=s.n:=rfl
   rw[hn']
   by_cases ht:t∈(l1++l2).map (·.2.1)
   ·rw[if_pos ht];simp only[R]
   ·rw[if_neg ht]
    by_cases e1:t=e.2.1
    ·subst e1
     have:((s.wr (zi (nb+e.1,.var cs))).put (zi e.2.1) (.ptr ze (nb+e.1) 0 0 0)).tmp e.2.1=.ptr ze (nb+e.1) 0 0 0:=by show look _ (PT.set _ _ _) _=_;rw[Un]
     rw[this,hpe.tmp.2,Wm]
     exact⟨hlt,e.2.2,by simp,by simp⟩
    ·rw[ZbA (λh=>e1 (by injection h with h;exact h.symm))]
     have h1:=hh.rel.tmp t
     rw[Uj,if_neg (λh=>by
      simp only[List.map_append,List.map_cons,List.mem_append,List.mem_cons]at h ht
      rcases h with h|h|h
      ·exact ht (.inl h)
      ·exact e1 h
      ·exact ht (.inr h))]at h1
     exact mono _ _ h1
 ·rw[hh.mem,Wz hiL]
  constructor
  ·rintro(h|⟨x,hx,rfl⟩)
   ·exact .inl (.inr h)
   ·rcases List.mem_append.1 hx with h|h
    ·exact .inr ⟨x,by simp[h],rfl⟩
    ·rcases List.mem_cons.1 h with rfl|h
     ·exact .inl (.inl rfl)
     ·exact .inr ⟨x,by simp[h],rfl⟩
  ·rintro((rfl|h)|⟨x,hx,rfl⟩)
   ·exact .inr ⟨e,hmem,rfl⟩
   ·exact .inl h
   ·refine .inr ⟨x,?_,rfl⟩
    rcases List.mem_append.1 hx with h|h<;>simp[h]
 ·have hpw:=List.pairwise_append.1 hh.nod
  exact List.pairwise_append.2 ⟨hpw.1,(List.pairwise_cons.1 hpw.2.1).2,λx hx y hy=>hpw.2.2 x hx y (by simp[hy])⟩
 ·have h':=hh.each e' (by rcases List.mem_append.1 he' with h|h<;>simp[h])
  obtain⟨k1,k2⟩:=hdiff e' he'
  refine⟨h'.lt,h'.op,h'.tmp,h'.base,h'.new,h'.fr,λb hb=>?_,λx hx=>(Wz hiL x).2 (.inr (h'.rdy x hx)),?_⟩
  ·by_cases e1:b=nb+e.1
   ·rw[if_pos e1]at hb;injection hb with hb;exact k2 hb.symm
   ·rw[if_neg e1]at hb;exact h'.un b hb
  ·cases hg:(L'.setIfInBounds e.1 ze).getD e'.1 za with
   |false=>rfl
   |true=>
    rcases(Wz hiL e'.1).1 hg with h|h
    ·exact absurd h k1
    ·rw[h'.not]at h;cases h
theorem Held.all(hp:Path E call ops bf nb S fp)(he:VX ops bf):∀(k:Nat)(L':Array Bool)(PL:List (Nat×Nat×Nat))(s:St Bs)(m:Nat->Option Nat),PL.length<=k->Held E.P ops bf nb S fp lo base m0 F0 n0 w0 L L' PL s a w m F->
  ∃L'' PL'' s'' m'',Held E.P ops bf nb S fp lo base m0 F0 n0 w0 L L'' PL'' s'' a w m'' F/\∀e∈PL'',∃i,WC ops bf i e.1 (fp i)=ze/\L''.getD i za=za:=by
 intro k
 induction k with
 |zero=>grind
 |succ k ih=>
  intro L' PL s m hk hh
  by_cases hall:∀e∈PL,∃i,WC ops bf i e.1 (fp i)=ze/\L'.getD i za=za
  ·grind
  ·have:∃e∈PL,∀i,WC ops bf i e.1 (fp i)=ze->L'.getD i za=ze:=by
    grind
   obtain⟨e,hmem,hl⟩:=this
   obtain⟨l1,l2,rfl⟩:=List.append_of_mem hmem
   obtain⟨L2,s2,m2,hh2⟩:=hh.realize hp he hl
   grind
end
theorem any_wp(hE:E.Ok)(hcall:UF E call)(hp:Path E call ops bf nb S fp)(he:VX ops bf){m0:Nat->Option Nat}{n0:Nat}
  (hK:∀m' F' a' w',Ext base m0 F0 n0 w0 m' F' (S ops.size).n w'->Rel lo base m' F' (S ops.size) a' w'->Qx .normal a' w') :
  ∀(fuel:Nat)(L L':Array Bool)(PL:List (Nat×Nat×Nat))(s:St Bs)(a:Act)(w:World)(m:Nat->Option Nat)(F:Nat->Prop),Held E.P ops bf nb S fp lo base m0 F0 n0 w0 L L' PL s a w m F->
  (∀e∈PL,∃i,WC ops bf i e.1 (fp i)=ze/\L'.getD i za=za)->
  ((List.range ops.size).filter λi=>!L.getD i za).length<=fuel->wpAnyIn (fen ro) 0 E.P .any ops Qx fuel L a w:=by
 have done:∀(L L':Array Bool) PL s a w m F,Held E.P ops bf nb S fp lo base m0 F0 n0 w0 L L' PL s a w m F->Region.ready .any ops L=[]->∀i,i<ops.size->L.getD i za=ze:=by
  intro L L' PL s a w m F hv hnil i
  induction i using Nat.strongRecOn with
  |_ i ih=>
   intro hi
   cases hL:L.getD i za with
   |true=>rfl
   |false=>
    have:=ready_of he hv.size hi hL λj hj=>ih j hj (by omega)
    rw[hnil]at this
    cases this
 have final:∀(L L':Array Bool) PL s a w m F,Held E.P ops bf nb S fp lo base m0 F0 n0 w0 L L' PL s a w m F->(∀e∈PL,∃i,WC ops bf i e.1 (fp i)=ze/\L'.getD i za=za)->
   (∀i,i<ops.size->L.getD i za=ze)->Qx .normal a w:=by
  intro L L' PL s a w m F hh hwait hall
  have hPL:PL=[]:=by
   cases PL with
   |nil=>rfl
   |cons e PL=>
    exfalso
    obtain⟨i,h1,h2⟩:=hwait e (by simp)
    obtain⟨k1,_,_⟩:=ZiK h1
    have hi:i<ops.size:=Nat.lt_trans (lateB_lt h1) (hh.each e (by simp)).lt
    rcases(hh.mem i).1 (hall i hi)with h|⟨e',he',rfl⟩
    ·rw[h2]at h;cases h
    ·have:=((hh.each e' he').small hp).1
     obtain⟨_,k1⟩:=k1
     rw[k1]at this;cases this
  subst hPL
  have hv:=hh.inv
  have hr:Rel lo base m F s a w:=hh.rel
  have hall':∀i,i<ops.size->L'.getD i za=ze:=λi hi=>by
   rcases(hh.mem i).1 (hall i hi)with h|⟨e,he,_⟩
   ·exact h
   ·cases he
  have hfix:=hp.fixed ops.size (zI _)
  have ht:∀t,s.tmp t=(S ops.size).tmp t:=by
   intro t
   obtain⟨k,hk,h1,h2⟩:=hv.tmp t
   rw[h1]
   exact(stays (f:=λk=>(S k).tmp t) (hp.tmp t) k ops.size hk (zI _) λd h3 h4 hw=>by have:=(h2 d h4 hw).1 (hall' d h4);omega).symm
  have hb:∀b,s.blk b=(S ops.size).blk b:=by
   intro b
   obtain⟨k,hk,h1,h2⟩:=hv.blk b
   rw[h1]
   exact(stays (f:=λk=>(S k).blk b) (hp.blk b) k ops.size hk (zI _) λd h3 h4 hw=>by have:=(h2 d h4 hw).1 (hall' d h4);omega).symm
  have hn:(S ops.size).n=s.n:=by
   obtain⟨k,hk,h1,h2⟩:=hv.n
   rw[h1]
   exact stays (f:=λk=>(S k).n) hp.nn k ops.size hk (zI _) λd h3 h4 hw=>by have:=(h2 d h4 hw).1 (hall' d h4);omega
  exact hK m F a w (by rw[hn];exact hh.ext) (hr.congr (λb=>(hb b).symm) hn (by rw[hfix,hv.N]) λt=>.inl (ht t).symm)
 intro fuel
 induction fuel with
 |zero=>
  intro L L' PL s a w m F hh hwait hcnt
  have hall:∀i,i<ops.size->L.getD i za=ze:=by
   intro i hi
   cases hL:L.getD i za with
   |true=>rfl
   |false=>
    exfalso
    have hnil:((List.range ops.size).filter λi=>!L.getD i za)=[]:=List.eq_nil_of_length_eq_zero (by omega)
    have:i∈((List.range ops.size).filter λi=>!L.getD i za):=by
     rw[List.mem_filter];exact⟨List.mem_range.2 hi,by simp only[hL,Bool.not_false]⟩
    rw[hnil]at this
    cases this
  exact any_end (ro:=ro) (fuel:=0) hh.size hall (final L L' PL s a w m F hh hwait hall)
 |succ fuel ih=>
  intro L L' PL s a w m F hh hwait hcnt
  refine⟨λhnil=>final L L' PL s a w m F hh hwait (done L L' PL s a w m F hh hnil),λi hmem=>?_⟩
  have hclL:∀d e,L.getD d za=ze->(bf.getD d 0).testBit e=ze->L.getD e za=ze:=by
   intro d e hd hb
   rcases(hh.mem d).1 hd with h|⟨x,hx,rfl⟩
   ·exact(hh.mem e).2 (.inl (hh.inv.closed d e h hb))
   ·exact(hh.mem e).2 (.inl ((hh.each x hx).rdy e hb))
  obtain⟨hi,hn,hready⟩:=Zq7 he hh.size hclL hmem
  have hlt:i<L.size:=by rw[hh.size];exact hi
  have hv:=hh.inv
  have hlt':i<L'.size:=by rw[hv.size];exact hi
  have ho:ops[i]? =zi ops[i]:=Array.getElem?_eq_getElem hi
  have hcnt':((List.range ops.size).filter λj=>!(L.setIfInBounds i ze).getD j za).length<=fuel:=by
   have:=cnt_lt (λj=>!L.getD j za) (λj=>!(L.setIfInBounds i ze).getD j za) i (List.range ops.size) (λj hj=>by
    by_cases e:L.getD j za=ze
    ·have:=(Wz hlt j).2 (.inr e);simp only[this,Bool.not_true]at hj;cases hj
    ·simp at e;simp[e]) (List.mem_range.2 hi) (by simp only[hn,Bool.not_false]) (by have:=(Wz hlt i).2 (.inl rfl);simp only[this,Bool.not_true])
   omega
  have hready':=hh.ready hp hwait hi hready
  have hn':L'.getD i za=za:=by
   cases h:L'.getD i za with
   |false=>rfl
   |true=>rw[(hh.mem i).2 (.inl h)]at hn;cases hn
  have hneP:∀e∈PL,i≠e.1:=λe he' h=>by rw[(hh.mem i).2 (.inr ⟨e,he',h.symm⟩)]at hn;cases hn
  have hfree:∀e∈PL,e.2.1∉looks ops ops[i]/\ops[i].dst≠zi e.2.1:=by
   intro e hemem
   have hpe:=hh.each e hemem
   obtain⟨o',t',_,_,g1,g2,g3,_⟩:=hpe.op
   rcases Nat.lt_or_gt_of_ne (hneP e hemem)with hlt2|hlt2
   ·have hno:tied ops ops[i] o'=za:=by
     cases htt:tied ops ops[i] o' with
     |false=>rfl
     |true=>
      have:=hpe.rdy i (he.ties i e.1 _ _ hlt2 ho g1 htt)
      rw[hn']at this;cases this
    exact⟨(Zaf hno).2 _ g3,λh=>((Zaf hno).1 _ h).2 g3⟩
   ·have hno:tied ops o' ops[i]=za:=by
     cases htt:tied ops o' ops[i]with
     |false=>rfl
     |true=>
      have:=hready' e.1 (he.ties e.1 i _ _ hlt2 g1 ho htt)
      rw[hpe.not]at this;cases this
    exact(Zaf hno).1 _ g3
  have hN:s.N=(S i).N:=by rw[hv.N,hp.fixed i (by omega)]
  have htsl:∀t∈looks ops ops[i],t∉PL.map (·.2.1):=λt ht h=>by
   obtain⟨e,he',rfl⟩:=List.mem_map.1 h
   exact(hfree e he').1 ht
  have htsd:∀t,ops[i].dst=zi t->t∉PL.map (·.2.1):=λt ht h=>by
   obtain⟨e,he',rfl⟩:=List.mem_map.1 h
   exact(hfree e he').2 ht
  generalize hts:PL.map (·.2.1)=ts at htsl htsd
  have hr:Rel lo base m F (s.YX ts) a w:=by rw[<- hts];exact hh.rel
  have hjl:∀t∈looks ops ops[i],(s.YX ts).tmp t=s.tmp t:=λt ht=>by rw[Uj,if_neg (htsl t ht)]
  have glue:∀{s2:St Bs}{v:V}{x:Value}{a2:Act}{w2:World}{m2:Nat->Option Nat}{F2:Nat->Prop},a2=a.put ops[i].dst x->Inv ops bf nb S fp (L'.setIfInBounds i ze) (s2.put ops[i].dst v)->Ext base m F s.n w m2 F2 s2.n w2->
    Rel lo base m2 F2 ((s2.YX ts).put ops[i].dst v) a2 w2->wpAnyIn (fen ro) 0 E.P .any ops Qx fuel (L.setIfInBounds i ze) a2 w2:=by
   intro s2 v x a2 w2 m2 F2 ha hinv hx hrel
   subst ha
   have hh2:Held E.P ops bf nb S fp lo base m0 F0 n0 w0 (L.setIfInBounds i ze) (L'.setIfInBounds i ze) PL (s2.put ops[i].dst v) (a.put ops[i].dst x) w2 m2 F2:=by
    refine⟨hinv,?_,by rw[St.J4];exact hh.ext.trans hx,by simp[hh.size],λd=>?_,hh.nod,λe he'=>(hh.each e he').next hx hlt' (hneP e he') (hfree e he').2⟩
    ·rw[hts]
     refine hrel.congr (λb=>?_) ?_ ?_ λt=>?_
     ·show(s2.put ops[i].dst v).blk b=((s2.YX ts).put ops[i].dst v).blk b
      simp only[St.blk,St.VJ];rfl
     ·show(s2.put ops[i].dst v).n=((s2.YX ts).put ops[i].dst v).n
      rw[St.J4,St.J4];rfl
     ·show(s2.put ops[i].dst v).N=((s2.YX ts).put ops[i].dst v).N
      rw[St.Zbz,St.Zbz];rfl
     ·rw[Uj]
      by_cases h1:t∈ts
      ·rw[if_pos h1];exact .inr rfl
      ·rw[if_neg h1]
       left
       by_cases h2:ops[i].dst=zi t
       ·unfold St.put
        rw[h2]
        show look _ (PT.set _ _ _) _=look _ (PT.set _ _ _) _
        rw[Un,Un]
       ·rw[ZbA h2,ZbA h2,Uj,if_neg h1]
    ·rw[Wz hlt,Wz hlt',hh.mem]
     constructor
     ·rintro(h|h|h)
      ·exact .inl (.inl h)
      ·exact .inl (.inr h)
      ·exact .inr h
     ·rintro((h|h)|h)
      ·exact .inl h
      ·exact .inr (.inl h)
      ·exact .inr (.inr h)
   obtain⟨L3,PL3,s3,m3,hh3,hw3⟩:=Held.all hp he PL.length _ PL _ _ (zI _) hh2
   exact ih _ L3 PL3 s3 _ _ m3 F2 hh3 hw3 hcnt'
  unfold wpOpIn
  rw[ho]
  dsimp only
  by_cases hdel:∃i0,WC ops bf i0 i (fp i0)=ze/\L'.getD i0 za=za
  ·
   obtain⟨i0,hl0,hl1⟩:=hdel
   obtain⟨_,⟨o',ho',hal⟩,_⟩:=ZiK hl0
   rw[ho]at ho'
   injection ho' with ho'
   subst ho'
   unfold Zf1 at hal
   cases hop:ops[i].op<;>rw[hop]at hal<;>try(cases hal;done)
   rename_i t
   simp only[zL]at hal
   have hg:ops[i].guard=zm:=by simpa using hal.1
   obtain⟨td,htd⟩:=Option.isSome_iff_exists.1 hal.2
   have htr:truth ops s.tmp ops[i]=zi ze:=by unfold truth;rw[hg]
   have htr':truth ops (s.YX ts).tmp ops[i]=zi ze:=by unfold truth;rw[hg]
   rw[if_pos (UE hr htr')]
   rcases hp.step i _ ho with⟨r,kn,_,_,_,hf,hhd,hd,hS,hfp⟩|⟨r,_,hbg,_⟩|⟨r,_,hbg,_⟩|⟨hw,_⟩
   ·rw[hop]at hhd
    simp only[evD]at hhd
    cases hz:X5 E.P t with
    |none=>rw[hz]at hhd;exact hhd.elim
    |some cs=>
     obtain⟨z,hz0⟩:=ZrC hz
     have hz1:=(hz0 F w s.n m).1
     have hz3:∀(F:Nat->Prop)(w:World)(n:Nat)(m:Nat->Option Nat),RL F w cs n m z.cells.toList:=λF w' n m=>(hz0 F w' n m).2
     have hrun:(execOp a.eval ops[i]).run E.P w=.ok (.value (.pointer (zi ⟨w.heap.size,0,zm⟩))) (w.alloc (.cells z.cells t)):=by
      simp only[execOp,hop,Instr.alloc,zM,hz1,zP]
      rfl
     refine WH ?_ (by rw[hop];intro c h;cases h)
     unfold Oper.wp
     rw[hrun]
     simp only[Oper.upon]
     have keep:∀B,B<w.heap.size->(w.alloc (.cells z.cells t)).heap[B]? =w.heap[B]?:=λB hB=>heap_alloc_old w _ B hB
     have hl:Later F w F (w.alloc (.cells z.cells t)):=⟨λ_ h=>h,λ_ h=>.inl h,keep,by simp,λh B hB=>by have:=h B hB;simp;omega,⟨rfl,rfl,rfl⟩⟩
     have hxx:=hr.hr.ext hl
     have hdN:td<(s.YX ts).N:=by show td<s.N;rw[hN];exact Gc hd _ htd
     have hr2:Rel lo base m F (s.YX ts) a (w.alloc (.cells z.cells t)):=⟨hr.hr.later hl,Marks.ext hr.defers hxx,hr.size,λt=>hxx.val (hr.tmp t)⟩
     have hr3:Rel lo base m F ((s.YX ts).put (zi td) .junk) (a.put (zi td) (.pointer (zi ⟨w.heap.size,0,zm⟩))) (w.alloc (.cells z.cells t)):=hr2.put (by simp only[R]) (λd h=>by injection h with h;subst h;exact hdN)
     have hhe:∀e∈PL,Pend E.P ops bf fp base w0 L' m F (a.put (zi td) (.pointer (zi ⟨w.heap.size,0,zm⟩))) (w.alloc (.cells z.cells t)) e:=by
      intro e hemem
      have hpe:=hh.each e hemem
      have hlte:=hpe.lt'
      obtain⟨o,t1,cs1,xs1,h1,h2,h3,h4,h5,h6,h7⟩:=hpe.op
      refine⟨hpe.lt,⟨o,t1,cs1,xs1,h1,h2,h3,h4,h5,by rw[keep _ hlte];exact h6,h7⟩,?_,hpe.base,hpe.new,hpe.fr,hpe.un,hpe.rdy,hpe.not⟩
      have hne':td≠e.2.1:=λh=>(hfree e hemem).2 (by rw[htd,h])
      refine⟨by simp[Act.put,hpe.tmp.1],?_⟩
      have:=hpe.tmp.2
      simp only[Act.put,Array.getD_eq_getD_getElem?]at this⊢
      rw[Array.getElem?_setIfInBounds_ne hne']
      exact this
     rw[htd]
     refine ih _ L' ((i,td,w.heap.size)::PL) s _ _ m F ⟨hv,?_,hh.ext.trans hxx,by simp[hh.size],λd=>?_,?_,λe he'=>?_⟩ (λe he'=>?_) hcnt'
     ·refine hr3.congr (λb=>?_) ?_ ?_ λt=>?_
      ·show s.blk b=((s.YX ts).put (zi td) .junk).blk b
       simp only[St.blk,St.VJ];rfl
      ·show s.n=((s.YX ts).put (zi td) .junk).n
       rw[St.J4];rfl
      ·show s.N=((s.YX ts).put (zi td) .junk).N
       rw[St.Zbz];rfl
      ·rw[Uj]
       by_cases h1:t∈List.map (·.2.1) ((i,td,w.heap.size)::PL)
       ·rw[if_pos h1];exact .inr rfl
       ·rw[if_neg h1]
        simp only[List.map_cons,List.mem_cons,not_or]at h1
        left
        rw[ZbA (λh=>h1.1 (by injection h with h;exact h.symm)),Uj,if_neg (by rw[<- hts];exact h1.2)]
     ·rw[Wz hlt,hh.mem]
      constructor
      ·rintro(e0|h|⟨x,hx,rfl⟩)
       ·exact .inr ⟨(i,td,w.heap.size),by simp,e0.symm⟩
       ·exact .inl h
       ·exact .inr ⟨x,by simp[hx],rfl⟩
      ·rintro(h|⟨x,hx,rfl⟩)
       ·exact .inr (.inl h)
       ·rcases List.mem_cons.1 hx with rfl|hx
        ·exact .inl rfl
        ·exact .inr (.inr ⟨x,hx,rfl⟩)
     ·refine List.pairwise_cons.2 ⟨λe he'=>⟨hneP e he',?_⟩,hh.nod⟩
      have:=(hh.each e he').lt'
      show w.heap.size≠e.2.2
      omega
     ·rcases List.mem_cons.1 he' with rfl|he'
      ·refine⟨hi,⟨_,t,cs,z.cells,ho,hop,htd,hg,hz,heap_alloc_new w _,hz3⟩,?_,hr.hr.low,hh.ext.size,λh=>absurd (hr.hr.fdom _ h) (Nat.lt_irrefl _),λb hb=>absurd (hr.hr.dom b _ hb) (Nat.lt_irrefl _),hready',hn'⟩
       have hlt3:td<a.tmps.size:=by rw[hr.size];exact hdN
       exact⟨by simp[Act.put,hlt3],by simp[Act.put,Array.getD_eq_getD_getElem?,hlt3]⟩
      ·exact hhe e he'
     ·rcases List.mem_cons.1 he' with rfl|he'
      ·exact⟨i0,hl0,hl1⟩
      ·exact hwait e he'
   ·rw[hop]at hbg;cases hbg
   ·rw[hop]at hbg;cases hbg
   ·unfold truth at hw;rw[hg]at hw;cases hw
  have hlate:∀i',WC ops bf i' i (fp i')=ze->L'.getD i' za=ze:=λi' h=>by
   cases hL:L'.getD i' za with
   |true=>rfl
   |false=>exact absurd ⟨i',h,hL⟩ hdel
  obtain⟨hrt0,hrb,hrl,hrn⟩:=hv.reads hp he hi ho hn' hready' hlate
  have hrt:∀t∈looks ops ops[i],(s.YX ts).tmp t=(S i).tmp t:=λt ht=>by rw[hjl t ht];exact hrt0 t ht
  have whole:∀{f:Ft}{w0:Bool},fp i=f->f.m=zi (w0,zm)->(w0=ze\/f.q=ze)->KS ops[i].op=ze->s.n=(S i).n/\(∀b,s.blk b=(S i).blk b)/\
    Rel lo base m F ({ S i with t:=(s.YX ts).t }:St Bs) a w/\Xl E call ({ S i with t:=(s.YX ts).t }:St Bs).sub ops[i].op=Xl E call (S i).sub ops[i].op:=by
   intro f w0 hf hm hq hbg
   have hnn:=hrn ⟨w0,by rw[hf];exact hm⟩
   have hblk:∀b,s.blk b=(S i).blk b:=λb=>hrb w0 zm b (by rw[hf];exact hm) (.inl ⟨rfl,by rw[hf];exact hq.imp id .inl⟩)
   have hopnd:∀x∈ops[i].op.operands,Zr (s.YX ts) x=Zr (S i) x:=λx hx=>Zl1 λt e=>hrt t (by
    subst e
    simp only[looks,List.mem_append,List.mem_filterMap]
    exact .inl ⟨.tmp t,by simpa using hx,rfl⟩)
   refine⟨hnn,hblk,hr.congr (λb=>(hblk b).symm) hnn.symm (by rw[show(s.YX ts).N=s.N from rfl,hN]) λt=>.inl rfl,?_⟩
   cases hop:ops[i].op<;>rw[hop]at hbg<;>try(cases hbg;done)
   rename_i c
   have h1:∀x∈(Op.call c).operands,Zr ({ S i with t:=(s.YX ts).t }:St Bs).sub x=Zr (S i).sub x:=λx hx=>by
    have:=hopnd x (by rw[hop];exact hx)
    cases x<;>first|exact this|rfl
   exact Zps h1 rfl rfl rfl
  rcases hp.step i _ ho with⟨r,kn,hw,hkn,hknl,hf,hhd,hd,hS,hfp⟩|⟨r,hw,hbg,hhd,hd,hqr,hS,hfp⟩|⟨r,hw,hbg,hhd,hd,hS,hfp⟩|⟨hw,hd,hS,hfp⟩
  ·rw[<- Zg6 hrt]at hw
   rw[if_pos (UE hr hw)]
   have hkn':Qg (s.YX ts) kn:=λp hp=>by rw[hrt p.1 (hknl p hp)];exact hkn p hp
   have hopnd:∀x∈ops[i].op.operands,Zr (s.YX ts) x=Zr (S i) x:=λx hx=>Zl1 λt e=>hrt t (by
    subst e
    simp only[looks,List.mem_append,List.mem_filterMap]
    exact .inl ⟨.tmp t,by simpa using hx,rfl⟩)
   have hev:evD E call (s.YX ts) nb ops.size (nb+i) kn ops[i].op=evD E call (S i) nb ops.size (nb+i) kn ops[i].op:=evD_congr hopnd (λw c b hfo hcb=>hrb w c b (by rw[hfp,hfo]) (hcb.imp (λh=>⟨h.1,.inr (.inr h.2)⟩) id)) (λb hfo=>hrl b (by rw[hfp,hfo]))
   rw[<- hev]at hhd hf
   have hfoot:foot (s.YX ts) (nb+i) ops[i].op=foot (S i) (nb+i) ops[i].op:=by
    unfold foot
    cases hop:ops[i].op<;>try rfl
    case call c=>
     dsimp only
     cases hcal:c.callee<;>dsimp only
     rename_i f
     rw[hopnd f (by rw[hop];simp[Op.operands,Call.operands,hcal]),List.map_congr_left (l:=c.args.toList) λx h=>hopnd x (by rw[hop];simp[Op.operands,Call.operands];right;simpa using h)]
    case slice t ax lo hi mx=>dsimp only;rw[hopnd ax (by rw[hop];simp[Op.operands])]
    case lookup t ax ix ok=>dsimp only;rw[hopnd ax (by rw[hop];simp[Op.operands])]
    case mapUpdate t ax k x=>dsimp only;rw[hopnd ax (by rw[hop];simp[Op.operands])]
    case insert t ax k x=>dsimp only;rw[hopnd ax (by rw[hop];simp[Op.operands])]
    ·rename_i t ax;dsimp only;rw[hopnd ax (by rw[hop];simp[Op.operands])]
    ·rename_i t ax xx;dsimp only;rw[hopnd ax (by rw[hop];simp[Op.operands])]
    ·rename_i t t' ax;dsimp only;rw[hopnd ax (by rw[hop];simp[Op.operands])]
   have hres:∀b,(foot (s.YX ts) (nb+i) ops[i].op).l=zi b->nb+i<(s.YX ts).n:=λb hb=>by
    have:=hv.res (List.any_eq_true.2 ⟨ops[i],by simp,foot_lays hb⟩)
    show nb+i<s.n
    omega
   refine WH (evD_wp hE hcall hr hres hkn' hhd λv wr hvr m' F' w' x h1 h2 h3=>?_) (Zpe hhd)
   subst hvr
   have hinv:=hv.next hp he hi ho hn' hready' hlate (v:=v) (x:=wr) (λb blk e=>by rw[WrB,hfp,<- hfoot];exact(ZkC hf hhd e).imp id .inr) (λh=>by rw[Ji,hfp]at h;exact ZkV h) (λb hb=>by
    rw[WrB]at hb
    rcases hb with hb|⟨hb,_⟩|hb
    ·exact hrb _ _ b hb (.inr rfl)
    ·rw[hfp]at hb;exact absurd hb ZkV
    ·exact hrl b hb) hS
   refine glue (s2:=s.wr wr) rfl hinv (by rw[St.wr_n];exact h1) ?_
   have hr':Rel lo base m' F' ((s.wr wr).YX ts) a w':=by
    refine⟨?_,Marks.ext hr.defers h1,by show a.tmps.size=(s.wr wr).N;rw[St.wr_N];exact hr.size,λi=>?_⟩
    ·show HR base m' F' (s.wr wr).blk (s.wr wr).n w'
     rw[St.wr_n]
     have h2':HR base m' F' ((s.YX ts).wr wr).blk s.n w':=h2
     have e:((s.YX ts).wr wr).blk=(s.wr wr).blk:=by cases wr<;>rfl
     rw[e]at h2'
     exact h2'
    ·have h4:=h1.val (hr.tmp i)
     rw[Uj]at h4⊢
     show R F' w' _ (s.wr wr).n m' _
     rw[St.wr_n]
     by_cases h5:i∈ts
     ·rw[if_pos h5];simp only[R]
     ·rw[if_neg h5]at h4⊢
      simp only[St.tmp,St.wr_t]
      exact h4
   exact hr'.put (dst:=ops[i].dst) (v:=v) (x:=x) (by show R F' w' v (s.wr wr).n m' x;rw[St.wr_n];exact h3) (by show ∀d,ops[i].dst=zi d->d<(s.wr wr).N;rw[St.wr_N,hN];exact Gc hd)
  ·rw[<- Zg6 hrt]at hw
   rw[if_pos (UE hr hw)]
   obtain⟨hnn,hblk,hr1,hev⟩:=whole hfp rfl (.inr rfl) hbg
   rw[<- hev]at hhd
   refine Zik hE hcall (ZmD hr1) hhd λv h' n' hQ m' F' w' x h1 h2 h3=>?_
   subst hQ
   have h1':Ext base m F s.n w m' F' n' w':=by rw[hnn];exact h1
   simp only[ZbB,zL]at hqr
   have hsame:∀b,b<s.n->look (S i).blk h' b=(S i).blk b:=λb hb=>by
    unfold look
    cases hg:h'.get b with
    |none=>rfl
    |some y=>
     have:=PT.allK_get _ _ 1 0 hqr.1 b y hg
     simp only[Nat.one_mul,Nat.add_zero,Nat.ble_eq]at this
     omega
   have hHR:HR base m F (S i).blk s.n w:=by rw[<- funext hblk];exact hr.hr
   obtain⟨k1,k2⟩:=hHR.cut h1' h2 hsame
   have hbel:v.QJ s.n=ze:=by rw[hnn];exact hqr.2
   have h3':=(Zap v n' hbel).1 x h3
   have hinv:=hv.next hp he hi ho hn' hready' hlate (v:=v) (x:=zm) (λb blk e=>by cases e) (λh=>by rw[Ji,hfp]at h;cases h) (λb hb=>by rw[WrB,hfp]at hb;rcases hb with h|⟨h,_⟩|h<;>cases h) hS
   refine glue (s2:=s) rfl hinv k2 ?_
   have hr':Rel lo base (Qz m' s.n) F' (s.YX ts) a w':=by
    refine⟨?_,Marks.ext hr.defers k2,hr.size,λt=>k2.val (hr.tmp t)⟩
    show HR base (Qz m' s.n) F' s.blk s.n w'
    rw[funext hblk];exact k1
   exact hr'.put (dst:=ops[i].dst) (v:=v) (x:=x) h3' (by show ∀d,ops[i].dst=zi d->d<s.N;rw[hN];exact Gc hd)
  ·rw[<- Zg6 hrt]at hw
   rw[if_pos (UE hr hw)]
   obtain⟨hnn,hblk,hr1,hev⟩:=whole hfp rfl (.inl rfl) hbg
   rw[<- hev]at hhd
   refine Zik hE hcall (ZmD hr1) hhd λv h' n' hQ m' F' w' x h1 h2 h3=>?_
   subst hQ
   have h1':Ext base m F s.n w m' F' n' w':=by rw[hnn];exact h1
   have hinv:=hv.nextBig hp he hi ho hn' hready' hlate hfp (by rw[hnn];exact h1.le) hS
   refine glue (s2:={ s with h:=s.h.over h',n:=n' }) rfl hinv h1' ?_
   have h2':HR base m' F' (look Bs.h (s.h.over h')) n' w':=by
    have e:look Bs.h (s.h.over h')=look (S i).blk h':=funext λb=>by
     rw[ZgC]
     show look s.blk h' b=_
     rw[funext hblk]
    rw[e];exact h2
   have hr':Rel lo base m' F' (({ s with h:=s.h.over h',n:=n' }:St Bs).YX ts) a w':=hr.move (h':=s.h.over h') (n':=n') h1' h2'
   exact hr'.put (dst:=ops[i].dst) (v:=v) (x:=x) h3 (by show ∀d,ops[i].dst=zi d->d<s.N;rw[hN];exact Gc hd)
  ·rw[<- Zg6 hrt]at hw
   rw[if_neg (by rw[UE hr hw];simp)]
   refine⟨λ_ _=>trivial,?_⟩
   have hr'':=hr.put (dst:=ops[i].dst) (v:=.undef) (x:=Go.undef) (by simp only[R]) (by show ∀d,ops[i].dst=zi d->d<s.N;rw[hN];exact Gc hd)
   have hinv:=hv.next hp he hi ho hn' hready' hlate (v:=.undef) (x:=zm) (λb blk e=>by cases e) (λh=>by rw[Ji,hfp]at h;cases h) (λb hb=>by rw[WrB,hfp]at hb;rcases hb with h|⟨h,_⟩|h<;>cases h) hS
   exact glue (s2:=s) rfl hinv (Ext.refl _ _ _ _ _) hr''
theorem any_start(hE:E.Ok)(hcall:UF E call)(hp:Path E call ops bf nb S fp)(he:VX ops bf)(hres:ops.toList.any lays=ze->nb+ops.size<=(S 0).n)
(hr:Rel lo base m F (S 0) a w)(hK:∀m' F' a' w',Ext base m F (S 0).n w m' F' (S ops.size).n w'->Rel lo base m' F' (S ops.size) a' w'->Qx .normal a' w') :
  wpAnyIn (fen ro) 0 E.P .any ops Qx ops.size (Array.replicate ops.size za) a w:=by
 refine any_wp hE hcall hp he hK ops.size _ _ [] (S 0) a w m F ⟨Inv.start hres,hr,Ext.refl _ _ _ _ _,by simp,λd=>by simp,List.Pairwise.nil,λe he=>by cases he⟩ (λe he=>by cases he) ?_<;>grind
theorem Zi2(g:Nat->Blk)(h:PT Blk)(n k j:Nat):look g (Zi1 h n k) j=if n<=j/\j<n+k then .none else look g h j:=by
 induction k with
 |zero=>
  rw[if_neg (by omega)]
  rfl
 |succ k ih=>grind[look,Zi1,Yg]
theorem keep_rel(hr:Rel lo base m F s a w):Rel lo base m F (s.VD ops) a w/\s.n<=(s.VD ops).n:=by
 unfold St.VD
 cases ops.toList.any lays
 ·grind
 ·simp only[cond_true]
  have hext:Ext base m F s.n w m F (s.n+ops.size) w:=⟨λ_ h=>h,λ_ h=>.inl h,λ_ _=>rfl,zI _,Yk.refl w,Own.refl m w,by omega,λ_ _ _ h=>h,Calm.refl w⟩
  refine⟨⟨⟨hr.hr.low,hr.hr.fdom,λb hb=>?_,hr.hr.dom,λb hb=>hr.hr.new b (Nat.le_trans (Nat.le_add_right _ _) hb),hr.hr.gl,hr.hr.own,λb b' C h1 h2 hne=>?_⟩,hr.defers,hr.size,λi=>hext.val (hr.tmp i)⟩,by omega⟩
  ·simp only[St.blk]
   rw[Zi2]
   by_cases e:s.n<=b/\b<s.n+ops.size
   ·rw[if_pos e]
    exact hr.hr.new b e.1
   rw[if_neg e]
   have hbn:b<s.n:=by
    grind
   exact Ka hext (λ_ _=>rfl) (hr.hr.blk b hbn)
  ·simp only[St.blk]
   have hb1:=hr.hr.lt (b:=b) (by rw[h1];simp)
   have hb2:=hr.hr.lt (b:=b') (by rw[h2];simp)
   rw[Zi2,Zi2,if_neg (by omega),if_neg (by omega)]
   exact hr.hr.inj b b' C h1 h2 hne
theorem evOpsD_wp(hE:E.Ok)(hcall:UF E call)(hr:Rel lo base m F s a w)(hok:Gb ops (bfs ops.toList [])=ze)
{id:Nat}{Q:St Bs->Prop}(hq:(XZ E call ops (bfs ops.toList []) s.n ops.toList 0 [] [] (s.VD ops)).holds E.P Q)
  (hK:∀s',Q s'->∀m' F' a' w',Ext base m F s.n w m' F' s'.n w'->Rel lo base m' F' s' a' w'->Qx .normal a' w'):(Code.region id ops ze).wpIn (fen ro) 0 E.P Qx a w:=by
 obtain⟨S,fp,h0,h1,h2,h3,h4⟩:=path_of _ _ _ _ _ _ (λp hp=>by cases hp) hq
 obtain⟨hkr,hkn⟩:=keep_rel (ops:=ops) hr
 have hlen:ops.toList.length=ops.size:=by simp
 simp only[zX,hlen]at h1 h2 h3 h4
 have hp:Path E call ops (bfs ops.toList []) s.n S fp:=⟨λi o ho=>h2 i o (by simpa using ho),λi j hij hj hc=>h4 i j hij hj hc⟩
 have hr':Rel lo base m F (S 0) a { w with drawn:=w.drawn+1 }:=by
  rw[h0]
  have hext:Ext base m F (s.VD ops).n w m F (s.VD ops).n { w with drawn:=w.drawn+1 }:=⟨λ_ h=>h,λ_ h=>.inl h,λ_ _=>rfl,zI _,Yk.Kt (λ_ _=>rfl),Own.Kt (λ_ _=>rfl),zI _,λ_ _ _ h=>h,⟨rfl,rfl,rfl⟩⟩
  refine⟨⟨hkr.hr.low,hkr.hr.fdom,λb hb=>Ka hext (λ_ _=>rfl) (hkr.hr.blk b hb),hkr.hr.dom,hkr.hr.new,hkr.hr.gl.mono hext.sz (λ_ h=>h) (λ_ _=>rfl),hkr.hr.own,hkr.hr.inj⟩,Marks.ext hkr.defers hext,hkr.size,λi=>hext.val (hkr.tmp i)⟩
 refine wpIn_region_any hE.mixed ?_
 refine any_start hE hcall hp (edges_of hok) (λh=>by rw[h0];unfold St.VD;rw[h];exact zI _) hr' λm' F' a' w' hx hrel=>?_
 ·refine hK (S ops.size) h1 m' F' a' w' ?_ hrel
  rw[h0]at hx
  exact⟨hx.f,hx.back,hx.keep,hx.size,Yk.trans (Yk.Kt (λ_ _=>rfl)) hx.sz,Own.trans (w1:={ w with drawn:=w.drawn+1 }) (Own.Kt (λ_ _=>rfl)) hx.ow (zI _),Nat.le_trans hkn hx.le,λb hb=>hx.map b (Nat.lt_of_lt_of_le hb hkn),⟨hx.calm.os,hx.calm.tape,hx.calm.output⟩⟩
end
end Go.Fw
namespace Go.Fw
theorem ZlP{F:Nat->Prop}{w:World}{b:Bool}{x y:Blk}{n:Nat}{m:Nat->Option Nat}{z:Option Nat}(h:RB F w n m (bif b then x else y) z):RB F w n m (Zbq b x y) z:=by
 unfold Zbq
 split
 ·rename_i cs cs'
  cases hs:Qr cs cs'
  ·trivial
  ·have e:(bif b then(Blk.var cs)else .var cs')=.var (bif b then cs else cs'):=by cases b<;>rfl
   rw[e]at h
   obtain⟨B,xs,el,ys,zs,h1,h2,hsp,h3⟩:=h
   exact⟨B,xs,el,ys,zs,h1,h2,hsp,(ZiY b cs cs' n m).2 hs _ h3⟩
 ·grind
 ·rename_i kd st f ks kd' st' f' ks'
  cases hs:Kq kd kd'
  ·trivial
  ·obtain rfl:=Zgr hs
   cases b with
   |true=>
    obtain⟨B,es,clock,e,hc,hE,hf⟩:=h
    exact⟨B,es,clock,e,hc,KG.unk hE.ent,λk hk=>⟨(hf k hk).1,λv hv=>VF (b:=ze) ((hf k hk).2 v hv)⟩⟩
   |false=>
    obtain⟨B,es,clock,e,hc,hE,hf⟩:=h
    exact⟨B,es,clock,e,hc,KG.unk hE.ent,λk hk=>⟨(hf k hk).1,λv hv=>VF (b:=za) ((hf k hk).2 v hv)⟩⟩
 ·trivial
theorem Zer(g:Nat->Blk)(h:PT Blk)(n k j:Nat):look g (V4 h n k) j=if n<=j/\j<n+k then .any else look g h j:=by
 induction k with
 |zero=>
  rw[if_neg (by omega)]
  rfl
 |succ k ih=>grind[V4,Yg]
section
variable{B:Base}
def Weak(s s':St B):Prop:=s.n<=s'.n/\∀(lo base:Nat)(m:Nat->Option Nat)(F:Nat->Prop)(a:Act)(w:World),Rel lo base m F s a w->Rel lo base m F s' a w
theorem Weak.refl(s:St B):Weak s s:=⟨zI _,λ_ _ _ _ _ _ h=>h⟩
variable{s s1 s2:St B}
theorem Weak.trans(h:Weak s s1)(h':Weak s1 s2):Weak s s2:=⟨Nat.le_trans h.1 h'.1,λ_ _ _ _ _ _ hr=>h'.2 _ _ _ _ _ _ (h.2 _ _ _ _ _ _ hr)⟩
def WX(x y:Ex×St B):Prop:=x.1=y.1/\Weak x.2 y.2
theorem Zau{β:Type}(d:Nat->β)(f:Nat->β)(t u:PT β)(ht:t.fin=ze)(hu:u.fin=ze)(k:Nat):look d (t.both f u 1 0) k=match t.get k,u.get k with|none,zm=>d k|_,_=>f k:=by
 grind[look,PT.get_both]
theorem ZjS{α:Type}{p:Bool}{a b:α}(h:(bif p then zi a else zm)=zi b):p=ze/\a=b:=by
 grind
theorem ZqI{c:Bool}(h:Zgp c s1 s2=zi s):Weak (bif c then s1 else s2) s:=by
 unfold Zgp at h
 dsimp only at h
 generalize hlo:(bif zK s1.n s2.n then s1.n else s2.n)=lo at h
 generalize hhi:(bif zK s1.n s2.n then s2.n else s1.n)=hi at h
 have hle:lo<=hi/\lo<=s1.n/\lo<=s2.n/\s1.n<=hi/\s2.n<=hi:=by
  grind[zK,Nat.ble_eq_true_of_le,yA]
 clear hlo hhi
 obtain⟨hc,h⟩:=ZjS h
 simp only[zL]at hc
 have hN:=zO hc.2.2
 subst h
 generalize hx:(bif c then s1 else s2)=x
 have hxN:x.N=s1.N:=by
  grind
 have hxn:lo<=x.n/\x.n<=hi:=by
  grind
 have htmp:∀k,x.tmp k=bif c then s1.tmp k else s2.tmp k:=by
  grind
 have hblk:∀k,x.blk k=bif c then s1.blk k else s2.blk k:=by
  grind
 have hany:∀b,x.blk b=.any->look B.h (V4 (s1.h.both (λk=>Zbq c (s1.blk k) (s2.blk k)) s2.h 1 0) lo (hi-lo)) b=.any:=by
  intro b hb
  rw[Zer]
  by_cases e:lo<=b/\b<lo+(hi-lo)
  ·grind
  ·rw[if_neg e,Zau _ _ _ _ (PT.JQ _ _ _ _ hc.2.1.1) (PT.JQ _ _ _ _ hc.2.1.2)]
   rw[hblk]at hb
   have hm:Zbq c (s1.blk b) (s2.blk b)=.any:=by
    grind[Zbq]
   cases e1:s1.h.get b with
   |some _=>exact hm
   |none=>cases e2:s2.h.get b<;>simp_all[St.blk,look]
 refine⟨hxn.2,λlo' base m F a w hr=>?_⟩
 have hext:Ext base m F x.n w m F hi w:=⟨λ_ h=>h,λ_ h=>.inl h,λ_ _=>rfl,zI _,Yk.refl w,Own.refl m w,hxn.2,λ_ _ _ h=>h,Calm.refl w⟩
 refine⟨⟨hr.hr.low,hr.hr.fdom,λb hb=>?_,hr.hr.dom,λb hb=>hr.hr.new b (Nat.le_trans hxn.2 hb),hr.hr.gl,hr.hr.own,λb b' C h1 h2 hne=>(hr.hr.inj b b' C h1 h2 hne).imp (hany b) (hany b')⟩,hr.defers,hr.size.trans hxN,λk=>?_⟩
 ·have hb':b<hi:=hb
  show RB F w hi m (look B.h (V4 _ _ _) b) (m b)
  rw[Zer]
  by_cases e:lo<=b/\b<lo+(hi-lo)
  ·rw[if_pos e]
   trivial
  ·rw[if_neg e,Zau _ _ _ _ (PT.JQ _ _ _ _ hc.2.1.1) (PT.JQ _ _ _ _ hc.2.1.2)]
   have h1:=Ka hext (λ_ _=>rfl) (hr.hr.blk b (by omega))
   rw[hblk]at h1
   cases e1:s1.h.get b with
   |some _=>exact ZlP h1
   |none=>cases e2:s2.h.get b<;>simp_all[ZlP,St.blk,look]
 ·show R F w (look B.t (PT.both _ _ _ 1 0) k) hi m _
  rw[Zau _ _ _ _ (PT.JQ _ _ _ _ hc.1.1) (PT.JQ _ _ _ _ hc.1.2)]
  have h1:=hext.val (hr.tmp k)
  rw[htmp]at h1
  cases e1:s1.t.get k with
  |some _=>exact VF h1
  |none=>cases e2:s2.t.get k<;>simp_all[VF,St.tmp,look]
variable{F:Nat->Prop}{w:World}
theorem eqV_R:∀(v v':V),eqV v v'=ze->∀(n:Nat)(m:Nat->Option Nat),(∀x,R F w v' n m x->R F w v n m x)/\(∀xs,RL F w v' n m xs->RL F w v n m xs):=by
 intro v
 induction v with
 |cons h t ih1 ih2=>
  intro v' hs n m
  cases v'<;>simp only[eqV]at hs<;>try(cases hs;done)
  grind[R,RL]
 |int st k q=>
  intro v' hs n m
  cases v'<;>simp only[eqV]at hs<;>try(cases hs;done)
  grind
 |bool st b=>
  intro v' hs n m
  cases v'<;>simp only[eqV]at hs<;>try(cases hs;done)
  grind
 |agg cs ih=>
  intro v' hs n m
  cases v'<;>simp only[eqV]at hs<;>try(cases hs;done)
  grind[RL,R]
 |tup cs ih=>
  intro v' hs n m
  cases v'<;>simp only[eqV]at hs<;>try(cases hs;done)
  grind[RL,R]
 |ptr st b es i o=>
  intro v' hs n m
  cases v'<;>simp only[eqV]at hs<;>try(cases hs;done)
  simp_all
 |osl st b es i k=>
  intro v' hs n m
  cases v'<;>simp only[eqV]at hs<;>try(cases hs;done)
  simp_all
 |osp st b es i k c=>
  intro v' hs n m
  cases v'<;>simp only[eqV]at hs<;>try(cases hs;done)
  simp_all
 |mp b=>
  intro v' hs n m
  cases v'<;>simp only[eqV]at hs<;>try(cases hs;done)
  simp_all
 |esl nn es=>
  intro v' hs n m
  cases v'<;>simp only[eqV]at hs<;>try(cases hs;done)
  simp_all
 |nil=>grind[eqV]
 |Zo=>grind[eqV]
 |nilptr=>grind[eqV]
 |nilmap=>grind[eqV]
 |nilfn=>grind[eqV]
 |nilif=>grind[eqV]
 |_=>grind[eqV]
variable{m:Nat->Option Nat}
theorem meetV_R{b:Bool}{x y:V}{n:Nat}{z:Value}(h:R F w (bif b then x else y) n m z):R F w (meetV x y) n m z:=by
 unfold meetV
 cases hs:eqV x y
 ·grind[R]
 ·cases b
  ·exact(eqV_R x y hs n m).1 z h
  ·exact h
theorem meetB_R{b:Bool}{x y:Blk}{n:Nat}{z:Option Nat}(h:RB F w n m (bif b then x else y) z):RB F w n m (Zbo x y) z:=by
 unfold Zbo
 split
 ·rename_i cs cs'
  cases hs:eqV cs cs'
  ·trivial
  ·cases b
   ·obtain⟨B,xs,el,ys,zs,h1,h2,hsp,h3⟩:=h
    exact⟨B,xs,el,ys,zs,h1,h2,hsp,(eqV_R cs cs' hs n m).2 _ h3⟩
   ·exact h
 ·grind
 ·trivial
theorem ZlM{c:Bool}(h:meetSt s1 s2=zi s):Weak (bif c then s1 else s2) s:=by
 unfold meetSt at h
 dsimp only at h
 generalize hlo:(bif zK s1.n s2.n then s1.n else s2.n)=lo at h
 generalize hhi:(bif zK s1.n s2.n then s2.n else s1.n)=hi at h
 have hle:lo<=hi/\lo<=s1.n/\lo<=s2.n/\s1.n<=hi/\s2.n<=hi:=by
  grind[zK,Nat.ble_eq_true_of_le,yA]
 clear hlo hhi
 obtain⟨hc,h⟩:=ZjS h
 simp only[zL]at hc
 have hN:=zO hc.2.2
 subst h
 generalize hx:(bif c then s1 else s2)=x
 have hxN:x.N=s1.N:=by
  grind
 have hxn:lo<=x.n/\x.n<=hi:=by
  grind
 have htmp:∀k,x.tmp k=bif c then s1.tmp k else s2.tmp k:=by
  grind
 have hblk:∀k,x.blk k=bif c then s1.blk k else s2.blk k:=by
  grind
 have hany:∀b,x.blk b=.any->look B.h (V4 (s1.h.both (λk=>Zbo (s1.blk k) (s2.blk k)) s2.h 1 0) lo (hi-lo)) b=.any:=by
  intro b hb
  rw[Zer]
  by_cases e:lo<=b/\b<lo+(hi-lo)
  ·grind
  ·rw[if_neg e,Zau _ _ _ _ (PT.JQ _ _ _ _ hc.2.1.1) (PT.JQ _ _ _ _ hc.2.1.2)]
   rw[hblk]at hb
   have hm:Zbo (s1.blk b) (s2.blk b)=.any:=by
    grind[Zbo]
   cases e1:s1.h.get b with
   |some _=>exact hm
   |none=>cases e2:s2.h.get b<;>simp_all[St.blk,look]
 refine⟨hxn.2,λlo' base m F a w hr=>?_⟩
 have hext:Ext base m F x.n w m F hi w:=⟨λ_ h=>h,λ_ h=>.inl h,λ_ _=>rfl,zI _,Yk.refl w,Own.refl m w,hxn.2,λ_ _ _ h=>h,Calm.refl w⟩
 refine⟨⟨hr.hr.low,hr.hr.fdom,λb hb=>?_,hr.hr.dom,λb hb=>hr.hr.new b (Nat.le_trans hxn.2 hb),hr.hr.gl,hr.hr.own,λb b' C h1 h2 hne=>(hr.hr.inj b b' C h1 h2 hne).imp (hany b) (hany b')⟩,hr.defers,hr.size.trans hxN,λk=>?_⟩
 ·have hb':b<hi:=hb
  show RB F w hi m (look B.h (V4 _ _ _) b) (m b)
  rw[Zer]
  by_cases e:lo<=b/\b<lo+(hi-lo)
  ·rw[if_pos e]
   trivial
  ·rw[if_neg e,Zau _ _ _ _ (PT.JQ _ _ _ _ hc.2.1.1) (PT.JQ _ _ _ _ hc.2.1.2)]
   have h1:=Ka hext (λ_ _=>rfl) (hr.hr.blk b (by omega))
   rw[hblk]at h1
   cases e1:s1.h.get b with
   |some _=>exact meetB_R h1
   |none=>
    cases e2:s2.h.get b with
    |some _=>exact meetB_R h1
    |none=>simp_all[St.blk,look]
 ·show R F w (look B.t (PT.both _ _ _ 1 0) k) hi m _
  rw[Zau _ _ _ _ (PT.JQ _ _ _ _ hc.1.1) (PT.JQ _ _ _ _ hc.1.2)]
  have h1:=hext.val (hr.tmp k)
  rw[htmp]at h1
  cases e1:s1.t.get k with
  |some _=>exact meetV_R h1
  |none=>
   cases e2:s2.t.get k with
   |some _=>exact meetV_R h1
   |none=>simp_all[St.tmp,look]
def sel:JF B->Option (Ex×St B)
 |[]=>zm
 |x::r=>bif x.1 then zi x.2 else sel r
theorem Zms:∀(e e':Ex),ZbF e e'=ze->e=e'
 | .normal,.normal,_=>rfl
 | .ret,.ret,_=>rfl
 | .exit i,.exit j,h=>by rw[zO h]
theorem sel_map(l:JF B)(f:Bool->Bool)(hf:∀b,f b=b):sel (l.map λ|(p,x)=>(f p,x))=sel l:=by
 induction l<;>grind[sel]
theorem comb_weak:∀(k:Nat)(c:Bool)(l1 l2 l:JF B),comb k c l1 l2=zi l->∀x,sel (bif c then l1 else l2)=zi x->∃y,sel l=zi y/\WX x y:=by
 intro k
 induction k with
 |zero=>
  intro c l1 l2 l h
  cases h
 |succ k ih=>
  intro c l1 l2 l h x hx
  cases l1 with
  |nil=>
   injection h with h
   subst h
   cases c with
   |true=>cases hx
   |false=>exact⟨x,by rw[sel_map l2 (λb=>bif za then za else b) (λb=>rfl)];exact hx,rfl,Weak.refl _⟩
  |cons x1 r1=>
   obtain⟨p1,e1,s1⟩:=x1
   cases l2 with
   |nil=>
    injection h with h
    subst h
    cases c with
    |false=>cases hx
    |true=>exact⟨x,by rw[sel_map ((p1,e1,s1)::r1) (λb=>bif ze then b else za) (λb=>rfl)];exact hx,rfl,Weak.refl _⟩
   |cons x2 r2=>
    obtain⟨p2,e2,s2⟩:=x2
    have h:(bif ZbF e1 e2 then match Zgp c s1 s2 with
     |some s=>match comb k c r1 r2 with
      |some r=>zi ((bif c then p1 else p2,e1,s)::r)
      |none=>zm
     |none=>zm
    else bif zG e1.key e2.key then match comb k c r1 ((p2,e2,s2)::r2)with
     |some r=>zi ((bif c then p1 else za,e1,s1)::r)
     |none=>zm
    else match comb k c ((p1,e1,s1)::r1) r2 with
     |some r=>zi ((bif c then za else p2,e2,s2)::r)
     |none=>zm)=zi l:=h
    cases he:ZbF e1 e2
    ·rw[he]at h
     simp only[cond_false]at h
     cases hk:zG e1.key e2.key
     ·rw[hk]at h
      simp only[cond_false]at h
      split at h
      ·rename_i r hr
       injection h with h
       subst h
       have:=ih c ((p1,e1,s1)::r1) r2 r hr
       cases c with
       |true=>
        simp only[cond_true,sel,cond_false]at hx this⊢
        exact this x hx
       |false=>
        simp only[cond_false,sel]at hx this⊢
        cases p2
        ·exact this x hx
        ·exact⟨x,hx,rfl,Weak.refl _⟩
      ·cases h
     ·rw[hk]at h
      simp only[cond_true]at h
      split at h
      ·rename_i r hr
       injection h with h
       subst h
       have:=ih c r1 ((p2,e2,s2)::r2) r hr
       cases c with
       |false=>
        simp only[sel,cond_false]at hx this⊢
        exact this x hx
       |true=>
        simp only[cond_true,sel]at hx this⊢
        cases p1
        ·exact this x hx
        ·exact⟨x,hx,rfl,Weak.refl _⟩
      ·cases h
    ·rw[he]at h
     simp only[cond_true]at h
     split at h
     ·rename_i s hs
      split at h
      ·rename_i r hr
       injection h with h
       subst h
       have:=ih c r1 r2 r hr
       have hw:=ZqI hs
       have hee:=Zms _ _ he
       cases c with
       |true=>
        simp only[cond_true,sel]at hx this hw⊢
        cases p1
        ·exact this x hx
        ·injection hx with hx
         subst hx
         exact⟨_,rfl,rfl,hw⟩
       |false=>
        simp only[cond_false,sel]at hx this hw⊢
        cases p2
        ·exact this x hx
        ·injection hx with hx
         subst hx
         exact⟨_,rfl,hee.symm,hw⟩
      ·cases h
     ·cases h
def Needs{α:Type}(T:Tree α):Prop:=match needs T with|none=>True|some p=>p
theorem ZmK{P:Program}:∀(T:Tree (Ex×St B))(l:JF B)(Q:Ex×St B->Prop),ways T=zi l->Needs T->(∀y,sel l=zi y->Q y)->T.holds P λx=>∃y,Q y/\WX x y:=by
 intro T
 induction T with
 |leaf x=>
  intro l Q h _ hq
  injection h with h
  subst h
  exact⟨x,hq x rfl,rfl,Weak.refl _⟩
 |stuck=>
  intro l Q h
  cases h
 |all σ t _=>
  intro l Q h
  cases h
 |given p t _=>
  intro l Q h
  cases h
 |both t f _ _=>
  intro l Q h
  cases h
 |need p t ih=>
  intro l Q h hn hq
  have hn':p/\Needs t:=by
   grind[Needs,needs]
  exact⟨hn'.1,ih l Q h hn'.2 hq⟩
 |node c t f iht ihf=>
  intro l Q h hn hq
  simp only[ways]at h
  split at h
  ·rename_i l1 h1
   split at h
   ·rename_i l2 h2
    have hw:=comb_weak _ _ _ _ _ h
    have hn':(c=ze->Needs t)/\(c=za->Needs f):=by
     grind[Needs,needs]
    have step:∀(l':JF B)(T':Tree (Ex×St B)),(bif c then l1 else l2)=l'->(∀Q':Ex×St B->Prop,(∀y,sel l'=zi y->Q' y)->T'.holds P λx=>∃y,Q' y/\WX x y)->T'.holds P λx=>∃y,Q y/\WX x y:=by
     intro l' T' hl hT
     refine Tree.XI T' (λx ⟨y,⟨z,hz1,hz2⟩,hy⟩=>⟨z,hz1,hy.1.trans hz2.1,hy.2.trans hz2.2⟩) (hT (λy=>∃z,Q z/\WX y z) λy hy=>?_)<;>grind
    exact⟨λhc=>step l1 t (by rw[hc];rfl) λQ' hQ'=>iht l1 Q' h1 (hn'.1 hc) hQ',λhc=>step l2 f (by rw[hc];rfl) λQ' hQ'=>ihf l2 Q' h2 (hn'.2 hc) hQ'⟩
   ·cases h
  ·cases h
theorem Zi3{P:Program}:∀(l:JF B)(Q:Ex×St B->Prop),(GZ l).holds P Q->∀y,sel l=zi y->Q y
 |[],_,h,_,_=>h.elim
 |[x],Q,h,y,hy=>by
  simp only[sel]at hy
  cases hb:x.1
  ·rw[hb]at hy;cases hy
  ·rw[hb]at hy;injection hy with hy;subst hy;exact h
 |x::x'::r,Q,h,y,hy=>by
  have h':(x.1=ze->Q x.2)/\(x.1=za->(GZ (x'::r)).holds P Q):=h
  simp only[sel]at hy
  cases hb:x.1
  ·rw[hb]at hy
   exact Zi3 (x'::r) Q (h'.2 hb) y hy
  ·rw[hb]at hy
   injection hy with hy;subst hy;exact h'.1 hb
variable{T:Tree (Ex×St B)}{Q:Ex×St B->Prop}
theorem ZlQ{P:Program}(h:(Zgq T).holds P Q):T.holds P λx=>∃y,Q y/\WX x y:=by
 have refl:T.holds P Q->T.holds P λx=>∃y,Q y/\WX x y:=Tree.XI T λx hx=>⟨x,hx,rfl,Weak.refl _⟩
 have main:(match ways T with
  |some l=>match needs T with
   |none=>GZ l
   |some p=>.need p (GZ l)
  |none=>T).holds P Q->T.holds P λx=>∃y,Q y/\WX x y:=by
  intro h
  split at h
  ·rename_i l hl
   split at h
   ·rename_i hn
    exact ZmK T l Q hl (by unfold Needs;rw[hn];trivial) (Zi3 l Q h)
   ·rename_i p hn
    exact ZmK T l Q hl (by unfold Needs;rw[hn];exact h.1) (Zi3 l Q h.2)
  ·exact refl h
 unfold Zgq at h
 grind
theorem ZlO{x y:Option (Ex×St B)}{r:Ex×St B}(h:meetX x y=zi r):(∃a,x=zi a/\WX a r)/\∃a,y=zi a/\WX a r:=by
 unfold meetX at h
 split at h
 ·rename_i e s
  split at h
  ·rename_i e' s'
   cases he:ZbF e e'
   ·grind
   ·rw[he]at h
    split at h
    ·rename_i q hq
     injection h with h
     subst h
     obtain rfl:=Zms _ _ he
     exact⟨⟨_,rfl,rfl,ZlM (c:=ze) hq⟩,_,rfl,rfl,ZlM (c:=za) hq⟩
    ·cases h
  ·cases h
 ·cases h
theorem WX.trans{x y z:Ex×St B}(h:WX x y)(h':WX y z):WX x z:=⟨h.1.trans h'.1,h.2.trans h'.2⟩
theorem ZlN{P:Program}:∀(T:Tree (Ex×St B))(r:Ex×St B),GU T=zi r->Needs T->T.holds P λx=>WX x r:=by
 intro T
 induction T with
 |leaf x=>
  intro r h _
  injection h with h
  subst h
  exact⟨rfl,Weak.refl _⟩
 |stuck=>
  intro r h
  cases h
 |all σ t _=>
  intro r h
  cases h
 |given p t _=>
  intro r h
  cases h
 |need p t ih=>
  intro r h hn
  have hn':p/\Needs t:=by
   grind[Needs,needs]
  exact⟨hn'.1,ih r h hn'.2⟩
 |node c t f iht ihf=>
  intro r h hn
  obtain⟨⟨x,hx,h1⟩,y,hy,h2⟩:=ZlO h
  have hn':(c=ze->Needs t)/\(c=za->Needs f):=by
   grind[Needs,needs]
  exact⟨λhc=>Tree.XI t (λ_ h=>h.trans h1) (iht x hx (hn'.1 hc)),λhc=>Tree.XI f (λ_ h=>h.trans h2) (ihf y hy (hn'.2 hc))⟩
 |both t f iht ihf=>
  intro r h hn
  obtain⟨⟨x,hx,h1⟩,y,hy,h2⟩:=ZlO h
  have hn':Needs t/\Needs f:=by
   grind[Needs,needs]
  exact⟨Tree.XI t (λ_ h=>h.trans h1) (iht x hx hn'.1),Tree.XI f (λ_ h=>h.trans h2) (ihf y hy hn'.2)⟩
theorem Zow{P:Program}(h:(collapse T).holds P Q):T.holds P λx=>∃y,Q y/\WX x y:=by
 have refl:T.holds P Q->T.holds P λx=>∃y,Q y/\WX x y:=Tree.XI T λx hx=>⟨x,hx,rfl,Weak.refl _⟩
 unfold collapse at h
 split at h
 ·grind
 ·split at h
  ·rename_i r hr
   split at h
   ·rename_i hn
    exact Tree.XI T (λx hx=>⟨r,h,hx⟩) (ZlN T r hr (by unfold Needs;rw[hn];trivial))
   ·rename_i p hn
    exact Tree.XI T (λx hx=>⟨r,h.2,hx⟩) (ZlN T r hr (by unfold Needs;rw[hn];exact h.1))
  grind
variable{base:Nat}
theorem sub_rel{lo:Nat}{a:Act}(hr:Rel lo base m F s a w):Rel lo base m F s.sub a w:=
 ⟨hr.hr,hr.defers,hr.size,hr.tmp⟩
theorem Zmo{s1:St s.bs}{lo:Nat}{a:Act}(hr:Rel lo base m F s1 a w):Rel lo base m F (s.VL s1) a w:=by
 have ht:∀i,(s.VL s1).tmp i=s1.tmp i:=λi=>ZgC _ _ _ _
 have hb:(s.VL s1).blk=s1.blk:=funext λi=>ZgC _ _ _ _
 exact⟨by rw[hb];exact hr.hr,hr.defers,hr.size,λi=>by rw[ht];exact hr.tmp i⟩
theorem ZqL{P:Program}{f:St s.bs->Tree (Ex×St s.bs)}(h:(merged s f).holds P Q) :
  (f s.sub).holds P λx=>∃y,Q (y.1,s.VL y.2)/\WX x y:=by
 unfold merged at h
 rw[Tree.Yw]at h
 exact ZlQ h
theorem ZqJ{P:Program}{f:St s.bs->Tree (Ex×St s.bs)}(h:(Zdq s f).holds P Q) :
  (f s.sub).holds P λx=>∃y,Q (y.1,s.VL y.2)/\WX x y:=by
 unfold Zdq at h
 rw[Tree.Yw]at h
 exact Tree.XI _ (λx ⟨y,⟨z,hz,hyz⟩,hxy⟩=>⟨z,hz,hxy.trans hyz⟩) (ZlQ (Zow h))
end
end Go.Fw
namespace Go.Fw
section
variable{F:Nat->Prop}{w:World}{n n':Nat}{m m':Nat->Option Nat}{f:Nat->Option Nat}
theorem R_rnm(hf:∀b c,f b=zi c->b<n->c<n'/\m' c=m b):∀(v:V),
  (∀x,R F w v n m x->R F w (v.rnm f) n' m' x)/\(∀xs,RL F w v n m xs->RL F w (v.rnm f) n' m' xs):=by
 intro v
 induction v<;>grind[refine,R,V.rnm,RL]
theorem RB_rnm(hf:∀b c,f b=zi c->b<n->c<n'/\m' c=m b){blk:Blk}{B:Option Nat}(hb:RB F w n m blk B):RB F w n' m' (blk.rnm f) B:=by
 cases blk with
 |none=>exact hb
 |var cs=>
  obtain⟨b,xs,el,ys,zs,e,hc,hsp,hr⟩:=hb
  exact⟨b,xs,el,ys,zs,e,hc,hsp,(R_rnm hf cs).2 _ hr⟩
 |arr es k get=>exact hb
 |Zk kd st g ks=>
  obtain⟨b,es,clock,e,hc,hE,hg⟩:=hb
  exact⟨b,es,clock,e,hc,hE,λk hk=>⟨(hg k hk).1,λv hv=>(R_rnm hf (g k).2).1 _ ((hg k hk).2 v hv)⟩⟩
 |any=>exact trivial
 |iter mb since seen last=>exact trivial
 |rng f ps asg bd row N st pend=>exact trivial
end
variable{b:Nat}
theorem YS{a:Nat}:zG a b=ze↔a<b:=by rw[Nat.blt_eq]
theorem XV{a:Nat}:zq a b=ze↔a=b:=⟨zO,λh=>by subst h;exact Nat.beq_refl a⟩
theorem ZfZ:∀{l:List Nat}{i j:Nat},idxOf b l i=zi j->i<=j/\l[j-i]? =zi b:=by
 intro l
 induction l with
 |nil=>
  intro i j h
  cases h
 |cons c l ih=>
  intro i j h
  unfold idxOf at h
  cases hc:zq c b with
  |true=>simp_all
  |false=>grind
theorem Zp6:∀{l:List Nat}{i:Nat},idxOf b l i=zm->∀j:Nat,l[j]? ≠zi b:=by
 intro l
 induction l<;>grind[idxOf,zq,Nat.beq_refl,List.getElem?_cons_succ]
theorem hasN_mem:∀{l:List Nat},JW b l=za->∀j:Nat,l[j]? ≠zi b:=by
 intro l
 induction l<;>grind[JW,Bool.or_eq_false_iff,Nat.beq_refl,List.getElem?_cons_succ]
theorem Zgx:∀{l:List Nat},Uq l=ze->∀{i j b:Nat},l[i]? =zi b->l[j]? =zi b->i=j:=by
 intro l
 induction l<;>grind[Uq,hasN_mem]
variable{l:List Nat}
theorem idxOf_get(hn:Uq l=ze){i:Nat}(h:l[i]? =zi b):idxOf b l 0=zi i:=by
 cases hx:idxOf b l 0 with
 |none=>grind[Zp6]
 |some j=>
  have:=(ZfZ hx).2
  grind[Zgx]
variable{hb:Nat->Blk}
theorem Zq4{f:Nat->Option Nat}:∀(bl:List Blk)(i:Nat)(h:PT Blk),(∀j c,i<=j->f j=zi c->∀j',i<=j'->f j'=zi c->j'=j)->
  (∀j c,i<=j->j<i+bl.length->f j=zi c->look hb (Zby f bl i h) c=(bl.getD (j-i) .none).rnm f)/\
  (∀c,(∀j,i<=j->j<i+bl.length->f j≠zi c)->look hb (Zby f bl i h) c=look hb h c):=by
 intro bl
 induction bl with
 |nil=>
  intro i h _
  exact⟨λj c h1 h2=>by simp at h2;omega,λc _=>rfl⟩
 |cons b bl ih=>
  intro i h hinj
  obtain⟨k1,k2⟩:=ih (i+1) (setAt f i b h) (λj c h1 h2 j' h3 h4=>hinj j c (by omega) h2 j' (by omega) h4)
  refine⟨λj c h1 h2 h3=>?_,λc hc=>?_⟩
  ·show look hb (Zby f bl (i+1) (setAt f i b h)) c=_
   rw[List.length_cons]at h2
   rcases Nat.eq_or_lt_of_le h1 with e|e<;>grind[setAt,look,Un]
  grind[look,Zby,setAt,GR]
theorem evHeap_ok{P:Program}{g:FuncId}{K:HK}(hK:Xo P g K){args:V}{h:PT Blk}{n:Nat}{T:Tree (V×PT Blk×Nat)}(ht:Zfx K hb args h n l=zi T)
{base:Nat}{m:Nat->Option Nat}{F:Nat->Prop}{w:World}{xs:Array Value}{Q:V×PT Blk×Nat->Prop}{KK:Ending->World->Prop}
  (hr:HR base m F (look hb h) n w)(ha:RL F w args n m xs.toList)(hq:T.holds P Q)
  (hk:∀v h' n',Q (v,h',n')->∀m' F' w' x,Ext base m F n w m' F' n' w'->HR base m' F' (look hb h') n' w'->R F' w' v n' m' x->KK (.returned x) w'):Has P g/\Calls P g xs w KK:=by
 unfold Zfx at ht
 cases hc:(l.all (λb=>zG b n&&!(look hb h b).isAny)&&Uq l)with
 |false=>rw[hc]at ht;cases ht
 |true=>
 rw[hc]at ht
 rw[zL,List.all_eq_true]at hc
 obtain⟨hall,hnd⟩:=hc
 have hl:∀i b,l[i]? =zi b->b<n/\look hb h b≠.any:=λi b hi=>by
  have hmem:b∈l:=List.mem_of_getElem? hi
  have:=hall b hmem
  rw[zL,yg]at this
  refine⟨YS.1 this.1,λe=>?_⟩
  rw[e]at this;cases this.2
 dsimp only[cond_true]at ht
 split at ht
 ·rename_i T0 hK0
  injection ht with ht
  subst ht
  rw[Tree.Yw]at hq
  let idx:Nat->Option Nat:=λb=>idxOf b l 0
  have hidx:∀b i,idx b=zi i->l[i]? =zi b:=λb i e=>by have:=(ZfZ e).2;rw[Nat.sub_zero]at this;exact this
  have hidx':∀i b,l[i]? =zi b->idx b=zi i:=λi b e=>idxOf_get hnd e
  have hlt:∀i b,l[i]? =zi b->i<l.length:=λi b e=>(List.getElem?_eq_some_iff.1 e).1
  let m0:Nat->Option Nat:=λi=>match l[i]? with|some b=>m b|none=>zm
  have hm0:∀i b,l[i]? =zi b->m0 i=m b:=λi b e=>by simp only[m0,e]
  have hm0s:∀i B,m0 i=zi B->∃b,l[i]? =zi b/\m b=zi B:=λi B e=>by
   cases hx:l[i]? with
   |none=>simp only[m0,hx]at e;cases e
   |some b=>exact⟨b,rfl,by rw[<- hm0 i b hx];exact e⟩
  have hfren:∀b c,idx b=zi c->b<n->c<(l.map λb=>(look hb h b).rnm idx).length/\m0 c=m b:=λb c e _=>⟨by rw[List.length_map];exact hlt _ _ (hidx b c e),hm0 c b (hidx b c e)⟩
  have hbl:∀i b,l[i]? =zi b->(l.map λb=>(look hb h b).rnm idx).getD i .none=(look hb h b).rnm idx:=λi b e=>by
   rw[List.getD_eq_getElem?_getD,List.getElem?_map,e];rfl
  have hr0:HR base m0 F (λb=>(l.map λb=>(look hb h b).rnm idx).getD b .none) (l.map λb=>(look hb h b).rnm idx).length w:=by
   refine⟨hr.low,hr.fdom,λi hi=>?_,λi B e=>?_,λi hi=>?_,hr.gl,λi B e=>?_,λi j B e1 e2 hne=>?_⟩
   ·rw[List.length_map]at hi
    obtain⟨b,hb'⟩:∃b,l[i]? =zi b:=⟨l[i],List.getElem?_eq_getElem hi⟩
    rw[hbl i b hb',hm0 i b hb']
    exact RB_rnm hfren (hr.blk b (hl i b hb').1)
   ·obtain⟨b,_,e'⟩:=hm0s i B e;exact hr.dom b B e'
   ·rw[List.length_map]at hi
    simp only[m0,List.getElem?_eq_none hi]
   ·obtain⟨b,_,e'⟩:=hm0s i B e;exact hr.own b B e'
   ·obtain⟨b,h1,e1'⟩:=hm0s i B e1
    obtain⟨c,h2,e2'⟩:=hm0s j B e2
    have hbc:b≠c:=λe=>hne (Zgx hnd h1 (by rw[e];exact h2))
    exact absurd (hr.inj b c B e1' e2' hbc) (λh=>h.elim (hl i b h1).2 (hl j c h2).2)
  have ha0:RL F w (args.rnm idx) (l.map λb=>(look hb h b).rnm idx).length m0 xs.toList:=(R_rnm hfren args).2 _ ha
  refine hK _ _ _ hK0 base m0 F w xs _ KK hr0 ha0 hq λv bl' hQ m0' F' w' x he hr' hx=>?_
  have hk0:l.length<=bl'.length:=by have:=he.le;rwa[List.length_map]at this
  let back:Nat->Option Nat:=backOf l n
  have hback1:∀j b,l[j]? =zi b->back j=zi b:=λj b e=>by
   show(bif zG j l.length then l[j]? else _)=_
   rw[YS.2 (hlt _ _ e)];exact e
  have hback2:∀j,l.length<=j->back j=zi (n+(j-l.length)):=λj e=>by
   show(bif zG j l.length then l[j]? else _)=_
   have:zG j l.length=za:=by
    cases hx:zG j l.length
    ·rfl
    ·have:=YS.1 hx;omega
   rw[this];rfl
  have hbackc:∀j c,back j=zi c->(l[j]? =zi c/\c<n)\/(l.length<=j/\c=n+(j-l.length)):=λj c e=>by
   rcases Nat.lt_or_ge j l.length with h'|h'
   ·obtain⟨b,hb'⟩:∃b,l[j]? =zi b:=⟨l[j],List.getElem?_eq_getElem h'⟩
    rw[hback1 j b hb']at e
    injection e with e
    subst e
    exact .inl ⟨hb',(hl j b hb').1⟩
   ·rw[hback2 j h']at e
    injection e with e
    exact .inr ⟨h',e.symm⟩
  have hbinj:∀j c,back j=zi c->∀j',back j'=zi c->j'=j:=λj c e j' e'=>by
   rcases hbackc j c e with⟨h1,h2⟩|⟨h1,h2⟩
   ·rcases hbackc j' c e' with⟨h3,h4⟩|⟨h3,h4⟩
    ·exact Zgx hnd h3 h1
    ·omega
   ·rcases hbackc j' c e' with⟨h3,h4⟩|⟨h3,h4⟩<;>omega
  obtain⟨hput1,hput2⟩:=Zq4 (hb:=hb) (f:=back) bl' 0 h (λj c _ e j' _ e'=>hbinj j c e j' e')
  let m':Nat->Option Nat:=λb=>match idx b with
   |some i=>m0' i
   |none=>if b<n then m b else m0' (l.length+(b-n))
  have hm1:∀i b,l[i]? =zi b->m' b=m0' i:=λi b e=>by simp only[m',hidx' i b e]
  have hidxn:∀b,n<=b->idx b=zm:=λb hb'=>by
   cases hx:idx b with
   |none=>rfl
   |some i=>have:=(hl i b (hidx b i hx)).1;omega
  have hm2:∀j,l.length<=j->m' (n+(j-l.length))=m0' j:=λj hj=>by
   have e:l.length+(n+(j-l.length)-n)=j:=by omega
   simp only[m',hidxn (n+(j-l.length)) (by omega)]
   rw[if_neg (by omega),e]
  have hm3:∀b,idx b=zm->b<n->m' b=m b:=λb e hb'=>by simp only[m',e,if_pos hb']
  have hmb:∀j c,back j=zi c->m' c=m0' j:=λj c e=>by
   rcases hbackc j c e with⟨h1,_⟩|⟨h1,rfl⟩
   ·exact hm1 j c h1
   ·exact hm2 j h1
  have hcase:∀b,(∃j,back j=zi b/\m' b=m0' j)\/(idx b=zm/\b<n/\m' b=m b/\∀j,back j≠zi b):=λb=>by
   cases hx:idx b with
   |some i=>exact .inl ⟨i,hback1 i b (hidx b i hx),hm1 i b (hidx b i hx)⟩
   |none=>
    rcases Nat.lt_or_ge b n with h'|h'
    ·refine .inr ⟨rfl,h',hm3 b hx h',λj e=>?_⟩
     rcases hbackc j b e with⟨h1,_⟩|⟨h1,h2⟩
     ·rw[hidx' j b h1]at hx;cases hx
     ·omega
    ·refine .inl ⟨l.length+(b-n),?_,?_⟩
     ·rw[hback2 _ (by omega)];congr 1;omega
     ·have:=hm2 (l.length+(b-n)) (by omega)
      have e:n+(l.length+(b-n)-l.length)=b:=by omega
      rw[e]at this;exact this
  have hn':∀j c,back j=zi c->(j<bl'.length↔c<n+(bl'.length-l.length)):=λj c e=>by
   rcases hbackc j c e with⟨h1,h2⟩|⟨h1,rfl⟩
   ·have:=hlt _ _ h1;constructor<;>intro _<;>omega
   ·constructor<;>intro _<;>omega
  have hren:∀j c,back j=zi c->j<bl'.length->c<n+(bl'.length-l.length)/\m' c=m0' j:=λj c e hj=>⟨(hn' j c e).1 hj,hmb j c e⟩
  have hold:∀b B,m b=zi B->look hb h b≠.any->idx b=zm->∀i,m0 i≠zi B:=λb B e hna hx i e'=>by
   obtain⟨c,h1,e2⟩:=hm0s i B e'
   have hne:b≠c:=λe3=>by subst e3;rw[hidx' i b h1]at hx;cases hx
   exact(hr.inj b c B e e2 hne).elim hna (hl i c h1).2
  have hext:Ext base m F n w m' F' (n+(bl'.length-l.length)) w':=by
   refine⟨he.f,he.back,he.keep,he.size,he.sz,⟨λB hB hu=>?_,λb B e hB=>?_⟩,by omega,λb hbn B e=>?_,he.calm⟩
   ·refine he.ow.un B hB λi e=>?_
    obtain⟨b,_,e'⟩:=hm0s i B e
    exact hu b e'
   ·rcases hcase b with⟨j,_,e1⟩|⟨_,_,e1,_⟩
    ·rw[e1]at e
     obtain⟨i,e2⟩:=he.ow.old j B e hB
     obtain⟨c,_,e3⟩:=hm0s i B e2
     exact⟨c,e3⟩
    ·exact⟨b,by rw[<- e1];exact e⟩
   ·cases hx:idx b with
    |some i=>
     have hi:=hidx b i hx
     rw[hm1 i b hi]
     exact he.map i (by rw[List.length_map];exact hlt _ _ hi) B (by rw[hm0 i b hi];exact e)
    |none=>rw[hm3 b hx hbn];exact e
  refine hk _ _ _ hQ m' F' w' x hext ?_ ((R_rnm (λj c e hj=>hren j c e hj) v).1 x hx)
  refine⟨hr'.low,hr'.fdom,λb hbn=>?_,λb B e=>?_,λb hbn=>?_,hr'.gl,λb B e=>?_,λb c B e1 e2 hne=>?_⟩
  ·rcases hcase b with⟨j,hj,e1⟩|⟨hx,hb1,e1,hb2⟩
   ·have hjl:j<bl'.length:=(hn' j b hj).2 hbn
    rw[e1,hput1 j b (Nat.zero_le _) (by omega) hj,Nat.sub_zero]
    exact RB_rnm (λj c e hj=>hren j c e hj) (hr'.blk j hjl)
   ·rw[e1,hput2 b λj _ _=>hb2 j]
    by_cases hany:look hb h b=.any
    ·rw[hany];exact trivial
    ·exact Ka hext (λB e=>he.ow.un B (hr.dom b B e) (hold b B e hany hx)) (hr.blk b hb1)
  ·rcases hcase b with⟨j,_,e1⟩|⟨_,_,e1,_⟩
   ·rw[e1]at e;exact hr'.dom j B e
   ·rw[e1]at e;exact Nat.lt_of_lt_of_le (hr.dom b B e) he.size
  ·rcases hcase b with⟨j,hj,e1⟩|⟨_,hb1,_,_⟩
   ·rw[e1]
    have:¬j<bl'.length:=λh=>absurd ((hn' j b hj).1 h) (Nat.not_lt.2 hbn)
    exact hr'.new j (Nat.le_of_not_lt this)
   ·omega
  ·rcases hcase b with⟨j,_,e1⟩|⟨_,_,e1,_⟩
   ·rw[e1]at e;exact hr'.own j B e
   ·rw[e1]at e
    exact⟨(hr.own b B e).1,λhF=>(he.back B hF).elim (hr.own b B e).2 λh=>absurd (hr.dom b B e) (Nat.not_lt.2 h)⟩
  ·have hmix:∀b c,b≠c->(∃j,back j=zi b/\m' b=m0' j)->(idx c=zm/\c<n/\m' c=m c/\∀j,back j≠zi c)->m' b=zi B->m' c=zi B->look hb h c=.any:=by
    intro b c hne ⟨j,hj,ej⟩ ⟨hx,hc1,ec,hc2⟩ e1 e2
    rw[ej]at e1
    rw[ec]at e2
    obtain⟨i,e3⟩:=he.ow.old j B e1 (hr.dom c B e2)
    exact Classical.byContradiction λhna=>hold c B e2 hna hx i e3
   rcases hcase b with hb1|hb1
   ·rcases hcase c with hc1|hc1
    ·obtain⟨j,hj,ej⟩:=hb1
     obtain⟨j2,hj2,ej2⟩:=hc1
     have e1':=e1
     have e2':=e2
     rw[ej]at e1'
     rw[ej2]at e2'
     have hjj:j≠j2:=λe=>by subst e;rw[hj]at hj2;injection hj2 with hj2;exact hne hj2
     have hjl:j<bl'.length:=by
      rcases Nat.lt_or_ge j bl'.length with h'|h'
      ·exact h'
      ·rw[hr'.new j h']at e1';cases e1'
     have hjl2:j2<bl'.length:=by
      rcases Nat.lt_or_ge j2 bl'.length with h'|h'
      ·exact h'
      ·rw[hr'.new j2 h']at e2';cases e2'
     rw[hput1 j b (Nat.zero_le _) (by omega) hj,hput1 j2 c (Nat.zero_le _) (by omega) hj2,Nat.sub_zero,Nat.sub_zero]
     rcases hr'.inj j j2 B e1' e2' hjj with h'|h'
     ·left;rw[h'];rfl
     ·right;rw[h'];rfl
    ·right
     rw[hput2 c λj _ _=>hc1.2.2.2 j]
     exact hmix b c hne hb1 hc1 e1 e2
   ·rcases hcase c with hc1|hc1
    ·left
     rw[hput2 b λj _ _=>hb1.2.2.2 j]
     exact hmix c b (Ne.symm hne) hc1 hb1 e2 e1
    ·rw[hput2 b λj _ _=>hb1.2.2.2 j,hput2 c λj _ _=>hc1.2.2.2 j]
     exact hr.inj b c B (by rw[<- hb1.2.2.1];exact e1) (by rw[<- hc1.2.2.1];exact e2) hne
 ·cases ht
end Go.Fw
end
