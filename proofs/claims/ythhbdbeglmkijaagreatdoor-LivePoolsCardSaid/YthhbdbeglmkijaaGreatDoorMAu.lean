/- The tied card of LivePools. For every state, number and set (the table of Go's library as the program's text lays it), LivePools answers true and leaves its arguments as they were: no condition on the arguments; what is listed is tied by the card. -/
import Derived.Test.YthhbdbeglmkijaaGreatDoorMAt
import Derived.Test.YthhbdbeglmkijaaGreatDoorMAr
import Derived.Test.YthhbdbeglmkijaaGreatDoorRows
import Derived.Test.YthhbdbeglmkijaaGreatDoorTie
import Derived.Test.YthhbdbeglmkijaaGreatDoorCards
import Derived.JoinedTies
import Derived.JoinedOf
import Derived.LaidLaws
import Derived.LaidHandle
import Derived.SevenTiedAt
import Derived.Stop.Joined
set_option maxRecDepth 100000
set_option linter.unusedVariables false
set_option linter.unusedSimpArgs false
noncomputable section
open Int renaming toNat→zi
open Bool renaming true→ze,false→za,and_eq_true→zM
open Nat renaming zero_add→z8,le_refl→zJ,not_lt_zero→yB
open Go.IntKind renaming wrap→zy,bits→zR
open Go.Fw.V renaming cons→zf,agg→zH,nil→zh,bool→zC
namespace Go.Proofs.YthhbdbeglmkijaaGreatDoor
open Go.Fw
def ZdQ(a b:Zg):Prop:=a.n0=b.n0/\∀j,j<a.n0->(a.r0 j).f0=(b.r0 j).f0
section
variable{e:Za}(hf:ZK e=0)(h3:e.n3<=1000)(h4:e.n4<=1000)
include hf h3 h4
variable{a b:Zg}
theorem ZlX(hs:ZdQ a b)(ha:e.n2<=a.n0){j:Nat}(hj:j<e.n4):JF a e j=JF b e j:=by
 obtain⟨i,hi,he,e1,e2,p0,p1⟩:=ZiT hf h3 h4 hj
 unfold JF
 rw[Zif,Zif,e1]
 have:(a.r0 (zi (e.r3 i).f3)).f0=(b.r0 (zi (e.r3 i).f3)).f0:=hs.2 _ (by omega)
 show YX (X4 (guO e) (e.r4 j).f0) (a.r0 (zi (e.r3 i).f3)).f0=YX (X4 (guO e) (e.r4 j).f0) (b.r0 (zi (e.r3 i).f3)).f0
 rw[this]
theorem Zky(hs:ZdQ a b)(ha:e.n2<=a.n0){x:Int}(hx:(Zh e).oh x=ze):Yb a (guO e) x=Yb b (guO e) x:=by
 obtain⟨j,hj,hv⟩:=UN hf hx
 have:=ZlX hf h3 h4 hs ha hj
 unfold JF at this
 rw[hv]at this
 exact this
theorem room_self:YH (plS e) (guO e) (gaO e)=ze:=by
 refine(ZdM (Kr hf)).2 ⟨λj hj=>?_,λk hk=>?_⟩
 ·have hg:=fT (fT (WO hf).2.1).2
  have b:=XI (nf4 (fT hg.2).1) j hj
  have eq:G7 (Zh e) j=bif (bif (bif YX (X4 (guO e) (e.r4 j).f0) (e.r2 (zi (e.r3 (zi (Xy (Zh e) (e.r4 j).f0))).f3)).f0==(0:Int)then ze else za)then ze else za)then ze else za:=by kernel_rfl
  rw[eq]at b
  have b1:=nf4 (nf4 (nf4 b))
  have hm:=Zag hf h3 h4 (plS e) hj
  intro q
  have q:JF (plS e) e j=0:=q
  rw[show(e.r2 (zi (e.r3 (zi (Xy (Zh e) (e.r4 j).f0))).f3)).f0=((plS e).r0 (zi (e.r3 (zi (Xy (Zh e) (e.r4 j).f0))).f3)).f0 from rfl,hm,q]at b1
  cases b1
 ·have hp:=Zlm (Zk9 hf k hk)
  have hmk:=Zli hp.1
  have hg:=hp.2
  rw[hmk.1]at hg
  rw[<- Zf1 (λj hj=>?_)]
  ·exact hg
  ·rw[z8,hmk.2 j hj]
   obtain⟨i,hi,hv⟩:=UN hf (Zdr hf hk hj).1
   have:=Zag hf h3 h4 (plS e) hi
   unfold JF at this
   rw[hv]at this
   exact congrArg Zq.mk this
theorem room_same(hs:ZdQ a b)(ha:e.n2<=a.n0)(hr:YH b (guO e) (gaO e)=ze):YH a (guO e) (gaO e)=ze:=by
 have h:=(ZdM (Kr hf)).1 hr
 refine(ZdM (Kr hf)).2 ⟨λj hj=>?_,λk hk=>?_⟩
 ·have:=ZlX hf h3 h4 hs ha hj
  unfold JF at this
  rw[show((guO e).r1 j).f0=(e.r4 j).f0 from rfl,this]
  exact h.1 j hj
 ·rw[<- h.2 k hk]
  exact Zf1 λq hq=>congrArg Zq.mk (Zky hf h3 h4 hs ha (Zdr hf hk hq).1)
omit h3 h4 in
theorem put_own{i:Nat}(hi:i<e.n12):∃j,j<e.n6/\(e.r6 j).f0=(e.r12 i).f0:=by
 have ho:(Zh e).oh (e.r12 i).f0=ze:=(UO (Zh e) i (Ut hf i hi)).2.2.2.1
 obtain⟨k,hk,ek,_⟩:=(ZlM e).1 _ ho
 exact⟨k,hk,ek⟩
omit h3 h4 in
theorem put_oh{i:Nat}(hi:i<e.n12):(Zh e).oh (e.r12 i).f0=ze:=(UO (Zh e) i (Ut hf i hi)).2.2.2.1
end
section
variable{e:Za}(hf:ZK e=0)(h3:e.n3<=1000)(h4:e.n4<=1000)(h12:e.n12<=100)(hu:0<=e.f13)(p:Zg)
abbrev WS(e:Za)(p:Zg):Nat×(Nat->DT3):=loA (Z4 .nil) p (guO e) (gaO e) e.n6 e.r6 e.n12 e.r12 0 e.f13 e.n12
theorem offZ_eq(e:Za)(p:Zg):Yl e p=UG (Z4 .nil) p (guO e) (gaO e) e.n6 e.r6 e.n12 e.r12 0 e.f13 (WS e p).1 (WS e p).2 e.n6:=rfl
theorem offB_eq(e:Za)(p:Zg):QG e p=Zv (Zal (Z4 .nil) p (guO e) (gaO e) e.n6 e.r6 e.n12 e.r12 0 e.f13 (WS e p).1 (WS e p).2 XO Yy) e.n6:=rfl
theorem Zf6{e:Za}{p:Zg}(x:Int):Yy (WS e p).1 (WS e p).2 x=ze↔∃i,i<e.n12/\QT (Yb p (guO e) (e.r12 i).f0) (e.r12 i).f1=za/\(x=(e.r12 i).f0\/∃q,q<YO (gaO e) (YP (gaO e) (e.r12 i).f0)/\(Y9 (gaO e) (YP (gaO e) (e.r12 i).f0) q).f0=x):=by
 rw[ZfC]
 exact lo_mem (Z4 .nil) p (guO e) (gaO e) e.n6 e.r6 e.n12 e.r12 0 e.f13 x e.n12
include hf h4 h12 hu in
theorem Zjh(hb:QG e p=za):OfI e.n6 e.r6 e.n12 e.r12 e.f13 (WS e p).1 (WS e p).2 e.n6 (Yl e p):=by
 rw[offZ_eq]
 have hmax:e.f13<=JZ:=by
  have h1:=Xc (WO hf).1
  have h3:=Xc (Xc h1.1).1
  exact of_decide_eq_true (Xc h3.2).2
 have ho:=ZiH hf
 exact of_inv h12 ⟨hu,hmax⟩ (λi j hi hj q=>fine_inj hf h4 hi hj q) (λi j hi hj q=>Zjq hf hi hj q) ho.2 (λj hj=>(ho.1 j hj).2) e.n6 (zJ _) (λi hi=>XI (offB_eq e p▸hb) i hi)
include hf h4 h12 hu in
theorem Zma(hb:QG e p=za):Zem e p (Yl e p).2.1 (Yl e p).2.2.1 (Yl e p).2.2.2:=by
 have hi:=Zjh hf h4 h12 hu p hb
 obtain⟨f,hf1,hf2⟩:=hi.sub
 have still:∀i,i<(Yl e p).2.2.1->Yy (WS e p).1 (WS e p).2 ((Yl e p).2.2.2 i).f0=za:=λi hi2=>by
  have h:=hf1 i hi2
  obtain⟨j,hj,ej⟩:=put_own hf h.1
  have:=hi.gone i hi2 j hj (by rw[ej,h.2])
  rw[h.2,<- ej];exact this
 have hnow:0<=e.f0:=by
  have h1:=Xc (WO hf).1
  have h3:=Xc (Xc h1.1).1
  exact of_decide_eq_true h3.1
 refine⟨hi.sub,λi hi2=>?_,λj hj hno=>?_,λk hk=>?_⟩
 ·cases hc:QT (Yb p (guO e) ((Yl e p).2.2.2 i).f0) ((Yl e p).2.2.2 i).f1
  ·have h:=hf1 i hi2
   have:=(Zf6 ((Yl e p).2.2.2 i).f0).2 ⟨f i,h.1,by rw[<- h.2];exact hc,.inl (by rw[h.2])⟩
   rw[still i hi2]at this
   cases this
  ·rfl
 ·by_cases hon:∃i,i<e.n12/\(e.r12 i).f0=(e.r6 j).f0
  ·obtain⟨i,hi2,ei⟩:=hon
   rcases hi.off j i hj hi2 ei with⟨i',h1,h2⟩|h
   ·exact absurd h2 (hno i' h1)
   ·rw[h];exact hnow
  ·have h2:=fine_pl2 hf j hj
   rw[pl2_eq]at h2
   have h5:=nf4 (nf4 (nf4 h2))
   have hn:(Zh e).nh (e.r6 j).f0=za:=by
    cases hx:(Zh e).nh (e.r6 j).f0
    ·rfl
    ·exact absurd ((Zbu e _).1 hx) hon
   have h5:(bif !(Zh e).nh (e.r6 j).f0 then decide ((e.r6 j).f9>e.f0)else za)=za:=h5
   rw[hn]at h5
   have h6:¬(e.r6 j).f9>e.f0:=of_decide_eq_false h5
   rcases hi.own j with q|⟨_,x,_,_,q⟩
   ·rw[q];omega
   ·rw[q];exact hnow
 ·by_cases hall:∀s,s<(e.r5 k).n1->(∃i,i<e.n12/\(e.r12 i).f0=((e.r5 k).r1 s).f0)->∃i,i<(Yl e p).2.2.1/\((Yl e p).2.2.2 i).f0=((e.r5 k).r1 s).f0
  ·refine .inl λs hs=>⟨λ⟨i,h1,h2⟩=>⟨f i,(hf1 i h1).1,by rw[<- (hf1 i h1).2];exact h2⟩,hall s hs⟩
  ·refine .inr ?_
   have hx:∃s,s<(e.r5 k).n1/\(∃i,i<e.n12/\(e.r12 i).f0=((e.r5 k).r1 s).f0)/\¬ ∃i,i<(Yl e p).2.2.1/\((Yl e p).2.2.2 i).f0=((e.r5 k).r1 s).f0:=Classical.byContradiction λhn=>hall λs hs h1=>Classical.byContradiction λh2=>hn ⟨s,hs,h1,h2⟩
   obtain⟨s,hs,⟨i,hi1,hi2⟩,hno⟩:=hx
   have hg:Yy (WS e p).1 (WS e p).2 ((e.r5 k).r1 s).f0=ze:=by
    rcases hi.kept i hi1 with⟨j,h1,h2⟩|h
    ·exact absurd ⟨j,h1,by rw[h2,hi2]⟩ hno
    ·rw[<- hi2];exact h
   obtain⟨i0,h1,h2,h5⟩:=(Zf6 _).1 hg
   have hga:=Kr hf
   have hgo:YP (gaO e) (e.r12 i0).f0=(e.r5 k).f0:=by
    rcases h5 with h5|⟨q,hq,eq⟩
    ·rw[<- h5];exact gOf_at hga (a:=gaO e) hk hs
    ·by_cases hin:∃k2,k2<e.n5/\∃q2,q2<(e.r5 k2).n1/\((e.r5 k2).r1 q2).f0=(e.r12 i0).f0
     ·obtain⟨k2,hk2,q2,hq2,e2⟩:=hin
      have hg2:YP (gaO e) (e.r12 i0).f0=(e.r5 k2).f0:=by rw[<- e2];exact gOf_at hga (a:=gaO e) hk2 hq2
      have hm2:=gMem_at hga (a:=gaO e) hk2
      rw[hg2]at hq eq
      change q<YO (gaO e) ((gaO e).r0 k2).f0 at hq
      change (Y9 (gaO e) ((gaO e).r0 k2).f0 q).f0=_ at eq
      rw[hm2.1]at hq
      rw[hm2.2]at eq
      have:=Zll hga (a:=gaO e) hk2 hk hq hs eq
      rw[hg2,this]
     ·have:YP (gaO e) (e.r12 i0).f0=0:=gOf_none hga λk2 hk2 q2 hq2 e2=>hin ⟨k2,hk2,q2,hq2,e2⟩
      rw[this,gMem_zero hga]at hq
      exact absurd hq (yB _)
   intro s2 hs2 ⟨i2,hj1,hj2⟩
   have hm:=gMem_at hga (a:=gaO e) hk
   have hg2:Yy (WS e p).1 (WS e p).2 ((e.r5 k).r1 s2).f0=ze:=(Zf6 _).2 ⟨i0,h1,h2,.inr ⟨s2,by rw[hgo];show s2<YO (gaO e) ((gaO e).r0 k).f0;rw[hm.1];exact hs2,by rw[hgo];show(Y9 (gaO e) ((gaO e).r0 k).f0 s2).f0=_;rw[hm.2];rfl⟩⟩
   have:=still i2 hj1
   rw[hj2,hg2]at this
   cases this
include hf h3 h4 h12 hu in
theorem off_chk(hb:QG e p=za)(hp:V.toInt (Wo p)=0)(hc:V.toInt (WA p)=V.toInt (WA (plS e)))(hn:e.n2<=p.n0)(hr:YH p (guO e) (gaO e)=ze):ZK (XM e p)=0:=by
 have hi:=Zjh hf h4 h12 hu p hb
 have ho:=ZiH hf
 have hl:V4 e (Yl e p).2.1:=λj=>by
  rcases hi.own j with q|⟨_,x,_,_,q⟩
  ·exact .inl q
  ·exact .inr ⟨x,q⟩
 refine mod_chk hf h3 h4 hl hp hc hn hr hi.ord (λj hj=>⟨hi.top j hj,?_⟩) hi.low.2 (Zma hf h4 h12 hu p hb)
 rcases hi.own j with q|⟨_,x,h1,_,q⟩
 ·rw[q];exact(ho.1 j hj).1
 ·rw[q]
  show x≠0
  omega
end
def HDO(p:Zg)(gu:Ze)(ga:Zd)(n:Nat)(r:Nat->ZA):Prop:=(∀j,j<Xa ga->0<(Z7 ga j).n0/\(Z7 ga j).n0<=8/\∀q,q<(Z7 ga j).n0->(0<=Zk gu ((Z7 ga j).r0 q).f0/\Zk gu ((Z7 ga j).r0 q).f0<gu.n0)/\0<=(gu.r0 (Zk gu ((Z7 ga j).r0 q).f0).toNat).f3/\(gu.r0 (Zk gu ((Z7 ga j).r0 q).f0).toNat).f3<p.n0)/\(∀j,j<gu.n1->(0<=Zk gu (gu.r1 j).f0/\Zk gu (gu.r1 j).f0<gu.n0)/\0<=(gu.r0 (Zk gu (gu.r1 j).f0).toNat).f3/\(gu.r0 (Zk gu (gu.r1 j).f0).toNat).f3<p.n0)/\∀j,j<n->(0<=Zk gu (r j).f0/\Zk gu (r j).f0<gu.n0)/\0<=(gu.r0 (Zk gu (r j).f0).toNat).f3/\(gu.r0 (Zk gu (r j).f0).toNat).f3<p.n0
section
variable{a:Za}(h:ZK a=0)(h3:a.n3<=1000)(h4:a.n4<=1000)
include h h3 h4
theorem Zgz{p:Zg}(hp:∀i,i<a.n3->(a.r3 i).f3<p.n0){x:Int}(hx:∃j,j<a.n4/\(a.r4 j).f0=x):(0<=Zk (guO a) x/\Zk (guO a) x<((guO a).n0:Nat))/\0<=((guO a).r0 (Zk (guO a) x).toNat).f3/\((guO a).r0 (Zk (guO a) x).toNat).f3<p.n0:=by
 obtain⟨j,hj,rfl⟩:=hx
 obtain⟨i,hi,he,e1,e2,e3,e4⟩:=ZiT h h3 h4 hj
 rw[e1]
 refine⟨⟨by omega,by show(i:Int)<(a.n3:Nat);omega⟩,e3,?_⟩
 show(a.r3 (zi (i:Int))).f3<_
 rw[Int.toNat_natCast];exact hp i hi
theorem hdo_of{p:Zg}(hp:∀i,i<a.n3->(a.r3 i).f3<p.n0):HDO p (guO a) (gaO a) a.n12 a.r12:=by
 have hg:=Zc1 (Kr h)
 refine⟨λj hj=>?_,λj hj=>Zgz h h3 h4 hp ⟨j,hj,rfl⟩,λj hj=>Zgz h h3 h4 hp (UN h (put_oh h hj))⟩
 rw[hg.1]at hj
 rw[hg.2 j hj]
 have hsz:=Zln (Kr h) hj
 exact⟨hsz.1,hsz.2,λq hq=>Zgz h h3 h4 hp (UN h (Zdr h hj hq).1)⟩
end
theorem ixOwn_in{n:Nat}{r:Nat->Zj}{j:Nat}(hj:j<n):0<=Xm (r j).f0 n r/\Xm (r j).f0 n r<((n:Nat):Int):=by
 have hb:Va n r (r j).f0 j=ze:=by
  show(bif (bif (bif (r j).f0==(r j).f0 then ze else za)then ze else za)then ze else za)=ze
  simp
 have ha:Zv (Va n r (r j).f0) n=ze:=by
  cases e:Zv (Va n r (r j).f0) n
  ·rw[XI e j hj]at hb;cases hb
  ·rfl
 rw[ixOwn_eq,ha]
 have:=ZcZ ha
 show 0<=((Yc _ n 0:Nat):Int)/\((Yc _ n 0:Nat):Int)<n
 omega
variable{a:Za}
theorem ZmB(h:ZK a=0)(hs:small a):a.n7<=1000:=by rw[(ZcW h).2];exact hs.2.2.1
theorem doS_pre(h:ZK a=0)(hs:small a)(h12:a.n12<=100)(f s:Int):Zi P 41 (.cons (.agg (Z9 za a)) (.cons (chgV 8 f 0 s) .nil)) (.tup (.cons (.agg (Z9 za (GA f s a))) (.cons (.int za .i64 (Vg f s a)) (.cons (.int za .i64 (Vh f s a)) .nil)))):=by
 have h7:=ZmB h hs
 obtain⟨s1,s2,s3,s4,s5,s6,s8,s10,s11,s12,sm⟩:=hs
 have hm:=doS_meets f s a (by omega) (by omega) s3 s4 s5 s6 h7 s8 s10 s11 s12 sm s2 h12 (by show Xa (gaO a)<=1000;rw[(Zc1 (Kr h)).1];exact s5) (Zlh (Kr h)) (λhq=>by
  have hk:=ZmG hq
  exact hdo_of h s3 s4 (p:=Zz (plS a) f s) λi hi=>by
   have:=(ZcY h i hi).2
   have hn:(Zz (plS a) f s).n0=a.n2+1:=hk.n0
   omega)
 exact Zi.args hm λF w n m xs hx=>(sR_R _ _ (by repeat'(first|exact rfl|apply And.intro)) n m).2 xs hx
theorem doJ_pre(h:ZK a=0)(hs:small a)(h12:a.n12<=100){k f:Int}(hj:Jt (plS a) k f=0)(hkf:f<=k)(hk:∀i,i<a.n3->(a.r3 i).f3<k)(hp:∀i,i<a.n3->(a.r3 i).f3<(Yu (plS a) k f).n0):Zi P 41 (.cons (.agg (Z9 za a)) (.cons (chgV 9 k f 0) .nil)) (.tup (.cons (.agg (Z9 za (Gy k f a))) (.cons (.int za .i64 (ZfH k f a)) (.cons (.int za .i64 (Gz k f a)) .nil)))):=by
 have h7:=ZmB h hs
 have h64:=(ZcW h).1
 obtain⟨s1,s2,s3,s4,s5,s6,s8,s10,s11,s12,sm⟩:=hs
 have hm:=doJ_meets k f a (by omega) (by omega) s3 s4 s5 s6 h7 s8 s10 s11 s12 sm s2 h12 (by show Xa (gaO a)<=1000;rw[(Zc1 (Kr h)).1];exact s5) (Zlh (Kr h)) hj hkf hk (λj hj=>⟨(Zgz h s3 s4 hp ⟨j,by omega,(Zbb h j hj).symm⟩).1,ixOwn_in hj⟩) (hdo_of h s3 s4 hp)
 exact Zi.args hm λF w n m xs hx=>(sR_R _ _ (by repeat'(first|exact rfl|apply And.intro)) n m).2 xs hx
theorem of_still{d:Za}{p:Zg}{gu:Ze}{ga:Zd}{no:Nat}{orr:Nat->Zj}{np:Nat}{pr:Nat->ZA}{sa la:Int}{gn:Nat}{gr:Nat->DT3}(hg:∀x,Yy gn gr x=za):∀k,UG d p gu ga no orr np pr sa la gn gr k=(la,orr,np,pr)/\(∀i,i<k->Zal d p gu ga no orr np pr sa la gn gr XO Yy i=za):=by
 have keep:∀(z:OfZ) k,UH no gn gr z k=ze:=λz k=>by
  unfold UH
  have:(λj=>gr (0+j))=gr:=funext λj=>by rw[z8]
  rw[this,hg]
  cases decide (ofX no z k<(0:Int))<;>rfl
 intro k
 induction k with
 |zero=>exact⟨rfl,λi hi=>absurd hi (yB _)⟩
 |succ k ih=>
  refine⟨?_,λi hi=>?_⟩
  ·show Zbw d p gu ga no orr np pr sa la gn gr XO Yy k (UG d p gu ga no orr np pr sa la gn gr k)=_
   rw[of_eq,keep]
   exact ih.1
  ·rcases Nat.eq_or_lt_of_le (Nat.le_of_lt_succ hi)with e|e
   ·subst e
    rw[ofb_eq,keep];rfl
   ·exact ih.2 i e
variable{e:Za}
theorem off_still{p:Zg}(hh:∀i,i<e.n12->QT (Yb p (guO e) (e.r12 i).f0) (e.r12 i).f1=ze):QG e p=za/\XM e p=ZW e p e.r6 e.n12 e.r12 e.f13:=by
 have hg:∀x,Yy (WS e p).1 (WS e p).2 x=za:=λx=>by
  cases hc:Yy (WS e p).1 (WS e p).2 x
  ·rfl
  ·obtain⟨i,hi,h1,_⟩:=(Zf6 x).1 hc
   rw[hh i hi]at h1;cases h1
 have h:=of_still (d:=Z4 .nil) (p:=p) (gu:=guO e) (ga:=gaO e) (no:=e.n6) (orr:=e.r6) (np:=e.n12) (pr:=e.r12) (sa:=0) (la:=e.f13) hg e.n6
 refine⟨?_,?_⟩
 ·rw[offB_eq];exact Jy h.2
 ·have hz:Yl e p=(e.f13,e.r6,e.n12,e.r12):=by rw[offZ_eq];exact h.1
  unfold XM
  rw[hz]
theorem Ze3(m i:Nat)(hi:i<32):bt (m:Int) i=m.testBit i:=by
 show(BitVec.ofInt 32 (m:Int)).getLsbD i=_
 rw[BitVec.ofInt_natCast,BitVec.getLsbD_ofNat]
 simp[hi]
theorem hasC_bit{x c:Int}(h:QT x c=ze):0<=c/\c<8/\bt x c.toNat=ze:=by
 unfold QT at h
 cases hw:(bif decide (c<(0:Int))then ze else decide (c>=(8:Int)))
 ·have h1:=orF hw
  have c1:¬c<0:=of_decide_eq_false h1.1
  have c2:¬c>=8:=of_decide_eq_false h1.2
  rw[hw]at h
  refine⟨by omega,by omega,?_⟩
  cases hb:bt x c.toNat
  ·exfalso
   have hz:YX x (zy .u32 ((1:Int)*(2:Int)^min (zi c) (zR .u32)))=0:=mask0.2 λi hi=>by
    have hc8:c.toNat<8:=by omega
    have e1:zy .u32 ((1:Int)*(2:Int)^min (zi c) (zR .u32))=((2^c.toNat:Nat):Int):=by
     have hmin:min (zi c) (zR .u32)=c.toNat:=by
      show min (zi c) 32=_
      omega
     rw[hmin,Int.one_mul]
     have hpow:(2:Int)^c.toNat=((2^c.toNat:Nat):Int):=by simp
     rw[hpow]
     have:2^c.toNat<256:=(Nat.pow_lt_pow_right (by omega) hc8:2^c.toNat<2^8)
     generalize 2^c.toNat=w at this
     show(w:Int)%4294967296=w
     omega
    rw[e1,Ze3 _ i hi,Nat.testBit_two_pow]
    by_cases hic:c.toNat=i
    ·subst hic;rw[hb];rfl
    ·simp[hic]
   rw[hz]at h
   cases h
  ·rfl
 ·rw[hw]at h
  have hz:YX x 0=0:=mask0.2 λi hi=>by rw[Ze4,Bool.and_false]
  rw[hz]at h
  cases h
def shC(s c:Int):Int:=zy .u32 ((BitVec.toNat (BitVec.ofInt (zR .u32) (Int.fdiv s ((2:Int)^min (zi c) (zR .u32)))&&& BitVec.ofInt (zR .u32) (1:Int)):Nat):Int)
theorem sh_zero{s c:Int}(hs:inU s)(h0:0<=c)(h8:c<8)(hb:bt s c.toNat=za):shC s c=0:=by
 show YX (Int.fdiv s ((2:Int)^min (zi c) (zR .u32))) 1=0
 refine mask0.2 λi hi=>?_
 have hmin:min (zi c) (zR .u32)=c.toNat:=by
  show min (zi c) 32=_
  omega
 rw[hmin]
 obtain⟨m,hm⟩:∃m:Nat,s=(m:Int):=⟨s.toNat,by have:=hs.1;omega⟩
 subst hm
 have e1:Int.fdiv (m:Int) ((2:Int)^c.toNat)=((m/2^c.toNat:Nat):Int):=by
  have hpow:(2:Int)^c.toNat=((2^c.toNat:Nat):Int):=by simp
  rw[hpow,Int.fdiv_eq_ediv_of_nonneg _ (Int.natCast_nonneg _)]
  norm_cast
 rw[e1,show(1:Int)=((1:Nat):Int)from rfl,Ze3 _ i hi,Ze3 _ i hi]
 cases i with
 |zero=>
  have hc:c.toNat<32:=by omega
  rw[Ze3 m c.toNat hc]at hb
  rw[<- Nat.shiftRight_eq_div_pow,Nat.testBit_shiftRight,Nat.add_zero,hb];rfl
 |succ i=>rw[show Nat.testBit 1 (i+1)=za from by simp[Nat.testBit_succ],Bool.and_false]
variable{n:Za}
theorem lw_no{f s k:Int}{Oc:Int->Int}{Oi:Int->Bool}{Qp:Int->Int}{Qi:Int->Bool}{i:Nat}(h:Oi (e.r12 i).f0=ze->Oc (e.r12 i).f0=(e.r12 i).f1/\(bif decide (shC s (e.r12 i).f1>0)then(bif Qi (e.r12 i).f0 then Qp (e.r12 i).f0==f else za)else za)=za):Zbr e n f s k Oc Oi Qp Qi i=za:=by
 have e1:Zbr e n f s k Oc Oi Qp Qi i=bif (bif (bif (bif Oi (e.r12 i).f0 then(bif Oc (e.r12 i).f0 != (e.r12 i).f1 then ze else bif Oi (e.r12 i).f0 then(bif decide (shC s (e.r12 i).f1>0)then(bif Qi (e.r12 i).f0 then Qp (e.r12 i).f0==f else za)else za)else za)else bif Oi (e.r12 i).f0 then(bif decide (shC s (e.r12 i).f1>0)then(bif Qi (e.r12 i).f0 then Qp (e.r12 i).f0==f else za)else za)else za)then ze else za)then ze else za)then ze else za:=by kernel_rfl
 rw[e1]
 cases ho:Oi (e.r12 i).f0
 ·rfl
 ·have h1:=h ho
  rw[h1.1,h1.2]
  simp
noncomputable def spA(a:Za)(f s:Int):V:=.cons (.agg (Z9 za a)) (.cons (.agg (.cons (.int ze .i64 8) (.cons (.int ze .i64 0) (.cons (.int ze .i64 0) (.cons (.int ze .i64 0) (.cons (.int ze .i64 0) (.cons (.int za .i64 f) (.cons (.int ze .i64 0) (.cons (.int ze .i64 0) (.cons (.int ze .i64 0) (.cons (.int ze .u32 0) (.cons (.int ze .u32 0) (.cons (.int za .u32 s) (.cons .Zl .nil)))))))))))))) .nil)
noncomputable def jnA(a:Za)(k f:Int):V:=.cons (.agg (Z9 za a)) (.cons (.agg (.cons (.int ze .i64 9) (.cons (.int ze .i64 0) (.cons (.int ze .i64 0) (.cons (.int ze .i64 0) (.cons (.int ze .i64 0) (.cons (.int za .i64 k) (.cons (.int za .i64 f) (.cons (.int ze .i64 0) (.cons (.int ze .i64 0) (.cons (.int ze .u32 0) (.cons (.int ze .u32 0) (.cons (.int ze .u32 0) (.cons .Zl .nil)))))))))))))) .nil)
noncomputable def plV(p:Zg):V:=.agg (Y7 za p)
noncomputable def plO(e:Za):Zg:=⟨e.n2,e.r2⟩
theorem Zq9(Ck:Za->Int)(a e:Za)(f s:Int)(r r2:DoA)(p:Prop)(Oc:Int->Int)(Oi:Int->Bool)(Qp:Int->Int)(Qi:Int->Bool)(Sm:Zg->Zg->Bool):ZU (Zp P (lawL Ck a e f s r r2 p Oc Oi Qp Qi Sm) [Jm (∀j,j<e.n12->0<=(e.r12 j).f1) (lw_lp e r.n f s r.k Oc Oi Qp Qi)] ze) 400 6 (.cons (.agg (Z9 za a)) (.cons (.int za .i64 f) (.cons (.int za .u32 s) .nil)))=
 .need (zf (zH (Z9 za a)) zh=zf (zH (Z9 za a)) zh/\True) (.need (zf (zH (Z9 za e)) zh=zf (zH (Z9 za e)) zh/\small e) (.node (bif Ck e != (0:Int)then ze else za) (.leaf (.bool ze ze))
  (.need (sR (spA e f s) (doC e 8 f 0 s)) (.node (bif r.e != (0:Int)then ze else za) (.leaf (.bool za (r.k==(0:Int))))
   (.need ((∀j,j<e.n12->0<=(e.r12 j).f1)/\lw_need e r.n f s r.k Oc Oi Qp Qi) (.node (bif Zv (Zbr e r.n f s r.k Oc Oi Qp Qi) e.n12 then ze else za) (.leaf (.bool ze za))
    (.need (sR (jnA r.n r.k f) (doC r.n 9 r.k f 0)/\p)
     (.need ((r2.e==(0:Int))=ze->(zf (plV (plO r2.n)) (zf (plV (plO e)) zh)=zf (plV (plO r2.n)) (zf (plV (plO e)) zh)/\r2.n.n2<=1000)/\(Sm (plO r2.n) (plO e)=ze->zf (zH (Z9 za r2.n)) zh=zf (zH (Z9 za r2.n)) zh/\small r2.n))
      (.leaf (.bool za (bif r2.e==(0:Int)then bif Sm (plO r2.n) (plO e)then Ck r2.n==(0:Int)else za else za))))))))))):=by kernel_rfl
theorem Zih(h:ZK a=0):dO_n a n=n:=by
 have c:(bif ZK a != (0:Int)then ze else za)=za:=by rw[h];rfl
 have hv:(do_T ZK a n 0 0 0 0 0 0 True).valOf=_:=cF c rfl
 unfold dO_n
 rw[hv];rfl
theorem dO_n_no(h:ZK a≠0):dO_n a n=zS:=by
 have c0:(ZK a != (0:Int))=ze:=by simp[h]
 have c:(bif ZK a != (0:Int)then ze else za)=ze:=by rw[c0];rfl
 have hv:(do_T ZK a n 0 0 0 0 0 0 True).valOf=_:=cT c rfl
 unfold dO_n
 rw[hv];rfl
theorem ZmC:small zS:=⟨Nat.zero_le _,Nat.zero_le _,Nat.zero_le _,Nat.zero_le _,Nat.zero_le _,Nat.zero_le _,Nat.zero_le _,Nat.zero_le _,Nat.zero_le _,Nat.zero_le _,λj=>Nat.zero_le _⟩
theorem Zcw{x y:Int}(h:ZK a=0):dO_i a x y=y:=by unfold dO_i;rw[h];rfl
structure Split(e:Za)(f s:Int) where
 hf:ZK e=0
 sm:small e
 h12:e.n12<=100
 hs:inU s
 hr:∀j,j<e.n2->inU (e.r2 j).f0
 hu:0<=e.f13
 sp:XE (plS e) f s=0
 rm:YH (Zz (plS e) f s) (guO e) (gaO e)=ze
 of_:QG e (Zz (plS e) f s)=za
section
variable{e:Za}{f s:Int}(H:Split e f s)
include H
theorem Vr:Zep (plS e) f s:=ZmG H.sp
theorem sp_chk:V.toInt (Wo (Zz (plS e) f s))=0/\V.toInt (WA (Zz (plS e) f s))=V.toInt (WA (plS e))/\e.n2<=3:=ZmF H.hs H.hr H.sm.2.1 (Vr H)
theorem ZdS:Jt (Zz (plS e) f s) (e.n2:Int) f=0/\ZdQ (Yu (Zz (plS e) f s) (e.n2:Int) f) (plS e):=by
 have h:=join_ok_ H.hs H.hr H.sm.2.1 (Vr H)
 exact⟨h.1,h.2.1,λj hj=>h.2.2 j (by rw[<- h.2.1];exact hj)⟩
theorem Zjx:ZK (XM e (Zz (plS e) f s))=0:=by
 have hc:=sp_chk H
 have hk:=(Vr H).n0
 have hk:(Zz (plS e) f s).n0=e.n2+1:=hk
 exact off_chk H.hf H.sm.2.2.1 H.sm.2.2.2.1 H.h12 H.hu _ H.of_ hc.1 hc.2.1 (by omega) H.rm
theorem Zhc:OfI e.n6 e.r6 e.n12 e.r12 e.f13 (WS e (Zz (plS e) f s)).1 (WS e (Zz (plS e) f s)).2 e.n6 (Yl e (Zz (plS e) f s)):=Zjh H.hf H.sm.2.2.2.1 H.h12 H.hu _ H.of_
theorem Zjy:Zem e (Zz (plS e) f s) (Yl e (Zz (plS e) f s)).2.1 (Yl e (Zz (plS e) f s)).2.2.1 (Yl e (Zz (plS e) f s)).2.2.2:=Zma H.hf H.sm.2.2.2.1 H.h12 H.hu _ H.of_
theorem Zjz:small (XM e (Zz (plS e) f s)):=by
 obtain⟨s1,s2,s3,s4,s5,s6,s8,s10,s11,s12,sm⟩:=H.sm
 have h3:=(sp_chk H).2.2
 have hk:(Zz (plS e) f s).n0=e.n2+1:=(Vr H).n0
 exact⟨s1,by show(Zz (plS e) f s).n0<=5;omega,s3,s4,s5,s6,s8,s10,s11,Nat.le_trans (Zhc H).len s12,sm⟩
theorem sp_n12:(XM e (Zz (plS e) f s)).n12<=100:=Nat.le_trans (Zhc H).len H.h12
theorem jn_has(i:Nat)(hi:i<(XM e (Zz (plS e) f s)).n12):QT (Yb (Yu (Zz (plS e) f s) (e.n2:Int) f) (guO e) ((XM e (Zz (plS e) f s)).r12 i).f0) ((XM e (Zz (plS e) f s)).r12 i).f1=ze:=by
 obtain⟨g,hg1,_⟩:=(Zjy H).sub
 have he:=hg1 i hi
 have hq:(XM e (Zz (plS e) f s)).r12 i=e.r12 (g i):=he.2
 rw[hq]
 have hj:=(ZdS H).2
 have ht:=(Zmu (Ut H.hf (g i) he.1)).2.2
 have ho:=put_oh H.hf he.1
 rw[Zky H.hf H.sm.2.2.1 H.sm.2.2.2.1 hj (by rw[hj.1];exact zJ _) ho]
 obtain⟨j,hj2,hv⟩:=UN H.hf ho
 have hmv:=Zag H.hf H.sm.2.2.1 H.sm.2.2.2.1 (plS e) hj2
 unfold JF at hmv
 rw[hv]at hmv
 rw[<- hmv]
 exact ht
theorem jn_off:QG (XM e (Zz (plS e) f s)) (Yu (Zz (plS e) f s) (e.n2:Int) f)=za/\XM (XM e (Zz (plS e) f s)) (Yu (Zz (plS e) f s) (e.n2:Int) f)=ZW e (Yu (Zz (plS e) f s) (e.n2:Int) f) (Yl e (Zz (plS e) f s)).2.1 (Yl e (Zz (plS e) f s)).2.2.1 (Yl e (Zz (plS e) f s)).2.2.2 (Yl e (Zz (plS e) f s)).1:=
 off_still (e:=XM e (Zz (plS e) f s)) (jn_has H)
theorem jn_room:YH (Yu (Zz (plS e) f s) (e.n2:Int) f) (guO e) (gaO e)=ze:=by
 have hj:=(ZdS H).2
 exact room_same H.hf H.sm.2.2.1 H.sm.2.2.2.1 hj (by rw[hj.1];exact zJ _) (room_self H.hf H.sm.2.2.1 H.sm.2.2.2.1)
theorem jn_yes:Gz (e.n2:Int) f (XM e (Zz (plS e) f s))=0/\Gy (e.n2:Int) f (XM e (Zz (plS e) f s))=ZW e (Yu (Zz (plS e) f s) (e.n2:Int) f) (Yl e (Zz (plS e) f s)).2.1 (Yl e (Zz (plS e) f s)).2.2.1 (Yl e (Zz (plS e) f s)).2.2.2 (Yl e (Zz (plS e) f s)).1:=by
 have h:=doJ_yes (k:=(e.n2:Int)) (f:=f) (e:=XM e (Zz (plS e) f s)) (jn_room H) (jn_off H).1
 exact⟨h.1,h.2.trans (jn_off H).2⟩
theorem jn_fine:ZK (ZW e (Yu (Zz (plS e) f s) (e.n2:Int) f) (Yl e (Zz (plS e) f s)).2.1 (Yl e (Zz (plS e) f s)).2.2.1 (Yl e (Zz (plS e) f s)).2.2.2 (Yl e (Zz (plS e) f s)).1)=0:=by
 have hi:=Zhc H
 have ho:=ZiH H.hf
 have hp:=Zjy H
 have hj:=(ZdS H).2
 have hn0:0<e.n2:=by
  have h1:=(Vr H).lo
  have h2:f<(e.n2:Int):=(Vr H).hi
  omega
 have hn3:=(sp_chk H).2.2
 generalize hq:Yu (Zz (plS e) f s) (e.n2:Int) f=q at hj
 have hqn:q.n0=e.n2:=hj.1
 have hqq:q=⟨e.n2,q.r0⟩:=by rw[<- hqn]
 have hcg:∀j,j<e.n2->(q.r0 j).f0=(e.r2 j).f0:=λj hj2=>hj.2 j (by omega)
 refine mod_chk H.hf H.sm.2.2.1 H.sm.2.2.2.1 (λj=>?_) ?_ ?_ (by omega) ?_ hi.ord (λj hj=>⟨hi.top j hj,?_⟩) hi.low.2 ⟨hp.sub,λi hi2=>?_,hp.until_,hp.gang⟩
 ·rcases hi.own j with q|⟨_,x,_,_,q⟩
  ·exact .inl q
  ·exact .inr ⟨x,q⟩
 ·rw[hqq,ZgS _ hn0 (by omega),Zkz hcg,<- ZgS _ hn0 (by omega)]
  exact(Vr H).chk
 ·rw[hqq,ZgT _ hn0 (by omega)]
  show cpsP e.n2 q.r0=V.toInt (WA ⟨e.n2,e.r2⟩)
  rw[ZgT _ hn0 (by omega)]
  unfold cpsP
  rw[Zkz hcg,ZhH hcg]
 ·rw[<- hq];exact jn_room H
 ·rcases hi.own j with q|⟨_,x,h1,_,q⟩
  ·rw[q];exact(ho.1 j hj).1
  ·rw[q]
   have:=H.hu
   show x≠0
   omega
 ·rw[<- hq];exact jn_has H i hi2
theorem lw_all:Zv (Zbr e (XM e (Zz (plS e) f s)) f s (e.n2:Int) (V3 (XM e (Zz (plS e) f s))) (KA (XM e (Zz (plS e) f s))) (K4 e) (JG e)) e.n12=za:=Jy λi hi=>by
 have hp:=Zjy H
 have hk:=Vr H
 obtain⟨g,hg1,_⟩:=hp.sub
 refine lw_no λho=>?_
 have hon:=ho
 unfold KA at ho
 simp only[zM]at ho
 obtain⟨k,hk1,ek,vk⟩:=(Zgn (XM e (Zz (plS e) f s))).1 _ ho.1
 have he:=hg1 k hk1
 have ek:((Yl e (Zz (plS e) f s)).2.2.2 k).f0=(e.r12 i).f0:=ek
 have hgi:g k=i:=Zjq H.hf he.1 hi (by rw[<- he.2,ek])
 have hqk:(Yl e (Zz (plS e) f s)).2.2.2 k=e.r12 i:=by rw[he.2,hgi]
 have vk:(Zh (XM e (Zz (plS e) f s))).ng (e.r12 i).f0=((Yl e (Zz (plS e) f s)).2.2.2 k).f1:=vk
 refine⟨?_,?_⟩
 ·unfold V3
  rw[hon]
  show(Zh (XM e (Zz (plS e) f s))).ng (e.r12 i).f0=_
  rw[vk,hqk]
 ·have hh:=hp.has k hk1
  rw[hqk]at hh
  have hb:=hasC_bit hh
  have hoh:=put_oh H.hf hi
  cases hqi:JG e (e.r12 i).f0
  ·cases decide (shC s (e.r12 i).f1>0)<;>rfl
  ·cases hqp:(K4 e (e.r12 i).f0==f)
   ·cases decide (shC s (e.r12 i).f1>0)<;>rfl
   ·have hqp:=eqT hqp
    unfold K4 at hqp
    rw[hqi]at hqp
    have hqp:(e.r3 (Xy (Zh e) (e.r12 i).f0).toNat).f3=f:=hqp
    obtain⟨j,hj,hv⟩:=UN H.hf hoh
    have hmv:=Zag H.hf H.sm.2.2.1 H.sm.2.2.2.1 (Zz (plS e) f s) hj
    unfold JF at hmv
    rw[hv,hqp,hk.old]at hmv
    have hb2:=hb.2.2
    rw[<- hmv,Zcn,ZaG _ _ (by omega)]at hb2
    have hz:bt s (e.r12 i).f1.toNat=za:=by
     cases hq:bt s (e.r12 i).f1.toNat
     ·rfl
     ·rw[hq]at hb2;simp at hb2
    rw[sh_zero H.hs hb.1 hb.2.1 hz];rfl
end
theorem pl_same{q:Zg}{o:Nat->Zj}{n:Nat}{r:Nat->ZA}{la:Int}(hj:ZdQ q (plS e)):ZbA (plO (ZW e q o n r la)) (plO e)=ze:=Zrt (a:=⟨q.n0,q.r0⟩) (b:=⟨e.n2,e.r2⟩) hj.1 hj.2
theorem leaf_true{x y z:Bool}(h1:x=ze)(h2:y=ze)(h3:z=ze):(zC za (bif x then(bif y then z else za)else za)).soft.clean=ze/\(zC za (bif x then(bif y then z else za)else za)).soft=(zC ze ze).soft:=by
 rw[h1,h2,h3];exact⟨rfl,rfl⟩
theorem small_cut(a:Za):small (WQ a):=by
 obtain⟨h1,h2,h3,h4,h5,h6,h8,h10,h11,h12,hm⟩:=ZkD a
 exact⟨h1,h2,by omega,by omega,by omega,by omega,by omega,by omega,by omega,by omega,λj=>by have:=hm j;omega⟩
theorem Zq8(a:Za)(f s:Int)(hs:inU s)(hr:∀j,j<(WQ a).n2->inU ((WQ a).r2 j).f0)(hu:0<=(WQ a).f13):Zi P 6 (.cons (.agg (Z9 za a)) (.cons (.int za .i64 f) (.cons (.int za .u32 s) .nil))) (.bool ze ze):=by
 have hsm:=small_cut a
 have h12:(WQ a).n12<=100:=by obtain⟨h1,h2,h3,h4,h5,h6,h8,h10,h11,h12,hm⟩:=ZkD a;omega
 have hsh:=Zqg a
 generalize WQ a=e at hsm h12 hr hu hsh
 obtain⟨r,ern,erk,ere⟩:∃r:DoA,r.n=dO_n e (GA f s e)/\r.k=dO_i e 0 (Vg f s e)/\r.e=dO_i e (ZK e) (Vh f s e):=⟨⟨_,_,_⟩,rfl,rfl,rfl⟩
 obtain⟨r2,ern2,erk2,ere2⟩:∃r2:DoA,r2.n=dO_n r.n (Gy r.k f r.n)/\r2.k=dO_i r.n 0 (ZfH r.k f r.n)/\r2.e=dO_i r.n (ZK r.n) (Gz r.k f r.n):=⟨⟨_,_,_⟩,rfl,rfl,rfl⟩
 have hH:ZK e=0->r.e=0->Split e f s:=λh1 h2=>by
  rw[ere,Zcw h1]at h2
  by_cases hc:XE (plS e) f s=0/\YH (Zz (plS e) f s) (guO e) (gaO e)=ze/\QG e (Zz (plS e) f s)=za
  ·exact⟨h1,hsm,h12,hs,hr,hu,hc.1,hc.2.1,hc.2.2⟩
  ·exact absurd h2 (doS_no hc).1
 have hRn:∀(h1:ZK e=0)(h2:r.e=0),r.n=XM e (Zz (plS e) f s)/\r.k=(e.n2:Int):=λh1 h2=>by
  have H:=hH h1 h2
  have hy:=Zil H.sp H.rm H.of_
  refine⟨?_,?_⟩
  ·rw[ern,Zih h1,hy.2.2]
  ·rw[erk,Zcw h1,hy.2.1,(Vr H).k];rfl
 have hm2:(ZK e=0/\r.e=0)->Zi P 10 (doC r.n 9 r.k f 0) (doV r2):=λhp=>by
  have H:=hH hp.1 hp.2
  have h1:=hRn hp.1 hp.2
  unfold doV
  rw[ern2,erk2,ere2]
  refine ZkP r.n _ 9 r.k f 0 _ _ (by rw[h1.1];exact Zjz H) λhc=>?_
  rw[h1.1,h1.2]
  have hj:=ZdS H
  have hk:=Vr H
  refine doJ_pre (Zjx H) (Zjz H) (sp_n12 H) hj.1 (by have:=hk.hi;have:f<(e.n2:Int):=this;omega) (λi hi=>(ZcY H.hf i hi).2) (λi hi=>?_)
  have:=(ZcY H.hf i hi).2
  have hn0:(Yu (Zz (plS e) f s) (e.n2:Int) f).n0=e.n2:=hj.2.1
  show(e.r3 i).f3<((Yu (Zz (plS e) f s) (e.n2:Int) f).n0:Nat)
  omega
 have hsr:small r.n:=by
  rw[ern]
  by_cases h1:ZK e=0
  ·rw[Zih h1]
   by_cases hc:XE (plS e) f s=0/\YH (Zz (plS e) f s) (guO e) (gaO e)=ze/\QG e (Zz (plS e) f s)=za
   ·have hy:=Zil hc.1 hc.2.1 hc.2.2
    have H:Split e f s:=⟨h1,hsm,h12,hs,hr,hu,hc.1,hc.2.1,hc.2.2⟩
    rw[hy.2.2];exact Zjz H
   ·rw[(doS_no hc).2.2];exact ZmC
  ·rw[dO_n_no h1];exact ZmC
 have hcpu:ZK e=0->∀j,j<e.n12->0<=(e.r12 j).f1:=λh1 j hj=>((Zjr h1 e.n12 (zJ _)).2 j hj).2
 have h1m:Zi P 10 (doC e 8 f 0 s) (doV r):=by
  unfold doV
  rw[ern,erk,ere]
  exact ZkP e _ 8 f 0 s _ _ hsm λh=>doS_pre h hsm h12 f s
 refine meets (ZC hm hn (l:=lawL ZK a e f s r r2 (ZK e=0/\r.e=0) (V3 r.n) (KA r.n) (K4 e) (JG e) ZbA) ⟨Zoe,hsh,ZhN,k_Do_ok h1m hm2,k_on_ok hsr,Zlz hsm,Zoc,trivial⟩
  (ls:=[Jm (∀j,j<e.n12->0<=(e.r12 j).f1) (lw_lp e r.n f s r.k (V3 r.n) (KA r.n) (K4 e) (JG e))]) ⟨Zdc λhg=>lw_lp_ok e r.n f s r.k _ _ _ _ (k_on_ok hsr) (Zlz hsm) (by omega) hg,trivial⟩ ze) 400 (Has.of hn Tryz.func6 rfl) (Zq9 ZK a e f s r r2 _ _ _ _ _ _) ?_
 refine⟨⟨rfl,trivial⟩,⟨rfl,hsm⟩,λ_=>⟨rfl,rfl⟩,λhc=>⟨by repeat'(first|exact rfl|apply And.intro),λhe=>?_,λhe=>?_⟩⟩
 ·have h1:=nz0 hc
  have hk:r.k=0:=by
   rw[erk,Zcw h1]
   by_cases hq:XE (plS e) f s=0/\YH (Zz (plS e) f s) (guO e) (gaO e)=ze/\QG e (Zz (plS e) f s)=za
   ·exfalso
    have h0:r.e=0:=by
     rw[ere,Zcw h1,(Zil hq.1 hq.2.1 hq.2.2).1]
    rw[h0]at he;cases he
   ·exact(doS_no hq).2.1
  rw[hk];exact⟨rfl,rfl⟩
 ·have h1:=nz0 hc
  have h2:=nz0 he
  have H:=hH h1 h2
  have hrn:=hRn h1 h2
  have hy:=jn_yes H
  have hre:r2.e=0:=by
   rw[ere2,hrn.1,hrn.2,Zcw (Zjx H),hy.1]
  have hrs:r2.n=ZW e (Yu (Zz (plS e) f s) (e.n2:Int) f) (Yl e (Zz (plS e) f s)).2.1 (Yl e (Zz (plS e) f s)).2.2.1 (Yl e (Zz (plS e) f s)).2.2.2 (Yl e (Zz (plS e) f s)).1:=by
   rw[ern2,hrn.1,hrn.2,Zih (Zjx H),hy.2]
  have hj:=(ZdS H).2
  have hsm2:small r2.n:=by
   rw[hrs]
   obtain⟨s1,s2,s3,s4,s5,s6,s8,s10,s11,s12,sm⟩:=hsm
   exact⟨s1,by show(Yu (Zz (plS e) f s) (e.n2:Int) f).n0<=5;rw[hj.1];exact s2,s3,s4,s5,s6,s8,s10,s11,Nat.le_trans (Zhc H).len s12,sm⟩
  have hlw:Zv (Zbr e r.n f s r.k (V3 r.n) (KA r.n) (K4 e) (JG e)) e.n12=za:=by
   rw[hrn.1,hrn.2];exact lw_all H
  refine⟨⟨hcpu h1,lw_fit _ _ _ _ _ _ _ _ _⟩,λhb=>?_,λhb=>⟨⟨by repeat'(first|exact rfl|apply And.intro),h1,h2⟩,λ_=>⟨⟨rfl,by have:=hsm2.2.1;omega⟩,λ_=>⟨rfl,hsm2⟩⟩,?_⟩⟩
  ·rw[hlw]at hb;cases hb
  ·exact leaf_true (by rw[hre];rfl) (by rw[hrs];exact pl_same hj) (by rw[hrs,jn_fine H];rfl)
end Go.Proofs.YthhbdbeglmkijaaGreatDoor
namespace Go.Proofs.YthhbdbeglmkijaaGreatDoor.livePools
open Go.Fw
theorem own:ownKnob Tryz.prog.godebug=none:=by kernel_rfl
theorem laidOut:laidOutB Tryz.prog=ze:=by kernel_rfl
abbrev stateSh:Sh:=.pair (.int .i64) (.pair (.pair (.sl 2 (.pair (.int .i64) (.pair (.int .i64) .unit))) .unit) (.pair (.pair (.sl 1 (.int .u32)) .unit) (.pair (.pair (.sl 4 (.pair (.int .i64) (.pair (.int .i64) (.pair (.int .i64) (.pair (.int .i64) .unit))))) (.pair (.sl 4 (.pair (.int .i64) (.pair (.int .i64) (.pair (.pair (.int .u32) (.pair (.int .u32) .unit)) .unit)))) .unit)) (.pair (.pair (.sl 2 (.pair (.int .i64) (.pair (.sl 1 (.int .i64)) .unit))) .unit) (.pair (.sl 11 (.pair (.int .i64) (.pair (.pair (.int .i64) (.pair (.int .i64) (.pair (.int .u32) (.pair (.int .i64) .unit)))) (.pair (.pair (.pair (.int .u64) (.pair (.int .u64) .unit)) (.pair (.int .u64) .unit)) (.pair (.int .u64) (.pair (.int .i64) (.pair (.int .i64) .unit))))))) (.pair (.sl 2 (.pair (.int .i64) (.pair (.int .i64) .unit))) (.pair (.pair (.sl 5 (.pair (.int .i64) (.pair (.int .i64) (.pair (.int .i64) (.pair .bool (.pair .bool .unit)))))) .unit) (.pair (.pair (.pair (.int .i64) (.pair (.sl 2 (.pair (.int .i64) (.pair (.int .i64) .unit))) .unit)) (.pair (.sl 3 (.pair (.int .i64) (.pair (.int .i64) (.pair (.int .i64) .unit)))) .unit)) (.pair (.sl 2 (.pair (.int .i64) (.pair (.int .i64) .unit))) (.pair (.int .u64) .unit))))))))))
abbrev sh:Sh:=.pair stateSh (.pair (.int .i64) (.pair (.int .u32) .unit))
noncomputable def stateOf(x:stateSh.den):Za:=
 ⟨x.1,
  x.2.1.1.1,λi=>let y:=x.2.1.1.2 i;⟨y.1,y.2.1⟩,
  x.2.2.1.1.1,λi=>⟨x.2.2.1.1.2 i⟩,
  x.2.2.2.1.1.1,λi=>let y:=x.2.2.2.1.1.2 i;⟨y.1,y.2.1,y.2.2.1,y.2.2.2.1⟩,
  x.2.2.2.1.2.1.1,λi=>let y:=x.2.2.2.1.2.1.2 i;⟨y.1,y.2.1,y.2.2.1.1,y.2.2.1.2.1⟩,
  x.2.2.2.2.1.1.1,λi=>let y:=x.2.2.2.2.1.1.2 i;⟨y.1,y.2.1.1,λj=>⟨y.2.1.2 j⟩⟩,
  x.2.2.2.2.2.1.1,λi=>let y:=x.2.2.2.2.2.1.2 i;⟨y.1,y.2.1.1,y.2.1.2.1,y.2.1.2.2.1,y.2.1.2.2.2.1,y.2.2.1.1.1,y.2.2.1.1.2.1,y.2.2.1.2.1,y.2.2.2.1,y.2.2.2.2.1,y.2.2.2.2.2.1⟩,
  x.2.2.2.2.2.2.1.1,λi=>let y:=x.2.2.2.2.2.2.1.2 i;⟨y.1,y.2.1⟩,
  x.2.2.2.2.2.2.2.1.1.1,λi=>let y:=x.2.2.2.2.2.2.2.1.1.2 i;⟨y.1,y.2.1,y.2.2.1,y.2.2.2.1,y.2.2.2.2.1⟩,
  x.2.2.2.2.2.2.2.2.1.1.1,
  x.2.2.2.2.2.2.2.2.1.1.2.1.1,λi=>let y:=x.2.2.2.2.2.2.2.2.1.1.2.1.2 i;⟨y.1,y.2.1⟩,
  x.2.2.2.2.2.2.2.2.1.2.1.1,λi=>let y:=x.2.2.2.2.2.2.2.2.1.2.1.2 i;⟨y.1,y.2.1,y.2.2.1⟩,
  x.2.2.2.2.2.2.2.2.2.1.1,λi=>let y:=x.2.2.2.2.2.2.2.2.2.1.2 i;⟨y.1,y.2.1⟩,
  x.2.2.2.2.2.2.2.2.2.2.1⟩
theorem u32_in{x:Int}(h:(Lit.int .u32 x).wf=ze):inU x:=by
 have h:(decide (IntKind.min .u32<=x)&&decide (x<=IntKind.max .u32))=ze:=h
 simp only[zM,decide_eq_true_eq]at h
 have h1:(0:Int)<=x:=h.1
 have h2:x<=(4294967295:Int):=h.2
 exact⟨h1,by omega⟩
theorem u64_in{x:Int}(h:(Lit.int .u64 x).wf=ze):0<=x:=by
 have h:(decide (IntKind.min .u64<=x)&&decide (x<=IntKind.max .u64))=ze:=h
 simp only[zM,decide_eq_true_eq]at h
 exact h.1
theorem word(x:sh.den)(w:sh.wf x):Zi Tryz.prog 6 (sh.vals x) (.bool ze ze):=
 Zq8 (stateOf x.1) x.2.1 x.2.2.1 (u32_in w.2.2.1) (λj hj=>u32_in (w.1.2.2.1.1.2 j (Nat.lt_of_lt_of_le hj JA.2))) (u64_in w.1.2.2.2.2.2.2.2.2.2.2.1)
theorem contract(H:Type)(enc:TypeId×Value->H)(W:World)(base:Nat)(args:Array Value)(ds gs:List (DataW H))(before:List MemPlace)(hL:laidMetH Tryz.prog Rows.livePoolsRow.laid W)
  (hval:∀(j:Nat) t v,Tryz.f6.params[j]? =some t->args[j]? =some v->Value.okWide Tryz.prog W .any base t v)
  (hW:DataW.Whole enc Tryz.prog Tryz.f6.params.toList Rows.livePoolsSpec.vars za W args.toList ds gs before) :
  Calls Tryz.prog 6 args W λe W'=>∃v,e=.returned v/\Rows.livePoolsSpec.post enc Tryz.prog Tryz.f6 za ze za za W args v W':=
 Zqi (P:=Tryz.prog) (f:=Tryz.f6) (k:=8) (sh:=sh) (tb:=4)
  word (by kernel_rfl) rfl laidOut (by kernel_rfl) (by kernel_rfl) (by kernel_rfl)
  (λds h=>by
   match ds,h with
   |[_,_,_],_=>rfl) (gok_of hL (by kernel_rfl)) hval hW
def setVar(w:World)(g:Nat)(k:IntKind)(zs:List Int):World:=
 { w with heap:=w.heap.modify g λ
   | .cells _ t frozen=>.cells (zs.map (Value.int k)).toArray t frozen
   |o=>o }
noncomputable def Zi0(os:Os):World:=setVar (World.holding Tryz.prog os ⟨#[],#[],[]⟩) 0 .u8 tab0
theorem Zqh(os:Os)(args:Array Value):laidMetH Tryz.prog Rows.livePoolsRow.laid ((Zi0 os).forCall (λ_ _=>0) ⟨#[],args,[]⟩).memory:=by
 have h:laidMet Tryz.prog Rows.livePoolsRow.laid ((Zi0 os).forCall (λ_ _=>0) ⟨#[],args,[]⟩).memory:=laidMet_of_run' 8 (by kernel_rfl) (by kernel_rfl)
 exact h
theorem lifted(os:Os)(started:os.Started)(H:Type)(enc:TypeId×Value->H) :
  ReturnsInHanded {} Tryz.checked os 6 .any (λw args=>(Rows.livePoolsSpec.pre enc Tryz.prog Tryz.f6 [] za w args/\laidMetH Tryz.prog Rows.livePoolsRow.laid w)/\sizedMet enc Tryz.prog Tryz.f6 (OpenSpec.ofChange Rows.livePoolsSpec) za w args)
   (Rows.livePoolsSpec.post enc Tryz.prog Tryz.f6 za ze za za):=by
 refine returnsInHanded_of_change_and (C:=Tryz.checked) (X:=λw _=>laidMetH Tryz.prog Rows.livePoolsRow.laid w) (λ_ _ _ hh h=>h.of_heap hh) own started (by kernel_rfl) Tryz.func6
  (ChangeSpec.witness_at (enc:=enc) (C:=Tryz.checked) (os:=os) (X:=λw _=>laidMetH Tryz.prog Rows.livePoolsRow.laid w) za (Zi0 os) #[.agg #[.int .i64 0,.slice none 0 0,.slice none 0 0,.slice none 0 0,.slice none 0 0,.slice none 0 0,.slice none 0 0,.slice none 0 0,.slice none 0 0,.int .i64 0,.slice none 0 0,.slice none 0 0,.slice none 0 0,.int .u64 0],.int .i64 0,.int .u32 0] 8 rfl (by kernel_rfl) (by kernel_rfl) (by kernel_rfl) (by kernel_rfl) (by kernel_rfl) (Zqh os _)) ?_
 intro W base args ds gs before hval hW _ _ hL _
 exact contract H enc W base args ds gs before hL hval hW
theorem inst:Tryz.f6.isInstance Tryz.prog Rows.livePoolsRow.origin Rows.livePoolsRow.targs:=of_decide_eq_true (by kernel_rfl)
theorem over:Rows.LivePoolsSaid:=
 OpenClaim.holds_of_wide 6 Tryz.f6 rfl rfl rfl rfl rfl rfl rfl ⟨rfl,rfl,rfl,rfl,rfl⟩ rfl rfl rfl rfl rfl (by kernel_rfl) Tryz.func6 closed
  inst (by unfold Func.isWrapper;rw[if_neg (of_decide_eq_false (by kernel_rfl))];exact⟨rfl,rfl⟩)
  (λos started H enc _=>lifted os started H enc)
theorem card_wf:Rows.livePoolsRow.wfByText (OpenSpec.ofChange Rows.livePoolsSpec)=ze:=by kernel_rfl
theorem card_main : Tryz.prog.mainIs=some (ze, "a2370be312af6a977d0fbf92b977490a3ca17cde488074efb6cc373a8fd84295".toList):=by kernel_rfl
theorem Zoh : Tryz.prog.funcNamed "mainsheet/mainsheetlaw24.LivePools" =some 6:=by kernel_rfl
theorem Zog:za=Tryz.prog.looks []:=by kernel_rfl
theorem Zia:Tryz.prog.wantsStandIn 49=za/\Tryz.prog.wantsStandIn 3=za/\Tryz.prog.wantsStandIn 56=za:=⟨by kernel_rfl,by kernel_rfl,by kernel_rfl⟩
theorem card_goes:za=Rows.livePoolsRow.goesBy Tryz.prog:=by kernel_rfl
theorem proved:Rows.LivePoolsCardSaid:=
 Claim7.holds_tied_plain_at .later [] [.data] ze (ze, "a2370be312af6a977d0fbf92b977490a3ca17cde488074efb6cc373a8fd84295") za
  over (λ_ h=>by cases h) card_wf (λ_ h=>by cases h) livePools_row_tie rfl ⟨rfl,rfl⟩ card_main rfl
  (λf fn hf hfn=>by
   obtain rfl:f=6:=Option.some.inj (Zoh.symm.trans hf)|>.symm
   obtain rfl:fn=Tryz.f6:=(Option.some.inj (Tryz.func6.symm.trans hfn)).symm
   exact⟨Zog,λj t ht=>by
    rw[Tryz.params6]at ht
    rcases j with _|_|_|j
    ·have h:t=49:=by simpa using ht.symm
     subst h;exact Zia.1
    ·have h:t=3:=by simpa using ht.symm
     subst h;exact Zia.2.1
    ·have h:t=56:=by simpa using ht.symm
     subst h;exact Zia.2.2
    ·simp at ht⟩)
  card_goes
end Go.Proofs.YthhbdbeglmkijaaGreatDoor.livePools
end
