/- state.Check: its tree. -/
import Derived.Test.YthhbdbeglmkijaaGreatDoorMAl
import Derived.Test.YthhbdbeglmkijaaGreatDoorMAo
import Derived.Test.YthhbdbeglmkijaaGreatDoorMAk
import Derived.Test.YthhbdbeglmkijaaGreatDoorMAg
import Derived.Test.YthhbdbeglmkijaaGreatDoorMAj
set_option maxRecDepth 100000
set_option linter.unusedVariables false
set_option linter.unusedSimpArgs false
noncomputable section
open Bool renaming true→ze,false→za,not_eq_true'→yj,not_eq_false'→yu,and_eq_true→zM,and_eq_false_iff→yF
open Go.Fw.V renaming int→zn,soft→yg,cons→zf,agg→zH,nil→zh,rsl→zl,bool→zC,ptr→zV
open Option renaming some→zk,none→zm
open Int renaming toNat→zi,ofNat→zT
open Nat renaming mul_le_mul_right→yw,zero_add→z8,beq→zo,le_refl→zJ,blt→zG,ble→zK
open Go.Fw.Tree renaming need→zw,leaf→zx,node→zD
open Go.IntKind renaming wrap→zy,i64→zq,bits→zR,u64→yG
open Go.Fw.Blk renaming var→zN
open And renaming intro→zB
open Prod renaming fst→zL,snd→zu
open BitVec renaming toNat→yA,ofInt→zU
open PUnit renaming unit→zY
namespace Go.Proofs.YthhbdbeglmkijaaGreatDoor
open Go.Fw
abbrev chkHk:List Hc:=[⟨34,Zbo⟩,⟨35,ZbV⟩,⟨36,ZbT⟩,⟨37,ZbU⟩,⟨38,ZbS⟩,⟨39,ZbX⟩,⟨40,ZbW⟩]
abbrev chkE:Env:={ (Zp P [] [] ze)with hk:=Wx chkHk }
def kT(K:HK)(args:V)(bl:List Blk):Tree (V×List Blk):=(K args bl).getD .stuck
def chkM(K:HK)(d:Zf)(r:Bool)(next:Tree V):Tree V:=(kT K (.cons (.ptr ze 0 0 0 0) .nil) (YA d)).bind λ_=>.node (bif bif !r then ze else za then ze else za) (.leaf (.int ze .i64 300)) next
theorem chk_tree(a:Za):ZU chkE 400 9 (.cons (.agg (Z9 za a)) .nil)=
  (kT Zbo (.cons (.agg (Z9 za a)) .nil) []).bind λ_=>
   chkM ZbV (Zh a) (Uc (Zh a)) (chkM ZbT (Zh a) (UW (Zh a)) (chkM ZbU (Zh a) (UY (Zh a)) (chkM ZbS (Zh a) (Zat (Zh a)) (chkM ZbX (Zh a) (Vt (Zh a)) (chkM ZbW (Zh a) (Zau (Zh a)) (.leaf (.int ze .i64 0))))))):=by kernel_rfl
theorem Zii(n:Nat)(r:Nat->Z6)(b:Int):0<=VG n r b/\VG n r b<=n/\(Gw n r b=ze->VG n r b<n):=by
 have h:Qw n r b<=n:=Zcm _ _ _ (Nat.zero_le _)
 have e:VG n r b=(Qw n r b:Int):=by
  unfold VG;cases decide (((Qw n r b:Nat):Int)<(n:Int))<;>rfl
 rw[e]
 refine⟨by omega,by omega,λh1=>?_⟩
 unfold Gw at h1
 cases hc:decide (((Qw n r b:Nat):Int)<(n:Int))with
 |true=>exact of_decide_eq_true hc
 |false=>rw[hc]at h1;cases h1
variable{c:Bool}
theorem orF{d:Bool}(h:(bif c then ze else d)=za):c=za/\d=za:=by cases c;exact⟨rfl,h⟩;cases h
theorem Xc{d:Bool}(h:(bif c then d else za)=ze):c=ze/\d=ze:=by cases c;cases h;exact⟨rfl,h⟩
theorem zF{x y:Int}(hx:x≠0)(h:(bif c then x else y)=0):c=za/\y=0:=by cases c;exact⟨rfl,h⟩;exact absurd h hx
theorem nT(h:(!c)=za):c=ze:=by cases c;cases h;rfl
theorem dc1_pool(a:Ze)(k:Nat)(h:ZfE a k=za):0<=(a.r0 k).f3:=by
 have h1:=(orF (nf4 (nf4 (nf4 h)))).1
 have h2:=(Xc (Xc (Xc (Xc (Xc (Xc (Xc (nT h1)).2).2).2).2).2).2).1
 exact of_decide_eq_true h2
theorem Zlv(d:Zf)(k:Nat)(h:JW d k=za):(d.a.r3 k).f3<d.a.n2:=by
 have h1:=of_decide_eq_false (orF h).1
 have h2:¬(d.a.r3 k).f3>=(d.a.n2:Int):=h1
 omega
theorem ZkG{a:Ze}(h:Wu a=0):∀j,j<a.n0->0<=(a.r0 j).f3:=λj hj=>
 dc1_pool a j (XI (nf4 (zF (by decide) (zF (by decide) h).2).1) j hj)
theorem ZpP{a:Zd}(h:Wv a=0):∀j,j<a.n0->Uv (a.r0 j).n1 (a.r0 j).r1=ze:=λj hj=>by
 have h1:=XI (nf4 (zF (by decide) h).1) j hj
 exact nT (orF (orF (nf4 (orF h1).1)).2).2
theorem eqT{x y:Int}(h:(x==y)=ze):x=y:=by simpa using h
theorem fT{d:Bool}(h:(bif c then za else d)=ze):c=za/\d=ze:=by cases c;exact⟨rfl,h⟩;cases h
variable{n:Nat}
theorem Zlg{r:Nat->DT3}(h:Uv n r=ze):0<n/\n<=8:=by
 have h1:=Xc (fT h).2
 have h2:(n:Int)>=2:=of_decide_eq_true h1.1
 have h3:(n:Int)<=8:=of_decide_eq_true h1.2
 omega
theorem ec1_ge(a:YS):∀k:Nat,0<=Za4 a k:=by
 intro k
 induction k with
 |zero=>exact Int.le_refl _
 |succ k ih=>
  show 0<=ZkS a k (Za4 a k)
  generalize Za4 a k=z at ih⊢
  have e:∀c:Bool,(c=za->z<(a.r0 k).f0)->0<=(bif c then z else(a.r0 k).f0):=λc hc=>by
   cases c
   ·have:=hc rfl;show 0<=(a.r0 k).f0;omega
   ·exact ih
  refine e _ λh=>?_
  have h1:=of_decide_eq_false (orF (nf4 (nf4 h))).1
  have h2:¬(a.r0 k).f0<=z:=h1
  omega
theorem Zo1{a:YS}(h:GI a=0):∀j,j<a.n0->1<=(a.r0 j).f0/\(a.r0 j).f0<=32:=λj hj=>by
 have h1:=XI (nf4 (zF (by decide) h).1) j hj
 have h2:=orF (nf4 (nf4 (nf4 h1)))
 have h3:¬(a.r0 j).f0<=Za4 a j:=of_decide_eq_false h2.1
 have h4:¬(a.r0 j).f0>32:=of_decide_eq_false (orF h2.2).1
 have h5:=ec1_ge a j
 omega
theorem ZkH{a:Ze}(h:Wu a=0)(h1:0<a.n1):0<a.n0:=by
 have h2:=XI (nf4 (zF (by decide) (zF (by decide) (zF (by decide) h).2).2).1) 0 h1
 have h3:=(orF (orF (orF (nf4 (nf4 (nf4 h2)))).2).2).2
 have h4:=(Zii a.n0 (λj=>YT (Zr za (a.r0 j))) (a.r1 0).f1).2.2 (nT h3)
 have h5:=(Zii a.n0 (λj=>YT (Zr za (a.r0 j))) (a.r1 0).f1).1
 omega
variable{d:Zf}
theorem Zjk(h:UY d=ze):d.a.n6=d.a.n4:=by
 have:=nf5 (fT h).1
 omega
theorem ZiR(h:UW d=ze):d.a.n7=d.a.n3/\∀j,j<d.a.n3->(d.a.r3 j).f3<d.a.n2:=by
 have h1:=fT h
 have h2:=nf3 h1.1
 exact⟨by omega,λj hj=>Zlv d j (XI (nf4 (fT h1.2).1) j hj)⟩
theorem ZbB(h:Uc d=ze):Wu ⟨d.a.n3,d.a.r3,d.a.n4,d.a.r4⟩=0/\Wv ⟨d.a.n5,d.a.r5⟩=0/\GI ⟨d.a.n8,d.a.r8⟩=0:=by
 have h1:=Xc h
 have h2:=Xc h1.2
 exact⟨eqT (Xc (Xc (Xc h1.1).2).2).2,eqT h2.1,eqT (Xc h2.2).1⟩
theorem put_ix{h:Int->Bool}{g:Int->Int}{id v:Int}{p:Int->Prop}(hi:∀j,h j=ze->p (g j))(hv:p v):∀j,(bif j==id then ze else h j)=ze->p (bif j==id then v else g j):=by
 intro j hj
 cases e:(j==id)with
 |true=>exact hv
 |false=>rw[e]at hj;exact hi j hj
theorem lk1_ix(a:Za):∀k:Nat,∀j,(X6 a k).1 j=ze->0<=(X6 a k).2 j/\(X6 a k).2 j<k:=by
 intro k
 induction k with
 |zero=>intro j h;cases h
 |succ k ih=>
  show ∀j,(Zad a k (X6 a k)).1 j=ze->0<=(Zad a k (X6 a k)).2 j/\(Zad a k (X6 a k)).2 j<(k+1:Nat)
  generalize X6 a k=z at ih⊢
  exact put_ix (p:=λx=>0<=x/\x<((k+1:Nat):Int)) (λj hj=>by have:=ih j hj;omega) (by omega)
theorem lk3_ix(a:Za):∀k:Nat,∀j,(Xn a k).1 j=ze->0<=(Xn a k).2 j/\(Xn a k).2 j<k:=by
 intro k
 induction k with
 |zero=>intro j h;cases h
 |succ k ih=>
  show ∀j,(Zdk a k (Xn a k)).1 j=ze->0<=(Zdk a k (Xn a k)).2 j/\(Zdk a k (Xn a k)).2 j<(k+1:Nat)
  generalize Xn a k=z at ih⊢
  exact put_ix (p:=λx=>0<=x/\x<((k+1:Nat):Int)) (λj hj=>by have:=ih j hj;omega) (by omega)
theorem lk4_ix(a:Za)(h3:0<a.n3):∀k:Nat,∀j,(Jo a k).1 j=ze->0<=(Jo a k).2 j/\(Jo a k).2 j<a.n3:=by
 intro k
 induction k with
 |zero=>intro j h;cases h
 |succ k ih=>
  show ∀j,(Zdm a k (Jo a k)).1 j=ze->0<=(Zdm a k (Jo a k)).2 j/\(Zdm a k (Jo a k)).2 j<a.n3
  generalize Jo a k=z at ih⊢
  refine put_ix (p:=λx=>0<=x/\x<(a.n3:Int)) ih ?_
  have h:=lk3_ix a a.n3 (a.r4 k).f1
  cases e:(Xn a a.n3).1 (a.r4 k).f1 with
  |true=>
   have:=h e
   show 0<=(bif (Xn a a.n3).1 (a.r4 k).f1 then(Xn a a.n3).2 (a.r4 k).f1 else 0)/\(bif (Xn a a.n3).1 (a.r4 k).f1 then(Xn a a.n3).2 (a.r4 k).f1 else 0)<(a.n3:Int)
   rw[e];exact this
  |false=>
   show 0<=(bif (Xn a a.n3).1 (a.r4 k).f1 then(Xn a a.n3).2 (a.r4 k).f1 else 0)/\(bif (Xn a a.n3).1 (a.r4 k).f1 then(Xn a a.n3).2 (a.r4 k).f1 else 0)<(a.n3:Int)
   rw[e];exact⟨Int.le_refl _,by show(0:Int)<a.n3;omega⟩
theorem Zdo(a:Za):∀j:Int,(Zh a).oh j=ze->0<=(Zh a).og j/\(Zh a).og j<(Zh a).a.n6:=lk1_ix a a.n6
theorem look_HH(a:Za)(h3:0<a.n3):∀j:Int,0<=(bif (Zh a).hh j then(Zh a).hg j else 0)/\(bif (Zh a).hh j then(Zh a).hg j else 0)<(Zh a).a.n3:=by
 intro j
 have h:=lk4_ix a h3 a.n4 j
 show 0<=(bif (Jo a a.n4).1 j then(Jo a a.n4).2 j else 0)/\(bif (Jo a a.n4).1 j then(Jo a a.n4).2 j else 0)<(a.n3:Int)
 cases e:(Jo a a.n4).1 j with
 |true=>exact h e
 |false=>exact⟨Int.le_refl _,by show(0:Int)<a.n3;omega⟩
theorem ZaY{K:HK}{r:Bool}{next:Tree V}{Q:V->Prop}{x:V×List Blk}(hK:(kT K (.cons (.ptr ze 0 0 0 0) .nil) (YA d)).holds P λ_=>True)(hf:r=za->Q (.int ze .i64 300))(ht:r=ze->next.holds P Q):(chkM K d r next).holds P Q:=by
 unfold chkM
 rw[Tree.YC]
 refine Tree.XT _ (λy _=>?_) hK
 refine⟨λh=>hf ?_,λh=>ht ?_⟩
 ·cases r
  ·rfl
  ·cases h
 ·cases r
  ·cases h
  ·rfl
theorem Zq3(d:Zf)(h0:d.a.n1<=9)(h1:d.a.n2<=5)(h2:d.a.n3<=1000)(h3:d.a.n4<=1000)(h4:d.a.n5<=1000)(h5:d.a.n8<=1000)(h6:d.a.n10<=1000)(h7:d.a.n11<=1000)(h8:∀j,(d.a.r5 j).n1<=1000):(kT ZbV (.cons (.ptr ze 0 0 0 0) .nil) (YA d)).holds P λ_=>True:=by
 unfold kT ZbV YA
 simp only[Option.getD_some,V.JU]
 exact⟨⟨⟨by kernel_rfl,λ_=>⟨rfl,rfl⟩,λ_=>⟨rfl,rfl⟩,λ_=>⟨rfl,rfl⟩⟩,h0,h1,h2,h3,h4,h5,h6,h7,h8⟩,trivial⟩
theorem Zp0(d:Zf)(h0:d.a.n1<=9)(h1:d.a.n2<=5)(h2:d.a.n3<=1000)(h3:d.a.n4<=1000)(h4:0<d.a.n4->∀j:Int,0<=(bif d.hh j then d.hg j else 0)/\(bif d.hh j then d.hg j else 0)<d.a.n3)(h5:Zv (JW d) d.a.n3=za->0<d.a.n4->∀j:Int,0<=(d.a.r3 (bif d.hh j then d.hg j else 0).toNat).f3/\(d.a.r3 (bif d.hh j then d.hg j else 0).toNat).f3<d.a.n2):(kT ZbT (.cons (.ptr ze 0 0 0 0) .nil) (YA d)).holds P λ_=>True:=by
 unfold kT ZbT YA
 simp only[Option.getD_some,V.JU]
 exact⟨⟨⟨by kernel_rfl,λ_=>⟨rfl,rfl⟩,λ_=>⟨rfl,rfl⟩,λ_=>⟨rfl,rfl⟩⟩,h0,h1,h2,h3,h4,h5⟩,trivial⟩
theorem ZqP(d:Zf)(h0:d.a.n3<=1000)(h1:d.a.n4<=1000)(h2:0<d.a.n4->∀j:Int,0<=(bif d.hh j then d.hg j else 0)/\(bif d.hh j then d.hg j else 0)<d.a.n3):(kT ZbU (.cons (.ptr ze 0 0 0 0) .nil) (YA d)).holds P λ_=>True:=by
 unfold kT ZbU YA
 simp only[Option.getD_some,V.JU]
 exact⟨⟨⟨by kernel_rfl,λ_=>⟨rfl,rfl⟩,λ_=>⟨rfl,rfl⟩,λ_=>⟨rfl,rfl⟩⟩,h0,h1,h2⟩,trivial⟩
theorem ZpY(d:Zf)(h0:d.a.n3<=1000)(h1:d.a.n4<=1000)(h2:d.a.n5<=1000)(h3:∀j,j<d.a.n5->0<(d.a.r5 j).n1/\(d.a.r5 j).n1<=8)(h4:∀j,(d.a.r5 j).n1<=1000)(h5:∀j:Int,d.oh j=ze->0<=d.og j/\d.og j<d.a.n6)(h6:d.a.n6=d.a.n4)(h7:0<d.a.n4->∀j:Int,0<=(bif d.hh j then d.hg j else 0)/\(bif d.hh j then d.hg j else 0)<d.a.n3)(h8:0<d.a.n4->∀j:Int,0<=(d.a.r3 (bif d.hh j then d.hg j else 0).toNat).f3/\(d.a.r3 (bif d.hh j then d.hg j else 0).toNat).f3<d.a.n2):(kT ZbS (.cons (.ptr ze 0 0 0 0) .nil) (YA d)).holds P λ_=>True:=by
 unfold kT ZbS YA
 simp only[Option.getD_some,V.JU]
 exact⟨⟨⟨by kernel_rfl,λ_=>⟨rfl,rfl⟩,λ_=>⟨rfl,rfl⟩,λ_=>⟨rfl,rfl⟩⟩,h0,h1,h2,h3,h4,h5,h6,h7,h8⟩,trivial⟩
theorem Zsb(d:Zf)(h0:d.a.n8<=1000)(h1:d.a.n10<=1000)(h2:d.a.n11<=1000)(h3:∀j:Int,d.oh j=ze->0<=d.og j/\d.og j<d.a.n6)(h4:∀j:Nat,j<d.a.n8->1<=(d.a.r8 j).f0/\(d.a.r8 j).f0<=32):(kT ZbX (.cons (.ptr ze 0 0 0 0) .nil) (YA d)).holds P λ_=>True:=by
 unfold kT ZbX YA
 simp only[Option.getD_some,V.JU]
 exact⟨⟨⟨by kernel_rfl,λ_=>⟨rfl,rfl⟩,λ_=>⟨rfl,rfl⟩,λ_=>⟨rfl,rfl⟩⟩,h0,h1,h2,h3,h4⟩,trivial⟩
theorem Zq4(d:Zf)(h0:d.a.n3<=1000)(h1:d.a.n4<=1000)(h2:d.a.n5<=1000)(h3:d.a.n6<=1000)(h4:d.a.n12<=1000)(h5:∀j,(d.a.r5 j).n1<=1000)(h6:∀j:Int,d.oh j=ze->0<=d.og j/\d.og j<d.a.n6)(h7:d.a.n6=d.a.n4)(h8:0<d.a.n4->∀j:Int,0<=(bif d.hh j then d.hg j else 0)/\(bif d.hh j then d.hg j else 0)<d.a.n3)(h9:0<d.a.n4->∀j:Int,0<=(d.a.r3 (bif d.hh j then d.hg j else 0).toNat).f3/\(d.a.r3 (bif d.hh j then d.hg j else 0).toNat).f3<d.a.n2)(h10:d.a.n7=d.a.n3):(kT ZbW (.cons (.ptr ze 0 0 0 0) .nil) (YA d)).holds P λ_=>True:=by
 unfold kT ZbW YA
 simp only[Option.getD_some,V.JU]
 exact⟨⟨⟨by kernel_rfl,λ_=>⟨rfl,rfl⟩,λ_=>⟨rfl,rfl⟩,λ_=>⟨rfl,rfl⟩⟩,h0,h1,h2,h3,h4,h5,h6,h7,h8,h9,h10⟩,trivial⟩
theorem Zqk(a:Za)(h3:a.n3<=1000)(h4:a.n4<=1000)(h6:a.n6<=1000)(h12:a.n12<=1000):(kT Zbo (.cons (.agg (Z9 za a)) .nil) []).holds P λ_=>True:=by
 unfold kT Zbo
 exact⟨⟨by kernel_rfl,h3,h4,h6,h12⟩,trivial⟩
def ZK(a:Za):Int:=bif Uc (Zh a)then(bif UW (Zh a)then(bif UY (Zh a)then(bif Zat (Zh a)then(bif Vt (Zh a)then(bif Zau (Zh a)then 0 else 300)else 300)else 300)else 300)else 300)else 300
theorem chk_ok:chkE.Ok:=(ZC hm hn (l:=[]) trivial (ls:=[]) trivial ze).KJ (l:=chkHk) ⟨look_ok,vParts_ok,ZrU,vOwned_ok,ZrQ,Zr5,ZrZ,trivial⟩
theorem chk_meets(a:Za)(h1:a.n1<=9)(h2:a.n2<=5)(h3:a.n3<=1000)(h4:a.n4<=1000)(h5:a.n5<=1000)(h6:a.n6<=1000)(h8:a.n8<=1000)(h10:a.n10<=1000)(h11:a.n11<=1000)(h12:a.n12<=1000)(hM:∀j,(a.r5 j).n1<=1000) :
  Zi P 9 (.cons (.agg (Z9 za a)) .nil) (.int za .i64 (ZK a)):=by
 refine meets chk_ok 400 (Has.of hn Tryz.func9 rfl) (chk_tree a) ?_
 rw[Tree.YC]
 refine Tree.XT _ (λy _=>?_) (Zqk a h3 h4 h6 h12)
 have bad:∀x:Int,x=300->ZK a=x->(zn ze .i64 300).soft.clean=ze/\(zn ze .i64 300).soft=(zn za .i64 (ZK a)).soft:=λx hx e=>⟨rfl,by rw[e,hx];rfl⟩
 refine ZaY (x:=(.nil,[])) (Zq3 _ h1 h2 h3 h4 h5 h8 h10 h11 hM) (λe1=>bad _ rfl (by unfold ZK;rw[e1];rfl)) λe1=>?_
 obtain⟨pd,pg,pe⟩:=ZbB e1
 have hHH:0<a.n4->∀j:Int,0<=(bif (Zh a).hh j then(Zh a).hg j else 0)/\(bif (Zh a).hh j then(Zh a).hg j else 0)<(Zh a).a.n3:=λhn4=>look_HH a (ZkH pd hn4)
 have hP0:(∀j,j<a.n3->(a.r3 j).f3<a.n2)->0<a.n4->∀j:Int,0<=(a.r3 (bif (Zh a).hh j then(Zh a).hg j else 0).toNat).f3/\(a.r3 (bif (Zh a).hh j then(Zh a).hg j else 0).toNat).f3<a.n2:=λhp hn4 j=>by
  have hj:=hHH hn4 j
  have hj2:(bif (Zh a).hh j then(Zh a).hg j else 0)<(a.n3:Int):=hj.2
  have hlt:(bif (Zh a).hh j then(Zh a).hg j else 0).toNat<a.n3:=by have:=hj.1;omega
  exact⟨ZkG pd _ hlt,hp _ hlt⟩
 refine ZaY (x:=(.nil,[])) (Zp0 _ h1 h2 h3 h4 hHH (λhb=>hP0 λj hj=>Zlv (Zh a) j (XI hb j hj))) (λe2=>bad _ rfl (by unfold ZK;rw[e1,e2];rfl)) λe2=>?_
 obtain⟨hD,hpool⟩:=ZiR e2
 have hP:=hP0 hpool
 refine ZaY (x:=(.nil,[])) (ZqP _ h3 h4 hHH) (λe3=>bad _ rfl (by unfold ZK;rw[e1,e2,e3];rfl)) λe3=>?_
 have h64:=Zjk e3
 refine ZaY (x:=(.nil,[])) (ZpY _ h3 h4 h5 (λj hj=>Zlg (ZpP pg j hj)) hM (Zdo a) h64 hHH hP) (λe4=>bad _ rfl (by unfold ZK;rw[e1,e2,e3,e4];rfl)) λe4=>?_
 refine ZaY (x:=(.nil,[])) (Zsb _ h8 h10 h11 (Zdo a) (Zo1 pe)) (λe5=>bad _ rfl (by unfold ZK;rw[e1,e2,e3,e4,e5];rfl)) λe5=>?_
 refine ZaY (x:=(.nil,[])) (Zq4 _ h3 h4 h5 h6 h12 hM (Zdo a) h64 hHH hP hD) (λe6=>bad _ rfl (by unfold ZK;rw[e1,e2,e3,e4,e5,e6];rfl)) λe6=>?_
 exact⟨rfl,by unfold ZK;rw[e1,e2,e3,e4,e5,e6];rfl⟩
def small(a:Za):Prop:=a.n1<=9/\a.n2<=5/\a.n3<=1000/\a.n4<=1000/\a.n5<=1000/\a.n6<=1000/\a.n8<=1000/\a.n10<=1000/\a.n11<=1000/\a.n12<=1000/\∀j,(a.r5 j).n1<=1000
def U9(ck:Za->Int):Con:=Yh 9 (λx=>.cons (.agg (Z9 za (Z4 x.hd.inner))) .nil) (λx=>.int za .i64 (ck (Z4 x.hd.inner))) (λx=>small (Z4 x.hd.inner))
theorem ZhN:(U9 ZK).Ok P:=Yi λx h=>chk_meets _ h.1 h.2.1 h.2.2.1 h.2.2.2.1 h.2.2.2.2.1 h.2.2.2.2.2.1 h.2.2.2.2.2.2.1 h.2.2.2.2.2.2.2.1 h.2.2.2.2.2.2.2.2.1 h.2.2.2.2.2.2.2.2.2.1 h.2.2.2.2.2.2.2.2.2.2
def Zgm(a:Za)(d:Zf):HK:=λargs bl=>match args,bl with
 | .cons (.agg c) .nil,[]=>zk (.need (c.soft=Z9 za a) (.leaf (.ptr ze 0 0 0 0,YA d)))
 |_,_=>zm
theorem lookK1_ok(a:Za)(h3:a.n3<=1000)(h4:a.n4<=1000)(h6:a.n6<=1000)(h12:a.n12<=1000):Xj P 34 (Zgm a (Zh a)):=by
 intro args bl T hT
 unfold Zgm at hT
 split at hT
 ·rename_i c
  injection hT with hT
  subst hT
  intro base mm F w xs Q KK h1 h2 hq hk
  obtain⟨hc,hq⟩:=hq
  have h2':=((Y0 (.cons (.agg c) .nil) 0 mm).2 xs.toList).2 h2
  rw[show yg (.cons (.agg c) .nil)=.cons (.agg c.soft) .nil from rfl,hc]at h2'
  exact look_at _ h3 h4 h6 h12 base mm F w xs Q KK h1 h2' hq hk
 ·cases hT
abbrev askE(ck:Za->Int)(a:Za)(d:Zf):Env:={ (Zp P [U9 ck] [] ze)with hk:=Wx [⟨34,Zgm a d⟩] }
theorem askE_ok(a:Za)(h:small a):(askE ZK a (Zh a)).Ok:=(ZC hm hn (l:=[U9 ZK]) ⟨ZhN,trivial⟩ (ls:=[]) trivial ze).KJ (l:=[⟨34,Zgm a (Zh a)⟩]) ⟨lookK1_ok a h.2.2.1 h.2.2.2.1 h.2.2.2.2.2.1 h.2.2.2.2.2.2.2.2.2.1,trivial⟩
theorem on_tree(ck:Za->Int)(a:Za)(b:Int)(d:Zf):ZU (askE ck a d) 400 14 (.cons (.agg (Z9 za a)) (.cons (.int za .i64 b) .nil))=
  .need (Z9 za a=Z9 za a) (.need ((!d.nh b)=za->zf (zH (Z9 za a)) zh=zf (zH (Z9 za a)) zh/\small a)
   (.node (bif bif !d.nh b then ze else ck a != (0:Int)then ze else za) (.leaf (.tup (.cons (.int ze .i64 0) (.cons (.bool ze za) .nil))))
    (.leaf (.tup (.cons (.int za .i64 (bif d.nh b then d.ng b else 0)) (.cons (.bool ze ze) .nil)))))):=by kernel_rfl
def KA(a:Za)(b:Int):Bool:=(Zh a).nh b&&(ZK a==0)
def V3(a:Za)(b:Int):Int:=bif KA a b then(Zh a).ng b else 0
theorem on_meets(a:Za)(b:Int)(h:small a):Zi P 14 (.cons (.agg (Z9 za a)) (.cons (.int za .i64 b) .nil)) (.tup (.cons (.int za .i64 (V3 a b)) (.cons (.bool za (KA a b)) .nil))):=by
 refine meets (askE_ok a h) 400 (Has.of hn Tryz.func14 rfl) (on_tree ZK a b (Zh a)) ?_
 refine⟨rfl,λ_=>⟨rfl,h⟩,λhb=>?_,λhb=>?_⟩
 ·have e:KA a b=za:=by
   unfold KA
   cases h1:(Zh a).nh b with
   |false=>rfl
   |true=>
    rw[h1]at hb
    cases h2:(ZK a==0)with
    |false=>rfl
    |true=>
     have h3:(ZK a != 0)=za:=by rw[bne,h2];rfl
     rw[h3]at hb;cases hb
  exact⟨rfl,by unfold V3;rw[e];rfl⟩
 ·have h0:=nf4 hb
  have h1:=orF h0
  have h2:=nT h1.1
  have h3:(ZK a==0)=ze:=by
   have h4:=h1.2
   rw[bne]at h4
   exact nT h4
  have e:KA a b=ze:=by unfold KA;rw[h2,h3];rfl
  exact⟨rfl,by unfold V3;rw[e,h2];rfl⟩
def Q5(a:YD):Bool:=(ZjH a).toBool
def ZeD(a:QK):Bool:=(bDry_V a).toBool
def Gp(wr:YD->Bool):Con:=QA 15 (.cons (.agg ZgW) .nil) (λx=>ze) (λx=>.bool za (wr (QB x.hd.inner))) (λx=>(.cons (.agg (XC ze (QB x.hd.inner))) .nil)) (λx=>True)
theorem Zkv:(Gp Q5).Ok P:=ZaU
def cutI(m:Int)(n:Nat):Int:=if m<(n:Int)then m else(n:Int)
def Yp(m:Int)(n:Nat):Nat:=zi (cutI m n)
variable{m:Nat}
theorem JA:Yp m n<=m/\Yp m n<=n:=by
 unfold Yp cutI
 split<;>omega
theorem ZkF:(0:Int)<=cutI m n/\cutI m n<=(n:Int):=by
 unfold cutI
 split<;>omega
theorem ZkE{b:Nat}(h:m*b<=140737488355328/\m<=1000):fits (Yp m n-0) b:=by
 have h1:Yp m n-0<=m:=JA.1
 exact⟨Nat.le_trans (yw b h1) h.1,by omega⟩
def cutT(m:Int)(n es b:Nat)(c:Nat->V):Tree V:=.need ((0:Int)<=cutI m n/\cutI m n<=(n:Int)) (.need (True/\fits (Yp m n-0) b/\∀(j:Nat),j<Yp m n-0->(c (0+j)).Y6=ze/\(c (0+j)).clean=ze)
 (.need (0+(Yp m n-0)<=Yp m n-0) (.leaf (.rsl za es (Yp m n-0) λj=>c (0+(0+j))))))
abbrev cutE:Env:=Zp P [] [] ze
theorem KP{g:FuncId}{args:V}(m:Nat){es b:Nat}{c:Nat->V}(hh:Has P g)(hT:ZU cutE 400 g args=cutT m n es b c)(hb:m*b<=140737488355328/\m<=1000)(hc:∀j,(c j).Y6=ze/\(c j).clean=ze):Zi P g args (.rsl za es (Yp m n) c):=by
 refine meets (ZC hm hn (l:=[]) trivial (ls:=[]) trivial ze) 400 hh hT ?_
 refine⟨ZkF,⟨trivial,ZkE hb,λj _=>hc _⟩,Nat.le_of_eq (z8 _),rfl,?_⟩
 show zl za es _ _=zl za es _ _
 simp only[z8,Nat.sub_zero]
theorem ZoB(n:Nat)(r:Nat->K9):Zi P 22 (.cons (.rsl za 2 n λj=>ZR za (r j)) (.cons (.int za .i64 9) .nil)) (.rsl za 2 (Yp 9 n) λj=>ZR za (r j)):=KP 9 (Has.of hn Tryz.func22 rfl) (b:=16) (by kernel_rfl) (by decide) λ_=>⟨rfl,rfl⟩
def ZhO:Con:=Yh 22 (λx=>.cons (.rsl za 2 x.hd.Zy λj=>ZR za (Jl (x.hd.ZB j))) (.cons (.int za .i64 9) .nil)) (λx=>.rsl za 2 (Yp 9 x.hd.Zy) λj=>ZR za (Jl (x.hd.ZB j))) (λ_=>True)
theorem ZnW:ZhO.Ok P:=Yi λx _=>ZoB _ _
theorem ZoC(n:Nat)(r:Nat->Zq):Zi P 23 (.cons (.rsl za 1 n λj=>ZL za (r j)) (.cons (.int za .i64 5) .nil)) (.rsl za 1 (Yp 5 n) λj=>ZL za (r j)):=KP 5 (Has.of hn Tryz.func23 rfl) (b:=4) (by kernel_rfl) (by decide) λ_=>⟨rfl,rfl⟩
def ZhP:Con:=Yh 23 (λx=>.cons (.rsl za 1 x.hd.Zy λj=>ZL za (Yq (x.hd.ZB j))) (.cons (.int za .i64 5) .nil)) (λx=>.rsl za 1 (Yp 5 x.hd.Zy) λj=>ZL za (Yq (x.hd.ZB j))) (λ_=>True)
theorem ZnX:ZhP.Ok P:=Yi λx _=>ZoC _ _
theorem ZoD(n:Nat)(r:Nat->Z6):Zi P 24 (.cons (.rsl za 4 n λj=>Zr za (r j)) (.cons (.int za .i64 9) .nil)) (.rsl za 4 (Yp 9 n) λj=>Zr za (r j)):=KP 9 (Has.of hn Tryz.func24 rfl) (b:=32) (by kernel_rfl) (by decide) λ_=>⟨rfl,rfl⟩
def ZhQ:Con:=Yh 24 (λx=>.cons (.rsl za 4 x.hd.Zy λj=>Zr za (YT (x.hd.ZB j))) (.cons (.int za .i64 9) .nil)) (λx=>.rsl za 4 (Yp 9 x.hd.Zy) λj=>Zr za (YT (x.hd.ZB j))) (λ_=>True)
theorem ZnY:ZhQ.Ok P:=Yi λx _=>ZoD _ _
theorem ZoE(n:Nat)(r:Nat->ZJ):Zi P 25 (.cons (.rsl za 4 n λj=>Zn za (r j)) (.cons (.int za .i64 17) .nil)) (.rsl za 4 (Yp 17 n) λj=>Zn za (r j)):=KP 17 (Has.of hn Tryz.func25 rfl) (b:=24) (by kernel_rfl) (by decide) λ_=>⟨rfl,rfl⟩
def ZhR:Con:=Yh 25 (λx=>.cons (.rsl za 4 x.hd.Zy λj=>Zn za (Yk (x.hd.ZB j))) (.cons (.int za .i64 17) .nil)) (λx=>.rsl za 4 (Yp 17 x.hd.Zy) λj=>Zn za (Yk (x.hd.ZB j))) (λ_=>True)
theorem ZnZ:ZhR.Ok P:=Yi λx _=>ZoE _ _
theorem ZoF(n:Nat)(r:Nat->Xi):Zi P 27 (.cons (.rsl za 5 n λj=>ZI za (r j)) (.cons (.int za .i64 33) .nil)) (.rsl za 5 (Yp 33 n) λj=>ZI za (r j)):=KP 33 (Has.of hn Tryz.func27 rfl) (b:=32) (by kernel_rfl) (by decide) λ_=>⟨rfl,rfl⟩
def ZhS:Con:=Yh 27 (λx=>.cons (.rsl za 5 x.hd.Zy λj=>ZI za (Ww (x.hd.ZB j))) (.cons (.int za .i64 33) .nil)) (λx=>.rsl za 5 (Yp 33 x.hd.Zy) λj=>ZI za (Ww (x.hd.ZB j))) (λ_=>True)
theorem Zn0:ZhS.Ok P:=Yi λx _=>ZoF _ _
theorem ZoG(n:Nat)(r:Nat->DT3):Zi P 28 (.cons (.rsl za 1 n λj=>ZP za (r j)) (.cons (.int za .i64 17) .nil)) (.rsl za 1 (Yp 17 n) λj=>ZP za (r j)):=KP 17 (Has.of hn Tryz.func28 rfl) (b:=8) (by kernel_rfl) (by decide) λ_=>⟨rfl,rfl⟩
def Zcp:Con:=Yh 28 (λx=>.cons (.rsl za 1 x.hd.Zy λj=>ZP za (ZM (x.hd.ZB j))) (.cons (.int za .i64 17) .nil)) (λx=>.rsl za 1 (Yp 17 x.hd.Zy) λj=>ZP za (ZM (x.hd.ZB j))) (λ_=>True)
theorem Zke:Zcp.Ok P:=Yi λx _=>ZoG _ _
theorem ZoH(n:Nat)(r:Nat->YZ):Zi P 29 (.cons (.rsl za 3 n λj=>Zx za (r j)) (.cons (.int za .i64 17) .nil)) (.rsl za 3 (Yp 17 n) λj=>Zx za (r j)):=KP 17 (Has.of hn Tryz.func29 rfl) (b:=24) (by kernel_rfl) (by decide) λ_=>⟨rfl,rfl⟩
def ZhT:Con:=Yh 29 (λx=>.cons (.rsl za 3 x.hd.Zy λj=>Zx za (Ya (x.hd.ZB j))) (.cons (.int za .i64 17) .nil)) (λx=>.rsl za 3 (Yp 17 x.hd.Zy) λj=>Zx za (Ya (x.hd.ZB j))) (λ_=>True)
theorem Zn1:ZhT.Ok P:=Yi λx _=>ZoH _ _
theorem ZoI(n:Nat)(r:Nat->JK):Zi P 30 (.cons (.rsl za 2 n λj=>ZE za (r j)) (.cons (.int za .i64 33) .nil)) (.rsl za 2 (Yp 33 n) λj=>ZE za (r j)):=KP 33 (Has.of hn Tryz.func30 rfl) (b:=16) (by kernel_rfl) (by decide) λ_=>⟨rfl,rfl⟩
def ZhU:Con:=Yh 30 (λx=>.cons (.rsl za 2 x.hd.Zy λj=>ZE za (QS (x.hd.ZB j))) (.cons (.int za .i64 33) .nil)) (λx=>.rsl za 2 (Yp 33 x.hd.Zy) λj=>ZE za (QS (x.hd.ZB j))) (λ_=>True)
theorem Zn2:ZhU.Ok P:=Yi λx _=>ZoI _ _
theorem ZoJ(n:Nat)(r:Nat->Zj):Zi P 31 (.cons (.rsl za 11 n λj=>Zo za (r j)) (.cons (.int za .i64 17) .nil)) (.rsl za 11 (Yp 17 n) λj=>Zo za (r j)):=KP 17 (Has.of hn Tryz.func31 rfl) (b:=88) (by kernel_rfl) (by decide) λ_=>⟨rfl,rfl⟩
def ZhV:Con:=Yh 31 (λx=>.cons (.rsl za 11 x.hd.Zy λj=>Zo za (ZV (x.hd.ZB j))) (.cons (.int za .i64 17) .nil)) (λx=>.rsl za 11 (Yp 17 x.hd.Zy) λj=>Zo za (ZV (x.hd.ZB j))) (λ_=>True)
theorem Zn3:ZhV.Ok P:=Yi λx _=>ZoJ _ _
theorem ZoK(n:Nat)(r:Nat->QK):Zi P 32 (.cons (.rsl za 2 n λj=>ZO za (r j)) (.cons (.int za .i64 9) .nil)) (.rsl za 2 (Yp 9 n) λj=>ZO za (r j)):=KP 9 (Has.of hn Tryz.func32 rfl) (b:=16) (by kernel_rfl) (by decide) λ_=>⟨rfl,rfl⟩
def ZhW:Con:=Yh 32 (λx=>.cons (.rsl za 2 x.hd.Zy λj=>ZO za (Qn (x.hd.ZB j))) (.cons (.int za .i64 9) .nil)) (λx=>.rsl za 2 (Yp 9 x.hd.Zy) λj=>ZO za (Qn (x.hd.ZB j))) (λ_=>True)
theorem Zn4:ZhW.Ok P:=Yi λx _=>ZoK _ _
theorem ZoL(n:Nat)(r:Nat->ZA):Zi P 33 (.cons (.rsl za 2 n λj=>Zt za (r j)) (.cons (.int za .i64 9) .nil)) (.rsl za 2 (Yp 9 n) λj=>Zt za (r j)):=KP 9 (Has.of hn Tryz.func33 rfl) (b:=16) (by kernel_rfl) (by decide) λ_=>⟨rfl,rfl⟩
def ZhX:Con:=Yh 33 (λx=>.cons (.rsl za 2 x.hd.Zy λj=>Zt za (Ye (x.hd.ZB j))) (.cons (.int za .i64 9) .nil)) (λx=>.rsl za 2 (Yp 9 x.hd.Zy) λj=>Zt za (Ye (x.hd.ZB j))) (λ_=>True)
theorem Zn5:ZhX.Ok P:=Yi λx _=>ZoL _ _
def ZaX(b:Nat)(d:Za):V:=(.cons (.int za .i64 d.f0) (.cons (.rsl za 2 d.n1 λj=>ZR za (d.r1 j)) (.cons (.rsl za 1 d.n2 λj=>ZL za (d.r2 j)) (.cons (.rsl za 4 d.n3 λj=>Zr za (d.r3 j)) (.cons (.rsl za 4 d.n4 λj=>Zn za (d.r4 j)) (.cons (.osl za b 2 0 d.n5) (.cons (.rsl za 11 d.n6 λj=>Zo za (d.r6 j)) (.cons (.rsl za 2 d.n7 λj=>ZO za (d.r7 j)) (.cons (.rsl za 5 d.n8 λj=>ZI za (d.r8 j)) (.cons (.int za .i64 d.f9) (.cons (.rsl za 2 d.n10 λj=>ZE za (d.r10 j)) (.cons (.rsl za 3 d.n11 λj=>Zx za (d.r11 j)) (.cons (.rsl za 2 d.n12 λj=>Zt za (d.r12 j)) (.cons (.int za .u64 d.f13) .nil))))))))))))))
def UR:V:=(.cons (.int ze .i64 0) (.cons .Zl (.cons .Zl (.cons .Zl (.cons .Zl (.cons .Zl (.cons .Zl (.cons .Zl (.cons .Zl (.cons (.int ze .i64 0) (.cons .Zl (.cons .Zl (.cons .Zl (.cons (.int ze .u64 0) .nil))))))))))))))
abbrev cp_ts(e:Za)(i:Int)(z:Unit):V:=(.cons (.ptr ze 0 0 0 0) (.cons (.ptr ze 1 0 0 0) (.cons (.int za .i64 ((e.n5:Nat):Int)) (.cons (.int za .i64 i) .nil))))
abbrev cp_ys(e:Za)(i:Int)(z:Unit):List Blk:=[.var (ZaX 33 e),.var UR,.arr 2 e.n5 (λj=>Zw za (e.r5 j))]
def cp_R(e:Za)(i:Int)(z:Unit):Tree Rd:=
 let q0:=(e.11 ((0:Nat)+zi i))
 let q1:=(zl za 1 q0.n1 λj=>ci (q0.3 j).f0 zh)
 zw (((0:Int)<=i/\i<((e.n5:Nat):Int))/\(0:Nat)+zi i<e.n5/\(zf q1 zh=zf q1 zh/\q0.n1<=(1000:Nat))/\((0:Int)<=i/\i<((e.n5:Nat):Int))/\(0:Nat)+zi i<e.n5) (zx (Ex.normal,ze,zf (pt 0) (zf (pt 1) (ci ((e.n5:Nat):Int) (ci (zy .i64 (i+(1:Int))) zh))),[zN (ci e.f0 (zf (zl za 2 e.n1 λj=>ZR za (e.3 j)) (zf (zl za 1 e.n2 λj=>zf (zn za .u32 (e.5 j).f0) zh) (zf (zl za 4 e.n3 λj=>Zr za (e.7 j)) (zf (zl za 4 e.n4 λj=>Zn za (e.9 j)) (zf (V.osl za 33 2 0 e.n5) (zf (zl za 11 e.n6 λj=>Zo za (e.13 j)) (zf (zl za 2 e.n7 λj=>ZO za (e.15 j)) (zf (zl za 5 e.n8 λj=>ZI za (e.17 j)) (ci e.f9 (zf (zl za 2 e.n10 λj=>ZE za (e.20 j)) (zf (zl za 3 e.n11 λj=>Zx za (e.22 j)) (zf (zl za 2 e.n12 λj=>Zt za (e.24 j)) (zf (zn za .u64 e.f13) zh)))))))))))))),zN (zf (zn ze .i64 (0:Int)) (zf V.Zl (zf V.Zl (zf V.Zl (zf V.Zl (zf V.Zl (zf V.Zl (zf V.Zl (zf V.Zl (zf (zn ze .i64 (0:Int)) (zf V.Zl (zf V.Zl (zf V.Zl (zf (zn ze .u64 (0:Int)) zh)))))))))))))),Blk.arr 2 e.n5 λj=>bif zo j ((0:Nat)+zi i)then Zw za q0 else Zw za (e.11 j)]))
theorem cp_round(e:Za):Yo P (Zp P [Jz] [] ze) 77 5 44 44 89 [1,2,43,44] [(0,.own),(1,.own),(33,.own)] [] (cp_ts e) (cp_ys e) (λi=>(bif decide (i<((e.n5:Nat):Int))then za else ze)) (.exit 0) (cp_R e):=λB i z=>by kernel_rfl
def cp_lp(e:Za):Lp:=JE 77 5 44 44 89 [1,2,43,44] [(0,.own),(1,.own),(33,.own)] [] (cp_ts e) (cp_ys e) (.exit 0) () (λ_=>()) (e.n5)
def cp_need(e:Za):Prop:=YW 44 [] (cp_ts e) (cp_ys e) () (cp_ts e (0:Nat) ()) (cp_ys e (0:Nat) ())
theorem cp_fit(e:Za):cp_need e:=⟨rfl,⟨Ze0 _,Ze0 _,⟨rfl,rfl,λ_=>rfl⟩,trivial⟩⟩
theorem cp_lp_ok(e:Za)(hl:e.n5<=1000)(hM:∀j,(e.r5 j).n1<=1000):(cp_lp e).Ok P:=by
 refine JY (ZC hm hn (l:=[Jz]) ⟨Zco,trivial⟩ (ls:=[]) trivial ze) rfl (by kernel_rfl) (cp_round e) exN YK (λ_=>rfl) (step:=λ_ z=>z) (rd:=(λ_ t y=>())) (λi z=>rfl) (λi=>rfl) rfl (λi hlt hg=>?_) (λi z hi=>?_)
 ·have hltI:(i:Int)<((e.n5:Nat):Int):=by omega
  refine⟨?_,trivial⟩
  all_goals(repeat'(first|exact rfl|exact λ_=>⟨rfl,rfl⟩|apply zB|intro _))
  all_goals(try simp only[decide_eq_true_eq,decide_eq_false_iff_not,yj,yu]at*)
  all_goals(try simp(disch:=omega) only[IntWalk.i64_in])
  all_goals(first|omega|exact hM _)
 ·have hw:=(IntWalk.i64_in ((i:Int)+1) ⟨by omega,by omega⟩)
  all_goals exact⟨rfl,YL (ts:=cp_ts e) (a:=()) hw rfl,⟨LeK.refl _,LeK.refl _,LeK.QL rfl (λj hj=>congrArg yg (by first|rfl|exact ZaE (c:=Zw za) (r:=e.r5) j)),trivial⟩⟩
def cpy_T(a:Za):Tree (V×List Blk):=
 let q0:=(zl za 1 a.n2 λj=>zf (zn za .u32 (a.5 j).f0) zh)
 let q1:=(zl za 3 a.n11 λj=>Zx za (a.22 j))
 let q2:=(zl za 2 a.n10 λj=>ZE za (a.20 j))
 let q3:=(zl za 2 a.n7 λj=>ZO za (a.15 j))
 let q4:=(zl za 4 a.n3 λj=>Zr za (a.7 j))
 let q5:=(zl za 5 a.n8 λj=>ZI za (a.17 j))
 let q6:=(zl za 2 a.n1 λj=>ZR za (a.3 j))
 let q7:=(zl za 4 a.n4 λj=>Zn za (a.9 j))
 zw (zf q6 zh=zf q6 zh/\a.n1<=(1000:Nat)) (zw (zf q0 zh=zf q0 zh/\a.n2<=(1000:Nat)) (zw (zf q4 zh=zf q4 zh/\a.n3<=(1000:Nat)) (zw (zf q7 zh=zf q7 zh/\a.n4<=(1000:Nat)) (zw (a.n5<=(1000:Nat)/\∀(j:Nat),Zw za (a.11 j)=Zw za (a.11 j)) (zw (zf q5 zh=zf q5 zh/\a.n8<=(1000:Nat)) (zw (cp_need a) (zw (zf q1 zh=zf q1 zh/\a.n11<=(1000:Nat)) (zw (zf q2 zh=zf q2 zh/\a.n10<=(1000:Nat)) (zw (a.n6<=(1000:Nat)/\∀(j:Nat),Zo za (a.13 j)=Zo za (a.13 j)) (zw (zf q3 zh=zf q3 zh/\a.n7<=(1000:Nat)) (zw (a.n12<=(1000:Nat)/\∀(j:Nat),Zt za (a.24 j)=Zt za (a.24 j)) (zx (zH (ci a.f0 (zf q6 (zf q0 (zf q4 (zf q7 (zf (V.osl za 0 2 0 a.n5) (zf (V.osl za 1 11 0 a.n6) (zf q3 (zf q5 (ci a.f9 (zf q2 (zf q1 (zf (V.osl za 2 2 0 a.n12) (zf (zn za .u64 a.f13) zh)))))))))))))),[Blk.arr 2 a.n5 λj=>Zw za (a.11 j),Blk.arr 11 a.n6 λj=>Zo za (a.13 j),Blk.arr 2 a.n12 λj=>Zt za (a.24 j)])))))))))))))
theorem cpy_tree(a:Za):evH { (Zp P [Zfd,Zfa,Zfb,Zff,Zfc,Jz,Ze8,Zfe,Ze9] [cp_lp a] ze)with hk:=Wx [⟨134,Zfv⟩,⟨139,Zfw⟩,⟨141,Zfx⟩] } 400 77 (.cons (.agg (Z9 za a)) .nil) []=cpy_T a:=by kernel_rfl
theorem cpy_at(a:Za)(h0:a.n1<=1000)(h1:a.n2<=1000)(h2:a.n3<=1000)(h3:a.n4<=1000)(h4:a.n5<=1000)(h5:a.n6<=1000)(h6:a.n7<=1000)(h7:a.n8<=1000)(h8:a.n10<=1000)(h9:a.n11<=1000)(h10:a.n12<=1000)(h11:∀j,(a.r5 j).n1<=1000):YG P 77 (.cons (.agg (Z9 za a)) .nil) [] (cpy_T a).bare:=by
 refine Zga (E:={ (Zp P [Zfd,Zfa,Zfb,Zff,Zfc,Jz,Ze8,Zfe,Ze9] [cp_lp a] ze)with hk:=Wx [⟨134,Zfv⟩,⟨139,Zfw⟩,⟨141,Zfx⟩] }) ((ZC hm hn (l:=[Zfd,Zfa,Zfb,Zff,Zfc,Jz,Ze8,Zfe,Ze9]) ⟨ZnT,ZnQ,ZnR,ZnV,ZnS,Zco,ZnO,ZnU,ZnP,trivial⟩ (ls:=[cp_lp a]) ⟨cp_lp_ok a h4 h11,trivial⟩ ze).KJ (l:=[⟨134,Zfv⟩,⟨139,Zfw⟩,⟨141,Zfx⟩]) ⟨clGang_ok,clOwn_ok,clPut_ok,trivial⟩) (cpy_tree a) ?_
 refine⟨?_,⟨?_,⟨?_,⟨?_,⟨?_,⟨?_,⟨?_,⟨?_,⟨?_,⟨?_,⟨?_,⟨?_,trivial⟩⟩⟩⟩⟩⟩⟩⟩⟩⟩⟩⟩
 all_goals(first|exact cp_fit a|((repeat'(first|exact rfl|exact QZ _|exact λ_=>⟨rfl,rfl⟩|exact λ_=>rfl|apply zB|intro _));all_goals(try simp only[decide_eq_true_eq,decide_eq_false_iff_not]at*);all_goals(first|exact h11 _|omega|(simp at*;omega))))
end Go.Proofs.YthhbdbeglmkijaaGreatDoor
namespace Go.Fw
end Go.Fw
namespace Go.Fw
theorem LeK.arrLe{n es k k':Nat}{g g':Nat->V}(hn:k'<=k)(h:∀j,j<k'->(g j).soft=(g' j).soft):LeK n (.arr es k g) (.arr es k' g'):=⟨λe=>(by cases e),λF w m B hb=>by
 rcases hb with⟨h0,h1⟩|⟨b,c,el,k1,k2,k3,k4⟩
 ·exact .inl ⟨by omega,h1⟩
 ·refine .inr ⟨b,c,el,k1,k2,Nat.le_trans (yw _ hn) k3,λj hj=>?_⟩
  obtain⟨xs,hx,hr⟩:=k4 j (by omega)
  have e:=((Y0 (g j) _ _).2 _).2 hx
  rw[h j hj]at e
  exact⟨xs,((Y0 (g' j) _ _).2 _).1 e,hr⟩⟩
def V.okP(es n:Nat):V->Prop
 | .cons a t=>a.okP es n/\t.okP es n
 | .agg cs=>cs.okP es n
 | .osl st b es' i k=>match b with
  |0=>st=za/\es'=es/\i=0/\k<=n
  |_+1=>True
 |v=>v.clean=ze
def V.pubP(get:Nat->V):V->V
 | .cons a t=>.cons (a.pubP get) (t.pubP get)
 | .agg cs=>.agg (cs.pubP get)
 | .osl st b es i k=>match b with
  |0=>.rsl za es k get
  |b+1=>.osl st (b+1) es i k
 |v=>v
def Blk.isArr:Blk->Bool
 | .arr ..=>ze
 |_=>za
theorem YG.pub{P:Program}{g:FuncId}{args v:V}{es n:Nat}{get:Nat->V}{l:List Blk}(H:YG P g args [] (.leaf (v,.arr es n get::l)))(hv:v.okP es n)(hl:∀c∈l,c.isArr=ze):YG P g args [] (.leaf (v.pubP get,.any::l)):=by
 intro base m F w xs Q KK hr ha hq hk
 have hmn:∀b,m b=zm:=λb=>hr.new b (Nat.zero_le _)
 refine H base m F w xs (λr=>r=(v,.arr es n get::l)) KK hr ha rfl ?_
 rintro v' bl' e m' F' w' x hE hR hx
 injection e with e1 e2
 subst e1 e2
 let F2:Nat->Prop:=λB=>F' B\/m' 0=zk B
 let m2:Nat->Option Nat:=λc=>match c with|0=>zm|c+1=>m' (c+1)
 have hfresh:∀b B,m' b=zk B->w.heap.size<=B:=λb B hb=>by
  rcases Nat.lt_or_ge B w.heap.size with h|h
  ·obtain⟨c,hc⟩:=hE.ow.old b B hb h
   rw[hmn c]at hc
   cases hc
  ·exact h
 have hblk:∀c B,m' (c+1)=zk B->∃e' n' g',l.getD c .none=.arr e' n' g':=λc B hc=>by
  have h1:c<l.length:=by
   rcases Nat.lt_or_ge c l.length with h|h
   ·exact h
   ·have:=hR.new (c+1) (by simp only[List.length_cons];omega)
    rw[this]at hc;cases hc
  have h2:=hl (l[c]) (List.getElem_mem h1)
  rw[List.getD_eq_getElem?_getD,List.getElem?_eq_getElem h1,Option.getD_some]
  cases h3:l[c]<;>rw[h3]at h2<;>first|exact⟨_,_,_,rfl⟩|cases h2
 have hne:∀c B,m' (c+1)=zk B->m' 0≠zk B:=λc B hc h0=>by
  obtain⟨e',n',g',h1⟩:=hblk c B hc
  rcases hR.inj 0 (c+1) B h0 hc (by omega)with h|h
  ·cases h
  ·have:l.getD c .none=.any:=h
   rw[h1]at this;cases this
 have mono:∀(v:V),v.clean=ze->(∀x,R F' w' v (l.length+1) m' x->R F2 w' v (l.length+1) m2 x)/\(∀xs,RL F' w' v (l.length+1) m' xs->RL F2 w' v (l.length+1) m2 xs):=λv hc=>by
  have h1:=Qf (F:=F') (w:=w') v hc (l.length+1) 0 m' (λ_=>zm)
  have h2:=XA (F:=F') (F':=F2) (Yt.refl w') (λB h=>.inl h) (λ_ _=>rfl) v 0 0 (λ_=>zm) (λ_=>zm) (zJ _) (λ_ _ _ h=>h)
  have h3:=Qf (F:=F2) (w:=w') v hc 0 (l.length+1) (λ_=>zm) m2
  exact⟨λx hx=>h3.1 x (h2.1 x (h1.1 x hx)),λxs hx=>h3.2 xs (h2.2 xs (h1.2 xs hx))⟩
 have row:∀v,(∀xs,RL F' w' v 0 (λ_=>zm) xs->RL F2 w' v 0 (λ_=>zm) xs):=λv=>(XA (F:=F') (F':=F2) (Yt.refl w') (λB h=>.inl h) (λ_ _=>rfl) v 0 0 (λ_=>zm) (λ_=>zm) (zJ _) (λ_ _ _ h=>h)).2
 have key:∀v:V,v.okP es n->(∀x,R F' w' v (l.length+1) m' x->R F2 w' (v.pubP get) (l.length+1) m2 x)/\(∀xs,RL F' w' v (l.length+1) m' xs->RL F2 w' (v.pubP get) (l.length+1) m2 xs):=by
  intro v
  induction v with
  |cons a t ih1 ih2=>
   intro h
   refine⟨λx hx=>by simp only[R]at hx,λxs hx=>?_⟩
   simp only[V.pubP,RL]at hx⊢
   obtain⟨y,r,e,g1,g2⟩:=hx
   exact⟨y,r,e,(ih1 h.1).1 _ g1,(ih2 h.2).2 _ g2⟩
  |agg cs ih=>
   intro h
   refine⟨λx hx=>?_,λxs hx=>by simp only[RL]at hx⟩
   simp only[V.pubP,R]at hx⊢
   obtain⟨ys,e,g1⟩:=hx
   exact⟨ys,e,(ih h).2 _ g1⟩
  |osl st b es' i k=>
   intro h
   refine⟨λx hx=>?_,λxs hx=>by simp only[RL]at hx⟩
   cases b with
   |zero=>
    obtain⟨rfl,rfl,rfl,hkn⟩:=h
    show R F2 w' (.rsl za es' k get) (l.length+1) m2 x
    rw[YE]at hx
    rw[Wi]
    obtain⟨_,a,cap,rfl,hk1,hrow⟩:=hx
    refine⟨a,cap,rfl,hk1,?_⟩
    rcases hrow with h0|⟨B,c,el,fr,rfl,hB,hcc,hz⟩
    ·exact .inl (by omega)
    have hb:=hR.blk 0 (by simp only[List.length_cons];omega)
    have hb':RB F' w' (l.length+1) m' (.arr es' n get) (m' 0):=hb
    rcases hb' with⟨h0,_⟩|⟨B',c',el',hm,hcell,hz',hall⟩
    ·exact .inl (by omega)
    right
    obtain rfl:B=B':=by rw[hB]at hm;injection hm
    refine⟨B,0,by rw[Nat.zero_mul],.inr hB,c',el',(0,0),hcell,λj hj=>?_⟩
    obtain⟨ys,g1,g2,g3⟩:=hall j (by omega)
    refine⟨ys,row _ _ g1,g2,λq hq=>?_⟩
    rw[z8]
    exact g3 q hq
   |succ b=>
    show R F2 w' (.osl st (b+1) es' i k) (l.length+1) m2 x
    rw[YE]at hx⊢
    exact hx
  |_=>intro h;exact mono _ h
 refine hk _ _ hq m2 F2 w' x ⟨λB hB=>.inl (hE.f B hB),λB hB=>hB.elim (hE.back B) λh=>.inr (hfresh 0 B h),hE.keep,hE.size,hE.sz,⟨hE.ow.un,λb B hb hs=>?_⟩,?_,λb hb=>absurd hb (Nat.not_lt_zero _),hE.calm⟩ ⟨hR.low,λB hB=>hB.elim (hR.fdom B) (hR.dom 0 B),λb hb=>?_,λb B hb=>?_,λb hb=>?_,?_,λb B hb=>?_,λb b' B h1 h2 h3=>?_⟩ ?_
 ·cases b with
  |zero=>cases hb
  |succ b=>exact hE.ow.old (b+1) B hb hs
 ·simp
 ·cases b with
  |zero=>trivial
  |succ b=>
   have h1:=hR.blk (b+1) (by simpa using hb)
   have h2:RB F' w' (l.length+1) m' (l.getD b .none) (m' (b+1)):=h1
   show RB F2 w' (l.length+1) m2 (l.getD b .none) (m' (b+1))
   have h3:b<l.length:=by simpa using hb
   have h4:=hl (l[b]) (List.getElem_mem h3)
   have h5:l.getD b .none=l[b]:=by rw[List.getD_eq_getElem?_getD,List.getElem?_eq_getElem h3,Option.getD_some]
   rw[h5]at h2⊢
   cases h6:l[b]<;>rw[h6]at h2 h4<;>try(cases h4;done)
   rcases h2 with h0|⟨B,c,el,k1,k2,k3,k4⟩
   ·exact .inl h0
   ·exact .inr ⟨B,c,el,k1,k2,k3,λj hj=>by obtain⟨ys,q1,q2,q3⟩:=k4 j hj;exact⟨ys,row _ _ q1,q2,q3⟩⟩
 ·cases b with
  |zero=>cases hb
  |succ b=>exact hR.dom (b+1) B hb
 ·cases b with
  |zero=>rfl
  |succ b=>exact hR.new (b+1) (by simpa using hb)
 ·exact GOk.mono hR.gl (Yt.refl w') (λB h=>.inl h) (λ_ _=>rfl)
 ·cases b with
  |zero=>cases hb
  |succ b=>
   have h1:=hR.own (b+1) B hb
   exact⟨h1.1,λh=>h.elim h1.2 (hne b B hb)⟩
 ·cases b with
  |zero=>cases h1
  |succ b=>cases b' with
   |zero=>cases h2
   |succ b'=>exact hR.inj (b+1) (b'+1) B h1 h2 h3
 ·exact(key _ hv).1 x hx
end Go.Fw
namespace Go.Proofs.YthhbdbeglmkijaaGreatDoor
open Go.Fw
def cpC(d:Za)(x o q:V):V:=(.cons (.int za .i64 d.f0) (.cons (.rsl za 2 d.n1 λj=>ZR za (d.r1 j)) (.cons (.rsl za 1 d.n2 λj=>ZL za (d.r2 j)) (.cons (.rsl za 4 d.n3 λj=>Zr za (d.r3 j)) (.cons (.rsl za 4 d.n4 λj=>Zn za (d.r4 j)) (.cons x (.cons o (.cons (.rsl za 2 d.n7 λj=>ZO za (d.r7 j)) (.cons (.rsl za 5 d.n8 λj=>ZI za (d.r8 j)) (.cons (.int za .i64 d.f9) (.cons (.rsl za 2 d.n10 λj=>ZE za (d.r10 j)) (.cons (.rsl za 3 d.n11 λj=>Zx za (d.r11 j)) (.cons q (.cons (.int za .u64 d.f13) .nil))))))))))))))
def chO(d:Za)(p:Zg)(gu:Ze)(ga:Zd)(no np:Nat)(la:Int)(c:V)(sa:Int):V:=(.cons (.int za .i64 d.f0) (.cons (.rsl za 2 d.n1 λj=>ZR za (d.r1 j)) (.cons (.rsl za 1 p.n0 λj=>ZL za (p.r0 j)) (.cons (.rsl za 4 gu.n0 λj=>Zr za (gu.r0 j)) (.cons (.rsl za 4 gu.n1 λj=>Zn za (gu.r1 j)) (.cons (.rsl za 2 ga.n0 λj=>Zw za (ga.r0 j)) (.cons (.osl za 1 11 0 no) (.cons (.rsl za 2 d.n7 λj=>ZO za (d.r7 j)) (.cons (.rsl za 5 d.n8 λj=>ZI za (d.r8 j)) (.cons (.int za .i64 d.f9) (.cons (.rsl za 2 d.n10 λj=>ZE za (d.r10 j)) (.cons (.rsl za 3 d.n11 λj=>Zx za (d.r11 j)) (.cons (.osl za 2 2 0 np) (.cons (.int za .u64 la) (.cons c (.cons (.int za .i64 sa) .nil))))))))))))))))
def WM(n:Nat)(r:Nat->DT3)(b:Int)(s:Nat->DT3)(j:Nat):DT3:=bif zG j (n+1)then(bif zo j n then⟨b⟩else r j)else s (j-(n+1))
theorem cpq_at(a:Za)(h0:a.n1<=1000)(h1:a.n2<=1000)(h2:a.n3<=1000)(h3:a.n4<=1000)(h4:a.n5<=1000)(h5:a.n6<=1000)(h6:a.n7<=1000)(h7:a.n8<=1000)(h8:a.n10<=1000)(h9:a.n11<=1000)(h10:a.n12<=1000)(h11:∀j,(a.r5 j).n1<=1000):YG P 77 (.cons (.agg (Z9 za a)) .nil) [] (.leaf ((.agg (cpC a (.rsl za 2 a.n5 λj=>Zw za (a.r5 j)) (.osl za 1 11 0 a.n6) (.osl za 2 2 0 a.n12))),[.any,.arr 11 a.n6 (λj=>Zo za (a.r6 j)),.arr 2 a.n12 (λj=>Zt za (a.r12 j))])):=by
 have e:(cpy_T a).bare=.leaf ((.agg (cpC a (.osl za 0 2 0 a.n5) (.osl za 1 11 0 a.n6) (.osl za 2 2 0 a.n12))),.arr 2 a.n5 (λj=>Zw za (a.r5 j))::[.arr 11 a.n6 (λj=>Zo za (a.r6 j)),.arr 2 a.n12 (λj=>Zt za (a.r12 j))]):=rfl
 have h:=cpy_at a h0 h1 h2 h3 h4 h5 h6 h7 h8 h9 h10 h11
 rw[e]at h
 exact YG.pub h ⟨rfl,rfl,rfl,rfl,rfl,⟨rfl,rfl,rfl,zJ _⟩,trivial,rfl,rfl,rfl,rfl,rfl,trivial,rfl,rfl⟩ (by intro c hc;simp only[List.mem_cons,List.not_mem_nil,or_false]at hc;rcases hc with rfl|rfl<;>rfl)
def Um:HK:=λargs bl=>match args,bl with
 | .cons (.agg c) .nil,[]=>zk (.need (hkEq args bl (.cons (.agg (Z9 za (Z4 c))) .nil) []/\(λ(a:Za)=>a.n1<=1000/\a.n2<=1000/\a.n3<=1000/\a.n4<=1000/\a.n5<=1000/\a.n6<=1000/\a.n7<=1000/\a.n8<=1000/\a.n10<=1000/\a.n11<=1000/\a.n12<=1000/\∀j,(a.r5 j).n1<=1000) (Z4 c)) (.leaf ((.agg (cpC (Z4 c) (.rsl za 2 (Z4 c).n5 λj=>Zw za ((Z4 c).r5 j)) (.osl za 1 11 0 (Z4 c).n6) (.osl za 2 2 0 (Z4 c).n12))),[.any,.arr 11 (Z4 c).n6 (λj=>Zo za ((Z4 c).r6 j)),.arr 2 (Z4 c).n12 (λj=>Zt za ((Z4 c).r12 j))])))
 |_,_=>zm
theorem cpq_ok:Xj P 77 Um:=by
 intro args bl T hT
 unfold Um at hT
 split at hT
 ·rename_i c
  injection hT with hT
  subst hT
  exact Zgb λhp=>YG.eq (cpq_at (Z4 c) hp.2.1 hp.2.2.1 hp.2.2.2.1 hp.2.2.2.2.1 hp.2.2.2.2.2.1 hp.2.2.2.2.2.2.1 hp.2.2.2.2.2.2.2.1 hp.2.2.2.2.2.2.2.2.1 hp.2.2.2.2.2.2.2.2.2.1 hp.2.2.2.2.2.2.2.2.2.2.1 hp.2.2.2.2.2.2.2.2.2.2.2.1 hp.2.2.2.2.2.2.2.2.2.2.2.2) hp.1
 ·cases hT
abbrev Zb6(n:Nat)(r:Nat->Yn)(y:Int)(i:Int)(z:Unit):V:=(.cons (.rsl za 2 n (λjj=>zf (zn za zq (Yn.f0 (r jj))) (zf (zl za (1:Nat) (Yn.n1 (r jj)) λj=>zf (zn za zq (DT3.f0 ((r jj).3 j))) zh) zh))) (.cons (.fn (Fn.func (254:FuncId)) .nil (.cons (.rptr za (1:Nat) (1:Nat) (λjj=>.cons (.int za zq y) .nil) (0:Nat) (0:Nat)) .nil)) (.cons (.int ze .i64 0) (.cons (.int za .i64 ((n:Nat):Int)) (.cons (.int za .i64 i) .nil)))))
abbrev Zb7(n:Nat)(r:Nat->Yn)(y:Int)(i:Int)(z:Unit):List Blk:=[]
def LixGang_R(n:Nat)(r:Nat->Yn)(y:Int)(i:Int)(z:Unit):Tree Rd:=
 let q0:=(V.fn (Fn.func (254:FuncId)) zh (zf (V.rptr za (1:Nat) (1:Nat) (λjj=>ci y zh) (0:Nat) (0:Nat)) zh))
 let q1:=(zl za 1 (r (zi i)).n1 λj=>ci ((r (zi i)).3 j).f0 zh)
 let q2:=(zl za 2 n λjj=>Zw za (r jj))
 zw (((0:Int)<=i/\i<(n:Int))/\zf q1 (ci y zh)=zf q1 (ci y zh)/\(r (zi i)).n1<=(1000:Nat)) (zD (bif bif Yy (r (zi i)).n1 (λj=>ZM (ci ((r (zi i)).3 j).f0 zh)) y then ze else za then ze else za) (zx (Ex.ret,ze,zf q2 (zf q0 (ci i (ci (n:Int) (ci i zh)))),[])) (zx (Ex.normal,ze,zf q2 (zf q0 (zf (zn ze .i64 (0:Int)) (ci (n:Int) (ci (zy .i64 (i+(1:Int))) zh)))),[])))
theorem Znc(n:Nat)(r:Nat->Yn)(y:Int):Yo P (Zp P [ZaK] [] ze) 253 2 0 0 19 [0,1,4,7,8] [] [] (Zb6 n r y) (Zb7 n r y) (λi=>(bif decide (i<(n:Int))then za else ze)) (.exit 0) (LixGang_R n r y):=λB i z=>by kernel_rfl
def Q6(n:Nat)(r:Nat->Yn)(y:Int)(k:Nat):Bool:=(λ(i:Int)(z:Unit)=>(bif bif bif Yy (r (zi i)).n1 (λj=>ZM (zf (zn za .i64 ((r (zi i)).3 j).f0) zh)) y then ze else za then ze else za then ze else za)) k ()
abbrev Zm9(n:Nat)(r:Nat->Yn)(y:Int)(i:Int)(z:Unit):V:=(.cons (zl za 2 n λjj=>Zw za (r jj)) (.cons (V.fn (Fn.func (254:FuncId)) zh (zf (V.rptr za (1:Nat) (1:Nat) (λjj=>zf (zn za .i64 y) zh) (0:Nat) (0:Nat)) zh)) (.cons (zn za .i64 i) (.cons (zn za .i64 (n:Int)) (.cons .junk .nil)))))
def Zee(n:Nat)(r:Nat->Yn)(y:Int):Lp:=lpL 253 2 0 0 19 [0,1,4,7,8] [] [] (Zb6 n r y) (Zb7 n r y) (.exit 0) .ret () (λ_=>()) (Q6 n r y) (n) (Zm9 n r y) (Zb7 n r y)
def ZjR(n:Nat)(r:Nat->Yn)(y:Int):Prop:=YW 0 [] (Zb6 n r y) (Zb7 n r y) () (Zb6 n r y (0:Nat) ()) (Zb7 n r y (0:Nat) ())
theorem Zna(n:Nat)(r:Nat->Yn)(y:Int):ZjR n r y:=⟨rfl,trivial⟩
theorem Znb(n:Nat)(r:Nat->Yn)(y:Int)(hl:n<=1000)(h0:∀j,(r j).n1<=1000):(Zee n r y).Ok P:=by
 refine Xg (ZC hm hn (l:=[ZaK]) ⟨Zfg,trivial⟩ (ls:=[]) trivial ze) rfl (by kernel_rfl) (Znc n r y) exN YK (λ_=>rfl) (step:=λ_ z=>z) (rd:=(λ_ t y=>())) (λi z=>rfl) (λi=>(cC rfl rfl)) rfl (λi hlt hg=>?_) (λi z hi=>?_)
 ·have hltI:(i:Int)<((n:Nat):Int):=by omega
  refine⟨?_,⟨λhb0=>trivial,λhb0=>trivial⟩⟩
  all_goals(repeat'(first|exact rfl|exact λ_=>⟨rfl,rfl⟩|apply zB|intro _))
  all_goals(try simp only[decide_eq_true_eq,decide_eq_false_iff_not,yj,yu]at*)
  all_goals(try simp(disch:=omega) only[IntWalk.i64_in])
  all_goals(first|omega|exact h0 _)
 ·have hw:=(IntWalk.i64_in ((i:Int)+1) ⟨by omega,by omega⟩)
  refine⟨?_,?_⟩
  all_goals(first|exact⟨rfl,YL (ts:=Zb6 n r y) (a:=()) hw rfl,Yg _⟩|exact⟨rfl,rfl,(by repeat'(first|exact Le.refl _|exact Le.junk _ rfl|apply Le.cons)),Yg _⟩)
def ZiV(y:Int)(an:Nat)(a:Nat->Yn):Tree V:=
 zw (ZjR an a y) (zD (bif Zv (Q6 an a y) an then ze else za) (zx (vi ((Yc (Q6 an a y) an (0:Nat):Nat):Int))) (zx (zn ze .i64 (-1:Int))))
theorem Zp8(y:Int)(an:Nat)(a:Nat->Yn):ZU (Zp P [ZaK] [Zee an a y] ze) 400 253 (.cons (.rsl za 2 an λj=>Zw za (a j)) (.cons (.fn (.func 254) .nil (.cons (.rptr za 1 1 (λ_=>(.cons (.int za .i64 y) .nil)) 0 0) .nil)) .nil))=ZiV y an a:=by kernel_rfl
def JX(y:Int)(an:Nat)(a:Nat->Yn):Int:=(ZiV y an a).valOf.toInt
theorem Zp7(y:Int)(an:Nat)(a:Nat->Yn)(h0:an<=1000)(h1:∀j,(a j).n1<=1000):Zi P 253 (.cons (.rsl za 2 an λj=>Zw za (a j)) (.cons (.fn (.func 254) .nil (.cons (.rptr za 1 1 (λ_=>(.cons (.int za .i64 y) .nil)) 0 0) .nil)) .nil)) (.int za .i64 (JX y an a)):=by
 refine Wy (E:=(Zp P [ZaK] [Zee an a y] ze)) (ZC hm hn (l:=[ZaK]) ⟨Zfg,trivial⟩ (ls:=[Zee an a y]) ⟨Znb an a y h0 h1,trivial⟩ ze) (.int za .i64 0) (Has.of hn Tryz.func253 rfl) (Zp8 y an a) ?_ ?_
 ·refine⟨?_,⟨λhb0=>trivial,λhb0=>trivial⟩⟩
  all_goals(first|exact Zna an a y|((repeat'(first|exact rfl|exact λ_=>⟨rfl,rfl⟩|apply zB|intro _));all_goals(try simp only[decide_eq_true_eq,decide_eq_false_iff_not]at*);all_goals(first|omega|(simp at*;omega))))
 ·refine⟨⟨rfl,?_⟩,⟨rfl,?_⟩⟩
  all_goals((repeat'(first|exact rfl|exact trivial|apply zB|intro _|(refine cP (p:=λv=>yg v=Yr _ v) (λhc=>?_) (λhc=>?_))));all_goals(exfalso;simp only[XQ,Wj,Ws,WE,Wq,WC,zM,yF]at*;omega))
def c_ixGangA(r0:Int->Nat->(Nat->Yn)->Int):Con:=Yh 253 (λx=>(.cons (.rsl za 2 x.hd.Zy λj=>Zw za ((λj=>YV (x.hd.ZB j)) j)) (.cons (.fn (.func 254) .nil (.cons (.rptr za 1 1 (λ_=>(.cons (.int za .i64 ((x.tl.hd.Xk.hd.ZF 0).hd.toInt)) .nil)) 0 0) .nil)) .nil))) (λx=>(.int za .i64 (r0 ((x.tl.hd.Xk.hd.ZF 0).hd.toInt) x.hd.Zy (λj=>YV (x.hd.ZB j))))) (λx=>(λ(y:Int)(an:Nat)(a:Nat->Yn)=>an<=1000/\∀j,(a j).n1<=1000) ((x.tl.hd.Xk.hd.ZF 0).hd.toInt) x.hd.Zy (λj=>YV (x.hd.ZB j)))
abbrev Zfn:Con:=c_ixGangA JX
theorem Zn8:Zfn.Ok P:=Yi (λx h=>Zp7 _ _ _ h.1 h.2)
abbrev ZeG(n:Nat)(r:Nat->Yn)(x:Int)(i j:Int):V:=(.cons (.rsl za 2 n (λj=>Zw za (r j))) (.cons (.int za .i64 x) (.cons (.fn (.func 258) .nil .nil) (.cons (.int ze .i64 0) (.cons (.bool ze za) (.cons (.int za .i64 ((n:Nat):Int)) (.cons (.int za .i64 i) (.cons (.int za .i64 j) .nil))))))))
abbrev ZeH(n:Nat)(r:Nat->Yn)(x:Int):List Blk:=[]
def bGang_T(n:Nat)(r:Nat->Yn)(x:Int)(i j:Int):Tree (Ex×Bool×V×List Blk):=
 let q0:=(V.fn (Fn.func (258:FuncId)) zh zh)
 let q8:=(zn ze .i64 (0:Int))
 zD (decide (i<j)) (zw ((0:Int)<=half i j/\half i j<(n:Int)) (zD (decide (zy .i64 ((r (zi (half i j))).f0-x)<(0:Int))) (zx (Ex.normal,ze,zf (zl za 2 n λjj=>ci (r jj).f0 (zf (zl za 1 (r jj).n1 λj=>ci ((r jj).3 j).f0 zh) zh)) (ci x (zf q0 (zf q8 (zf (zC ze za) (ci (n:Int) (ci (zy .i64 (half i j+(1:Int))) (ci j zh))))))),[])) (zx (Ex.normal,ze,zf (zl za 2 n λjj=>zf (zn za .i64 (r jj).f0) (zf (zl za 1 (r jj).n1 λj=>ci ((r jj).3 j).f0 zh) zh)) (zf (zn za .i64 x) (zf q0 (zf q8 (zf (zC ze za) (zf (zn za .i64 (n:Int)) (ci i (ci (half i j) zh))))))),[])))) (zx (Ex.exit 0,ze,zf (zl za (2:Nat) n λjj=>ci (r jj).f0 (zf (zl za 1 (r jj).n1 λj=>ci ((r jj).3 j).f0 zh) zh)) (ci x (zf q0 (zf q8 (zf (zC ze za) (ci (n:Int) (ci i (ci j zh))))))),[]))
theorem Znx(B:Base)(n:Nat)(r:Nat->Yn)(x:Int)(i j:Int):((ev (ZN P [] [257]) 400 257 (JD P 257 3) B (YN 1 49 [0,1,2,6,7,8,9,10] [] (ZeG n r x i j) (ZeH n r x))).bind λx=>zx (x.1,vwN 1 1 49 [0,1,2,6,7,8,9,10] [] x.2))=bGang_T n r x i j:=by kernel_rfl
def ZeF(n:Nat)(r:Nat->Yn)(x:Int)(k:Nat):Bool:=(λ(h:Int)=>decide (zy zq (Yn.f0 (r (zi (h)))-x)<(0:Int))) k
def JL(n:Nat)(r:Nat->Yn)(x:Int):Nat:=XB (ZeF n r x) n 0 n
def ZeE(n:Nat)(r:Nat->Yn)(x:Int):Lp:=⟨257,3,λ_ s=>match vwN 1 1 49 [0,1,2,6,7,8,9,10] [] s with
 |(ze,(.cons (.rsl _ 2 nt0 ft0) (.cons (.int _ .i64 tx) (.cons (.fn (.func 258) .nil .nil) (.cons (.int _ .i64 t3) (.cons (.bool _ t4) (.cons (.int _ .i64 t5) (.cons (.int _ .i64 t6) (.cons (.int _ .i64 t7) .nil)))))))),[])=>bif zo s.n 1 then .need (n=nt0/\(λj=>Zw za (r j))=ft0/\x=tx/\0=t3/\za=t4/\((n:Nat):Int)=t5/\0=t6/\((n:Nat):Int)=t7)
  (.leaf (.exit 0,YN 1 49 [0,1,2,6,7,8,9,10] [] (ZeG n r x ((JL n r x:Nat):Int) ((JL n r x:Nat):Int)) (ZeH n r x)))else .stuck
 |_=>.stuck⟩
theorem Znw(n:Nat)(r:Nat->Yn)(x:Int)(hl:n<=1000):(ZeE n r x).Ok P:=by
 refine VU (by kernel_rfl) λhin B s Q hq=>?_
 simp only[ZeE]at hq hin⊢
 split at hq
 ·rename_i q1 nt0 ft0 q2 tx q3 t3 q4 t4 q5 t5 q6 t6 q7 t7 heq
  cases hsn:zo s.n 1
  ·rw[hsn]at hq;exact hq.elim
  ·rw[hsn]at hq
   obtain⟨⟨rfl,rfl,rfl,rfl,rfl,rfl,rfl,rfl⟩,hq⟩:=hq
   have hsame:Qv 1 1 49 [0,1,2,6,7,8,9,10] [] s (ZeG n r x 0 ((n:Nat):Int)) (ZeH n r x):=by
    refine⟨by rw[heq],by rw[heq];exact Le.soft rfl,by rw[heq];exact trivial⟩
   refine Zbp (k:=400) (f:=257) (YJ hm hn (l:=[]) trivial) rfl hin (ZeF n r x) n (λi j=>ZeG n r x i j) (ZeH n r x) Q (λi j=>Znx B n r x i j) (λi j hij hjn=>?_) hq (Nat.eq_of_beq_eq_true hsn) hsame
   refine⟨λhc=>?_,λhc=>?_⟩
   ·have hlt:i<j:=by have:=of_decide_eq_true hc;omega
    have hh:=Zbl (i:=i) (j:=j) (by omega)
    refine⟨by rw[hh];omega,λhb=>?_,λhb=>?_⟩
    ·rw[hh]at hb⊢
     rw[IntWalk.i64_in ((((i+j)/2:Nat):Int)+1) ⟨by omega,by omega⟩]
     exact⟨rfl,hlt,trivial,λ_=>Le.soft rfl,λhl=>Bool.noConfusion ((show ZeF n r x ((i+j)/2)=ze from hb).symm.trans hl)⟩
    ·rw[hh]at hb⊢
     exact⟨rfl,hlt,trivial,λhl=>Bool.noConfusion ((show ZeF n r x ((i+j)/2)=za from hb).symm.trans hl),λ_=>Le.soft rfl⟩
   ·have hge:¬(i:Int)<(j:Int):=λh=>by rw[decide_eq_true h]at hc;cases hc
    have e:i=j:=by omega
    subst e
    exact⟨rfl,rfl,trivial,Le.soft rfl,rfl⟩
 ·exact hq.elim
def gAt_T(a:Zd)(b:Int):Tree V:=
 let q0:=((JL a.n0 a.r0 b:Nat):Int)
 let q1:=(q0<((a.n0:Nat):Int))
 zw (a.n0=a.n0/\((λj=>Zw za (a.2 j))=λj=>Zw za (a.2 j))/\b=b/\(0:Int)=(0:Int)/\za=za/\((a.n0:Nat):Int)=((a.n0:Nat):Int)/\(0:Int)=(0:Int)/\((a.n0:Nat):Int)=((a.n0:Nat):Int)) (zw (decide q1=ze->(0:Int)<=q0/\q0<((a.n0:Nat):Int)) (zx (V.tup (ci (bif decide q1 then q0 else q0) (zf (zC za (bif decide q1 then zy .i64 ((a.2 (zi q0)).f0-b)==(0:Int)else za)) zh)))))
theorem gAt_tree(a:Zd)(b:Int):ZU (Zp P [] [ZeE a.n0 a.r0 b] ze) 400 228 (.cons (.agg (Jd za a)) (.cons (.int za .i64 b) .nil))=gAt_T a b:=by kernel_rfl
def Jk(a:Zd)(b:Int):Int:=
  (bif decide (((JL a.n0 a.r0 b:Nat):Int)<((a.n0:Nat):Int))then((JL a.n0 a.r0 b:Nat):Int)else((JL a.n0 a.r0 b:Nat):Int))
def VN(a:Zd)(b:Int):Bool:=
  (bif decide (((JL a.n0 a.r0 b:Nat):Int)<((a.n0:Nat):Int))then zy .i64 ((a.2 (zi ((JL a.n0 a.r0 b:Nat):Int))).f0-b)==(0:Int)
  else za)
theorem gAt_meets(a:Zd)(b:Int)(h0:a.n0<=1000):Zi P 228 (.cons (.agg (Jd za a)) (.cons (.int za .i64 b) .nil)) (.tup (.cons (.int za zq (Jk a b)) (.cons (.bool za (VN a b)) .nil))):=
 Xp (ZC hm hn (l:=[]) trivial (ls:=[ZeE a.n0 a.r0 b]) ⟨Znw a.n0 a.r0 b h0,trivial⟩ ze) 400 (Has.of hn Tryz.func228 rfl) (gAt_tree a b) (Tree.Pre.mk (by refine⟨?_,⟨?_,trivial⟩⟩;all_goals(first|exact bGang_fit a.n0 a.r0 b|(((repeat'(first|exact rfl|exact λ_=>⟨rfl,rfl⟩|apply zB|intro _));all_goals(try simp only[decide_eq_true_eq,decide_eq_false_iff_not]at*);all_goals omega))))) (by kernel_rfl) (by kernel_rfl)
def c_gAt:Con:=Yh 228 (λx=>(.cons (.agg (Jd za (ZT x.hd.inner))) (.cons (.int za .i64 x.tl.hd.toInt) .nil))) (λx=>(.tup (.cons (.int za zq (Jk (ZT x.hd.inner) x.tl.hd.toInt)) (.cons (.bool za (VN (ZT x.hd.inner) x.tl.hd.toInt)) .nil)))) (λx=>(ZT x.hd.inner).n0<=1000)
theorem c_gAt_ok:c_gAt.Ok P:=Yi (λx h=>gAt_meets _ _ h)
theorem ZiW(y:Int)(an:Nat)(a:Nat->Yn):JX y an a=bif Zv (Q6 an a y) an then((Yc (Q6 an a y) an 0:Nat):Int)else -1:=by
 unfold JX ZiV
 show V.toInt (bif (bif Zv (Q6 an a y) an then ze else za)then _ else _)=_
 cases Zv (Q6 an a y) an<;>rfl
theorem ixGang_lt(y:Int)(an:Nat)(a:Nat->Yn):JX y an a<an:=by
 rw[ZiW]
 cases h:Zv (Q6 an a y) an with
 |true=>have:=ZcZ h;show((Yc _ an 0:Nat):Int)<an;omega
 |false=>show(-1:Int)<an;omega
theorem ZiM(a:Zd)(b:Int):0<=Jk a b/\Jk a b<=a.n0/\(VN a b=ze->Jk a b<a.n0):=by
 have h:JL a.n0 a.r0 b<=a.n0:=Zcm _ _ _ (Nat.zero_le _)
 have e:Jk a b=(JL a.n0 a.r0 b:Int):=by
  unfold Jk;cases decide (((JL a.n0 a.r0 b:Nat):Int)<(a.n0:Int))<;>rfl
 rw[e]
 refine⟨by omega,by omega,λh1=>?_⟩
 unfold VN at h1
 cases hc:decide (((JL a.n0 a.r0 b:Nat):Int)<(a.n0:Int))with
 |true=>exact of_decide_eq_true hc
 |false=>rw[hc]at h1;cases h1
def gOf_T(a:Zd)(b:Int):Tree V:=
 let q0:=(zl za 2 a.n0 λj=>Zw za (a.2 j))
 let q1:=(JX b a.n0 λj=>YV (Zw za (a.2 j)))
 zw (zf q0 (zf (V.fn (Fn.func (254:Nat)) zh (zf (V.rptr za (1:Nat) (1:Nat) (λj=>ci b zh) (0:Nat) (0:Nat)) zh)) zh)=zf q0 (zf (V.fn (Fn.func (254:FuncId)) zh (zf (V.rptr za (1:Nat) (1:Nat) (λjj=>ci b zh) (0:Nat) (0:Nat)) zh)) zh)/\a.n0<=(1000:Nat)/\∀(j:Nat),(a.2 j).n1<=(1000:Nat)) (zw (zf (zH (zf q0 zh)) zh=zf (zH (zf q0 zh)) zh/\a.n0<=(1000:Nat)/\∀(j:Nat),(a.2 j).n1<=(1000:Nat)) (zD (bif bif Wv (ZT (zf q0 zh)) != (0:Int)then ze else decide (q1<(0:Int))then ze else za) (zx (V.tup (zf (zn ze .i64 (0:Int)) (zf (zC ze za) zh)))) (zw (((0:Int)<=JX b a.n0 λj=>YV (Zw za (a.2 j)))/\q1<((a.n0:Nat):Int)) (zx (V.tup (ci (a.2 (zi q1)).f0 (zf (zC ze ze) zh)))))))
theorem gOf_tree(a:Zd)(b:Int):ZU (Zp P [Zfn,Ja] [] ze) 400 190 (.cons (.agg (Jd za a)) (.cons (.int za .i64 b) .nil))=gOf_T a b:=by kernel_rfl
def YP(a:Zd)(b:Int):Int:=(gOf_T a b).valOf.inner.hd.toInt
def XR(a:Zd)(b:Int):Bool:=(gOf_T a b).valOf.inner.tl.hd.toBool
theorem gOf_meets(a:Zd)(b:Int)(h0:a.n0<=1000)(h1:∀j,(a.r0 j).n1<=1000):Zi P 190 (.cons (.agg (Jd za a)) (.cons (.int za .i64 b) .nil)) (.tup (.cons (.int za .i64 (YP a b)) (.cons (.bool za (XR a b)) .nil))):=by
 refine Wy (E:=(Zp P [Zfn,Ja] [] ze)) (ZC hm hn (l:=[Zfn,Ja]) ⟨Zn8,Zcq,trivial⟩ (ls:=[]) trivial ze) (.tup (.cons (.int za .i64 0) (.cons (.bool za za) .nil))) (Has.of hn Tryz.func190 rfl) (gOf_tree a b) ?_ ?_
 ·refine⟨?_,⟨?_,⟨λhb0=>trivial,λhb0=>⟨?_,trivial⟩⟩⟩⟩
  all_goals((repeat'(first|exact rfl|exact λ_=>⟨rfl,rfl⟩|apply zB|intro _));all_goals(try simp only[decide_eq_true_eq,decide_eq_false_iff_not]at*);all_goals(first|exact h1 _|exact ixGang_lt _ _ _|omega|(simp at*;omega)))
 ·refine⟨⟨rfl,?_⟩,⟨rfl,?_⟩⟩
  all_goals((repeat'(first|exact rfl|exact trivial|apply zB|intro _|(refine cP (p:=λv=>yg v=Yr _ v) (λhc=>?_) (λhc=>?_))));all_goals(exfalso;simp only[XQ,Wj,Ws,WE,Wq,WC,zM,yF]at*;omega))
def Zfl(r0:Zd->Int->Int)(r1:Zd->Int->Bool):Con:=Yh 190 (λx=>(.cons (.agg (Jd za (ZT x.hd.inner))) (.cons (.int za .i64 x.tl.hd.toInt) .nil))) (λx=>(.tup (.cons (.int za .i64 (r0 (ZT x.hd.inner) x.tl.hd.toInt)) (.cons (.bool za (r1 (ZT x.hd.inner) x.tl.hd.toInt)) .nil)))) (λx=>(λ(a:Zd)(b:Int)=>a.n0<=1000/\∀j,(a.r0 j).n1<=1000) (ZT x.hd.inner) x.tl.hd.toInt)
abbrev c_gOf:Con:=Zfl YP XR
theorem c_gOf_ok:c_gOf.Ok P:=Yi (λx h=>gOf_meets _ _ h.1 h.2)
def gMem_T(a:Zd)(b:Int):Tree V:=
 let q0:=(zf (zl za 2 a.n0 λj=>Zw za (a.2 j)) zh)
 let q2:=(a.2 (zi (Jk (ZT q0) b)))
 let q1:=(zl za 1 q2.n1 λj=>ci (q2.3 j).f0 zh)
 zw (zf (zH q0) zh=zf (zH q0) zh/\a.n0<=(1000:Nat)/\∀(j:Nat),(a.2 j).n1<=(1000:Nat)) (zD (bif bif Wv (ZT q0) != (0:Int)then ze else bif decide (b<(1:Int))then ze else decide (b>(8:Int))then ze else za) (zx V.Zl) (zw (zf (zH q0) (ci b zh)=zf (zH q0) (ci b zh)/\a.n0<=(1000:Nat)) (zD (bif !VN (ZT q0) b then ze else za) (zx V.Zl) (zw ((0:Int)<=Jk (ZT q0) b/\Jk (ZT q0) b<((a.n0:Nat):Int)) (zw (zf q1 zh=zf q1 zh/\q2.n1<=(1000:Nat)) (zx q1))))))
theorem gMem_tree(a:Zd)(b:Int):ZU (Zp P [Ja,c_gAt,Jz] [] ze) 400 192 (.cons (.agg (Jd za a)) (.cons (.int za .i64 b) .nil))=gMem_T a b:=by kernel_rfl
def YO(a:Zd)(b:Int):Nat:=(gMem_T a b).valOf.Zy
def Y9(a:Zd)(b:Int):Nat->DT3:=λj=>ZM ((gMem_T a b).valOf.ZB j)
theorem ZpV(a:Zd)(b:Int)(h0:a.n0<=1000)(h1:∀j,(a.r0 j).n1<=1000):Zi P 192 (.cons (.agg (Jd za a)) (.cons (.int za .i64 b) .nil)) (.rsl za 1 (YO a b) λj=>ZP za ((Y9 a b) j)):=by
 refine Wy (E:=(Zp P [Ja,c_gAt,Jz] [] ze)) (ZC hm hn (l:=[Ja,c_gAt,Jz]) ⟨Zcq,c_gAt_ok,Zco,trivial⟩ (ls:=[]) trivial ze) (.rsl za 1 0 λ_=>patDT3) (Has.of hn Tryz.func192 rfl) (gMem_tree a b) ?_ ?_
 ·refine⟨?_,⟨λhb0=>trivial,λhb0=>⟨?_,⟨λhb1=>trivial,λhb1=>⟨?_,⟨?_,trivial⟩⟩⟩⟩⟩⟩
  all_goals((repeat'(first|exact rfl|exact λ_=>⟨rfl,rfl⟩|apply zB|intro _));all_goals(try simp only[decide_eq_true_eq,decide_eq_false_iff_not]at*);all_goals(first|exact h1 _|exact(ZiM _ _).1|exact(ZiM _ _).2.2 (nf ‹_›)|omega|(simp at*;omega)))
 ·refine⟨⟨rfl,?_⟩,⟨⟨rfl,?_⟩,⟨rfl,?_⟩⟩⟩
  all_goals((repeat'(first|exact rfl|exact trivial|apply zB|intro _|(refine cP (p:=λv=>yg v=Yr _ v) (λhc=>?_) (λhc=>?_))));all_goals(exfalso;simp only[XQ,Wj,Ws,WE,Wq,WC,zM,yF]at*;omega))
def Zfk(r0:Zd->Int->Nat)(r1:Zd->Int->Nat->DT3):Con:=Yh 192 (λx=>(.cons (.agg (Jd za (ZT x.hd.inner))) (.cons (.int za .i64 x.tl.hd.toInt) .nil))) (λx=>(.rsl za 1 (r0 (ZT x.hd.inner) x.tl.hd.toInt) λj=>ZP za ((r1 (ZT x.hd.inner) x.tl.hd.toInt) j))) (λx=>(λ(a:Zd)(b:Int)=>a.n0<=1000/\∀j,(a.r0 j).n1<=1000) (ZT x.hd.inner) x.tl.hd.toInt)
abbrev c_gMem:Con:=Zfk YO Y9
theorem c_gMem_ok:c_gMem.Ok P:=Yi (λx h=>ZpV _ _ h.1 h.2)
def cat_T(n:Nat)(r:Nat->DT3)(b:Int)(m:Nat)(s:Nat->DT3):Tree (V×List Blk):=
zw (decide (zy .i64 ((0:Int)+(n:Int))<(0:Int))=za/\decide (zy .i64 (zy .i64 ((0:Int)+(n:Int))+zT (nat_lit 0+(1:Nat)))<(0:Int))=za/\decide (zy .i64 (zy .i64 (zy .i64 ((0:Int)+(n:Int))+zT (nat_lit 0+(1:Nat)))+(m:Int))<(0:Int))=za) (zw (decide (zy .i64 (zy .i64 (zy .i64 ((0:Int)+(n:Int))+zT (nat_lit 0+(1:Nat)))+(m:Int))<(0:Int))=za) (zw (decide (zy .i64 (zy .i64 (zy .i64 (zy .i64 ((0:Int)+(n:Int))+zT (nat_lit 0+(1:Nat)))+(m:Int))-zT (0:Nat))>(0:Int))=ze) (zw ((0:Int)<zy .i64 (zy .i64 (zy .i64 (zy .i64 ((0:Int)+(n:Int))+zT (nat_lit 0+(1:Nat)))+(m:Int))-zT (0:Nat))/\fits (zi (zy .i64 (zy .i64 (zy .i64 (zy .i64 ((0:Int)+(n:Int))+zT (nat_lit 0+(1:Nat)))+(m:Int))-zT (0:Nat)))) (8:Nat)) (zw ((0:Int)<=(0:Int)/\(0:Int)<=((zi (zy .i64 (zy .i64 (zy .i64 (zy .i64 ((0:Int)+(n:Int))+zT (nat_lit 0+(1:Nat)))+(m:Int))-zT (0:Nat))):Nat):Int)) (zw ((zi (0:Int)<=zi (zy .i64 (zy .i64 (zy .i64 (zy .i64 ((0:Int)+(n:Int))+zT (nat_lit 0+(1:Nat)))+(m:Int))-zT (0:Nat)))/\fits (zi (0:Int)+n) (8:Nat)/\∀(j:Nat),j<n->V.Y6 (bif zG ((0:Nat)+j) n then zf (zn za .i64 (r ((0:Nat)+j)).f0) zh else zf V.junk zh)=ze/\V.clean (bif zG ((0:Nat)+j) n then zf (zn za .i64 (r ((0:Nat)+j)).f0) zh else zf V.junk zh)=ze)/\(zi (0:Int)+n<=zi (0:Int)+n/\fits (zi (0:Int)+n+(1:Nat)) (8:Nat))/\zi (0:Int)+n+(1:Nat)<=zi (0:Int)+n+(1:Nat)/\fits (zi (0:Int)+n+(1:Nat)+m) (8:Nat)/\∀(j:Nat),j<m->V.Y6 (zf (zn za .i64 (s j).f0) zh)=ze/\V.clean (zf (zn za .i64 (s j).f0) zh)=ze) (zx (V.osl za 3 1 0 (zi (0:Int)+n+(1:Nat)+m),[zN (zf (V.osl za 1 1 0 n) (zf (V.osl ze 2 1 0 (1:Nat)) (zf (zl za 1 m λjj=>zf (zn za .i64 (s jj).f0) zh) zh))),Blk.arr 1 n λjj=>zf (zn za .i64 (r jj).f0) zh,zN (zf (zn za .i64 b) zh),Blk.arr 1 (zi (0:Int)+n+(1:Nat)+m) λjj=>bif zG jj (zi (0:Int)+n+(1:Nat))then bif zo jj (zi (0:Int)+n+nat_lit 0)then zf (zn za .i64 b) zh else bif zG ((0:Nat)+jj) n then zf (zn za .i64 (r ((0:Nat)+jj)).f0) zh else zf V.junk zh else zf (zn za .i64 (s (jj-(zi (0:Int)+n+(1:Nat)))).f0) zh])))))))
theorem cat_tree(n:Nat)(r:Nat->DT3)(b:Int)(m:Nat)(s:Nat->DT3):evH { (Zp P [] [] ze)with way:=WV [(191,20,za),(241,6,za),(241,16,ze)] } 400 191 (.cons (.osl ze 0 1 0 3) .nil) [.var (.cons (.osl za 1 1 0 n) (.cons (.osl ze 2 1 0 1) (.cons (.rsl za 1 m λj=>ZP za (s j)) .nil))),.arr 1 n (λj=>ZP za (r j)),.var (.cons (.int za .i64 b) .nil)]=cat_T n r b m s:=by kernel_rfl
theorem cat_at(n:Nat)(r:Nat->DT3)(b:Int)(m:Nat)(s:Nat->DT3)(h0:n<=1000000)(h1:m<=1000000):YG P 191 (.cons (.osl ze 0 1 0 3) .nil) [.var (.cons (.osl za 1 1 0 n) (.cons (.osl ze 2 1 0 1) (.cons (.rsl za 1 m λj=>ZP za (s j)) .nil))),.arr 1 n (λj=>ZP za (r j)),.var (.cons (.int za .i64 b) .nil)] (.leaf (.osl za 3 1 0 (n+1+m),[.var (.cons (.osl za 1 1 0 n) (.cons (.osl ze 2 1 0 1) (.cons (.rsl za 1 m λj=>ZP za (s j)) .nil))),.arr 1 n (λj=>ZP za (r j)),.var (.cons (.int za .i64 b) .nil),.arr 1 (n+1+m) (λj=>ZP za (WM n r b s j))])):=by
 have hfin:(cat_T n r b m s).bare=(.leaf (.osl za 3 1 0 (n+1+m),[.var (.cons (.osl za 1 1 0 n) (.cons (.osl ze 2 1 0 1) (.cons (.rsl za 1 m λj=>ZP za (s j)) .nil))),.arr 1 n (λj=>ZP za (r j)),.var (.cons (.int za .i64 b) .nil),.arr 1 (n+1+m) (λj=>ZP za (WM n r b s j))])):=by
  have e:(λj=>ZP za (WM n r b s j))=λjj=>bif zG jj (n+1)then bif zo jj (n+0)then zf (zn za .i64 b) zh else bif zG (0+jj) n then zf (zn za .i64 (r (0+jj)).f0) zh else zf V.junk zh else zf (zn za .i64 (s (jj-(n+1))).f0) zh:=by
   funext j
   unfold WM
   cases h1:zG j (n+1)
   ·rfl
   ·cases h2:zo j n
    ·have h3:zG j n=ze:=by
      have h4:j<n+1:=by simpa[Nat.blt_eq]using h1
      have h5:j≠n:=λe=>by rw[e]at h2;simp at h2
      simp only[Nat.blt_eq];omega
     simp only[Nat.add_zero,z8,h2,h3,cond_false,cond_true];rfl
    ·simp only[Nat.add_zero,h2,cond_true];rfl
  rw[e]
  unfold cat_T
  simp only[Tree.bare,show zi 0=0 from rfl,z8]
  rfl
 rw[<- hfin]
 refine Zga (E:={ (Zp P [] [] ze)with way:=WV [(191,20,za),(241,6,za),(241,16,ze)] }) (Env.Ok.ZbY (ZC hm hn (l:=[]) trivial (ls:=[]) trivial ze) (WV [(191,20,za),(241,6,za),(241,16,ze)])) (cat_tree n r b m s) ?_
 refine⟨?_,⟨?_,⟨?_,⟨?_,⟨?_,⟨?_,trivial⟩⟩⟩⟩⟩⟩
 all_goals((repeat'(first|exact rfl|exact λ_=>⟨rfl,rfl⟩|apply zB|intro _));all_goals(try simp only[fits,decide_eq_true_eq,decide_eq_false_iff_not,show(zT 0:Int)=0 from rfl,show(zT (0+1):Int)=1 from rfl,Int.sub_zero]);all_goals(try simp(disch:=omega) only[IntWalk.i64_in]);all_goals(first|omega|(rename_i j hj;have h1:zG (0+j) n=ze:=(by simp only[Nat.blt_eq];omega);rw[h1];rfl)))
def cat_K:HK:=λargs bl=>match args,bl with
 | .cons (.osl _ _ _ _ _) .nil,[.var (.cons (.osl _ _ _ _ n) (.cons _ (.cons c .nil))),.arr _ _ g,.var (.cons (.int _ _ b) .nil)]=>zk (.need (hkEq args bl (.cons (.osl ze 0 1 0 3) .nil) [.var (.cons (.osl za 1 1 0 (n)) (.cons (.osl ze 2 1 0 1) (.cons (.rsl za 1 (c.Zy) λj=>ZP za (((λj=>ZM (c.ZB j))) j)) .nil))),.arr 1 (n) (λj=>ZP za (((λj=>ZM (g j))) j)),.var (.cons (.int za .i64 (b)) .nil)]/\(λ(n:Nat)(r:Nat->DT3)(b:Int)(m:Nat)(s:Nat->DT3)=>n<=1000000/\m<=1000000) (n) ((λj=>ZM (g j))) (b) (c.Zy) ((λj=>ZM (c.ZB j)))) (.leaf (.osl za 3 1 0 ((n)+1+(c.Zy)),[.var (.cons (.osl za 1 1 0 (n)) (.cons (.osl ze 2 1 0 1) (.cons (.rsl za 1 (c.Zy) λj=>ZP za (((λj=>ZM (c.ZB j))) j)) .nil))),.arr 1 (n) (λj=>ZP za (((λj=>ZM (g j))) j)),.var (.cons (.int za .i64 (b)) .nil),.arr 1 ((n)+1+(c.Zy)) (λj=>ZP za (WM (n) ((λj=>ZM (g j))) (b) ((λj=>ZM (c.ZB j))) j))])))
 |_,_=>zm
theorem cat_ok:Xj P 191 cat_K:=by
 intro args bl T hT
 unfold cat_K at hT
 split at hT
 ·rename_i q1 q2 q3 q4 q5 q6 q7 q8 q9 n qa c qb qc g qd qe b
  injection hT with hT
  subst hT
  exact Zgb λhp=>YG.eq (cat_at (n) ((λj=>ZM (g j))) (b) (c.Zy) ((λj=>ZM (c.ZB j))) hp.2.1 hp.2.2) hp.1
 ·cases hT
abbrev lo_ts(d:Za)(p:Zg)(gu:Ze)(ga:Zd)(no:Nat)(orr:Nat->Zj)(np:Nat)(pr:Nat->ZA)(sa:Int)(la:Int)(Yv:Zg->Ze->Int->Int)(On:Zd->Int->Int)(Ob:Zd->Int->Bool)(Gn:Zd->Int->Nat)(Gr:Zd->Int->Nat->DT3)(i:Int)(z:Nat×(Nat->DT3)):V:=(.cons (.ptr ze 0 0 0 0) (.cons (.osl za 2 2 0 np) (.cons (.int za .i64 ((np:Nat):Int)) (.cons (.int za .i64 i) .nil))))
abbrev lo_ys(d:Za)(p:Zg)(gu:Ze)(ga:Zd)(no:Nat)(orr:Nat->Zj)(np:Nat)(pr:Nat->ZA)(sa:Int)(la:Int)(Yv:Zg->Ze->Int->Int)(On:Zd->Int->Int)(Ob:Zd->Int->Bool)(Gn:Zd->Int->Nat)(Gr:Zd->Int->Nat->DT3)(i:Int)(z:Nat×(Nat->DT3)):List Blk:=[.var (chO d p gu ga no np la (.osl za 3 1 0 z.1) sa),.arr 11 no (λj=>Zo za (orr j)),.arr 2 np (λj=>Zt za (pr j)),.arr 1 z.1 (λj=>ZP za (z.2 j))]
def lo_R(d:Za)(p:Zg)(gu:Ze)(ga:Zd)(no:Nat)(orr:Nat->Zj)(np:Nat)(pr:Nat->ZA)(sa:Int)(la:Int)(Yv:Zg->Ze->Int->Int)(On:Zd->Int->Int)(Ob:Zd->Int->Bool)(Gn:Zd->Int->Nat)(Gr:Zd->Int->Nat->DT3)(i:Int)(z:Nat×(Nat->DT3)):Tree Rd:=
 let q11:=(zl za 2 ga.n0 λj=>Zw za (ga.2 j))
 let q1:=(zf q11 zh)
 let q4:=(pr ((0:Nat)+zi i))
 let q8:=(On (ZT q1) q4.f0)
 let q7:=(zf (V.osl za 1 1 0 (zL z)) (zf (V.osl ze 2 1 0 (1:Nat)) (zf (zl za 1 (Gn (ZT q1) q8) λj=>ci (Gr (ZT q1) q8 j).f0 zh) zh)))
 let q6:=(ci q4.f0 zh)
 let q12:=(zf (V.osl za 2 2 0 np) (ci (np:Int) (ci (zy .i64 (i+(1:Int))) zh)))
 let q18:=(zl za 2 d.n1 λj=>ZR za (d.3 j))
 let q13:=(zl za 1 p.n0 λj=>zf (zn za .u32 (p.2 j).f0) zh)
 let q9:=(zl za 4 gu.n0 λj=>Zr za (gu.2 j))
 let q10:=(zl za 4 gu.n1 λj=>Zn za (gu.4 j))
 let q14:=(zl za 2 d.n7 λj=>ZO za (d.15 j))
 let q17:=(zl za 5 d.n8 λj=>ZI za (d.17 j))
 let q15:=(zl za 2 d.n10 λj=>ZE za (d.20 j))
 let q16:=(zl za 3 d.n11 λj=>Zx za (d.22 j))
 let q21:=(ci sa zh)
 let q0:=(zw (hkEq (zf (V.osl ze 0 1 0 (3:Nat)) zh) [zN q7,Blk.arr 1 (zL z) λjj=>ci (z.2 jj).f0 zh,zN q6] (zf (V.osl ze 0 1 0 (3:Nat)) zh) [zN q7,Blk.arr 1 (zL z) λj=>ci (z.2 j).f0 zh,zN q6]/\zL z<=(1000000:Nat)/\Gn (ZT q1) q8<=(1000000:Nat)) (zx (Ex.normal,ze,zf (pt 0) q12,[zN (ci d.f0 (zf q18 (zf q13 (zf q9 (zf q10 (zf q11 (zf (V.osl za 1 11 0 no) (zf q14 (zf q17 (ci d.f9 (zf q15 (zf q16 (zf (V.osl za 2 2 0 np) (zf (zn za .u64 la) (zf (V.osl za 3 1 0 (zL z+(1:Nat)+Gn (ZT q1) q8)) q21))))))))))))))),Blk.arr 11 no λjj=>Zo za (orr jj),Blk.arr 2 np λjj=>Zt za (pr jj),Blk.arr 1 (zL z+(1:Nat)+Gn (ZT q1) q8) λj=>ci (WM (zL z) (λj=>ZM (ZP za (z.2 j))) q4.f0 (λj=>ZM (ZP za (Gr (ZT q1) q8 j))) j).f0 zh])))
 let q2:=(zx (Ex.normal,ze,zf (pt 0) q12,[zN (ci d.f0 (zf q18 (zf q13 (zf q9 (zf q10 (zf q11 (zf (V.osl za 1 11 0 no) (zf q14 (zf q17 (ci d.f9 (zf q15 (zf q16 (zf (V.osl za 2 2 0 np) (zf (zn za .u64 la) (zf (V.osl za 3 1 0 (zL z)) q21))))))))))))))),Blk.arr 11 no λjj=>Zo za (orr jj),Blk.arr 2 np λjj=>Zt za (pr jj),Blk.arr 1 (zL z) λjj=>ci (z.2 jj).f0 zh]))
 let q3:=(zf q18 (zf q13 (zf q9 (zf q10 (zf q11 (zf (zl za 11 no λj=>Zo za (orr ((0:Nat)+j))) (zf q14 (zf q17 (ci d.f9 (zf q15 (zf q16 (zf (zl za 2 np λj=>Zt za (pr ((0:Nat)+j))) (zf (zn za .u64 la) (zf (zl za 1 (zL z) λj=>ci (z.2 ((0:Nat)+j)).f0 zh) q21))))))))))))))
 let q5:=(ZH (zf q9 (zf q10 zh)))
 let q19:=(ci q8 zh)
 let q20:=(Yv (Z0 (zf (zl za 1 p.n0 λj=>ZL za (p.2 j)) zh)) q5 q4.f0)
 zw ((0:Int)<=i/\i<(np:Int)) (zw ((0:Nat)+zi i<np) (zw ((0:Nat)+no<=no/\(0:Nat)+np<=np/\(0:Nat)+zL z<=zL z) (zw (sR (zf (V.rptr ze (16:Nat) (1:Nat) (λjj=>ci d.f0 q3) (0:Nat) (0:Nat)) q6) (zf (V.rptr za (16:Nat) (1:Nat) (λjj=>ci d.f0 q3) (0:Nat) (0:Nat)) q6)/\gu.n0<=(1000:Nat)/\gu.n1<=(1000:Nat)/\((0:Int)<=Zk q5 q4.f0/\Zk q5 q4.f0<((gu.n0:Nat):Int))/\(0:Int)<=(gu.2 (zi (Zk q5 q4.f0))).f3/\(gu.2 (zi (Zk q5 q4.f0))).f3<((p.n0:Nat):Int)) (zD (bif bif decide (q4.f1<(0:Int))then ze else decide (q4.f1>=(8:Int))then ze else za) (zD (bif zy .u32 ((yA (zU (zR .u32) q20&&& zU (zR .u32) (0:Int)):Nat):Int) != (0:Int)then ze else za) q2 (zw (zf (zH q1) q6=zf (zH q1) q6/\ga.n0<=(1000:Nat)/\∀(j:Nat),(ga.2 j).n1<=(1000:Nat)) (zw (zf (zH q1) q19=zf (zH q1) q19/\ga.n0<=(1000:Nat)/\∀(j:Nat),(ga.2 j).n1<=(1000:Nat)) q0))) (zw ((0:Int)<=q4.f1) (zD (bif zy .u32 ((yA (zU (zR .u32) q20&&& zU (zR .u32) (zy .u32 ((1:Int)*(2:Int)^min (zi q4.f1) (zR .u32)))):Nat):Int) != (0:Int)then ze else za) q2 (zw (zf (zH q1) q6=zf (zH q1) q6/\ga.n0<=(1000:Nat)/\∀(j:Nat),(ga.2 j).n1<=(1000:Nat)) (zw (zf (zH q1) q19=zf (zH q1) q19/\ga.n0<=(1000:Nat)/\∀(j:Nat),(ga.2 j).n1<=(1000:Nat)) q0))))))))
theorem lo_round(d:Za)(p:Zg)(gu:Ze)(ga:Zd)(no:Nat)(orr:Nat->Zj)(np:Nat)(pr:Nat->ZA)(sa:Int)(la:Int)(Yv:Zg->Ze->Int->Int)(On:Zd->Int->Int)(Ob:Zd->Int->Bool)(Gn:Zd->Int->Nat)(Gr:Zd->Int->Nat->DT3):Yo P { (Zp P [Ze6 Yv,Zfl On Ob,Zfk Gn Gr] [] ze)with hk:=Wx [⟨191,cat_K⟩] } 145 1 3 4 54 [0,10,11,12] [(0,.own),(1,.own),(2,.own),(3,.cell 0 14)] [] (lo_ts d p gu ga no orr np pr sa la Yv On Ob Gn Gr) (lo_ys d p gu ga no orr np pr sa la Yv On Ob Gn Gr) (λi=>(bif decide (i<(np:Int))then za else ze)) (.exit 0) (lo_R d p gu ga no orr np pr sa la Yv On Ob Gn Gr):=λB i z=>by kernel_rfl
def Zae(d:Za)(p:Zg)(gu:Ze)(ga:Zd)(no:Nat)(orr:Nat->Zj)(np:Nat)(pr:Nat->ZA)(sa:Int)(la:Int)(Yv:Zg->Ze->Int->Int)(On:Zd->Int->Int)(Ob:Zd->Int->Bool)(Gn:Zd->Int->Nat)(Gr:Zd->Int->Nat->DT3)(k:Nat)(z:Nat×(Nat->DT3)):Nat×(Nat->DT3):=(lo_R d p gu ga no orr np pr sa la Yv On Ob Gn Gr k z).carry ((λt y=>(((y.getD 0 .none).cells.nth 14).oslN,(λj=>ZM ((y.getD 3 .none).Kg j))))) z
def Wm(d:Za)(p:Zg)(gu:Ze)(ga:Zd)(no:Nat)(orr:Nat->Zj)(np:Nat)(pr:Nat->ZA)(sa:Int)(la:Int)(Yv:Zg->Ze->Int->Int)(On:Zd->Int->Int)(Ob:Zd->Int->Bool)(Gn:Zd->Int->Nat)(Gr:Zd->Int->Nat->DT3)(k:Nat):Nat×(Nat->DT3):=ZQ ((0,(λ_=>ZM .nil)):Nat×(Nat->DT3)) (Zae d p gu ga no orr np pr sa la Yv On Ob Gn Gr) k
theorem lo_cnt(d:Za)(p:Zg)(gu:Ze)(ga:Zd)(no:Nat)(orr:Nat->Zj)(np:Nat)(pr:Nat->ZA)(sa:Int)(la:Int)(Yv:Zg->Ze->Int->Int)(On:Zd->Int->Int)(Ob:Zd->Int->Bool)(Gn:Zd->Int->Nat)(Gr:Zd->Int->Nat->DT3)(hGn:∀o,Gn ga o<=8)(k:Nat):(Wm d p gu ga no orr np pr sa la Yv On Ob Gn Gr k).1<=k*9:=by
 induction k with
 |zero=>exact Nat.zero_le _
 |succ k ih=>
  show(ZQ _ (Zae d p gu ga no orr np pr sa la Yv On Ob Gn Gr) (k+1)).1<=_
  rw[ZaC]
  have h:(λy:Nat×(Nat->DT3)=>y.1<=(Wm d p gu ga no orr np pr sa la Yv On Ob Gn Gr k).1+9) (Zae d p gu ga no orr np pr sa la Yv On Ob Gn Gr k (Wm d p gu ga no orr np pr sa la Yv On Ob Gn Gr k)):=by
   generalize Wm d p gu ga no orr np pr sa la Yv On Ob Gn Gr k=z
   have h1:=hGn (On ga (pr (0+zi k)).f0)
   have hA:z.1<=z.1+9:=Nat.le_add_right _ _
   have hB:z.1+1+Gn ga (On ga (pr (0+zi k)).f0)<=z.1+9:=by omega
   exact WI (p:=λy:Nat×(Nat->DT3)=>y.1<=z.1+9) (WI (p:=λy:Nat×(Nat->DT3)=>y.1<=z.1+9) hA hB) (WI (p:=λy:Nat×(Nat->DT3)=>y.1<=z.1+9) hA hB)
  dsimp only at h
  have h2:(ZQ _ (Zae d p gu ga no orr np pr sa la Yv On Ob Gn Gr) k)=Wm d p gu ga no orr np pr sa la Yv On Ob Gn Gr k:=rfl
  rw[h2]
  omega
def lo_lp(d:Za)(p:Zg)(gu:Ze)(ga:Zd)(no:Nat)(orr:Nat->Zj)(np:Nat)(pr:Nat->ZA)(sa:Int)(la:Int)(Yv:Zg->Ze->Int->Int)(On:Zd->Int->Int)(Ob:Zd->Int->Bool)(Gn:Zd->Int->Nat)(Gr:Zd->Int->Nat->DT3):Lp:=JE 145 1 3 4 54 [0,10,11,12] [(0,.own),(1,.own),(2,.own),(3,.cell 0 14)] [] (lo_ts d p gu ga no orr np pr sa la Yv On Ob Gn Gr) (lo_ys d p gu ga no orr np pr sa la Yv On Ob Gn Gr) (.exit 0) ((0,(λ_=>ZM .nil)):Nat×(Nat->DT3)) (Wm d p gu ga no orr np pr sa la Yv On Ob Gn Gr) (np)
theorem lo_lp_ok(d:Za)(p:Zg)(gu:Ze)(ga:Zd)(no:Nat)(orr:Nat->Zj)(np:Nat)(pr:Nat->ZA)(sa:Int)(la:Int)(Yv:Zg->Ze->Int->Int)(On:Zd->Int->Int)(Ob:Zd->Int->Bool)(Gn:Zd->Int->Nat)(Gr:Zd->Int->Nat->DT3)(hc3:(Ze6 Yv).Ok P)(hc4:(Zfl On Ob).Ok P)(hc5:(Zfk Gn Gr).Ok P)(hGn:∀o,Gn ga o<=8)(hl:np<=100)(hg0:gu.n0<=1000)(hg1:gu.n1<=1000)(hgn:ga.n0<=1000)(hgm:∀j,(ga.r0 j).n1<=1000)(hM:∀j,j<np->(0<=Zk gu (pr j).f0/\Zk gu (pr j).f0<gu.n0)/\0<=(gu.r0 (Zk gu (pr j).f0).toNat).f3/\(gu.r0 (Zk gu (pr j).f0).toNat).f3<p.n0):(lo_lp d p gu ga no orr np pr sa la Yv On Ob Gn Gr).Ok P:=by
 refine JY ((ZC hm hn (l:=[Ze6 Yv,Zfl On Ob,Zfk Gn Gr]) ⟨hc3,hc4,hc5,trivial⟩ (ls:=[]) trivial ze).KJ (l:=[⟨191,cat_K⟩]) ⟨cat_ok,trivial⟩) rfl (by kernel_rfl) (lo_round d p gu ga no orr np pr sa la Yv On Ob Gn Gr) exN YK (λ_=>rfl) (rd:=(λ_ t y=>(((y.getD 0 .none).cells.nth 14).oslN,(λj=>ZM ((y.getD 3 .none).Kg j))))) (λi z=>rfl) (λi=>(cS (cS rfl rfl) (cS rfl rfl))) rfl (λi hlt hg=>?_) (λi z hi=>?_)
 ·have hltI:(i:Int)<((np:Nat):Int):=by omega
  refine⟨?_,⟨?_,⟨?_,⟨?_,⟨λhb0=>⟨λhb1=>trivial,λhb1=>⟨?_,⟨?_,⟨?_,trivial⟩⟩⟩⟩,λhb0=>⟨?_,⟨λhb1=>trivial,λhb1=>⟨?_,⟨?_,⟨?_,trivial⟩⟩⟩⟩⟩⟩⟩⟩⟩⟩
  all_goals(repeat'(first|exact rfl|exact λ_=>⟨rfl,rfl⟩|apply zB|intro _))
  all_goals(try simp only[decide_eq_true_eq,decide_eq_false_iff_not,yj,yu]at*)
  all_goals(try simp(disch:=omega) only[IntWalk.i64_in])
  all_goals(first|omega|exact(hM _ (by omega)).1.1|exact(hM _ (by omega)).1.2|exact(hM _ (by omega)).2.1|exact(hM _ (by omega)).2.2|exact hgm _|exact trivial|exact Nat.le_trans (hGn _) (by omega)|exact(by have:=lo_cnt d p gu ga no orr np pr sa la Yv On Ob Gn Gr hGn i;omega)|exact(by simp at*;omega))
 ·have hw:=(IntWalk.i64_in ((i:Int)+1) ⟨by omega,by omega⟩)
  refine⟨⟨?_,?_⟩,⟨?_,?_⟩⟩
  all_goals exact⟨rfl,YL (ts:=lo_ts d p gu ga no orr np pr sa la Yv On Ob Gn Gr) hw rfl,⟨LeK.var (Le.soft rfl),LeK.QL rfl (λj hj=>congrArg yg (by first|rfl|exact ZaE (c:=Zo za) (r:=orr) j)),LeK.QL rfl (λj hj=>congrArg yg (by first|rfl|exact ZaE (c:=Zt za) (r:=pr) j)),LeK.QL rfl (λj hj=>by first|rfl|exact ZbN (g:=λv=>(ZP za (ZM v)).soft) rfl rfl),trivial⟩⟩
abbrev Zcc(n:Nat)(r:Nat->ZA)(k:Nat)(y:Nat->Zj)(q:Nat)(i:Int)(z:Unit):V:=(.cons (.rsl za 2 n (λjj=>zf (zn za zq (ZA.f0 (r jj))) (zf (zn za zq (ZA.f1 (r jj))) zh))) (.cons (.fn (Fn.func (147:FuncId)) .nil (.cons (.rptr za (1:Nat) (1:Nat) (λjj=>.cons (.rptr za (11:Nat) k (λjj=>.cons (.int za zq (Zj.f0 (y jj))) (.cons (.int za zq (Zj.f1 (y jj))) (.cons (.int za zq (Zj.f2 (y jj))) (.cons (.int za IntKind.u32 (Zj.f3 (y jj))) (.cons (.int za zq (Zj.f4 (y jj))) (.cons (.int za yG (Zj.f5 (y jj))) (.cons (.int za yG (Zj.f6 (y jj))) (.cons (.int za yG (Zj.f7 (y jj))) (.cons (.int za yG (Zj.f8 (y jj))) (.cons (.int za zq (Zj.f9 (y jj))) (.cons (.int za zq (Zj.f10 (y jj))) .nil))))))))))) q (0:Nat)) .nil) (0:Nat) (0:Nat)) .nil)) (.cons (.int ze .i64 0) (.cons (.int za .i64 ((n:Nat):Int)) (.cons (.int za .i64 i) .nil)))))
abbrev Zcd(n:Nat)(r:Nat->ZA)(k:Nat)(y:Nat->Zj)(q:Nat)(i:Int)(z:Unit):List Blk:=[]
def LixPut_R(n:Nat)(r:Nat->ZA)(k:Nat)(y:Nat->Zj)(q:Nat)(i:Int)(z:Unit):Tree Rd:=
 let q0:=(V.fn (Fn.func (147:FuncId)) zh (zf (V.rptr za (1:Nat) (1:Nat) (λjj=>zf (V.rptr za (11:Nat) k (λjj=>Zo za (y jj)) q (0:Nat)) zh) (0:Nat) (0:Nat)) zh))
 let q1:=(zl za 2 n λjj=>Zt za (r jj))
 zw ((0:Int)<=i/\i<(n:Int)) (zD (bif bif (r (zi i)).f0==(y q).f0 then ze else za then ze else za) (zx (Ex.ret,ze,zf q1 (zf q0 (ci i (ci (n:Int) (ci i zh)))),[])) (zx (Ex.normal,ze,zf q1 (zf q0 (zf (zn ze .i64 (0:Int)) (ci (n:Int) (ci (zy .i64 (i+(1:Int))) zh)))),[])))
theorem Zno(n:Nat)(r:Nat->ZA)(k:Nat)(y:Nat->Zj)(q:Nat):Yo P (Zp P [] [] ze) 146 2 0 0 19 [0,1,4,7,8] [] [] (Zcc n r k y q) (Zcd n r k y q) (λi=>(bif decide (i<(n:Int))then za else ze)) (.exit 0) (LixPut_R n r k y q):=λB i z=>by kernel_rfl
def Vb(n:Nat)(r:Nat->ZA)(k:Nat)(y:Nat->Zj)(q:Nat)(k:Nat):Bool:=(λ(i:Int)(z:Unit)=>(bif bif bif (r (zi i)).f0==(y q).f0 then ze else za then ze else za then ze else za)) k ()
abbrev Znl(n:Nat)(r:Nat->ZA)(k:Nat)(y:Nat->Zj)(q:Nat)(i:Int)(z:Unit):V:=(.cons (zl za 2 n λjj=>Zt za (r jj)) (.cons (V.fn (Fn.func (147:FuncId)) zh (zf (V.rptr za (1:Nat) (1:Nat) (λjj=>zf (V.rptr za (11:Nat) k (λjj=>Zo za (y jj)) q (0:Nat)) zh) (0:Nat) (0:Nat)) zh)) (.cons (zn za .i64 i) (.cons (zn za .i64 (n:Int)) (.cons .junk .nil)))))
def Zei(n:Nat)(r:Nat->ZA)(k:Nat)(y:Nat->Zj)(q:Nat):Lp:=lpL 146 2 0 0 19 [0,1,4,7,8] [] [] (Zcc n r k y q) (Zcd n r k y q) (.exit 0) .ret () (λ_=>()) (Vb n r k y q) (n) (Znl n r k y q) (Zcd n r k y q)
def ZjU(n:Nat)(r:Nat->ZA)(k:Nat)(y:Nat->Zj)(q:Nat):Prop:=YW 0 [] (Zcc n r k y q) (Zcd n r k y q) () (Zcc n r k y q (0:Nat) ()) (Zcd n r k y q (0:Nat) ())
theorem Znm(n:Nat)(r:Nat->ZA)(k:Nat)(y:Nat->Zj)(q:Nat):ZjU n r k y q:=⟨rfl,trivial⟩
theorem Znn(n:Nat)(r:Nat->ZA)(k:Nat)(y:Nat->Zj)(q:Nat)(hl:n<=1000)(h0:q<k):(Zei n r k y q).Ok P:=by
 refine Xg (ZC hm hn (l:=[]) trivial (ls:=[]) trivial ze) rfl (by kernel_rfl) (Zno n r k y q) exN YK (λ_=>rfl) (step:=λ_ z=>z) (rd:=(λ_ t y=>())) (λi z=>rfl) (λi=>(cC rfl rfl)) rfl (λi hlt hg=>?_) (λi z hi=>?_)
 ·have hltI:(i:Int)<((n:Nat):Int):=by omega
  refine⟨?_,⟨λhb0=>trivial,λhb0=>trivial⟩⟩
  all_goals(repeat'(first|exact rfl|exact λ_=>⟨rfl,rfl⟩|apply zB|intro _))
  all_goals(try simp only[decide_eq_true_eq,decide_eq_false_iff_not,yj,yu]at*)
  all_goals(try simp(disch:=omega) only[IntWalk.i64_in])
  all_goals(first|omega|exact h1)
 ·have hw:=(IntWalk.i64_in ((i:Int)+1) ⟨by omega,by omega⟩)
  refine⟨?_,?_⟩
  all_goals(first|exact⟨rfl,YL (ts:=Zcc n r k y q) (a:=()) hw rfl,Yg _⟩|exact⟨rfl,rfl,(by repeat'(first|exact Le.refl _|exact Le.junk _ rfl|apply Le.cons)),Yg _⟩)
def ZiY(k:Nat)(y:Nat->Zj)(q:Nat)(an:Nat)(a:Nat->ZA):Tree V:=
 zw (ZjU an a k y q) (zD (bif Zv (Vb an a k y q) an then ze else za) (zx (vi ((Yc (Vb an a k y q) an (0:Nat):Nat):Int))) (zx (zn ze .i64 (-1:Int))))
theorem Zqe(k:Nat)(y:Nat->Zj)(q:Nat)(an:Nat)(a:Nat->ZA):ZU (Zp P [] [Zei an a k y q] ze) 400 146 (.cons (.rsl za 2 an λj=>Zt za (a j)) (.cons (.fn (.func 147) .nil (.cons (.rptr za 1 1 (λ_=>(.cons (.rptr za 11 k (λj=>Zo za (y j)) q 0) .nil)) 0 0) .nil)) .nil))=ZiY k y q an a:=by kernel_rfl
def XO(k:Nat)(y:Nat->Zj)(q:Nat)(an:Nat)(a:Nat->ZA):Int:=(ZiY k y q an a).valOf.toInt
theorem Zqd(k:Nat)(y:Nat->Zj)(q:Nat)(an:Nat)(a:Nat->ZA)(h0:an<=1000)(h1:q<k):Zi P 146 (.cons (.rsl za 2 an λj=>Zt za (a j)) (.cons (.fn (.func 147) .nil (.cons (.rptr za 1 1 (λ_=>(.cons (.rptr za 11 k (λj=>Zo za (y j)) q 0) .nil)) 0 0) .nil)) .nil)) (.int za .i64 (XO k y q an a)):=by
 refine Wy (E:=(Zp P [] [Zei an a k y q] ze)) (ZC hm hn (l:=[]) trivial (ls:=[Zei an a k y q]) ⟨Znn an a k y q h0 h1,trivial⟩ ze) (.int za .i64 0) (Has.of hn Tryz.func146 rfl) (Zqe k y q an a) ?_ ?_
 ·refine⟨?_,⟨λhb0=>trivial,λhb0=>trivial⟩⟩
  all_goals(first|exact Znm an a k y q|((repeat'(first|exact rfl|exact QZ _|exact λ_=>⟨rfl,rfl⟩|apply zB|intro _));all_goals(try simp only[decide_eq_true_eq,decide_eq_false_iff_not]at*);all_goals(first|omega|(simp at*;omega))))
 ·refine⟨⟨rfl,?_⟩,⟨rfl,?_⟩⟩
  all_goals((repeat'(first|exact rfl|exact trivial|apply zB|intro _|(refine cP (p:=λv=>yg v=Yr _ v) (λhc=>?_) (λhc=>?_))));all_goals(exfalso;simp only[XQ,Wj,Ws,WE,Wq,WC,zM,yF]at*;omega))
def Gj(r0:Nat->(Nat->Zj)->Nat->Nat->(Nat->ZA)->Int):Con:=Yh 146 (λx=>(.cons (.rsl za 2 x.hd.Zy λj=>Zt za ((λj=>Ye (x.hd.ZB j)) j)) (.cons (.fn (.func 147) .nil (.cons (.rptr za 1 1 (λ_=>(.cons (.rptr za 11 (((x.tl.hd.Xk.hd.ZF 0).hd).rptrN) (λj=>Zo za ((λj=>ZV (((x.tl.hd.Xk.hd.ZF 0).hd).ZF j)) j)) (((x.tl.hd.Xk.hd.ZF 0).hd).rptrI) 0) .nil)) 0 0) .nil)) .nil))) (λx=>(.int za .i64 (r0 (((x.tl.hd.Xk.hd.ZF 0).hd).rptrN) (λj=>ZV (((x.tl.hd.Xk.hd.ZF 0).hd).ZF j)) (((x.tl.hd.Xk.hd.ZF 0).hd).rptrI) x.hd.Zy (λj=>Ye (x.hd.ZB j))))) (λx=>(λ(k:Nat)(y:Nat->Zj)(q:Nat)(an:Nat)(a:Nat->ZA)=>an<=1000/\q<k) (((x.tl.hd.Xk.hd.ZF 0).hd).rptrN) (λj=>ZV (((x.tl.hd.Xk.hd.ZF 0).hd).ZF j)) (((x.tl.hd.Xk.hd.ZF 0).hd).rptrI) x.hd.Zy (λj=>Ye (x.hd.ZB j)))
abbrev c_ixPut:Con:=Gj XO
theorem Zkj:c_ixPut.Ok P:=Yi (λx h=>Zqd _ _ _ _ _ h.1 h.2)
abbrev of_ts(d:Za)(p:Zg)(gu:Ze)(ga:Zd)(no:Nat)(orr:Nat->Zj)(np:Nat)(pr:Nat->ZA)(sa:Int)(la:Int)(gn:Nat)(gr:Nat->DT3)(Xv:Nat->(Nat->Zj)->Nat->Nat->(Nat->ZA)->Int)(Cv:Nat->(Nat->DT3)->Int->Bool)(i:Int)(z:Int×(Nat->Zj)×Nat×(Nat->ZA)):V:=(.cons (.ptr ze 0 0 0 0) (.cons (.int ze .i64 0) (.cons (.int za .i64 ((no:Nat):Int)) (.cons (.int za .i64 i) .nil))))
abbrev of_ys(d:Za)(p:Zg)(gu:Ze)(ga:Zd)(no:Nat)(orr:Nat->Zj)(np:Nat)(pr:Nat->ZA)(sa:Int)(la:Int)(gn:Nat)(gr:Nat->DT3)(Xv:Nat->(Nat->Zj)->Nat->Nat->(Nat->ZA)->Int)(Cv:Nat->(Nat->DT3)->Int->Bool)(i:Int)(z:Int×(Nat->Zj)×Nat×(Nat->ZA)):List Blk:=[.var (chO d p gu ga no z.2.2.1 z.1 (.osl za 3 1 0 gn) sa),.arr 11 no (λj=>Zo za (z.2.1 j)),.arr 2 z.2.2.1 (λj=>Zt za (z.2.2.2 j)),.arr 1 gn (λj=>ZP za (gr j))]
def of_R(d:Za)(p:Zg)(gu:Ze)(ga:Zd)(no:Nat)(orr:Nat->Zj)(np:Nat)(pr:Nat->ZA)(sa:Int)(la:Int)(gn:Nat)(gr:Nat->DT3)(Xv:Nat->(Nat->Zj)->Nat->Nat->(Nat->ZA)->Int)(Cv:Nat->(Nat->DT3)->Int->Bool)(i:Int)(z:Int×(Nat->Zj)×Nat×(Nat->ZA)):Tree Rd:=
 let q6:=(zL (zu (zu z)))
 let q0:=(Xv no (λj=>ZV (Zo za ((zu z).1 j))) ((0:Nat)+zi i) q6 λj=>Ye (Zt za ((zu (zu z)).2 ((0:Nat)+j))))
 let q25:=(zl za 2 d.n1 λj=>ZR za (d.3 j))
 let q14:=(zl za 1 p.n0 λj=>zf (zn za .u32 (p.2 j).f0) zh)
 let q18:=(zl za 4 gu.n0 λj=>Zr za (gu.2 j))
 let q22:=(zl za 4 gu.n1 λj=>Zn za (gu.4 j))
 let q23:=(zl za 2 ga.n0 λj=>Zw za (ga.2 j))
 let q19:=(zl za 2 d.n7 λj=>ZO za (d.15 j))
 let q24:=(zl za 5 d.n8 λj=>ZI za (d.17 j))
 let q20:=(zl za 2 d.n10 λj=>ZE za (d.20 j))
 let q21:=(zl za 3 d.n11 λj=>Zx za (d.22 j))
 let q15:=(zf (V.osl za 3 1 0 gn) (ci sa zh))
 let q1:=[zN (ci d.f0 (zf q25 (zf q14 (zf q18 (zf q22 (zf q23 (zf (V.osl za 1 11 0 no) (zf q19 (zf q24 (ci d.f9 (zf q20 (zf q21 (zf (V.osl za 2 2 0 q6) (zf (zn za .u64 (zL z)) q15)))))))))))))),Blk.arr 11 no λjj=>Zo za ((zu z).1 jj),Blk.arr 2 q6 λjj=>Zt za ((zu (zu z)).2 jj),Blk.arr 1 gn λjj=>ci (gr jj).f0 zh]
 let q2:=((zu z).1 ((0:Nat)+zi i))
 let q7:=(zy .i64 (q0+(1:Int)))
 let q3:=(zL (zu (zu z))-zi q7)
 let q4:=((zL (zu (zu z)):Nat):Int)
 let q9:=(zn ze .i64 (0:Int))
 let q5:=(ci q2.f1 (ci q2.f2 (zf (zn za .u32 q2.f3) (ci q2.f4 (zf (zn za .u64 q2.f5) (zf (zn za .u64 q2.f6) (zf (zn za .u64 q2.f7) (zf (zn za .u64 q2.f8) (zf q9 (ci q2.f10 zh))))))))))
 let q8:=((zi q0+q3:Nat):Int)
 let q10:=(zf q9 (ci (no:Int) (ci (zy .i64 (i+(1:Int))) zh)))
 let q11:=(V.rptr za (11:Nat) no (λj=>Zo za ((zu z).1 j)) ((0:Nat)+zi i) (0:Nat))
 let q12:=(zl za 2 q6 λj=>Zt za ((zu (zu z)).2 ((0:Nat)+j)))
 let q13:=(zl za 1 gn λj=>ci (gr ((0:Nat)+j)).f0 zh)
 let q16:=(vi q2.f0)
 let q17:=(zn za .u64 (zy .u64 (zL z+(1:Int))))
 zw ((0:Int)<=i/\i<(no:Int)) (zw ((0:Nat)+zL (zu (zu z))<=zL (zu (zu z))/\(0:Nat)+zi i<no) (zw (zf q12 (zf (V.fn (Fn.func (147:Nat)) zh (zf (V.rptr za (1:Nat) (1:Nat) (λj=>zf q11 zh) (0:Nat) (0:Nat)) zh)) zh)=zf q12 (zf (V.fn (Fn.func (147:FuncId)) zh (zf (V.rptr za (1:Nat) (1:Nat) (λjj=>zf q11 zh) (0:Nat) (0:Nat)) zh)) zh)/\zL (zu (zu z))<=(1000:Nat)/\(0:Nat)+zi i<no) (zw (decide (q0<(0:Int))=za->(0:Nat)+zi i<no/\(0:Nat)+gn<=gn/\zf q13 (zf q16 zh)=zf q13 (zf q16 zh)/\gn<=(1000:Nat)) (zD (bif bif decide (q0<(0:Int))then ze else !Cv gn (λj=>ZM (ZP za (gr ((0:Nat)+j)))) q2.f0 then ze else za) (zx (Ex.normal,ze,zf (pt 0) q10,q1)) (zD (bif zL z==(4611686018427387904:Int)then ze else za) (zx (Ex.ret,ze,zf (pt 0) (zf (zn ze .i64 (6:Int)) (ci (no:Int) (ci i zh))),q1)) (zw ((0:Nat)+zi i<no) (zw ((0:Nat)+zi i<no) (zw ((0:Int)<=q4/\q4<=q4) (zw ((0:Int)<=zy .i64 (q0+(1:Int))/\zy .i64 (q0+(1:Int))<=((zi q4:Nat):Int)) (zw (((0:Int)<=Xv no (λj=>ZV (Zo za ((zu z).1 j))) ((0:Nat)+zi i) q6 λj=>Ye (Zt za ((zu (zu z)).2 ((0:Nat)+j))))/\q0<=((zi q7:Nat):Int)) (zw ((q0==zy .i64 (q0+(1:Int)))=za) (zw (((0:Int)<=Xv no (λj=>ZV (Zo za ((zu z).1 j))) ((0:Nat)+zi i) q6 λj=>Ye (Zt za ((zu (zu z)).2 ((0:Nat)+j))))/\q0<=q4) (zw ((0:Int)<=zy .i64 (q0+(1:Int))/\zy .i64 (q0+(1:Int))<=q4) (zw (zi q0+q3<=zL (zu (zu z))) (zw ((0:Nat)+zi q0+q3<=zL (zu (zu z))/\∀(j:Nat),j<zL (zu (zu z))-zi q7->V.Y6 (bif zG ((0:Nat)+zi q7+j) q6 then Zt za ((zu (zu z)).2 ((0:Nat)+zi q7+j))else zf V.junk (zf V.junk zh))=ze/\V.clean (bif zG ((0:Nat)+zi q7+j) q6 then Zt za ((zu (zu z)).2 ((0:Nat)+zi q7+j))else zf V.junk (zf V.junk zh))=ze) (zw ((0:Int)<=q4/\q4<=q4) (zw ((0:Int)<=q8/\q8<=((zi q4:Nat):Int)) (zw ((0:Nat)+zi q8+(zi q4-zi q8)<=zL (zu (zu z))/\∀(j:Nat),j<zi q4-zi q8->V.Y6 (zf q9 (zf q9 zh))=ze/\V.clean (zf q9 (zf q9 zh))=ze) (zx (Ex.normal,ze,zf (pt 0) q10,[zN (ci d.f0 (zf q25 (zf q14 (zf q18 (zf q22 (zf q23 (zf (V.osl za 1 11 0 no) (zf q19 (zf q24 (ci d.f9 (zf q20 (zf q21 (zf (V.osl za 2 2 0 (zi q0+q3)) (zf q17 q15)))))))))))))),Blk.arr 11 no λj=>bif zo j ((0:Nat)+zi i)then V.splice (bif zo ((0:Nat)+zi i) ((0:Nat)+zi i)then zf q16 q5 else Zo za q2) (8:Nat) (zf q17 zh)else bif zo j ((0:Nat)+zi i)then zf q16 q5 else Zo za ((zu z).1 j),Blk.arr 2 q6 λj=>bif zK ((0:Nat)+zi q8) j&&zG j ((0:Nat)+zi q8+(zi q4-zi q8))then zf q9 (zf q9 zh)else bif zK ((0:Nat)+zi q0) j&&zG j ((0:Nat)+zi q0+q3)then bif zG ((0:Nat)+zi q7+(j-((0:Nat)+zi q0))) q6 then Zt za ((zu (zu z)).2 ((0:Nat)+zi q7+(j-((0:Nat)+zi q0))))else zf V.junk (zf V.junk zh)else Zt za ((zu (zu z)).2 j),Blk.arr 1 gn λjj=>ci (gr jj).f0 zh]))))))))))))))))))))
theorem of_round(d:Za)(p:Zg)(gu:Ze)(ga:Zd)(no:Nat)(orr:Nat->Zj)(np:Nat)(pr:Nat->ZA)(sa:Int)(la:Int)(gn:Nat)(gr:Nat->DT3)(Xv:Nat->(Nat->Zj)->Nat->Nat->(Nat->ZA)->Int)(Cv:Nat->(Nat->DT3)->Int->Bool):Yo P { (Zp P [Gj Xv,Ga Cv] [] ze)with way:=WV [(149,16,za)] } 79 3 4 4 85 [0,2,13,14] [(0,.own),(1,.own),(2,.cell 0 12),(3,.own)] [] (of_ts d p gu ga no orr np pr sa la gn gr Xv Cv) (of_ys d p gu ga no orr np pr sa la gn gr Xv Cv) (λi=>(bif decide (i<(no:Int))then za else ze)) (.exit 0) (of_R d p gu ga no orr np pr sa la gn gr Xv Cv):=λB i z=>by kernel_rfl
def Zbw(d:Za)(p:Zg)(gu:Ze)(ga:Zd)(no:Nat)(orr:Nat->Zj)(np:Nat)(pr:Nat->ZA)(sa:Int)(la:Int)(gn:Nat)(gr:Nat->DT3)(Xv:Nat->(Nat->Zj)->Nat->Nat->(Nat->ZA)->Int)(Cv:Nat->(Nat->DT3)->Int->Bool)(k:Nat)(z:Int×(Nat->Zj)×Nat×(Nat->ZA)):Int×(Nat->Zj)×Nat×(Nat->ZA):=(of_R d p gu ga no orr np pr sa la gn gr Xv Cv k z).carry ((λt y=>(((y.getD 0 .none).cells.nth 13).toInt,(λj=>ZV ((y.getD 1 .none).Kg j)),((y.getD 0 .none).cells.nth 12).oslN,(λj=>Ye ((y.getD 2 .none).Kg j))))) z
def XL(d:Za)(p:Zg)(gu:Ze)(ga:Zd)(no:Nat)(orr:Nat->Zj)(np:Nat)(pr:Nat->ZA)(sa:Int)(la:Int)(gn:Nat)(gr:Nat->DT3)(Xv:Nat->(Nat->Zj)->Nat->Nat->(Nat->ZA)->Int)(Cv:Nat->(Nat->DT3)->Int->Bool)(k:Nat):Int×(Nat->Zj)×Nat×(Nat->ZA):=ZQ ((la,orr,np,pr):Int×(Nat->Zj)×Nat×(Nat->ZA)) (Zbw d p gu ga no orr np pr sa la gn gr Xv Cv) k
def Zal(d:Za)(p:Zg)(gu:Ze)(ga:Zd)(no:Nat)(orr:Nat->Zj)(np:Nat)(pr:Nat->ZA)(sa:Int)(la:Int)(gn:Nat)(gr:Nat->DT3)(Xv:Nat->(Nat->Zj)->Nat->Nat->(Nat->ZA)->Int)(Cv:Nat->(Nat->DT3)->Int->Bool)(k:Nat):Bool:=(of_R d p gu ga no orr np pr sa la gn gr Xv Cv k (XL d p gu ga no orr np pr sa la gn gr Xv Cv k)).early
theorem ofA{c1 c2:Bool}{a b c y:V}(h1:yg (V.splice a 8 y)=yg (Zo za (ZV (V.splice a 8 y))))(h2:yg (V.splice b 8 y)=yg (Zo za (ZV (V.splice b 8 y))))(h3:yg a=yg (Zo za (ZV a)))(h4:yg c=yg (Zo za (ZV c))) :
  yg (bif c1 then V.splice (bif c2 then a else b) 8 y else bif c1 then a else c)=yg (Zo za (ZV (bif c1 then V.splice (bif c2 then a else b) 8 y else bif c1 then a else c))):=by cases c1<;>cases c2<;>assumption
theorem ofB{a b n j:Nat}{c:Bool}{v0 jk:V}{r:Nat->ZA}(h0:yg v0=yg (Zt za (Ye v0)))(hj:j<a+(n-b)) :
  yg (bif c then v0 else bif zK (0+a) j&&zG j (0+a+(n-b))then(bif zG (0+b+(j-(0+a))) n then Zt za (r (0+b+(j-(0+a))))else jk)else Zt za (r j))=
  yg (Zt za (Ye (bif c then v0 else bif zK (0+a) j&&zG j (0+a+(n-b))then(bif zG (0+b+(j-(0+a))) n then Zt za (r (0+b+(j-(0+a))))else jk)else Zt za (r j)))):=by
 cases c
 ·cases h1:zK (0+a) j&&zG j (0+a+(n-b))
  ·rfl
  ·have h2:zG (0+b+(j-(0+a))) n=ze:=by
    simp only[zM,Nat.ble_eq,Nat.blt_eq]at h1⊢
    omega
   rw[h2]
   rfl
 ·exact h0
theorem of_cnt(d:Za)(p:Zg)(gu:Ze)(ga:Zd)(no:Nat)(orr:Nat->Zj)(np:Nat)(pr:Nat->ZA)(sa:Int)(la:Int)(gn:Nat)(gr:Nat->DT3)(Xv:Nat->(Nat->Zj)->Nat->Nat->(Nat->ZA)->Int)(Cv:Nat->(Nat->DT3)->Int->Bool)(hX:∀k y q n r,-1<=Xv k y q n r/\Xv k y q n r<((n:Nat):Int))(hp:np<=100)(k:Nat):(XL d p gu ga no orr np pr sa la gn gr Xv Cv k).2.2.1<=np:=by
 induction k with
 |zero=>exact zJ _
 |succ k ih=>
  show(ZQ _ (Zbw d p gu ga no orr np pr sa la gn gr Xv Cv) (k+1)).2.2.1<=_
  rw[ZaC]
  have h2:(ZQ _ (Zbw d p gu ga no orr np pr sa la gn gr Xv Cv) k)=XL d p gu ga no orr np pr sa la gn gr Xv Cv k:=rfl
  rw[h2]
  generalize XL d p gu ga no orr np pr sa la gn gr Xv Cv k=z at ih
  have hx:=hX no (λj=>ZV (Zo za (z.2.1 j))) (0+zi k) z.2.2.1 (λj=>Ye (Zt za (z.2.2.2 (0+j))))
  have hC:zi (Xv no (λj=>ZV (Zo za (z.2.1 j))) (0+zi k) z.2.2.1 (λj=>Ye (Zt za (z.2.2.2 (0+j)))))+(z.2.2.1-zi (zy .i64 (Xv no (λj=>ZV (Zo za (z.2.1 j))) (0+zi k) z.2.2.1 (λj=>Ye (Zt za (z.2.2.2 (0+j))))+1)))<=np:=by
   rw[IntWalk.i64_in _ ⟨by omega,by omega⟩];omega
  exact WI (p:=λy:Int×(Nat->Zj)×Nat×(Nat->ZA)=>y.2.2.1<=np) ih (WI (p:=λy:Int×(Nat->Zj)×Nat×(Nat->ZA)=>y.2.2.1<=np) ih hC)
abbrev of_ets(d:Za)(p:Zg)(gu:Ze)(ga:Zd)(no:Nat)(orr:Nat->Zj)(np:Nat)(pr:Nat->ZA)(sa:Int)(la:Int)(gn:Nat)(gr:Nat->DT3)(Xv:Nat->(Nat->Zj)->Nat->Nat->(Nat->ZA)->Int)(Cv:Nat->(Nat->DT3)->Int->Bool)(i:Int)(z:Int×(Nat->Zj)×Nat×(Nat->ZA)):V:=(.cons (zV ze 0 0 0 0) (.cons (zn ze .i64 (6:Int)) (.cons (zn za .i64 (no:Int)) (.cons .junk .nil))))
abbrev of_eys(d:Za)(p:Zg)(gu:Ze)(ga:Zd)(no:Nat)(orr:Nat->Zj)(np:Nat)(pr:Nat->ZA)(sa:Int)(la:Int)(gn:Nat)(gr:Nat->DT3)(Xv:Nat->(Nat->Zj)->Nat->Nat->(Nat->ZA)->Int)(Cv:Nat->(Nat->DT3)->Int->Bool)(i:Int)(z:Int×(Nat->Zj)×Nat×(Nat->ZA)):List Blk:=[.any,.any,.any,.any]
def of_lp(d:Za)(p:Zg)(gu:Ze)(ga:Zd)(no:Nat)(orr:Nat->Zj)(np:Nat)(pr:Nat->ZA)(sa:Int)(la:Int)(gn:Nat)(gr:Nat->DT3)(Xv:Nat->(Nat->Zj)->Nat->Nat->(Nat->ZA)->Int)(Cv:Nat->(Nat->DT3)->Int->Bool):Lp:=lpL 79 3 4 4 85 [0,2,13,14] [(0,.own),(1,.own),(2,.cell 0 12),(3,.own)] [] (of_ts d p gu ga no orr np pr sa la gn gr Xv Cv) (of_ys d p gu ga no orr np pr sa la gn gr Xv Cv) (.exit 0) .ret ((la,orr,np,pr):Int×(Nat->Zj)×Nat×(Nat->ZA)) (XL d p gu ga no orr np pr sa la gn gr Xv Cv) (Zal d p gu ga no orr np pr sa la gn gr Xv Cv) (no) (of_ets d p gu ga no orr np pr sa la gn gr Xv Cv) (of_eys d p gu ga no orr np pr sa la gn gr Xv Cv)
theorem of_lp_ok(d:Za)(p:Zg)(gu:Ze)(ga:Zd)(no:Nat)(orr:Nat->Zj)(np:Nat)(pr:Nat->ZA)(sa:Int)(la:Int)(gn:Nat)(gr:Nat->DT3)(Xv:Nat->(Nat->Zj)->Nat->Nat->(Nat->ZA)->Int)(Cv:Nat->(Nat->DT3)->Int->Bool)(hc1:(Gj Xv).Ok P)(hc2:(Ga Cv).Ok P)(hX:∀k y q n r,-1<=Xv k y q n r/\Xv k y q n r<((n:Nat):Int))(hl:no<=1000)(hp:np<=100)(hg:gn<=1000):(of_lp d p gu ga no orr np pr sa la gn gr Xv Cv).Ok P:=by
 refine lpL_okA ((ZC hm hn (l:=[Gj Xv,Ga Cv]) ⟨hc1,hc2,trivial⟩ (ls:=[]) trivial ze).ZbY (WV [(149,16,za)])) rfl (by kernel_rfl) (of_round d p gu ga no orr np pr sa la gn gr Xv Cv) exN YK (λ_=>rfl) (rd:=(λ_ t y=>(((y.getD 0 .none).cells.nth 13).toInt,(λj=>ZV ((y.getD 1 .none).Kg j)),((y.getD 0 .none).cells.nth 12).oslN,(λj=>Ye ((y.getD 2 .none).Kg j))))) (λi z=>rfl) (λi=>rfl) rfl (λi hlt hg=>?_) (λi hi0 hi=>?_)
 ·have hltI:(i:Int)<((no:Nat):Int):=by omega
  refine⟨?_,⟨?_,⟨?_,⟨?_,⟨λhb0=>trivial,λhb0=>⟨λhb1=>trivial,λhb1=>⟨?_,⟨?_,⟨?_,⟨?_,⟨?_,⟨?_,⟨?_,⟨?_,⟨?_,⟨?_,⟨?_,⟨?_,⟨?_,trivial⟩⟩⟩⟩⟩⟩⟩⟩⟩⟩⟩⟩⟩⟩⟩⟩⟩⟩⟩
  all_goals(have hf0:=of_cnt d p gu ga no orr np pr sa la gn gr Xv Cv hX hp i;have hf1:=hX no (λj=>ZV (Zo za ((XL d p gu ga no orr np pr sa la gn gr Xv Cv i).2.1 j))) (0+zi i) (XL d p gu ga no orr np pr sa la gn gr Xv Cv i).2.2.1 (λj=>Ye (Zt za ((XL d p gu ga no orr np pr sa la gn gr Xv Cv i).2.2.2 (0+j)))))
  all_goals(repeat'(first|exact rfl|exact λ_=>⟨rfl,rfl⟩|apply zB|intro _))
  all_goals(try simp only[decide_eq_true_eq,decide_eq_false_iff_not,yj,yu]at*)
  all_goals(try simp(disch:=omega) only[IntWalk.i64_in])
  all_goals(first|omega|exact(by simp at*;omega)|exact(by refine cP (p:=λv=>V.Y6 v=ze) (λhc=>?_) (λhc=>?_)<;>first|rfl|(exfalso;simp only[Wj]at hc;simp(disch:=omega) only[IntWalk.i64_in]at*;omega))|exact(by refine cP (p:=λv=>V.clean v=ze) (λhc=>?_) (λhc=>?_)<;>first|rfl|(exfalso;simp only[Wj]at hc;simp(disch:=omega) only[IntWalk.i64_in]at*;omega)))
 ·have hw:=(IntWalk.i64_in ((i:Int)+1) ⟨by omega,by omega⟩)
  have hf:=of_cnt d p gu ga no orr np pr sa la gn gr Xv Cv hX hp i
  have hx:-1<=(Xv no (λj=>ZV (Zo za ((XL d p gu ga no orr np pr sa la gn gr Xv Cv i).2.1 j))) (0+zi i) (XL d p gu ga no orr np pr sa la gn gr Xv Cv i).2.2.1 (λj=>Ye (Zt za ((XL d p gu ga no orr np pr sa la gn gr Xv Cv i).2.2.2 (0+j)))))/\(Xv no (λj=>ZV (Zo za ((XL d p gu ga no orr np pr sa la gn gr Xv Cv i).2.1 j))) (0+zi i) (XL d p gu ga no orr np pr sa la gn gr Xv Cv i).2.2.1 (λj=>Ye (Zt za ((XL d p gu ga no orr np pr sa la gn gr Xv Cv i).2.2.2 (0+j)))))<(((XL d p gu ga no orr np pr sa la gn gr Xv Cv i).2.2.1:Nat):Int):=hX _ _ _ _ _
  have hle:zi (Xv no (λj=>ZV (Zo za ((XL d p gu ga no orr np pr sa la gn gr Xv Cv i).2.1 j))) (0+zi i) (XL d p gu ga no orr np pr sa la gn gr Xv Cv i).2.2.1 (λj=>Ye (Zt za ((XL d p gu ga no orr np pr sa la gn gr Xv Cv i).2.2.2 (0+j)))))+((XL d p gu ga no orr np pr sa la gn gr Xv Cv i).2.2.1-zi (zy .i64 ((Xv no (λj=>ZV (Zo za ((XL d p gu ga no orr np pr sa la gn gr Xv Cv i).2.1 j))) (0+zi i) (XL d p gu ga no orr np pr sa la gn gr Xv Cv i).2.2.1 (λj=>Ye (Zt za ((XL d p gu ga no orr np pr sa la gn gr Xv Cv i).2.2.2 (0+j)))))+1)))<=(XL d p gu ga no orr np pr sa la gn gr Xv Cv i).2.2.1:=by rw[IntWalk.i64_in _ ⟨by omega,by omega⟩];omega
  refine⟨?_,⟨?_,?_⟩⟩
  all_goals(first|exact⟨rfl,YL (ts:=of_ts d p gu ga no orr np pr sa la gn gr Xv Cv) hw rfl,⟨LeK.var (Le.soft rfl),LeK.QL rfl (λj hj=>by first|rfl|exact ofA rfl rfl rfl rfl),LeK.arrLe (by first|exact zJ _|exact hle) (λj hj=>by first|rfl|exact ofB rfl hj),LeK.QL rfl (λj hj=>congrArg yg (by first|rfl|exact ZaE (c:=ZP za) (r:=gr) j)),trivial⟩⟩|exact⟨rfl,rfl,(by repeat'(first|exact Le.refl _|exact Le.junk _ rfl|apply Le.cons)),⟨LeK.any _,LeK.any _,LeK.any _,LeK.any _,trivial⟩⟩)
theorem Zly(k:Nat)(y:Nat->Zj)(q an:Nat)(a:Nat->ZA):XO k y q an a=bif Zv (Vb an a k y q) an then((Yc (Vb an a k y q) an 0:Nat):Int)else -1:=by
 unfold XO ZiY
 show V.toInt (bif (bif Zv (Vb an a k y q) an then ze else za)then _ else _)=_
 cases Zv (Vb an a k y q) an<;>rfl
theorem ixPut_rng(k:Nat)(y:Nat->Zj)(q an:Nat)(a:Nat->ZA):-1<=XO k y q an a/\XO k y q an a<((an:Nat):Int):=by
 rw[Zly]
 cases h:Zv (Vb an a k y q) an with
 |true=>have:=ZcZ h;show -1<=((Yc _ an 0:Nat):Int)/\((Yc _ an 0:Nat):Int)<an;omega
 |false=>show -1<=(-1:Int)/\(-1:Int)<an;omega
def off_T(d:Za)(p:Zg)(gu:Ze)(ga:Zd)(no:Nat)(orr:Nat->Zj)(np:Nat)(pr:Nat->ZA)(sa:Int)(la:Int)(Yv:Zg->Ze->Int->Int)(On:Zd->Int->Int)(Ob:Zd->Int->Bool)(Gn:Zd->Int->Nat)(Gr:Zd->Int->Nat->DT3)(Xv:Nat->(Nat->Zj)->Nat->Nat->(Nat->ZA)->Int)(Cv:Nat->(Nat->DT3)->Int->Bool):Tree (V×List Blk):=
 let q0:=(Wm d p gu ga no orr np pr sa la Yv On Ob Gn Gr np)
 let q1:=(XL d p gu ga no orr np pr sa la (zL q0) (zu q0) Xv Cv no)
 let q12:=(zl za 1 p.n0 λj=>zf (zn za .u32 (p.2 j).f0) zh)
 let q2:=(q12=zl za 1 p.n0 λj=>zf (zn za .u32 (p.2 j).f0) zh)
 let q3:=(ci (0:Int) (ci (no:Int) (ci (0:Int) zh)))
 let q13:=(zl za 4 gu.n0 λj=>Zr za (gu.2 j))
 let q4:=(q13=zl za 4 gu.n0 λj=>Zr za (gu.2 j))
 let q14:=(zl za 2 d.n7 λj=>ZO za (d.15 j))
 let q5:=(q14=zl za 2 d.n7 λj=>ZO za (d.15 j))
 let q15:=(zl za 2 d.n10 λj=>ZE za (d.20 j))
 let q6:=(q15=zl za 2 d.n10 λj=>ZE za (d.20 j))
 let q16:=(zl za 3 d.n11 λj=>Zx za (d.22 j))
 let q7:=(q16=zl za 3 d.n11 λj=>Zx za (d.22 j))
 let q17:=(zl za 4 gu.n1 λj=>Zn za (gu.4 j))
 let q8:=(q17=zl za 4 gu.n1 λj=>Zn za (gu.4 j))
 let q18:=(zl za 2 ga.n0 λj=>Zw za (ga.2 j))
 let q9:=(q18=zl za 2 ga.n0 λj=>Zw za (ga.2 j))
 let q19:=(zl za 5 d.n8 λj=>ZI za (d.17 j))
 let q10:=(q19=zl za 5 d.n8 λj=>ZI za (d.17 j))
 let q20:=(zl za 2 d.n1 λj=>ZR za (d.3 j))
 let q11:=(q20=zl za 2 d.n1 λj=>ZR za (d.3 j))
 zw ((zV za 0 0 0 0=zV za 0 0 0 0/\V.osl za 2 2 0 np=V.osl za 2 2 0 np/\vi (np:Int)=vi (np:Int)/\vi (0:Int)=vi (0:Int)/\zh=zh)/\(vi d.f0=vi d.f0/\q11/\q2/\q4/\q8/\q9/\V.osl za 1 11 0 no=V.osl za 1 11 0 no/\q5/\q10/\vi d.f9=vi d.f9/\q6/\q7/\V.osl za 2 2 0 np=V.osl za 2 2 0 np/\zn za .u64 la=zn za .u64 la/\((0:Nat)=(0:Nat)/\(3:Nat)<(4:Nat))/\vi sa=vi sa/\zh=zh)/\((11:Nat)=(11:Nat)/\no=no/\∀(j:Nat),Zo za (orr j)=Zo za (orr j))/\((2:Nat)=(2:Nat)/\np=np/\∀(j:Nat),Zt za (pr j)=Zt za (pr j))/\(0:Nat)=(0:Nat)/\True) (zw (zf (zV za 0 0 0 0) q3=zf (zV za 0 0 0 0) q3/\(vi d.f0=vi d.f0/\q11/\q2/\q4/\q8/\q9/\V.osl za 1 11 0 no=V.osl za 1 11 0 no/\q5/\q10/\vi d.f9=vi d.f9/\q6/\q7/\V.osl za 2 2 0 np=V.osl za 2 2 0 np/\zn za .u64 la=zn za .u64 la/\V.osl za 3 1 0 (zL q0)=V.osl za 3 1 0 (zL q0)/\vi sa=vi sa/\zh=zh)/\((11:Nat)=(11:Nat)/\no=no/\∀(j:Nat),Zo za (orr j)=Zo za (orr j))/\((2:Nat)=(2:Nat)/\np=np/\∀(j:Nat),Zt za (pr j)=Zt za (pr j))/\((1:Nat)=(1:Nat)/\zL q0=zL q0/\∀(j:Nat),ci (q0.2 j).f0 zh=ci (q0.2 j).f0 zh)/\True) (zD (bif Zv (Zal d p gu ga no orr np pr sa la (zL q0) (zu q0) Xv Cv) no then ze else za) (zx (zn ze .i64 (6:Int),[Blk.any,Blk.any,Blk.any])) (zx (zn ze .i64 (0:Int),[zN (ci d.f0 (zf q20 (zf q12 (zf q13 (zf q17 (zf q18 (zf (V.osl za 1 11 0 no) (zf q14 (zf q19 (ci d.f9 (zf q15 (zf q16 (zf (V.osl za 2 2 0 (zL (zu (zu q1)))) (zf (zn za .u64 (zL q1)) (zf (V.osl za 3 1 0 (zL q0)) (ci sa zh)))))))))))))))),Blk.arr 11 no λj=>Zo za ((zu q1).1 j),Blk.arr 2 (zL (zu (zu q1))) λj=>Zt za ((zu (zu q1)).2 j),Blk.arr 1 (zL q0) λj=>ci (q0.2 j).f0 zh]))))
theorem off_tree(d:Za)(p:Zg)(gu:Ze)(ga:Zd)(no:Nat)(orr:Nat->Zj)(np:Nat)(pr:Nat->ZA)(sa:Int)(la:Int)(Yv:Zg->Ze->Int->Int)(On:Zd->Int->Int)(Ob:Zd->Int->Bool)(Gn:Zd->Int->Nat)(Gr:Zd->Int->Nat->DT3)(Xv:Nat->(Nat->Zj)->Nat->Nat->(Nat->ZA)->Int)(Cv:Nat->(Nat->DT3)->Int->Bool):evH (Zp P [Gj Xv,Ga Cv] [lo_lp d p gu ga no orr np pr sa la Yv On Ob Gn Gr,of_lp d p gu ga no orr np pr sa la (Wm d p gu ga no orr np pr sa la Yv On Ob Gn Gr np).1 (Wm d p gu ga no orr np pr sa la Yv On Ob Gn Gr np).2 Xv Cv] ze) 400 79 (.cons (.ptr ze 0 0 0 0) .nil) [.var (chO d p gu ga no np la .Zl sa),.arr 11 no (λj=>Zo za (orr j)),.arr 2 np (λj=>Zt za (pr j))]=off_T d p gu ga no orr np pr sa la Yv On Ob Gn Gr Xv Cv:=by kernel_rfl
def Wn(p:Zg)(gu:Ze)(ga:Zd)(no:Nat)(orr:Nat->Zj)(np:Nat)(pr:Nat->ZA)(la:Int):Bool:=Zv (Zal (Z4 .nil) p gu ga no orr np pr 0 la (Wm (Z4 .nil) p gu ga no orr np pr 0 la Yb YP XR YO Y9 np).1 (Wm (Z4 .nil) p gu ga no orr np pr 0 la Yb YP XR YO Y9 np).2 XO Yy) no
def Xz(p:Zg)(gu:Ze)(ga:Zd)(no:Nat)(orr:Nat->Zj)(np:Nat)(pr:Nat->ZA)(la:Int):Int×(Nat->Zj)×Nat×(Nat->ZA):=XL (Z4 .nil) p gu ga no orr np pr 0 la (Wm (Z4 .nil) p gu ga no orr np pr 0 la Yb YP XR YO Y9 np).1 (Wm (Z4 .nil) p gu ga no orr np pr 0 la Yb YP XR YO Y9 np).2 XO Yy no
def XV(p:Zg)(gu:Ze)(ga:Zd)(no:Nat)(orr:Nat->Zj)(np:Nat)(pr:Nat->ZA)(la:Int):Nat×(Nat->DT3):=Wm (Z4 .nil) p gu ga no orr np pr 0 la Yb YP XR YO Y9 np
theorem off_at(d:Za)(p:Zg)(gu:Ze)(ga:Zd)(no:Nat)(orr:Nat->Zj)(np:Nat)(pr:Nat->ZA)(sa:Int)(la:Int)(h0:no<=1000)(h1:np<=100)(h2:gu.n0<=1000)(h3:gu.n1<=1000)(h4:ga.n0<=1000)(h5:∀j,(ga.r0 j).n1<=1000)(h6:∀o,YO ga o<=8)(h7:∀j,j<np->(0<=Zk gu (pr j).f0/\Zk gu (pr j).f0<gu.n0)/\0<=(gu.r0 (Zk gu (pr j).f0).toNat).f3/\(gu.r0 (Zk gu (pr j).f0).toNat).f3<p.n0):YG P 79 (.cons (.ptr ze 0 0 0 0) .nil) [.var (chO d p gu ga no np la .Zl sa),.arr 11 no (λj=>Zo za (orr j)),.arr 2 np (λj=>Zt za (pr j))] (.node (bif (Wn p gu ga no orr np pr la)then ze else za) (.leaf (.int ze .i64 6,[.any,.any,.any])) (.leaf (.int ze .i64 0,[.var (chO d p gu ga no ((Xz p gu ga no orr np pr la)).2.2.1 ((Xz p gu ga no orr np pr la)).1 (.osl za 3 1 0 ((XV p gu ga no orr np pr la)).1) sa),.arr 11 no (λj=>Zo za (((Xz p gu ga no orr np pr la)).2.1 j)),.arr 2 ((Xz p gu ga no orr np pr la)).2.2.1 (λj=>Zt za (((Xz p gu ga no orr np pr la)).2.2.2 j)),.arr 1 ((XV p gu ga no orr np pr la)).1 (λj=>ZP za (((XV p gu ga no orr np pr la)).2 j))]))):=by
 have hfin:(off_T d p gu ga no orr np pr sa la Yb YP XR YO Y9 XO Yy).bare=(.node (bif (Wn p gu ga no orr np pr la)then ze else za) (.leaf (.int ze .i64 6,[.any,.any,.any])) (.leaf (.int ze .i64 0,[.var (chO d p gu ga no ((Xz p gu ga no orr np pr la)).2.2.1 ((Xz p gu ga no orr np pr la)).1 (.osl za 3 1 0 ((XV p gu ga no orr np pr la)).1) sa),.arr 11 no (λj=>Zo za (((Xz p gu ga no orr np pr la)).2.1 j)),.arr 2 ((Xz p gu ga no orr np pr la)).2.2.1 (λj=>Zt za (((Xz p gu ga no orr np pr la)).2.2.2 j)),.arr 1 ((XV p gu ga no orr np pr la)).1 (λj=>ZP za (((XV p gu ga no orr np pr la)).2 j))]))):=by
  kernel_rfl
 rw[<- hfin]
 refine Zga (E:=(Zp P [Gj XO,Ga Yy] [lo_lp d p gu ga no orr np pr sa la Yb YP XR YO Y9,of_lp d p gu ga no orr np pr sa la (Wm d p gu ga no orr np pr sa la Yb YP XR YO Y9 np).1 (Wm d p gu ga no orr np pr sa la Yb YP XR YO Y9 np).2 XO Yy] ze)) (ZC hm hn (l:=[Gj XO,Ga Yy]) ⟨Zkj,Zfg,trivial⟩ (ls:=[lo_lp d p gu ga no orr np pr sa la Yb YP XR YO Y9,of_lp d p gu ga no orr np pr sa la (Wm d p gu ga no orr np pr sa la Yb YP XR YO Y9 np).1 (Wm d p gu ga no orr np pr sa la Yb YP XR YO Y9 np).2 XO Yy]) ⟨lo_lp_ok d p gu ga no orr np pr sa la Yb YP XR YO Y9 Ze7 c_gOf_ok c_gMem_ok h6 h1 h2 h3 h4 h5 h7,of_lp_ok d p gu ga no orr np pr sa la (Wm d p gu ga no orr np pr sa la Yb YP XR YO Y9 np).1 (Wm d p gu ga no orr np pr sa la Yb YP XR YO Y9 np).2 XO Yy Zkj Zfg ixPut_rng h0 h1 (by have:=lo_cnt d p gu ga no orr np pr sa la Yb YP XR YO Y9 h6 np;omega),trivial⟩ ze) (off_tree d p gu ga no orr np pr sa la Yb YP XR YO Y9 XO Yy) ?_
 refine⟨?_,⟨?_,⟨λhb0=>trivial,λhb0=>trivial⟩⟩⟩
 all_goals(first|exact lo_fit d p gu ga no orr np pr sa la Yb YP XR YO Y9|exact of_fit d p gu ga no orr np pr sa la (Wm d p gu ga no orr np pr sa la Yb YP XR YO Y9 np).1 (Wm d p gu ga no orr np pr sa la Yb YP XR YO Y9 np).2 XO Yy|((repeat'(first|exact rfl|exact QZ _|exact λ_=>⟨rfl,rfl⟩|exact λ_=>rfl|apply zB|intro _));all_goals(try simp only[decide_eq_true_eq,decide_eq_false_iff_not]at*);all_goals(first|omega|(simp at*;omega))))
def UK(fbad:Zg->Ze->Zd->Nat->(Nat->Zj)->Nat->(Nat->ZA)->Int->Bool)(fz:Zg->Ze->Zd->Nat->(Nat->Zj)->Nat->(Nat->ZA)->Int->Int×(Nat->Zj)×Nat×(Nat->ZA))(fg:Zg->Ze->Zd->Nat->(Nat->Zj)->Nat->(Nat->ZA)->Int->Nat×(Nat->DT3)):HK:=λargs bl=>match args,bl with
 | .cons _ .nil,[.var c,.arr _ no g1,.arr _ np g2]=>zk (.need (hkEq args bl (.cons (.ptr ze 0 0 0 0) .nil) [.var (chO (Z4 c) (Z0 (.cons (c.nth 2) .nil)) (ZH (.cons (c.nth 3) (.cons (c.nth 4) .nil))) (ZT (.cons (c.nth 5) .nil)) (no) (np) ((c.nth 13).toInt) .Zl ((c.nth 15).toInt)),.arr 11 (no) (λj=>Zo za (((λj=>ZV (g1 j))) j)),.arr 2 (np) (λj=>Zt za (((λj=>Ye (g2 j))) j))]/\(λ(d:Za)(p:Zg)(gu:Ze)(ga:Zd)(no:Nat)(orr:Nat->Zj)(np:Nat)(pr:Nat->ZA)(sa:Int)(la:Int)=>no<=1000/\np<=100/\gu.n0<=1000/\gu.n1<=1000/\ga.n0<=1000/\(∀j,(ga.r0 j).n1<=1000)/\(∀o,YO ga o<=8)/\(∀j,j<np->(0<=Zk gu (pr j).f0/\Zk gu (pr j).f0<gu.n0)/\0<=(gu.r0 (Zk gu (pr j).f0).toNat).f3/\(gu.r0 (Zk gu (pr j).f0).toNat).f3<p.n0)) (Z4 c) (Z0 (.cons (c.nth 2) .nil)) (ZH (.cons (c.nth 3) (.cons (c.nth 4) .nil))) (ZT (.cons (c.nth 5) .nil)) (no) ((λj=>ZV (g1 j))) (np) ((λj=>Ye (g2 j))) ((c.nth 15).toInt) ((c.nth 13).toInt)) (.node (bif (fbad (Z0 (.cons (c.nth 2) .nil)) (ZH (.cons (c.nth 3) (.cons (c.nth 4) .nil))) (ZT (.cons (c.nth 5) .nil)) (no) ((λj=>ZV (g1 j))) (np) ((λj=>Ye (g2 j))) ((c.nth 13).toInt))then ze else za) (.leaf (.int ze .i64 6,[.any,.any,.any])) (.leaf (.int ze .i64 0,[.var (chO (Z4 c) (Z0 (.cons (c.nth 2) .nil)) (ZH (.cons (c.nth 3) (.cons (c.nth 4) .nil))) (ZT (.cons (c.nth 5) .nil)) (no) ((fz (Z0 (.cons (c.nth 2) .nil)) (ZH (.cons (c.nth 3) (.cons (c.nth 4) .nil))) (ZT (.cons (c.nth 5) .nil)) (no) ((λj=>ZV (g1 j))) (np) ((λj=>Ye (g2 j))) ((c.nth 13).toInt))).2.2.1 ((fz (Z0 (.cons (c.nth 2) .nil)) (ZH (.cons (c.nth 3) (.cons (c.nth 4) .nil))) (ZT (.cons (c.nth 5) .nil)) (no) ((λj=>ZV (g1 j))) (np) ((λj=>Ye (g2 j))) ((c.nth 13).toInt))).1 (.osl za 3 1 0 ((fg (Z0 (.cons (c.nth 2) .nil)) (ZH (.cons (c.nth 3) (.cons (c.nth 4) .nil))) (ZT (.cons (c.nth 5) .nil)) (no) ((λj=>ZV (g1 j))) (np) ((λj=>Ye (g2 j))) ((c.nth 13).toInt))).1) ((c.nth 15).toInt)),.arr 11 (no) (λj=>Zo za (((fz (Z0 (.cons (c.nth 2) .nil)) (ZH (.cons (c.nth 3) (.cons (c.nth 4) .nil))) (ZT (.cons (c.nth 5) .nil)) (no) ((λj=>ZV (g1 j))) (np) ((λj=>Ye (g2 j))) ((c.nth 13).toInt))).2.1 j)),.arr 2 ((fz (Z0 (.cons (c.nth 2) .nil)) (ZH (.cons (c.nth 3) (.cons (c.nth 4) .nil))) (ZT (.cons (c.nth 5) .nil)) (no) ((λj=>ZV (g1 j))) (np) ((λj=>Ye (g2 j))) ((c.nth 13).toInt))).2.2.1 (λj=>Zt za (((fz (Z0 (.cons (c.nth 2) .nil)) (ZH (.cons (c.nth 3) (.cons (c.nth 4) .nil))) (ZT (.cons (c.nth 5) .nil)) (no) ((λj=>ZV (g1 j))) (np) ((λj=>Ye (g2 j))) ((c.nth 13).toInt))).2.2.2 j)),.arr 1 ((fg (Z0 (.cons (c.nth 2) .nil)) (ZH (.cons (c.nth 3) (.cons (c.nth 4) .nil))) (ZT (.cons (c.nth 5) .nil)) (no) ((λj=>ZV (g1 j))) (np) ((λj=>Ye (g2 j))) ((c.nth 13).toInt))).1 (λj=>ZP za (((fg (Z0 (.cons (c.nth 2) .nil)) (ZH (.cons (c.nth 3) (.cons (c.nth 4) .nil))) (ZT (.cons (c.nth 5) .nil)) (no) ((λj=>ZV (g1 j))) (np) ((λj=>Ye (g2 j))) ((c.nth 13).toInt))).2 j))]))))
 |_,_=>zm
abbrev off_K:HK:=UK Wn Xz XV
theorem off_ok:Xj P 79 off_K:=by
 intro args bl T hT
 unfold off_K UK at hT
 split at hT
 ·rename_i q0 c q1 no g1 q2 np g2
  injection hT with hT
  subst hT
  exact Zgb λhp=>YG.eq (off_at (Z4 c) (Z0 (.cons (c.nth 2) .nil)) (ZH (.cons (c.nth 3) (.cons (c.nth 4) .nil))) (ZT (.cons (c.nth 5) .nil)) (no) ((λj=>ZV (g1 j))) (np) ((λj=>Ye (g2 j))) ((c.nth 15).toInt) ((c.nth 13).toInt) hp.2.1 hp.2.2.1 hp.2.2.2.1 hp.2.2.2.2.1 hp.2.2.2.2.2.1 hp.2.2.2.2.2.2.1 hp.2.2.2.2.2.2.2.1 hp.2.2.2.2.2.2.2.2) hp.1
 ·cases hT
def ZdA(a:Zg)(b:Int)(c:Int):Tree V:=
 let q5:=(a.2 ((0:Nat)+zi b))
 let q0:=((yA (zU (zR .u32) (zy .u32 ((yA (zU (zR .u32) c&&& zU (zR .u32) (255:Int)):Nat):Int))&&& ~~~zU (zR .u32) q5.f0):Nat):Int)
 let q1:=(Wo (Z0 (zf (zl za 1 a.n0 λj=>V.soft._f (zf (zn za .u32 (a.2 j).f0) zh) ⟨⟨V.soft._f (zn za .u32 (a.2 j).f0) zY,zY⟩,V.soft._f zh zY,zY⟩) zh)))
 let q2:=(bif bif c==(0:Int)then ze else !zy .u32 q0==(0:Int)then(2:Int)else bif c==q5.f0 then(181:Int)else(6:Int))
 let q3:=(zn ze .i64 (0:Int))
 let q4:=(zH (zf (zl za 1 a.n0 λj=>zf (zn za .u32 (a.2 j).f0) zh) zh))
 let q6:=(zH (zf V.Zl zh))
 zw (zf q4 zh=zf q4 zh/\a.n0<=(5:Nat)) (zD (bif V.toInt q1 != (0:Int)then ze else za) (zx (V.tup (zf q6 (zf q3 (ci (V.toInt q1) zh))))) (zD (bif bif bif bif decide (b<(0:Int))then ze else decide (b>=((a.n0:Nat):Int))then ze else za then ze else za then ze else za) (zx (V.tup (zf q6 (zf q3 (zf (zn ze .i64 (4:Int)) zh))))) (zw (a.n0<=(1000:Nat)/\∀(j:Nat),zf (zn za .u32 (a.2 j).f0) zh=ZL za (Yq (ZL za (a.2 j)))) (zD (bif zy .u32 ((yA (zU (zR .u32) c&&& ~~~zU (zR .u32) (255:Int)):Nat):Int) != (0:Int)then ze else za) (zx (V.tup (zf q6 (zf q3 (zf (zn ze .i64 (140:Int)) zh))))) (zw ((0:Int)<=b/\b<((a.n0:Nat):Int)) (zw ((0:Nat)+zi b<a.n0) (zD (bif bif bif c==(0:Int)then ze else !zy .u32 q0==(0:Int)then ze else bif bif c==q5.f0 then ze else bif bif ((a.n0:Nat):Int)==(4:Int)then ze else za then ze else za then ze else za then ze else za) (zD (bif q2 != (0:Int)then ze else za) (zx (V.tup (zf q6 (zf q3 (ci q2 zh))))) (zw ((0:Nat)+a.n0<=a.n0) (zx (V.tup (zf (zH (zf (zl za 1 a.n0 λj=>zf (zn za .u32 (a.2 ((0:Nat)+j)).f0) zh) zh)) (zf q3 (zf q3 zh))))))) (zw ((0:Int)<=b/\b<((a.n0:Nat):Int)) (zw ((0:Nat)+zi b<a.n0) (zw ((0:Int)<=b/\b<((a.n0:Nat):Int)) (zw ((0:Nat)+zi b<a.n0) (zw (a.n0<=a.n0/\fits (a.n0+(1:Nat)) (4:Nat)) (zw ((0:Nat)+(a.n0+(1:Nat))<=a.n0+(1:Nat)) (zx (V.tup (zf (zH (zf (zl za 1 (a.n0+(1:Nat)) λj=>bif zo ((0:Nat)+j) (a.n0+nat_lit 0)then zf (zn za .u32 c) zh else bif zo ((0:Nat)+j) ((0:Nat)+zi b)then zf (zn za .u32 (zy .u32 ((yA (zU (zR .u32) q5.f0&&& ~~~zU (zR .u32) c):Nat):Int))) zh else zf (zn za .u32 (a.2 ((0:Nat)+j)).f0) zh) zh)) (ci ((a.n0:Nat):Int) (zf q3 zh))))))))))))))))))
theorem Zq2(a:Zg)(b:Int)(c:Int):ZU { (Zp P [WG] [] ze)with hk:=Wx [⟨131,Gt⟩] } 400 187 (.cons (.agg (Y7 za a)) (.cons (.int za .i64 b) (.cons (.int za .u32 c) .nil)))=ZdA a b c:=by kernel_rfl
def Zz(a:Zg)(b:Int)(c:Int):Zg:=Z0 (ZdA a b c).valOf.inner.hd.inner
def QW(a:Zg)(b:Int)(c:Int):Int:=(ZdA a b c).valOf.inner.tl.hd.toInt
def XE(a:Zg)(b:Int)(c:Int):Int:=(ZdA a b c).valOf.inner.tl.tl.hd.toInt
theorem Zq1(a:Zg)(b:Int)(c:Int)(h0:a.n0<=5):Zi P 187 (.cons (.agg (Y7 za a)) (.cons (.int za .i64 b) (.cons (.int za .u32 c) .nil))) (.tup (.cons (.agg (Y7 za (Zz a b c))) (.cons (.int za .i64 (QW a b c)) (.cons (.int za .i64 (XE a b c)) .nil)))):=by
 refine Wy (E:={ (Zp P [WG] [] ze)with hk:=Wx [⟨131,Gt⟩] }) ((ZC hm hn (l:=[WG]) ⟨Zfr,trivial⟩ (ls:=[]) trivial ze).KJ (l:=[⟨131,Gt⟩]) ⟨ZkB,trivial⟩) (.tup (.cons (.agg ZgV) (.cons (.int za .i64 0) (.cons (.int za .i64 0) .nil)))) (Has.of hn Tryz.func187 rfl) (Zq2 a b c) ?_ ?_
 ·refine⟨?_,⟨λhb0=>trivial,λhb0=>⟨λhb1=>trivial,λhb1=>⟨?_,⟨λhb2=>trivial,λhb2=>⟨?_,⟨?_,⟨λhb3=>⟨λhb4=>trivial,λhb4=>⟨?_,trivial⟩⟩,λhb3=>⟨?_,⟨?_,⟨?_,⟨?_,⟨?_,⟨?_,trivial⟩⟩⟩⟩⟩⟩⟩⟩⟩⟩⟩⟩⟩⟩
  all_goals((repeat'(first|exact rfl|exact λ_=>⟨rfl,rfl⟩|apply zB|intro _));all_goals(try simp only[decide_eq_true_eq,decide_eq_false_iff_not]at*);all_goals(first|omega|(simp at*;omega)))
 ·refine⟨⟨rfl,?_⟩,⟨⟨rfl,?_⟩,⟨⟨rfl,?_⟩,⟨⟨⟨rfl,?_⟩,⟨rfl,?_⟩⟩,⟨rfl,?_⟩⟩⟩⟩⟩
  all_goals((repeat'(first|exact rfl|exact trivial|apply zB|intro _|(refine WI (p:=λv=>yg v=Yr _ v) ?_ ?_))))
def Zft(r0:Zg->Int->Int->Zg)(r1:Zg->Int->Int->Int)(r2:Zg->Int->Int->Int):Con:=Yh 187 (λx=>(.cons (.agg (Y7 za (Z0 x.hd.inner))) (.cons (.int za .i64 x.tl.hd.toInt) (.cons (.int za .u32 x.tl.tl.hd.toInt) .nil)))) (λx=>(.tup (.cons (.agg (Y7 za (r0 (Z0 x.hd.inner) x.tl.hd.toInt x.tl.tl.hd.toInt))) (.cons (.int za .i64 (r1 (Z0 x.hd.inner) x.tl.hd.toInt x.tl.tl.hd.toInt)) (.cons (.int za .i64 (r2 (Z0 x.hd.inner) x.tl.hd.toInt x.tl.tl.hd.toInt)) .nil))))) (λx=>(λ(a:Zg)(b:Int)(c:Int)=>a.n0<=5) (Z0 x.hd.inner) x.tl.hd.toInt x.tl.tl.hd.toInt)
abbrev c_pSplit:Con:=Zft Zz QW XE
theorem Zod:c_pSplit.Ok P:=Yi (λx h=>Zq1 _ _ _ h)
abbrev Zea(a:Zd)(i:Int)(z:Nat×(Nat->Zc)):V:=(.cons .Zl (.cons (.osl za 1 1 0 z.1) (.cons (.rsl za 2 (Zd.n0 a) (λj=>Zw za (a.r0 j))) (.cons (.int za .i64 (((Zd.n0 a):Nat):Int)) (.cons (.int za .i64 i) .nil)))))
abbrev ZhE(a:Zd)(i:Int)(z:Nat×(Nat->Zc)):List Blk:=[.var (.cons (.rsl za 2 (Zd.n0 a) (λj=>Zw za (a.r0 j))) .nil),.arr 1 z.1 (λj=>Qz za (z.2 j))]
def Lgrs_R(a:Zd)(i:Int)(z:Nat×(Nat->Zc)):Tree Rd:=
 let q0:=(zl za 1 (a.2 (zi i)).n1 λj=>ci ((a.2 (zi i)).3 j).f0 zh)
 let q1:=(zl za 2 a.n0 λjj=>Zw za (a.2 jj))
 zw (((0:Int)<=i/\i<((a.n0:Nat):Int))/\(zf q0 zh=zf q0 zh/\(a.2 (zi i)).n1<=(1000:Nat))/\zL z<=zL z/\fits (zL z+(1:Nat)) (24:Nat)) (zx (Ex.normal,ze,zf V.Zl (zf (V.osl za 1 1 0 (zL z+(1:Nat))) (zf q1 (ci ((a.n0:Nat):Int) (ci (zy .i64 (i+(1:Int))) zh)))),[zN (zf q1 zh),Blk.arr 1 (zL z+(1:Nat)) λjj=>bif zo jj (zL z+nat_lit 0)then zf q0 zh else zf (zl za 1 (Zc.n0 (z.2 jj)) λj=>ci ((z.2 jj).2 j).f0 zh) zh]))
theorem Zm2(a:Zd):Yo P (Zp P [Ja,Jz] [] ze) 144 5 1 2 24 [2,3,10,11,12] [(0,.own),(1,.tmp 3)] [] (Zea a) (ZhE a) (λi=>(bif decide (i<((a.n0:Nat):Int))then za else ze)) (.exit 0) (Lgrs_R a):=λB i z=>by kernel_rfl
def ZhD(a:Zd)(k:Nat)(z:Nat×(Nat->Zc)):Nat×(Nat->Zc):=(λ(i:Int)(z:Nat×(Nat->Zc))=>((((zL z+(1:Nat)):Nat),(λ(jj:Nat)=>Ux (bif zo jj (zL z+nat_lit 0)then zf (zl za 1 (a.2 (zi i)).n1 λj=>zf (zn za .i64 ((a.2 (zi i)).3 j).f0) zh) zh else zf (zl za 1 (Zc.n0 (z.2 jj)) λj=>zf (zn za .i64 ((z.2 jj).2 j).f0) zh) zh))))) k z
def Jw(a:Zd)(k:Nat):Nat×(Nat->Zc):=ZQ (0,(λ_=>Ux .nil)) (ZhD a) k
theorem Lgrs_cnt(a:Zd)(k:Nat):(Jw a k).1<=k:=Zeq (m:=λz:Nat×(Nat->Zc)=>z.1) (zJ _) (λk z=>((by show _<=_+1;first|omega|exact Nat.le_succ _|exact zJ _):(λy:Nat×(Nat->Zc)=>y.1<=z.1+1) (ZhD a k z))) k
def Zd9(a:Zd):Lp:=JE 144 5 1 2 24 [2,3,10,11,12] [(0,.own),(1,.tmp 3)] [] (Zea a) (ZhE a) (.exit 0) (0,(λ_=>Ux .nil)) (Jw a) (Zd.n0 a)
def ZjO(a:Zd):Prop:=YW 2 [] (Zea a) (ZhE a) (0,(λ_=>Ux .nil)) (.cons .Zl (.cons .Zl (.cons (.rsl za 2 (Zd.n0 a) (λj=>Zw za (a.r0 j))) (.cons (.int za .i64 (((Zd.n0 a):Nat):Int)) (.cons (.int za .i64 (0:Int)) .nil))))) [.var (.cons (.rsl za 2 (Zd.n0 a) (λj=>Zw za (a.r0 j))) .nil),.none]
theorem Lgrs_fit(a:Zd):ZjO a:=⟨⟨rfl,⟨rfl,by decide⟩,rfl,rfl,rfl,rfl⟩,⟨rfl,rfl,trivial⟩⟩
theorem Zm1(a:Zd)(hl:a.n0<=1000)(h2:∀j,(a.r0 j).n1<=1000):(Zd9 a).Ok P:=by
 refine JY (ZC hm hn (l:=[Ja,Jz]) ⟨Zcq,Zco,trivial⟩ (ls:=[]) trivial ze) rfl (by kernel_rfl) (Zm2 a) exN YK (λ_=>rfl) (rd:=(λ_ t y=>((t.nth 1).oslN,(λj=>Ux ((y.getD 1 .none).Kg j))))) (λi z=>rfl) (λi=>rfl) rfl (λi hlt hg=>?_) (λi z hi=>?_)
 ·have hltI:(i:Int)<(((Zd.n0 a):Nat):Int):=by omega
  refine⟨?_,trivial⟩
  all_goals(have hf0:=Lgrs_cnt a i)
  all_goals(repeat'(first|exact rfl|exact λ_=>⟨rfl,rfl⟩|apply zB|intro _))
  all_goals(try simp only[decide_eq_true_eq,decide_eq_false_iff_not,yj,yu]at*)
  all_goals(try simp(disch:=omega) only[IntWalk.i64_in])
  all_goals(first|omega|exact h2 _)
 ·have hw:=(IntWalk.i64_in ((i:Int)+1) ⟨by omega,by omega⟩)
  all_goals exact⟨rfl,YL (ts:=Zea a) hw rfl,⟨LeK.refl _,LeK.QL rfl (λj hj=>by first|rfl|exact ZbN (g:=λv=>(Qz za (Ux v)).soft) rfl rfl),trivial⟩⟩
def Zc0(a:Zd):Tree V:=
 let q0:=(zf (zl za 2 a.n0 λj=>Zw za (a.2 j)) zh)
 zw (zf (zH q0) zh=zf (zH q0) zh/\a.n0<=(1000:Nat)/\∀(j:Nat),(a.2 j).n1<=(1000:Nat)) (zD (bif Wv (ZT q0) != (0:Int)then ze else za) (zx V.Zl) (zw (ZjO a) (zw ((0:Nat)+zL (Jw a a.n0)<=zL (Jw a a.n0)) (zx (zl za 1 (zL (Jw a a.n0)) λj=>zf (zl za 1 (Zc.n0 ((Jw a a.n0).2 ((0:Nat)+j))) λj_1=>ci (((Jw a a.n0).2 ((0:Nat)+j)).2 j_1).f0 zh) zh)))))
theorem ZpX(a:Zd):ZU (Zp P [Ja,Jz] [Zd9 a] ze) 400 144 (.cons (.agg (Jd za a)) .nil)=Zc0 a:=by kernel_rfl
def Xa(a:Zd):Nat:=(Zc0 a).valOf.Zy
def Z7(a:Zd):Nat->Zc:=λj=>Ux ((Zc0 a).valOf.ZB j)
theorem ZpW(a:Zd)(h0:a.n0<=1000)(h1:∀j,(a.r0 j).n1<=1000):Zi P 144 (.cons (.agg (Jd za a)) .nil) (.rsl za 1 (Xa a) λj=>Qz za ((Z7 a) j)):=by
 refine Wy (E:=(Zp P [Ja,Jz] [Zd9 a] ze)) (ZC hm hn (l:=[Ja,Jz]) ⟨Zcq,Zco,trivial⟩ (ls:=[Zd9 a]) ⟨Zm1 a h0 h1,trivial⟩ ze) (.rsl za 1 0 λ_=>patDT119) (Has.of hn Tryz.func144 rfl) (ZpX a) ?_ ?_
 ·refine⟨?_,⟨λhb0=>trivial,λhb0=>⟨?_,⟨?_,trivial⟩⟩⟩⟩
  all_goals(first|exact Lgrs_fit a|((repeat'(first|exact rfl|exact λ_=>⟨rfl,rfl⟩|apply zB|intro _));all_goals(try simp only[decide_eq_true_eq,decide_eq_false_iff_not]at*);all_goals(first|exact h1 _|omega|(simp at*;omega))))
 ·refine⟨⟨rfl,?_⟩,⟨rfl,?_⟩⟩
  all_goals((repeat'(first|exact rfl|exact trivial|apply zB|intro _|(refine cP (p:=λv=>yg v=Yr _ v) (λhc=>?_) (λhc=>?_))));all_goals(exfalso;simp only[XQ,Wj,Ws,WE,Wq,WC,zM,yF]at*;omega))
def Zfm(r0:Zd->Nat)(r1:Zd->Nat->Zc):Con:=Yh 144 (λx=>(.cons (.agg (Jd za (ZT x.hd.inner))) .nil)) (λx=>(.rsl za 1 (r0 (ZT x.hd.inner)) λj=>Qz za ((r1 (ZT x.hd.inner)) j))) (λx=>(λ(a:Zd)=>a.n0<=1000) (ZT x.hd.inner)/\(λ(a:Zd)=>∀j,(a.r0 j).n1<=1000) (ZT x.hd.inner))
abbrev c_gRows:Con:=Zfm Xa Z7
theorem Zn7:c_gRows.Ok P:=Yi (λx h=>ZpW _ h.1 h.2)
end Go.Proofs.YthhbdbeglmkijaaGreatDoor
end
