/- state.look: what its maps hold. -/
import Derived.Test.YthhbdbeglmkijaaGreatDoorMAl
import Derived.Test.YthhbdbeglmkijaaGreatDoorMAo
import Derived.Test.YthhbdbeglmkijaaGreatDoorMAg
import Derived.Test.YthhbdbeglmkijaaGreatDoorMAk
import Derived.Test.YthhbdbeglmkijaaGreatDoorMAj
import Derived.Test.YthhbdbeglmkijaaGreatDoorMAm
set_option maxRecDepth 100000
set_option linter.unusedVariables false
set_option linter.unusedSimpArgs false
noncomputable section
open Bool renaming true→ze,false→za,not_eq_true'→yg,not_eq_false'→yw,and_eq_true→zL,and_eq_false_iff→yE
open Go.Fw.V renaming int→zn,soft→z8,cons→zf,agg→zJ,nil→zh,rsl→zl,bool→zC,ptr→zQ
open Int renaming toNat→zk
open Nat renaming mul_le_mul_right→yx,zero_add→zX,beq→zq,le_refl→zI,not_lt_zero→yB,ble→zK,blt→zG,eq_or_lt_of_le→yG
open Go.Fw.Tree renaming need→zu,leaf→zw,node→zB
open Go.IntKind renaming wrap→zD,i64→zA,u32→yD,u64→yH,bits→zY
open And renaming intro→zy
open Prod renaming fst→zR
namespace Go.Proofs.YthhbdbeglmkijaaGreatDoor
open Go.Fw
theorem put_ix{h:Int->Bool}{g:Int->Int}{id v:Int}{p:Int->Prop}(hi:∀j,h j=ze->p (g j))(hv:p v):∀j,(bif j==id then ze else h j)=ze->p (bif j==id then v else g j):=by
 intro j hj
 cases e:(j==id)with
 |true=>exact hv
 |false=>rw[e]at hj;exact hi j hj
theorem lk1_ix(a:Za):∀k:Nat,∀j,(X3 a k).1 j=ze->0<=(X3 a k).2 j/\(X3 a k).2 j<k:=by
 intro k
 induction k with
 |zero=>intro j h;cases h
 |succ k ih=>
  show ∀j,(GQ a k (X3 a k)).1 j=ze->0<=(GQ a k (X3 a k)).2 j/\(GQ a k (X3 a k)).2 j<(k+1:Nat)
  generalize X3 a k=z at ih⊢
  exact put_ix (p:=λx=>0<=x/\x<((k+1:Nat):Int)) (λj hj=>by have:=ih j hj;omega) (by omega)
theorem lk3_ix(a:Za):∀k:Nat,∀j,(Xe a k).1 j=ze->0<=(Xe a k).2 j/\(Xe a k).2 j<k:=by
 intro k
 induction k with
 |zero=>intro j h;cases h
 |succ k ih=>
  show ∀j,(Zdk a k (Xe a k)).1 j=ze->0<=(Zdk a k (Xe a k)).2 j/\(Zdk a k (Xe a k)).2 j<(k+1:Nat)
  generalize Xe a k=z at ih⊢
  exact put_ix (p:=λx=>0<=x/\x<((k+1:Nat):Int)) (λj hj=>by have:=ih j hj;omega) (by omega)
theorem lk4_ix(a:Za)(h3:0<a.n3):∀k:Nat,∀j,(QY a k).1 j=ze->0<=(QY a k).2 j/\(QY a k).2 j<a.n3:=by
 intro k
 induction k with
 |zero=>intro j h;cases h
 |succ k ih=>
  show ∀j,(Zdm a k (QY a k)).1 j=ze->0<=(Zdm a k (QY a k)).2 j/\(Zdm a k (QY a k)).2 j<a.n3
  generalize QY a k=z at ih⊢
  refine put_ix (p:=λx=>0<=x/\x<(a.n3:Int)) ih ?_
  have h:=lk3_ix a a.n3 (a.r4 k).f1
  cases e:(Xe a a.n3).1 (a.r4 k).f1 with
  |true=>
   have:=h e
   show 0<=(bif (Xe a a.n3).1 (a.r4 k).f1 then(Xe a a.n3).2 (a.r4 k).f1 else 0)/\(bif (Xe a a.n3).1 (a.r4 k).f1 then(Xe a a.n3).2 (a.r4 k).f1 else 0)<(a.n3:Int)
   rw[e];exact this
  |false=>
   show 0<=(bif (Xe a a.n3).1 (a.r4 k).f1 then(Xe a a.n3).2 (a.r4 k).f1 else 0)/\(bif (Xe a a.n3).1 (a.r4 k).f1 then(Xe a a.n3).2 (a.r4 k).f1 else 0)<(a.n3:Int)
   rw[e];exact⟨Int.le_refl _,by show(0:Int)<a.n3;omega⟩
theorem ZiQ(a:Za):∀j:Int,(Zg a).oh j=ze->0<=(Zg a).og j/\(Zg a).og j<(Zg a).a.n6:=lk1_ix a a.n6
theorem look_HH(a:Za)(h3:0<a.n3):∀j:Int,0<=(bif (Zg a).hh j then(Zg a).hg j else 0)/\(bif (Zg a).hh j then(Zg a).hg j else 0)<(Zg a).a.n3:=by
 intro j
 have h:=lk4_ix a h3 a.n4 j
 show 0<=(bif (QY a a.n4).1 j then(QY a a.n4).2 j else 0)/\(bif (QY a a.n4).1 j then(QY a a.n4).2 j else 0)<(a.n3:Int)
 cases e:(QY a a.n4).1 j with
 |true=>exact h e
 |false=>exact⟨Int.le_refl _,by show(0:Int)<a.n3;omega⟩
theorem ZaQ{K:HK}{d:Ze}{r:Bool}{next:Tree V}{Q:V->Prop}{x:V×List Blk}(hK:(kT K (.cons (.ptr ze 0 0 0 0) .nil) (Yt d)).holds P λ_=>True)(hf:r=za->Q (.int ze .i64 300))(ht:r=ze->next.holds P Q):(chkM K d r next).holds P Q:=by
 unfold chkM
 rw[Tree.Yw]
 refine Tree.XI _ (λy _=>?_) hK
 refine⟨λh=>hf ?_,λh=>ht ?_⟩
 ·cases r
  ·rfl
  ·cases h
 ·cases r
  ·cases h
  ·rfl
theorem ZqZ(d:Ze)(h0:d.a.n1<=9)(h1:d.a.n2<=5)(h2:d.a.n3<=1000)(h3:d.a.n4<=1000)(h4:d.a.n5<=1000)(h5:d.a.n8<=1000)(h6:d.a.n10<=1000)(h7:d.a.n11<=1000)(h8:∀j,(d.a.r5 j).n1<=1000):(kT ZbP (.cons (.ptr ze 0 0 0 0) .nil) (Yt d)).holds P λ_=>True:=by
 unfold kT ZbP Yt
 simp only[Option.getD_some,V.Jp]
 exact⟨⟨⟨by kernel_rfl,λ_=>⟨rfl,rfl⟩,λ_=>⟨rfl,rfl⟩,λ_=>⟨rfl,rfl⟩⟩,h0,h1,h2,h3,h4,h5,h6,h7,h8⟩,trivial⟩
theorem Zp3(d:Ze)(h0:d.a.n1<=9)(h1:d.a.n2<=5)(h2:d.a.n3<=1000)(h3:d.a.n4<=1000)(h4:0<d.a.n4->∀j:Int,0<=(bif d.hh j then d.hg j else 0)/\(bif d.hh j then d.hg j else 0)<d.a.n3)(h5:Zp (Jr d) d.a.n3=za->0<d.a.n4->∀j:Int,0<=(d.a.r3 (bif d.hh j then d.hg j else 0).toNat).f3/\(d.a.r3 (bif d.hh j then d.hg j else 0).toNat).f3<d.a.n2):(kT ZbN (.cons (.ptr ze 0 0 0 0) .nil) (Yt d)).holds P λ_=>True:=by
 unfold kT ZbN Yt
 simp only[Option.getD_some,V.Jp]
 exact⟨⟨⟨by kernel_rfl,λ_=>⟨rfl,rfl⟩,λ_=>⟨rfl,rfl⟩,λ_=>⟨rfl,rfl⟩⟩,h0,h1,h2,h3,h4,h5⟩,trivial⟩
theorem ZqW(d:Ze)(h0:d.a.n3<=1000)(h1:d.a.n4<=1000)(h2:0<d.a.n4->∀j:Int,0<=(bif d.hh j then d.hg j else 0)/\(bif d.hh j then d.hg j else 0)<d.a.n3):(kT ZbO (.cons (.ptr ze 0 0 0 0) .nil) (Yt d)).holds P λ_=>True:=by
 unfold kT ZbO Yt
 simp only[Option.getD_some,V.Jp]
 exact⟨⟨⟨by kernel_rfl,λ_=>⟨rfl,rfl⟩,λ_=>⟨rfl,rfl⟩,λ_=>⟨rfl,rfl⟩⟩,h0,h1,h2⟩,trivial⟩
theorem ZpZ(d:Ze)(h0:d.a.n3<=1000)(h1:d.a.n4<=1000)(h2:d.a.n5<=1000)(h3:∀j,j<d.a.n5->0<(d.a.r5 j).n1/\(d.a.r5 j).n1<=8)(h4:∀j,(d.a.r5 j).n1<=1000)(h5:∀j:Int,d.oh j=ze->0<=d.og j/\d.og j<d.a.n6)(h6:d.a.n6=d.a.n4)(h7:0<d.a.n4->∀j:Int,0<=(bif d.hh j then d.hg j else 0)/\(bif d.hh j then d.hg j else 0)<d.a.n3)(h8:0<d.a.n4->∀j:Int,0<=(d.a.r3 (bif d.hh j then d.hg j else 0).toNat).f3/\(d.a.r3 (bif d.hh j then d.hg j else 0).toNat).f3<d.a.n2):(kT ZbM (.cons (.ptr ze 0 0 0 0) .nil) (Yt d)).holds P λ_=>True:=by
 unfold kT ZbM Yt
 simp only[Option.getD_some,V.Jp]
 exact⟨⟨⟨by kernel_rfl,λ_=>⟨rfl,rfl⟩,λ_=>⟨rfl,rfl⟩,λ_=>⟨rfl,rfl⟩⟩,h0,h1,h2,h3,h4,h5,h6,h7,h8⟩,trivial⟩
theorem Zr4(d:Ze)(h0:d.a.n8<=1000)(h1:d.a.n10<=1000)(h2:d.a.n11<=1000)(h3:∀j:Int,d.oh j=ze->0<=d.og j/\d.og j<d.a.n6)(h4:∀j:Nat,j<d.a.n8->1<=(d.a.r8 j).f0/\(d.a.r8 j).f0<=32):(kT ZbR (.cons (.ptr ze 0 0 0 0) .nil) (Yt d)).holds P λ_=>True:=by
 unfold kT ZbR Yt
 simp only[Option.getD_some,V.Jp]
 exact⟨⟨⟨by kernel_rfl,λ_=>⟨rfl,rfl⟩,λ_=>⟨rfl,rfl⟩,λ_=>⟨rfl,rfl⟩⟩,h0,h1,h2,h3,h4⟩,trivial⟩
theorem Zq0(d:Ze)(h0:d.a.n3<=1000)(h1:d.a.n4<=1000)(h2:d.a.n5<=1000)(h3:d.a.n6<=1000)(h4:d.a.n12<=1000)(h5:∀j,(d.a.r5 j).n1<=1000)(h6:∀j:Int,d.oh j=ze->0<=d.og j/\d.og j<d.a.n6)(h7:d.a.n6=d.a.n4)(h8:0<d.a.n4->∀j:Int,0<=(bif d.hh j then d.hg j else 0)/\(bif d.hh j then d.hg j else 0)<d.a.n3)(h9:0<d.a.n4->∀j:Int,0<=(d.a.r3 (bif d.hh j then d.hg j else 0).toNat).f3/\(d.a.r3 (bif d.hh j then d.hg j else 0).toNat).f3<d.a.n2)(h10:d.a.n7=d.a.n3):(kT ZbQ (.cons (.ptr ze 0 0 0 0) .nil) (Yt d)).holds P λ_=>True:=by
 unfold kT ZbQ Yt
 simp only[Option.getD_some,V.Jp]
 exact⟨⟨⟨by kernel_rfl,λ_=>⟨rfl,rfl⟩,λ_=>⟨rfl,rfl⟩,λ_=>⟨rfl,rfl⟩⟩,h0,h1,h2,h3,h4,h5,h6,h7,h8,h9,h10⟩,trivial⟩
theorem Zqs(a:Za)(h3:a.n3<=1000)(h4:a.n4<=1000)(h6:a.n6<=1000)(h12:a.n12<=1000):(kT Zbk (.cons (.agg (Z7 za a)) .nil) []).holds P λ_=>True:=by
 unfold kT Zbk
 exact⟨⟨by kernel_rfl,h3,h4,h6,h12⟩,trivial⟩
def ZL(a:Za):Int:=bif VT (Zg a)then(bif UA (Zg a)then(bif UC (Zg a)then(bif Zah (Zg a)then(bif K5 (Zg a)then(bif Zai (Zg a)then 0 else 300)else 300)else 300)else 300)else 300)else 300
theorem chk_ok:chkE.Ok:=(Zw hm hn (l:=[]) trivial (ls:=[]) trivial ze).KD (l:=chkHk) ⟨look_ok,vParts_ok,ZrN,vOwned_ok,ZrJ,ZrY,ZrS,trivial⟩
theorem chk_meets(a:Za)(h1:a.n1<=9)(h2:a.n2<=5)(h3:a.n3<=1000)(h4:a.n4<=1000)(h5:a.n5<=1000)(h6:a.n6<=1000)(h8:a.n8<=1000)(h10:a.n10<=1000)(h11:a.n11<=1000)(h12:a.n12<=1000)(hM:∀j,(a.r5 j).n1<=1000) :
  Zh P 9 (.cons (.agg (Z7 za a)) .nil) (.int za .i64 (ZL a)):=by
 refine meets chk_ok 400 (Has.of hn Tryz.func9 rfl) (chk_tree a) ?_
 rw[Tree.Yw]
 refine Tree.XI _ (λy _=>?_) (Zqs a h3 h4 h6 h12)
 have bad:∀x:Int,x=300->ZL a=x->(zn ze .i64 300).soft.clean=ze/\(zn ze .i64 300).soft=(zn za .i64 (ZL a)).soft:=λx hx e=>⟨rfl,by rw[e,hx];rfl⟩
 refine ZaQ (x:=(.nil,[])) (ZqZ _ h1 h2 h3 h4 h5 h8 h10 h11 hM) (λe1=>bad _ rfl (by unfold ZL;rw[e1];rfl)) λe1=>?_
 obtain⟨pd,pg,pe⟩:=Zdz e1
 have hHH:0<a.n4->∀j:Int,0<=(bif (Zg a).hh j then(Zg a).hg j else 0)/\(bif (Zg a).hh j then(Zg a).hg j else 0)<(Zg a).a.n3:=λhn4=>look_HH a (ZoK pd hn4)
 have hP0:(∀j,j<a.n3->(a.r3 j).f3<a.n2)->0<a.n4->∀j:Int,0<=(a.r3 (bif (Zg a).hh j then(Zg a).hg j else 0).toNat).f3/\(a.r3 (bif (Zg a).hh j then(Zg a).hg j else 0).toNat).f3<a.n2:=λhp hn4 j=>by
  have hj:=hHH hn4 j
  have hj2:(bif (Zg a).hh j then(Zg a).hg j else 0)<(a.n3:Int):=hj.2
  have hlt:(bif (Zg a).hh j then(Zg a).hg j else 0).toNat<a.n3:=by have:=hj.1;omega
  exact⟨Zkr pd _ hlt,hp _ hlt⟩
 refine ZaQ (x:=(.nil,[])) (Zp3 _ h1 h2 h3 h4 hHH (λhb=>hP0 λj hj=>Zli (Zg a) j (Y7 hb j hj))) (λe2=>bad _ rfl (by unfold ZL;rw[e1,e2];rfl)) λe2=>?_
 obtain⟨hD,hpool⟩:=ZiB e2
 have hP:=hP0 hpool
 refine ZaQ (x:=(.nil,[])) (ZqW _ h3 h4 hHH) (λe3=>bad _ rfl (by unfold ZL;rw[e1,e2,e3];rfl)) λe3=>?_
 have h64:=Zl3 e3
 refine ZaQ (x:=(.nil,[])) (ZpZ _ h3 h4 h5 (λj hj=>Zk5 (Ziw pg j hj)) hM (ZiQ a) h64 hHH hP) (λe4=>bad _ rfl (by unfold ZL;rw[e1,e2,e3,e4];rfl)) λe4=>?_
 refine ZaQ (x:=(.nil,[])) (Zr4 _ h8 h10 h11 (ZiQ a) (ZoY pe)) (λe5=>bad _ rfl (by unfold ZL;rw[e1,e2,e3,e4,e5];rfl)) λe5=>?_
 refine ZaQ (x:=(.nil,[])) (Zq0 _ h3 h4 h5 h6 h12 hM (ZiQ a) h64 hHH hP hD) (λe6=>bad _ rfl (by unfold ZL;rw[e1,e2,e3,e4,e5,e6];rfl)) λe6=>?_
 exact⟨rfl,by unfold ZL;rw[e1,e2,e3,e4,e5,e6];rfl⟩
def small(a:Za):Prop:=a.n1<=9/\a.n2<=5/\a.n3<=1000/\a.n4<=1000/\a.n5<=1000/\a.n6<=1000/\a.n8<=1000/\a.n10<=1000/\a.n11<=1000/\a.n12<=1000/\∀j,(a.r5 j).n1<=1000
def Vd(ck:Za->Int):Con:=Yd 9 (λx=>.cons (.agg (Z7 za (Yb x.hd.inner))) .nil) (λx=>.int za .i64 (ck (Yb x.hd.inner))) (λx=>small (Yb x.hd.inner))
theorem Zhx:(Vd ZL).Ok P:=Yf λx h=>chk_meets _ h.1 h.2.1 h.2.2.1 h.2.2.2.1 h.2.2.2.2.1 h.2.2.2.2.2.1 h.2.2.2.2.2.2.1 h.2.2.2.2.2.2.2.1 h.2.2.2.2.2.2.2.2.1 h.2.2.2.2.2.2.2.2.2.1 h.2.2.2.2.2.2.2.2.2.2
def Zga(a:Za)(d:Ze):HK:=λargs bl=>match args,bl with
 | .cons (.agg c) .nil,[]=>some (.need (c.soft=Z7 za a) (.leaf (.ptr ze 0 0 0 0,Yt d)))
 |_,_=>none
theorem lookK1_ok(a:Za)(h3:a.n3<=1000)(h4:a.n4<=1000)(h6:a.n6<=1000)(h12:a.n12<=1000):Xo P 34 (Zga a (Zg a)):=by
 intro args bl T hT
 unfold Zga at hT
 split at hT
 ·rename_i c
  injection hT with hT
  subst hT
  intro base mm F w xs Q KK h1 h2 hq hk
  obtain⟨hc,hq⟩:=hq
  have h2':=((YM (.cons (.agg c) .nil) 0 mm).2 xs.toList).2 h2
  rw[show z8 (.cons (.agg c) .nil)=.cons (.agg c.soft) .nil from rfl,hc]at h2'
  exact look_at _ h3 h4 h6 h12 base mm F w xs Q KK h1 h2' hq hk
 ·cases hT
abbrev askE(ck:Za->Int)(a:Za)(d:Ze):Env:={ (Zl P [Vd ck] [] ze)with hk:=Ww [⟨34,Zga a d⟩] }
theorem askE_ok(a:Za)(h:small a):(askE ZL a (Zg a)).Ok:=(Zw hm hn (l:=[Vd ZL]) ⟨Zhx,trivial⟩ (ls:=[]) trivial ze).KD (l:=[⟨34,Zga a (Zg a)⟩]) ⟨lookK1_ok a h.2.2.1 h.2.2.2.1 h.2.2.2.2.2.1 h.2.2.2.2.2.2.2.2.2.1,trivial⟩
theorem on_tree(ck:Za->Int)(a:Za)(b:Int)(d:Ze):ZT (askE ck a d) 400 14 (.cons (.agg (Z7 za a)) (.cons (.int za .i64 b) .nil))=
  .need (Z7 za a=Z7 za a) (.need ((!d.nh b)=za->zf (zJ (Z7 za a)) zh=zf (zJ (Z7 za a)) zh/\small a)
   (.node (bif bif !d.nh b then ze else ck a != (0:Int)then ze else za) (.leaf (.tup (.cons (.int ze .i64 0) (.cons (.bool ze za) .nil))))
    (.leaf (.tup (.cons (.int za .i64 (bif d.nh b then d.ng b else 0)) (.cons (.bool ze ze) .nil)))))):=by kernel_rfl
def Ju(a:Za)(b:Int):Bool:=(Zg a).nh b&&(ZL a==0)
def G8(a:Za)(b:Int):Int:=bif Ju a b then(Zg a).ng b else 0
theorem on_meets(a:Za)(b:Int)(h:small a):Zh P 14 (.cons (.agg (Z7 za a)) (.cons (.int za .i64 b) .nil)) (.tup (.cons (.int za .i64 (G8 a b)) (.cons (.bool za (Ju a b)) .nil))):=by
 refine meets (askE_ok a h) 400 (Has.of hn Tryz.func14 rfl) (on_tree ZL a b (Zg a)) ?_
 refine⟨rfl,λ_=>⟨rfl,h⟩,λhb=>?_,λhb=>?_⟩
 ·have e:Ju a b=za:=by
   unfold Ju
   cases h1:(Zg a).nh b with
   |false=>rfl
   |true=>
    rw[h1]at hb
    cases h2:(ZL a==0)with
    |false=>rfl
    |true=>
     have h3:(ZL a != 0)=za:=by rw[bne,h2];rfl
     rw[h3]at hb;cases hb
  exact⟨rfl,by unfold G8;rw[e];rfl⟩
 ·have h0:=nf4 hb
  have h1:=orF h0
  have h2:=nT h1.1
  have h3:(ZL a==0)=ze:=by
   have h4:=h1.2
   rw[bne]at h4
   exact nT h4
  have e:Ju a b=ze:=by unfold Ju;rw[h2,h3];rfl
  exact⟨rfl,by unfold G8;rw[e,h2];rfl⟩
def ZbS(a:Y3):Bool:=(Zjp a).toBool
def Zey(a:Q9):Bool:=(bDry_V a).toBool
def cutI(m:Int)(n:Nat):Int:=if m<(n:Int)then m else(n:Int)
def ZU(m:Int)(n:Nat):Nat:=zk (cutI m n)
variable{m n:Nat}
theorem Jc:ZU m n<=m/\ZU m n<=n:=by
 unfold ZU cutI
 split<;>omega
theorem Zkq:(0:Int)<=cutI m n/\cutI m n<=(n:Int):=by
 unfold cutI
 split<;>omega
theorem Zkp{b:Nat}(h:m*b<=140737488355328/\m<=1000):fits (ZU m n-0) b:=by
 have h1:ZU m n-0<=m:=Jc.1
 exact⟨Nat.le_trans (yx b h1) h.1,by omega⟩
def cutT(m:Int)(n es b:Nat)(c:Nat->V):Tree V:=.need ((0:Int)<=cutI m n/\cutI m n<=(n:Int)) (.need (True/\fits (ZU m n-0) b/\∀(j:Nat),j<ZU m n-0->(c (0+j)).YN=ze/\(c (0+j)).clean=ze)
 (.need (0+(ZU m n-0)<=ZU m n-0) (.leaf (.rsl za es (ZU m n-0) λj=>c (0+(0+j))))))
abbrev cutE:Env:=Zl P [] [] ze
theorem Ki{g:FuncId}{args:V}(m:Nat){es b:Nat}{c:Nat->V}(hh:Has P g)(hT:ZT cutE 400 g args=cutT m n es b c)(hb:m*b<=140737488355328/\m<=1000)(hc:∀j,(c j).YN=ze/\(c j).clean=ze):Zh P g args (.rsl za es (ZU m n) c):=by
 refine meets (Zw hm hn (l:=[]) trivial (ls:=[]) trivial ze) 400 hh hT ?_
 refine⟨Zkq,⟨trivial,Zkp hb,λj _=>hc _⟩,Nat.le_of_eq (zX _),rfl,?_⟩
 show zl za es _ _=zl za es _ _
 simp only[zX,Nat.sub_zero]
theorem Zox(n:Nat)(r:Nat->VU):Zh P 22 (.cons (.rsl za 2 n λj=>Z9 za (r j)) (.cons (.int za .i64 9) .nil)) (.rsl za 2 (ZU 9 n) λj=>Z9 za (r j)):=Ki 9 (Has.of hn Tryz.func22 rfl) (b:=16) (by kernel_rfl) (by decide) λ_=>⟨rfl,rfl⟩
def Zhy:Con:=Yd 22 (λx=>.cons (.rsl za 2 x.hd.Zi λj=>Z9 za (Zba (x.hd.Zn j))) (.cons (.int za .i64 9) .nil)) (λx=>.rsl za 2 (ZU 9 x.hd.Zi) λj=>Z9 za (Zba (x.hd.Zn j))) (λ_=>True)
theorem ZnT:Zhy.Ok P:=Yf λx _=>Zox _ _
theorem Zoy(n:Nat)(r:Nat->ZE):Zh P 23 (.cons (.rsl za 1 n λj=>Z8 za (r j)) (.cons (.int za .i64 5) .nil)) (.rsl za 1 (ZU 5 n) λj=>Z8 za (r j)):=Ki 5 (Has.of hn Tryz.func23 rfl) (b:=4) (by kernel_rfl) (by decide) λ_=>⟨rfl,rfl⟩
def Zhz:Con:=Yd 23 (λx=>.cons (.rsl za 1 x.hd.Zi λj=>Z8 za (X0 (x.hd.Zn j))) (.cons (.int za .i64 5) .nil)) (λx=>.rsl za 1 (ZU 5 x.hd.Zi) λj=>Z8 za (X0 (x.hd.Zn j))) (λ_=>True)
theorem ZnU:Zhz.Ok P:=Yf λx _=>Zoy _ _
theorem Zoz(n:Nat)(r:Nat->Z6):Zh P 24 (.cons (.rsl za 4 n λj=>Zv za (r j)) (.cons (.int za .i64 9) .nil)) (.rsl za 4 (ZU 9 n) λj=>Zv za (r j)):=Ki 9 (Has.of hn Tryz.func24 rfl) (b:=32) (by kernel_rfl) (by decide) λ_=>⟨rfl,rfl⟩
def ZhA:Con:=Yd 24 (λx=>.cons (.rsl za 4 x.hd.Zi λj=>Zv za (XQ (x.hd.Zn j))) (.cons (.int za .i64 9) .nil)) (λx=>.rsl za 4 (ZU 9 x.hd.Zi) λj=>Zv za (XQ (x.hd.Zn j))) (λ_=>True)
theorem ZnV:ZhA.Ok P:=Yf λx _=>Zoz _ _
theorem ZoA(n:Nat)(r:Nat->ZH):Zh P 25 (.cons (.rsl za 4 n λj=>Zt za (r j)) (.cons (.int za .i64 17) .nil)) (.rsl za 4 (ZU 17 n) λj=>Zt za (r j)):=Ki 17 (Has.of hn Tryz.func25 rfl) (b:=24) (by kernel_rfl) (by decide) λ_=>⟨rfl,rfl⟩
def ZhB:Con:=Yd 25 (λx=>.cons (.rsl za 4 x.hd.Zi λj=>Zt za (YK (x.hd.Zn j))) (.cons (.int za .i64 17) .nil)) (λx=>.rsl za 4 (ZU 17 x.hd.Zi) λj=>Zt za (YK (x.hd.Zn j))) (λ_=>True)
theorem ZnW:ZhB.Ok P:=Yf λx _=>ZoA _ _
theorem ZoB(n:Nat)(r:Nat->XE):Zh P 27 (.cons (.rsl za 5 n λj=>ZP za (r j)) (.cons (.int za .i64 33) .nil)) (.rsl za 5 (ZU 33 n) λj=>ZP za (r j)):=Ki 33 (Has.of hn Tryz.func27 rfl) (b:=32) (by kernel_rfl) (by decide) λ_=>⟨rfl,rfl⟩
def ZhC:Con:=Yd 27 (λx=>.cons (.rsl za 5 x.hd.Zi λj=>ZP za (Vx (x.hd.Zn j))) (.cons (.int za .i64 33) .nil)) (λx=>.rsl za 5 (ZU 33 x.hd.Zi) λj=>ZP za (Vx (x.hd.Zn j))) (λ_=>True)
theorem ZnX:ZhC.Ok P:=Yf λx _=>ZoB _ _
theorem ZoC(n:Nat)(r:Nat->DT3):Zh P 28 (.cons (.rsl za 1 n λj=>ZK za (r j)) (.cons (.int za .i64 17) .nil)) (.rsl za 1 (ZU 17 n) λj=>ZK za (r j)):=Ki 17 (Has.of hn Tryz.func28 rfl) (b:=8) (by kernel_rfl) (by decide) λ_=>⟨rfl,rfl⟩
def UR:Con:=Yd 28 (λx=>.cons (.rsl za 1 x.hd.Zi λj=>ZK za (Zx (x.hd.Zn j))) (.cons (.int za .i64 17) .nil)) (λx=>.rsl za 1 (ZU 17 x.hd.Zi) λj=>ZK za (Zx (x.hd.Zn j))) (λ_=>True)
theorem ZhD:UR.Ok P:=Yf λx _=>ZoC _ _
theorem ZoD(n:Nat)(r:Nat->Y0):Zh P 29 (.cons (.rsl za 3 n λj=>ZF za (r j)) (.cons (.int za .i64 17) .nil)) (.rsl za 3 (ZU 17 n) λj=>ZF za (r j)):=Ki 17 (Has.of hn Tryz.func29 rfl) (b:=24) (by kernel_rfl) (by decide) λ_=>⟨rfl,rfl⟩
def ZhE:Con:=Yd 29 (λx=>.cons (.rsl za 3 x.hd.Zi λj=>ZF za (XH (x.hd.Zn j))) (.cons (.int za .i64 17) .nil)) (λx=>.rsl za 3 (ZU 17 x.hd.Zi) λj=>ZF za (XH (x.hd.Zn j))) (λ_=>True)
theorem ZnY:ZhE.Ok P:=Yf λx _=>ZoD _ _
theorem ZoE(n:Nat)(r:Nat->J9):Zh P 30 (.cons (.rsl za 2 n λj=>ZC za (r j)) (.cons (.int za .i64 33) .nil)) (.rsl za 2 (ZU 33 n) λj=>ZC za (r j)):=Ki 33 (Has.of hn Tryz.func30 rfl) (b:=16) (by kernel_rfl) (by decide) λ_=>⟨rfl,rfl⟩
def ZhF:Con:=Yd 30 (λx=>.cons (.rsl za 2 x.hd.Zi λj=>ZC za (GA (x.hd.Zn j))) (.cons (.int za .i64 33) .nil)) (λx=>.rsl za 2 (ZU 33 x.hd.Zi) λj=>ZC za (GA (x.hd.Zn j))) (λ_=>True)
theorem ZnZ:ZhF.Ok P:=Yf λx _=>ZoE _ _
theorem ZoF(n:Nat)(r:Nat->Zq):Zh P 31 (.cons (.rsl za 11 n λj=>Zy za (r j)) (.cons (.int za .i64 17) .nil)) (.rsl za 11 (ZU 17 n) λj=>Zy za (r j)):=Ki 17 (Has.of hn Tryz.func31 rfl) (b:=88) (by kernel_rfl) (by decide) λ_=>⟨rfl,rfl⟩
def ZhG:Con:=Yd 31 (λx=>.cons (.rsl za 11 x.hd.Zi λj=>Zy za (Xx (x.hd.Zn j))) (.cons (.int za .i64 17) .nil)) (λx=>.rsl za 11 (ZU 17 x.hd.Zi) λj=>Zy za (Xx (x.hd.Zn j))) (λ_=>True)
theorem Zn0:ZhG.Ok P:=Yf λx _=>ZoF _ _
theorem ZoG(n:Nat)(r:Nat->Q9):Zh P 32 (.cons (.rsl za 2 n λj=>Z0 za (r j)) (.cons (.int za .i64 9) .nil)) (.rsl za 2 (ZU 9 n) λj=>Z0 za (r j)):=Ki 9 (Has.of hn Tryz.func32 rfl) (b:=16) (by kernel_rfl) (by decide) λ_=>⟨rfl,rfl⟩
def ZhH:Con:=Yd 32 (λx=>.cons (.rsl za 2 x.hd.Zi λj=>Z0 za (Vw (x.hd.Zn j))) (.cons (.int za .i64 9) .nil)) (λx=>.rsl za 2 (ZU 9 x.hd.Zi) λj=>Z0 za (Vw (x.hd.Zn j))) (λ_=>True)
theorem Zn1:ZhH.Ok P:=Yf λx _=>ZoG _ _
theorem ZoH(n:Nat)(r:Nat->ZA):Zh P 33 (.cons (.rsl za 2 n λj=>ZB za (r j)) (.cons (.int za .i64 9) .nil)) (.rsl za 2 (ZU 9 n) λj=>ZB za (r j)):=Ki 9 (Has.of hn Tryz.func33 rfl) (b:=16) (by kernel_rfl) (by decide) λ_=>⟨rfl,rfl⟩
def ZhI:Con:=Yd 33 (λx=>.cons (.rsl za 2 x.hd.Zi λj=>ZB za (Wo (x.hd.Zn j))) (.cons (.int za .i64 9) .nil)) (λx=>.rsl za 2 (ZU 9 x.hd.Zi) λj=>ZB za (Wo (x.hd.Zn j))) (λ_=>True)
theorem Zn2:ZhI.Ok P:=Yf λx _=>ZoH _ _
def ZaO(b:Nat)(d:Za):V:=(.cons (.int za .i64 d.f0) (.cons (.rsl za 2 d.n1 λj=>Z9 za (d.r1 j)) (.cons (.rsl za 1 d.n2 λj=>Z8 za (d.r2 j)) (.cons (.rsl za 4 d.n3 λj=>Zv za (d.r3 j)) (.cons (.rsl za 4 d.n4 λj=>Zt za (d.r4 j)) (.cons (.osl za b 2 0 d.n5) (.cons (.rsl za 11 d.n6 λj=>Zy za (d.r6 j)) (.cons (.rsl za 2 d.n7 λj=>Z0 za (d.r7 j)) (.cons (.rsl za 5 d.n8 λj=>ZP za (d.r8 j)) (.cons (.int za .i64 d.f9) (.cons (.rsl za 2 d.n10 λj=>ZC za (d.r10 j)) (.cons (.rsl za 3 d.n11 λj=>ZF za (d.r11 j)) (.cons (.rsl za 2 d.n12 λj=>ZB za (d.r12 j)) (.cons (.int za .u64 d.f13) .nil))))))))))))))
def VQ:V:=(.cons (.int ze .i64 0) (.cons .Zo (.cons .Zo (.cons .Zo (.cons .Zo (.cons .Zo (.cons .Zo (.cons .Zo (.cons .Zo (.cons (.int ze .i64 0) (.cons .Zo (.cons .Zo (.cons .Zo (.cons (.int ze .u64 0) .nil))))))))))))))
abbrev cp_ts(e:Za)(i:Int)(z:Unit):V:=(.cons (.ptr ze 0 0 0 0) (.cons (.ptr ze 1 0 0 0) (.cons (.int za .i64 ((e.n5:Nat):Int)) (.cons (.int za .i64 i) .nil))))
abbrev cp_ys(e:Za)(i:Int)(z:Unit):List Blk:=[.var (ZaO 33 e),.var VQ,.arr 2 e.n5 (λj=>Zu za (e.r5 j))]
def cp_R(e:Za)(i:Int)(z:Unit):Tree Rd:=
 let q0:=(e.11 ((0:Nat)+zk i))
 let q1:=(zl za 1 q0.n1 λj=>ci (q0.3 j).f0 zh)
 zu (((0:Int)<=i/\i<((e.n5:Nat):Int))/\(0:Nat)+zk i<e.n5/\(zf q1 zh=zf q1 zh/\q0.n1<=(1000:Nat))/\((0:Int)<=i/\i<((e.n5:Nat):Int))/\(0:Nat)+zk i<e.n5) (zw (Ex.normal,ze,zf (pt 0) (zf (pt 1) (ci ((e.n5:Nat):Int) (ci (zD .i64 (i+(1:Int))) zh))),[Blk.var (ci e.f0 (zf (zl za 2 e.n1 λj=>Z9 za (e.3 j)) (zf (zl za 1 e.n2 λj=>zf (zn za .u32 (e.5 j).f0) zh) (zf (zl za 4 e.n3 λj=>Zv za (e.7 j)) (zf (zl za 4 e.n4 λj=>Zt za (e.9 j)) (zf (V.osl za 33 2 0 e.n5) (zf (zl za 11 e.n6 λj=>Zy za (e.13 j)) (zf (zl za 2 e.n7 λj=>Z0 za (e.15 j)) (zf (zl za 5 e.n8 λj=>ZP za (e.17 j)) (ci e.f9 (zf (zl za 2 e.n10 λj=>ZC za (e.20 j)) (zf (zl za 3 e.n11 λj=>ZF za (e.22 j)) (zf (zl za 2 e.n12 λj=>ZB za (e.24 j)) (zf (zn za .u64 e.f13) zh)))))))))))))),Blk.var (zf (zn ze .i64 (0:Int)) (zf V.Zo (zf V.Zo (zf V.Zo (zf V.Zo (zf V.Zo (zf V.Zo (zf V.Zo (zf V.Zo (zf (zn ze .i64 (0:Int)) (zf V.Zo (zf V.Zo (zf V.Zo (zf (zn ze .u64 (0:Int)) zh)))))))))))))),Blk.arr 2 e.n5 λj=>bif zq j ((0:Nat)+zk i)then Zu za q0 else Zu za (e.11 j)]))
theorem cp_round(e:Za):Yi P (Zl P [Ws] [] ze) 77 5 44 44 89 [1,2,43,44] [(0,.own),(1,.own),(33,.own)] [] (cp_ts e) (cp_ys e) (λi=>(bif decide (i<((e.n5:Nat):Int))then za else ze)) (.exit 0) (cp_R e):=λB i z=>by kernel_rfl
def cp_lp(e:Za):Lp:=Js 77 5 44 44 89 [1,2,43,44] [(0,.own),(1,.own),(33,.own)] [] (cp_ts e) (cp_ys e) (.exit 0) () (λ_=>()) (e.n5)
def cp_need(e:Za):Prop:=YC 44 [] (cp_ts e) (cp_ys e) () (cp_ts e (0:Nat) ()) (cp_ys e (0:Nat) ())
theorem cp_fit(e:Za):cp_need e:=⟨rfl,⟨Kg _,Kg _,⟨rfl,rfl,λ_=>rfl⟩,trivial⟩⟩
theorem cp_lp_ok(e:Za)(hl:e.n5<=1000)(hM:∀j,(e.r5 j).n1<=1000):(cp_lp e).Ok P:=by
 refine JZ (Zw hm hn (l:=[Ws]) ⟨V7,trivial⟩ (ls:=[]) trivial ze) rfl (by kernel_rfl) (cp_round e) exN Yv (λ_=>rfl) (step:=λ_ z=>z) (rd:=(λ_ t y=>())) (λi z=>rfl) (λi=>rfl) rfl (λi hlt hg=>?_) (λi z hi=>?_)
 ·have hltI:(i:Int)<((e.n5:Nat):Int):=by omega
  refine⟨?_,trivial⟩
  all_goals(repeat'(first|exact rfl|exact λ_=>⟨rfl,rfl⟩|apply zy|intro _))
  all_goals(try simp only[decide_eq_true_eq,decide_eq_false_iff_not,yg,yw]at*)
  all_goals(try simp(disch:=omega) only[IntWalk.i64_in])
  all_goals(first|omega|exact hM _)
 ·have hw:=(IntWalk.i64_in ((i:Int)+1) ⟨by omega,by omega⟩)
  all_goals exact⟨rfl,Yq (ts:=cp_ts e) (a:=()) hw rfl,⟨LeK.refl _,LeK.refl _,LeK.Jb rfl (λj hj=>congrArg z8 (by first|rfl|exact UN (c:=Zu za) (r:=e.r5) j)),trivial⟩⟩
def cpy_T(a:Za):Tree (V×List Blk):=
 let q0:=(zl za 1 a.n2 λj=>zf (zn za .u32 (a.5 j).f0) zh)
 let q1:=(zl za 3 a.n11 λj=>ZF za (a.22 j))
 let q2:=(zl za 2 a.n10 λj=>ZC za (a.20 j))
 let q3:=(zl za 2 a.n7 λj=>Z0 za (a.15 j))
 let q4:=(zl za 4 a.n3 λj=>Zv za (a.7 j))
 let q5:=(zl za 5 a.n8 λj=>ZP za (a.17 j))
 let q6:=(zl za 2 a.n1 λj=>Z9 za (a.3 j))
 let q7:=(zl za 4 a.n4 λj=>Zt za (a.9 j))
 zu (zf q6 zh=zf q6 zh/\a.n1<=(1000:Nat)) (zu (zf q0 zh=zf q0 zh/\a.n2<=(1000:Nat)) (zu (zf q4 zh=zf q4 zh/\a.n3<=(1000:Nat)) (zu (zf q7 zh=zf q7 zh/\a.n4<=(1000:Nat)) (zu (a.n5<=(1000:Nat)/\∀(j:Nat),Zu za (a.11 j)=Zu za (a.11 j)) (zu (zf q5 zh=zf q5 zh/\a.n8<=(1000:Nat)) (zu (cp_need a) (zu (zf q1 zh=zf q1 zh/\a.n11<=(1000:Nat)) (zu (zf q2 zh=zf q2 zh/\a.n10<=(1000:Nat)) (zu (a.n6<=(1000:Nat)/\∀(j:Nat),Zy za (a.13 j)=Zy za (a.13 j)) (zu (zf q3 zh=zf q3 zh/\a.n7<=(1000:Nat)) (zu (a.n12<=(1000:Nat)/\∀(j:Nat),ZB za (a.24 j)=ZB za (a.24 j)) (zw (zJ (ci a.f0 (zf q6 (zf q0 (zf q4 (zf q7 (zf (V.osl za 0 2 0 a.n5) (zf (V.osl za 1 11 0 a.n6) (zf q3 (zf q5 (ci a.f9 (zf q2 (zf q1 (zf (V.osl za 2 2 0 a.n12) (zf (zn za .u64 a.f13) zh)))))))))))))),[Blk.arr 2 a.n5 λj=>Zu za (a.11 j),Blk.arr 11 a.n6 λj=>Zy za (a.13 j),Blk.arr 2 a.n12 λj=>ZB za (a.24 j)])))))))))))))
theorem cpy_tree(a:Za):evH { (Zl P [Ze5,Ze2,Ze3,Ze7,Ze4,Ws,Ze0,Ze6,Ze1] [cp_lp a] ze)with hk:=Ww [⟨134,KJ⟩,⟨139,Zfk⟩,⟨141,Zfl⟩] } 400 77 (.cons (.agg (Z7 za a)) .nil) []=cpy_T a:=by kernel_rfl
theorem cpy_at(a:Za)(h0:a.n1<=1000)(h1:a.n2<=1000)(h2:a.n3<=1000)(h3:a.n4<=1000)(h4:a.n5<=1000)(h5:a.n6<=1000)(h6:a.n7<=1000)(h7:a.n8<=1000)(h8:a.n10<=1000)(h9:a.n11<=1000)(h10:a.n12<=1000)(h11:∀j,(a.r5 j).n1<=1000):YG P 77 (.cons (.agg (Z7 za a)) .nil) [] (cpy_T a).bare:=by
 refine hk_bare (E:={ (Zl P [Ze5,Ze2,Ze3,Ze7,Ze4,Ws,Ze0,Ze6,Ze1] [cp_lp a] ze)with hk:=Ww [⟨134,KJ⟩,⟨139,Zfk⟩,⟨141,Zfl⟩] }) ((Zw hm hn (l:=[Ze5,Ze2,Ze3,Ze7,Ze4,Ws,Ze0,Ze6,Ze1]) ⟨ZnQ,ZnN,ZnO,ZnS,ZnP,V7,ZnL,ZnR,ZnM,trivial⟩ (ls:=[cp_lp a]) ⟨cp_lp_ok a h4 h11,trivial⟩ ze).KD (l:=[⟨134,KJ⟩,⟨139,Zfk⟩,⟨141,Zfl⟩]) ⟨Zh0,clOwn_ok,clPut_ok,trivial⟩) (cpy_tree a) ?_
 refine⟨?_,⟨?_,⟨?_,⟨?_,⟨?_,⟨?_,⟨?_,⟨?_,⟨?_,⟨?_,⟨?_,⟨?_,trivial⟩⟩⟩⟩⟩⟩⟩⟩⟩⟩⟩⟩
 all_goals(first|exact cp_fit a|((repeat'(first|exact rfl|exact WG _|exact λ_=>⟨rfl,rfl⟩|exact λ_=>rfl|apply zy|intro _));all_goals(try simp only[decide_eq_true_eq,decide_eq_false_iff_not]at*);all_goals(first|exact h11 _|omega|(simp at*;omega))))
end Go.Proofs.YthhbdbeglmkijaaGreatDoor
namespace Go.Fw
end Go.Fw
namespace Go.Fw
theorem LeK.arrLe{n es k k':Nat}{g g':Nat->V}(hn:k'<=k)(h:∀j,j<k'->(g j).soft=(g' j).soft):LeK n (.arr es k g) (.arr es k' g'):=⟨λe=>(by cases e),λF w m B hb=>by
 rcases hb with⟨h0,h1⟩|⟨b,c,el,k1,k2,k3,k4⟩
 ·exact .inl ⟨by omega,h1⟩
 ·refine .inr ⟨b,c,el,k1,k2,Nat.le_trans (yx _ hn) k3,λj hj=>?_⟩
  obtain⟨xs,hx,hr⟩:=k4 j (by omega)
  have e:=((YM (g j) _ _).2 _).2 hx
  rw[h j hj]at e
  exact⟨xs,((YM (g' j) _ _).2 _).1 e,hr⟩⟩
def V.okP(es n:Nat):V->Prop
 | .cons a t=>a.okP es n/\t.okP es n
 | .agg cs=>cs.okP es n
 | .osl st b es' i k=>match b with
  |0=>st=za/\es'=es/\i=0/\k<=n
  |_+1=>True
 |v=>v.clean=ze
def V.pubP(get:Nat->V):V->V
 | .cons a t=>.cons (a.pubP get) (t.pubP get)
 | .agg cs=>.agg (cs.pubP get)
 | .osl st b es i k=>match b with
  |0=>.rsl za es k get
  |b+1=>.osl st (b+1) es i k
 |v=>v
def Blk.isArr:Blk->Bool
 | .arr ..=>ze
 |_=>za
theorem YG.pub{P:Program}{g:FuncId}{args v:V}{es n:Nat}{get:Nat->V}{l:List Blk}(H:YG P g args [] (.leaf (v,.arr es n get::l)))(hv:v.okP es n)(hl:∀c∈l,c.isArr=ze):YG P g args [] (.leaf (v.pubP get,.any::l)):=by
 intro base m F w xs Q KK hr ha hq hk
 have hmn:∀b,m b=none:=λb=>hr.new b (Nat.zero_le _)
 refine H base m F w xs (λr=>r=(v,.arr es n get::l)) KK hr ha rfl ?_
 rintro v' bl' e m' F' w' x hE hR hx
 injection e with e1 e2
 subst e1 e2
 let F2:Nat->Prop:=λB=>F' B\/m' 0=some B
 let m2:Nat->Option Nat:=λc=>match c with|0=>none|c+1=>m' (c+1)
 have hfresh:∀b B,m' b=some B->w.heap.size<=B:=λb B hb=>by
  rcases Nat.lt_or_ge B w.heap.size with h|h
  ·obtain⟨c,hc⟩:=hE.ow.old b B hb h
   rw[hmn c]at hc
   cases hc
  ·exact h
 have hblk:∀c B,m' (c+1)=some B->∃e' n' g',l.getD c .none=.arr e' n' g':=λc B hc=>by
  have h1:c<l.length:=by
   rcases Nat.lt_or_ge c l.length with h|h
   ·exact h
   ·have:=hR.new (c+1) (by simp only[List.length_cons];omega)
    rw[this]at hc;cases hc
  have h2:=hl (l[c]) (List.getElem_mem h1)
  rw[List.getD_eq_getElem?_getD,List.getElem?_eq_getElem h1,Option.getD_some]
  cases h3:l[c]<;>rw[h3]at h2<;>first|exact⟨_,_,_,rfl⟩|cases h2
 have hne:∀c B,m' (c+1)=some B->m' 0≠some B:=λc B hc h0=>by
  obtain⟨e',n',g',h1⟩:=hblk c B hc
  rcases hR.inj 0 (c+1) B h0 hc (by omega)with h|h
  ·cases h
  ·have:l.getD c .none=.any:=h
   rw[h1]at this;cases this
 have mono:∀(v:V),v.clean=ze->(∀x,R F' w' v (l.length+1) m' x->R F2 w' v (l.length+1) m2 x)/\(∀xs,RL F' w' v (l.length+1) m' xs->RL F2 w' v (l.length+1) m2 xs):=λv hc=>by
  have h1:=WS (F:=F') (w:=w') v hc (l.length+1) 0 m' (λ_=>none)
  have h2:=Xj (F:=F') (F':=F2) (Yk.refl w') (λB h=>.inl h) (λ_ _=>rfl) v 0 0 (λ_=>none) (λ_=>none) (zI _) (λ_ _ _ h=>h)
  have h3:=WS (F:=F2) (w:=w') v hc 0 (l.length+1) (λ_=>none) m2
  exact⟨λx hx=>h3.1 x (h2.1 x (h1.1 x hx)),λxs hx=>h3.2 xs (h2.2 xs (h1.2 xs hx))⟩
 have row:∀v,(∀xs,RL F' w' v 0 (λ_=>none) xs->RL F2 w' v 0 (λ_=>none) xs):=λv=>(Xj (F:=F') (F':=F2) (Yk.refl w') (λB h=>.inl h) (λ_ _=>rfl) v 0 0 (λ_=>none) (λ_=>none) (zI _) (λ_ _ _ h=>h)).2
 have key:∀v:V,v.okP es n->(∀x,R F' w' v (l.length+1) m' x->R F2 w' (v.pubP get) (l.length+1) m2 x)/\(∀xs,RL F' w' v (l.length+1) m' xs->RL F2 w' (v.pubP get) (l.length+1) m2 xs):=by
  intro v
  induction v with
  |cons a t ih1 ih2=>
   intro h
   refine⟨λx hx=>by simp only[R]at hx,λxs hx=>?_⟩
   simp only[V.pubP,RL]at hx⊢
   obtain⟨y,r,e,g1,g2⟩:=hx
   exact⟨y,r,e,(ih1 h.1).1 _ g1,(ih2 h.2).2 _ g2⟩
  |agg cs ih=>
   intro h
   refine⟨λx hx=>?_,λxs hx=>by simp only[RL]at hx⟩
   simp only[V.pubP,R]at hx⊢
   obtain⟨ys,e,g1⟩:=hx
   exact⟨ys,e,(ih h).2 _ g1⟩
  |osl st b es' i k=>
   intro h
   refine⟨λx hx=>?_,λxs hx=>by simp only[RL]at hx⟩
   cases b with
   |zero=>
    obtain⟨rfl,rfl,rfl,hkn⟩:=h
    show R F2 w' (.rsl za es' k get) (l.length+1) m2 x
    rw[Yp]at hx
    rw[Wi]
    obtain⟨_,a,cap,rfl,hk1,hrow⟩:=hx
    refine⟨a,cap,rfl,hk1,?_⟩
    rcases hrow with h0|⟨B,c,el,fr,rfl,hB,hcc,hz⟩
    ·exact .inl (by omega)
    have hb:=hR.blk 0 (by simp only[List.length_cons];omega)
    have hb':RB F' w' (l.length+1) m' (.arr es' n get) (m' 0):=hb
    rcases hb' with⟨h0,_⟩|⟨B',c',el',hm,hcell,hz',hall⟩
    ·exact .inl (by omega)
    right
    obtain rfl:B=B':=by rw[hB]at hm;injection hm
    refine⟨B,0,by rw[Nat.zero_mul],.inr hB,c',el',(0,0),hcell,λj hj=>?_⟩
    obtain⟨ys,g1,g2,g3⟩:=hall j (by omega)
    refine⟨ys,row _ _ g1,g2,λq hq=>?_⟩
    rw[zX]
    exact g3 q hq
   |succ b=>
    show R F2 w' (.osl st (b+1) es' i k) (l.length+1) m2 x
    rw[Yp]at hx⊢
    exact hx
  |_=>intro h;exact mono _ h
 refine hk _ _ hq m2 F2 w' x ⟨λB hB=>.inl (hE.f B hB),λB hB=>hB.elim (hE.back B) λh=>.inr (hfresh 0 B h),hE.keep,hE.size,hE.sz,⟨hE.ow.un,λb B hb hs=>?_⟩,?_,λb hb=>absurd hb (yB _),hE.calm⟩ ⟨hR.low,λB hB=>hB.elim (hR.fdom B) (hR.dom 0 B),λb hb=>?_,λb B hb=>?_,λb hb=>?_,?_,λb B hb=>?_,λb b' B h1 h2 h3=>?_⟩ ?_
 ·cases b with
  |zero=>cases hb
  |succ b=>exact hE.ow.old (b+1) B hb hs
 ·simp
 ·cases b with
  |zero=>trivial
  |succ b=>
   have h1:=hR.blk (b+1) (by simpa using hb)
   have h2:RB F' w' (l.length+1) m' (l.getD b .none) (m' (b+1)):=h1
   show RB F2 w' (l.length+1) m2 (l.getD b .none) (m' (b+1))
   have h3:b<l.length:=by simpa using hb
   have h4:=hl (l[b]) (List.getElem_mem h3)
   have h5:l.getD b .none=l[b]:=by rw[List.getD_eq_getElem?_getD,List.getElem?_eq_getElem h3,Option.getD_some]
   rw[h5]at h2⊢
   cases h6:l[b]<;>rw[h6]at h2 h4<;>try(cases h4;done)
   rcases h2 with h0|⟨B,c,el,k1,k2,k3,k4⟩
   ·exact .inl h0
   ·exact .inr ⟨B,c,el,k1,k2,k3,λj hj=>by obtain⟨ys,q1,q2,q3⟩:=k4 j hj;exact⟨ys,row _ _ q1,q2,q3⟩⟩
 ·cases b with
  |zero=>cases hb
  |succ b=>exact hR.dom (b+1) B hb
 ·cases b with
  |zero=>rfl
  |succ b=>exact hR.new (b+1) (by simpa using hb)
 ·exact GOk.mono hR.gl (Yk.refl w') (λB h=>.inl h) (λ_ _=>rfl)
 ·cases b with
  |zero=>cases hb
  |succ b=>
   have h1:=hR.own (b+1) B hb
   exact⟨h1.1,λh=>h.elim h1.2 (hne b B hb)⟩
 ·cases b with
  |zero=>cases h1
  |succ b=>cases b' with
   |zero=>cases h2
   |succ b'=>exact hR.inj (b+1) (b'+1) B h1 h2 h3
 ·exact(key _ hv).1 x hx
end Go.Fw
namespace Go.Proofs.YthhbdbeglmkijaaGreatDoor
open Go.Fw
def cpC(d:Za)(x o q:V):V:=(.cons (.int za .i64 d.f0) (.cons (.rsl za 2 d.n1 λj=>Z9 za (d.r1 j)) (.cons (.rsl za 1 d.n2 λj=>Z8 za (d.r2 j)) (.cons (.rsl za 4 d.n3 λj=>Zv za (d.r3 j)) (.cons (.rsl za 4 d.n4 λj=>Zt za (d.r4 j)) (.cons x (.cons o (.cons (.rsl za 2 d.n7 λj=>Z0 za (d.r7 j)) (.cons (.rsl za 5 d.n8 λj=>ZP za (d.r8 j)) (.cons (.int za .i64 d.f9) (.cons (.rsl za 2 d.n10 λj=>ZC za (d.r10 j)) (.cons (.rsl za 3 d.n11 λj=>ZF za (d.r11 j)) (.cons q (.cons (.int za .u64 d.f13) .nil))))))))))))))
def chO(d:Za)(p:Zj)(gu:Zf)(ga:Zc)(no np:Nat)(la:Int)(c:V)(sa:Int):V:=(.cons (.int za .i64 d.f0) (.cons (.rsl za 2 d.n1 λj=>Z9 za (d.r1 j)) (.cons (.rsl za 1 p.n0 λj=>Z8 za (p.r0 j)) (.cons (.rsl za 4 gu.n0 λj=>Zv za (gu.r0 j)) (.cons (.rsl za 4 gu.n1 λj=>Zt za (gu.r1 j)) (.cons (.rsl za 2 ga.n0 λj=>Zu za (ga.r0 j)) (.cons (.osl za 1 11 0 no) (.cons (.rsl za 2 d.n7 λj=>Z0 za (d.r7 j)) (.cons (.rsl za 5 d.n8 λj=>ZP za (d.r8 j)) (.cons (.int za .i64 d.f9) (.cons (.rsl za 2 d.n10 λj=>ZC za (d.r10 j)) (.cons (.rsl za 3 d.n11 λj=>ZF za (d.r11 j)) (.cons (.osl za 2 2 0 np) (.cons (.int za .u64 la) (.cons c (.cons (.int za .i64 sa) .nil))))))))))))))))
theorem cpq_at(a:Za)(h0:a.n1<=1000)(h1:a.n2<=1000)(h2:a.n3<=1000)(h3:a.n4<=1000)(h4:a.n5<=1000)(h5:a.n6<=1000)(h6:a.n7<=1000)(h7:a.n8<=1000)(h8:a.n10<=1000)(h9:a.n11<=1000)(h10:a.n12<=1000)(h11:∀j,(a.r5 j).n1<=1000):YG P 77 (.cons (.agg (Z7 za a)) .nil) [] (.leaf ((.agg (cpC a (.rsl za 2 a.n5 λj=>Zu za (a.r5 j)) (.osl za 1 11 0 a.n6) (.osl za 2 2 0 a.n12))),[.any,.arr 11 a.n6 (λj=>Zy za (a.r6 j)),.arr 2 a.n12 (λj=>ZB za (a.r12 j))])):=by
 have e:(cpy_T a).bare=.leaf ((.agg (cpC a (.osl za 0 2 0 a.n5) (.osl za 1 11 0 a.n6) (.osl za 2 2 0 a.n12))),.arr 2 a.n5 (λj=>Zu za (a.r5 j))::[.arr 11 a.n6 (λj=>Zy za (a.r6 j)),.arr 2 a.n12 (λj=>ZB za (a.r12 j))]):=rfl
 have h:=cpy_at a h0 h1 h2 h3 h4 h5 h6 h7 h8 h9 h10 h11
 rw[e]at h
 exact YG.pub h ⟨rfl,rfl,rfl,rfl,rfl,⟨rfl,rfl,rfl,zI _⟩,trivial,rfl,rfl,rfl,rfl,rfl,trivial,rfl,rfl⟩ (by intro c hc;simp only[List.mem_cons,List.not_mem_nil,or_false]at hc;rcases hc with rfl|rfl<;>rfl)
def V9:HK:=λargs bl=>match args,bl with
 | .cons (.agg c) .nil,[]=>some (.need (hkEq args bl (.cons (.agg (Z7 za (Yb c))) .nil) []/\(λ(a:Za)=>a.n1<=1000/\a.n2<=1000/\a.n3<=1000/\a.n4<=1000/\a.n5<=1000/\a.n6<=1000/\a.n7<=1000/\a.n8<=1000/\a.n10<=1000/\a.n11<=1000/\a.n12<=1000/\∀j,(a.r5 j).n1<=1000) (Yb c)) (.leaf ((.agg (cpC (Yb c) (.rsl za 2 (Yb c).n5 λj=>Zu za ((Yb c).r5 j)) (.osl za 1 11 0 (Yb c).n6) (.osl za 2 2 0 (Yb c).n12))),[.any,.arr 11 (Yb c).n6 (λj=>Zy za ((Yb c).r6 j)),.arr 2 (Yb c).n12 (λj=>ZB za ((Yb c).r12 j))])))
 |_,_=>none
theorem cpq_ok:Xo P 77 V9:=by
 intro args bl T hT
 unfold V9 at hT
 split at hT
 ·rename_i c
  injection hT with hT
  subst hT
  exact hk_need λhp=>YG.eq (cpq_at (Yb c) hp.2.1 hp.2.2.1 hp.2.2.2.1 hp.2.2.2.2.1 hp.2.2.2.2.2.1 hp.2.2.2.2.2.2.1 hp.2.2.2.2.2.2.2.1 hp.2.2.2.2.2.2.2.2.1 hp.2.2.2.2.2.2.2.2.2.1 hp.2.2.2.2.2.2.2.2.2.2.1 hp.2.2.2.2.2.2.2.2.2.2.2.1 hp.2.2.2.2.2.2.2.2.2.2.2.2) hp.1
 ·cases hT
abbrev Zcf(n:Nat)(r:Nat->ZA)(k:Nat)(y:Nat->Zq)(q:Nat)(i:Int)(z:Unit):V:=(.cons (.rsl za 2 n (λjj=>zf (zn za zA (ZA.f0 (r jj))) (zf (zn za zA (ZA.f1 (r jj))) zh))) (.cons (.fn (Fn.func (147:FuncId)) .nil (.cons (.rptr za (1:Nat) (1:Nat) (λjj=>.cons (.rptr za (11:Nat) k (λjj=>.cons (.int za zA (Zq.f0 (y jj))) (.cons (.int za zA (Zq.f1 (y jj))) (.cons (.int za zA (Zq.f2 (y jj))) (.cons (.int za yD (Zq.f3 (y jj))) (.cons (.int za zA (Zq.f4 (y jj))) (.cons (.int za yH (Zq.f5 (y jj))) (.cons (.int za yH (Zq.f6 (y jj))) (.cons (.int za yH (Zq.f7 (y jj))) (.cons (.int za yH (Zq.f8 (y jj))) (.cons (.int za zA (Zq.f9 (y jj))) (.cons (.int za zA (Zq.f10 (y jj))) .nil))))))))))) q (0:Nat)) .nil) (0:Nat) (0:Nat)) .nil)) (.cons (.int ze .i64 0) (.cons (.int za .i64 ((n:Nat):Int)) (.cons (.int za .i64 i) .nil)))))
abbrev Zcg(n:Nat)(r:Nat->ZA)(k:Nat)(y:Nat->Zq)(q:Nat)(i:Int)(z:Unit):List Blk:=[]
def LixPut_R(n:Nat)(r:Nat->ZA)(k:Nat)(y:Nat->Zq)(q:Nat)(i:Int)(z:Unit):Tree Rd:=
 let q0:=(V.fn (Fn.func (147:FuncId)) zh (zf (V.rptr za (1:Nat) (1:Nat) (λjj=>zf (V.rptr za (11:Nat) k (λjj=>Zy za (y jj)) q (0:Nat)) zh) (0:Nat) (0:Nat)) zh))
 let q1:=(zl za 2 n λjj=>ZB za (r jj))
 zu ((0:Int)<=i/\i<(n:Int)) (zB (bif bif (r (zk i)).f0==(y q).f0 then ze else za then ze else za) (zw (Ex.ret,ze,zf q1 (zf q0 (ci i (ci (n:Int) (ci i zh)))),[])) (zw (Ex.normal,ze,zf q1 (zf q0 (zf (zn ze .i64 (0:Int)) (ci (n:Int) (ci (zD .i64 (i+(1:Int))) zh)))),[])))
theorem Znn(n:Nat)(r:Nat->ZA)(k:Nat)(y:Nat->Zq)(q:Nat):Yi P (Zl P [] [] ze) 146 2 0 0 19 [0,1,4,7,8] [] [] (Zcf n r k y q) (Zcg n r k y q) (λi=>(bif decide (i<(n:Int))then za else ze)) (.exit 0) (LixPut_R n r k y q):=λB i z=>by kernel_rfl
def KF(n:Nat)(r:Nat->ZA)(k:Nat)(y:Nat->Zq)(q:Nat)(k:Nat):Bool:=(λ(i:Int)(z:Unit)=>(bif bif bif (r (zk i)).f0==(y q).f0 then ze else za then ze else za then ze else za)) k ()
abbrev Znk(n:Nat)(r:Nat->ZA)(k:Nat)(y:Nat->Zq)(q:Nat)(i:Int)(z:Unit):V:=(.cons (zl za 2 n λjj=>ZB za (r jj)) (.cons (V.fn (Fn.func (147:FuncId)) zh (zf (V.rptr za (1:Nat) (1:Nat) (λjj=>zf (V.rptr za (11:Nat) k (λjj=>Zy za (y jj)) q (0:Nat)) zh) (0:Nat) (0:Nat)) zh)) (.cons (zn za .i64 i) (.cons (zn za .i64 (n:Int)) (.cons .junk .nil)))))
def Zel(n:Nat)(r:Nat->ZA)(k:Nat)(y:Nat->Zq)(q:Nat):Lp:=lpL 146 2 0 0 19 [0,1,4,7,8] [] [] (Zcf n r k y q) (Zcg n r k y q) (.exit 0) .ret () (λ_=>()) (KF n r k y q) (n) (Znk n r k y q) (Zcg n r k y q)
def ZjH(n:Nat)(r:Nat->ZA)(k:Nat)(y:Nat->Zq)(q:Nat):Prop:=YC 0 [] (Zcf n r k y q) (Zcg n r k y q) () (Zcf n r k y q (0:Nat) ()) (Zcg n r k y q (0:Nat) ())
theorem Znl(n:Nat)(r:Nat->ZA)(k:Nat)(y:Nat->Zq)(q:Nat):ZjH n r k y q:=⟨rfl,trivial⟩
theorem Znm(n:Nat)(r:Nat->ZA)(k:Nat)(y:Nat->Zq)(q:Nat)(hl:n<=1000)(h0:q<k):(Zel n r k y q).Ok P:=by
 refine YR (Zw hm hn (l:=[]) trivial (ls:=[]) trivial ze) rfl (by kernel_rfl) (Znn n r k y q) exN Yv (λ_=>rfl) (step:=λ_ z=>z) (rd:=(λ_ t y=>())) (λi z=>rfl) (λi=>(cC rfl rfl)) rfl (λi hlt hg=>?_) (λi z hi=>?_)
 ·have hltI:(i:Int)<((n:Nat):Int):=by omega
  refine⟨?_,⟨λhb0=>trivial,λhb0=>trivial⟩⟩
  all_goals(repeat'(first|exact rfl|exact λ_=>⟨rfl,rfl⟩|apply zy|intro _))
  all_goals(try simp only[decide_eq_true_eq,decide_eq_false_iff_not,yg,yw]at*)
  all_goals(try simp(disch:=omega) only[IntWalk.i64_in])
  all_goals(first|omega|exact h1)
 ·have hw:=(IntWalk.i64_in ((i:Int)+1) ⟨by omega,by omega⟩)
  refine⟨?_,?_⟩
  all_goals(first|exact⟨rfl,Yq (ts:=Zcf n r k y q) (a:=()) hw rfl,Z5 _⟩|exact⟨rfl,rfl,(by repeat'(first|exact Le.refl _|exact Le.junk _ rfl|apply Le.cons)),Z5 _⟩)
def ZiH(k:Nat)(y:Nat->Zq)(q:Nat)(an:Nat)(a:Nat->ZA):Tree V:=
 zu (ZjH an a k y q) (zB (bif Zp (KF an a k y q) an then ze else za) (zw (vi ((ZN (KF an a k y q) an (0:Nat):Nat):Int))) (zw (zn ze .i64 (-1:Int))))
theorem Zqm(k:Nat)(y:Nat->Zq)(q:Nat)(an:Nat)(a:Nat->ZA):ZT (Zl P [] [Zel an a k y q] ze) 400 146 (.cons (.rsl za 2 an λj=>ZB za (a j)) (.cons (.fn (.func 147) .nil (.cons (.rptr za 1 1 (λ_=>(.cons (.rptr za 11 k (λj=>Zy za (y j)) q 0) .nil)) 0 0) .nil)) .nil))=ZiH k y q an a:=by kernel_rfl
def XJ(k:Nat)(y:Nat->Zq)(q:Nat)(an:Nat)(a:Nat->ZA):Int:=(ZiH k y q an a).valOf.toInt
theorem Zql(k:Nat)(y:Nat->Zq)(q:Nat)(an:Nat)(a:Nat->ZA)(h0:an<=1000)(h1:q<k):Zh P 146 (.cons (.rsl za 2 an λj=>ZB za (a j)) (.cons (.fn (.func 147) .nil (.cons (.rptr za 1 1 (λ_=>(.cons (.rptr za 11 k (λj=>Zy za (y j)) q 0) .nil)) 0 0) .nil)) .nil)) (.int za .i64 (XJ k y q an a)):=by
 refine X4 (E:=(Zl P [] [Zel an a k y q] ze)) (Zw hm hn (l:=[]) trivial (ls:=[Zel an a k y q]) ⟨Znm an a k y q h0 h1,trivial⟩ ze) (.int za .i64 0) (Has.of hn Tryz.func146 rfl) (Zqm k y q an a) ?_ ?_
 ·refine⟨?_,⟨λhb0=>trivial,λhb0=>trivial⟩⟩
  all_goals(first|exact Znl an a k y q|((repeat'(first|exact rfl|exact WG _|exact λ_=>⟨rfl,rfl⟩|apply zy|intro _));all_goals(try simp only[decide_eq_true_eq,decide_eq_false_iff_not]at*);all_goals(first|omega|(simp at*;omega))))
 ·refine⟨⟨rfl,?_⟩,⟨rfl,?_⟩⟩
  all_goals((repeat'(first|exact rfl|exact trivial|apply zy|intro _|(refine cP (p:=λv=>z8 v=Yh _ v) (λhc=>?_) (λhc=>?_))));all_goals(exfalso;simp only[YS,XO,XW,X7,XV,X6,zL,yE]at*;omega))
def U3(r0:Nat->(Nat->Zq)->Nat->Nat->(Nat->ZA)->Int):Con:=Yd 146 (λx=>(.cons (.rsl za 2 x.hd.Zi λj=>ZB za ((λj=>Wo (x.hd.Zn j)) j)) (.cons (.fn (.func 147) .nil (.cons (.rptr za 1 1 (λ_=>(.cons (.rptr za 11 (((x.tl.hd.Ye.hd.Zz 0).hd).rptrN) (λj=>Zy za ((λj=>Xx (((x.tl.hd.Ye.hd.Zz 0).hd).Zz j)) j)) (((x.tl.hd.Ye.hd.Zz 0).hd).rptrI) 0) .nil)) 0 0) .nil)) .nil))) (λx=>(.int za .i64 (r0 (((x.tl.hd.Ye.hd.Zz 0).hd).rptrN) (λj=>Xx (((x.tl.hd.Ye.hd.Zz 0).hd).Zz j)) (((x.tl.hd.Ye.hd.Zz 0).hd).rptrI) x.hd.Zi (λj=>Wo (x.hd.Zn j))))) (λx=>(λ(k:Nat)(y:Nat->Zq)(q:Nat)(an:Nat)(a:Nat->ZA)=>an<=1000/\q<k) (((x.tl.hd.Ye.hd.Zz 0).hd).rptrN) (λj=>Xx (((x.tl.hd.Ye.hd.Zz 0).hd).Zz j)) (((x.tl.hd.Ye.hd.Zz 0).hd).rptrI) x.hd.Zi (λj=>Wo (x.hd.Zn j)))
abbrev c_ixPut:Con:=U3 XJ
theorem Zj8:c_ixPut.Ok P:=Yf (λx h=>Zql _ _ _ _ _ h.1 h.2)
theorem ofA{c1 c2:Bool}{a b c y:V}(h1:z8 (V.splice a 8 y)=z8 (Zy za (Xx (V.splice a 8 y))))(h2:z8 (V.splice b 8 y)=z8 (Zy za (Xx (V.splice b 8 y))))(h3:z8 a=z8 (Zy za (Xx a)))(h4:z8 c=z8 (Zy za (Xx c))) :
  z8 (bif c1 then V.splice (bif c2 then a else b) 8 y else bif c1 then a else c)=z8 (Zy za (Xx (bif c1 then V.splice (bif c2 then a else b) 8 y else bif c1 then a else c))):=by cases c1<;>cases c2<;>assumption
theorem ofB{a b n j:Nat}{c:Bool}{v0 jk:V}{r:Nat->ZA}(h0:z8 v0=z8 (ZB za (Wo v0)))(hj:j<a+(n-b)) :
  z8 (bif c then v0 else bif zK (0+a) j&&zG j (0+a+(n-b))then(bif zG (0+b+(j-(0+a))) n then ZB za (r (0+b+(j-(0+a))))else jk)else ZB za (r j))=
  z8 (ZB za (Wo (bif c then v0 else bif zK (0+a) j&&zG j (0+a+(n-b))then(bif zG (0+b+(j-(0+a))) n then ZB za (r (0+b+(j-(0+a))))else jk)else ZB za (r j)))):=by
 cases c
 ·cases h1:zK (0+a) j&&zG j (0+a+(n-b))
  ·rfl
  ·have h2:zG (0+b+(j-(0+a))) n=ze:=by
    simp only[zL,Nat.ble_eq,Nat.blt_eq]at h1⊢
    omega
   rw[h2]
   rfl
 ·exact h0
theorem Zlp(k:Nat)(y:Nat->Zq)(q an:Nat)(a:Nat->ZA):XJ k y q an a=bif Zp (KF an a k y q) an then((ZN (KF an a k y q) an 0:Nat):Int)else -1:=by
 unfold XJ ZiH
 show V.toInt (bif (bif Zp (KF an a k y q) an then ze else za)then _ else _)=_
 cases Zp (KF an a k y q) an<;>rfl
theorem ixPut_rng(k:Nat)(y:Nat->Zq)(q an:Nat)(a:Nat->ZA):-1<=XJ k y q an a/\XJ k y q an a<((an:Nat):Int):=by
 rw[Zlp]
 cases h:Zp (KF an a k y q) an with
 |true=>have:=ZfK h;show -1<=((ZN _ an 0:Nat):Int)/\((ZN _ an 0:Nat):Int)<an;omega
 |false=>show -1<=(-1:Int)/\(-1:Int)<an;omega
abbrev Zd8(a:Zc)(i:Int)(z:Nat×(Nat->Zb)):V:=(.cons .Zo (.cons (.osl za 1 1 0 z.1) (.cons (.rsl za 2 (Zc.n0 a) (λj=>Zu za (a.r0 j))) (.cons (.int za .i64 (((Zc.n0 a):Nat):Int)) (.cons (.int za .i64 i) .nil)))))
abbrev Zhm(a:Zc)(i:Int)(z:Nat×(Nat->Zb)):List Blk:=[.var (.cons (.rsl za 2 (Zc.n0 a) (λj=>Zu za (a.r0 j))) .nil),.arr 1 z.1 (λj=>Qk za (z.2 j))]
def Lgrs_R(a:Zc)(i:Int)(z:Nat×(Nat->Zb)):Tree Rd:=
 let q0:=(zl za 1 (a.2 (zk i)).n1 λj=>ci ((a.2 (zk i)).3 j).f0 zh)
 let q1:=(zl za 2 a.n0 λjj=>Zu za (a.2 jj))
 zu (((0:Int)<=i/\i<((a.n0:Nat):Int))/\(zf q0 zh=zf q0 zh/\(a.2 (zk i)).n1<=(1000:Nat))/\zR z<=zR z/\fits (zR z+(1:Nat)) (24:Nat)) (zw (Ex.normal,ze,zf V.Zo (zf (V.osl za 1 1 0 (zR z+(1:Nat))) (zf q1 (ci ((a.n0:Nat):Int) (ci (zD .i64 (i+(1:Int))) zh)))),[Blk.var (zf q1 zh),Blk.arr 1 (zR z+(1:Nat)) λjj=>bif zq jj (zR z+nat_lit 0)then zf q0 zh else zf (zl za 1 (Zb.n0 (z.2 jj)) λj=>ci ((z.2 jj).2 j).f0 zh) zh]))
theorem ZmT(a:Zc):Yi P (Zl P [QK,Ws] [] ze) 144 5 1 2 24 [2,3,10,11,12] [(0,.own),(1,.tmp 3)] [] (Zd8 a) (Zhm a) (λi=>(bif decide (i<((a.n0:Nat):Int))then za else ze)) (.exit 0) (Lgrs_R a):=λB i z=>by kernel_rfl
def Zhl(a:Zc)(k:Nat)(z:Nat×(Nat->Zb)):Nat×(Nat->Zb):=(λ(i:Int)(z:Nat×(Nat->Zb))=>((((zR z+(1:Nat)):Nat),(λ(jj:Nat)=>Ui (bif zq jj (zR z+nat_lit 0)then zf (zl za 1 (a.2 (zk i)).n1 λj=>zf (zn za .i64 ((a.2 (zk i)).3 j).f0) zh) zh else zf (zl za 1 (Zb.n0 (z.2 jj)) λj=>zf (zn za .i64 ((z.2 jj).2 j).f0) zh) zh))))) k z
def Ja(a:Zc)(k:Nat):Nat×(Nat->Zb):=ZJ (0,(λ_=>Ui .nil)) (Zhl a) k
theorem Lgrs_cnt(a:Zc)(k:Nat):(Ja a k).1<=k:=Zhp (m:=λz:Nat×(Nat->Zb)=>z.1) (zI _) (λk z=>((by show _<=_+1;first|omega|exact Nat.le_succ _|exact zI _):(λy:Nat×(Nat->Zb)=>y.1<=z.1+1) (Zhl a k z))) k
def Zd7(a:Zc):Lp:=Js 144 5 1 2 24 [2,3,10,11,12] [(0,.own),(1,.tmp 3)] [] (Zd8 a) (Zhm a) (.exit 0) (0,(λ_=>Ui .nil)) (Ja a) (Zc.n0 a)
def Zjx(a:Zc):Prop:=YC 2 [] (Zd8 a) (Zhm a) (0,(λ_=>Ui .nil)) (.cons .Zo (.cons .Zo (.cons (.rsl za 2 (Zc.n0 a) (λj=>Zu za (a.r0 j))) (.cons (.int za .i64 (((Zc.n0 a):Nat):Int)) (.cons (.int za .i64 (0:Int)) .nil))))) [.var (.cons (.rsl za 2 (Zc.n0 a) (λj=>Zu za (a.r0 j))) .nil),.none]
theorem Lgrs_fit(a:Zc):Zjx a:=⟨⟨rfl,⟨rfl,by decide⟩,rfl,rfl,rfl,rfl⟩,⟨rfl,rfl,trivial⟩⟩
theorem ZmS(a:Zc)(hl:a.n0<=1000)(h2:∀j,(a.r0 j).n1<=1000):(Zd7 a).Ok P:=by
 refine JZ (Zw hm hn (l:=[QK,Ws]) ⟨Zcq,V7,trivial⟩ (ls:=[]) trivial ze) rfl (by kernel_rfl) (ZmT a) exN Yv (λ_=>rfl) (rd:=(λ_ t y=>((t.nth 1).oslN,(λj=>Ui ((y.getD 1 .none).arrG j))))) (λi z=>rfl) (λi=>rfl) rfl (λi hlt hg=>?_) (λi z hi=>?_)
 ·have hltI:(i:Int)<(((Zc.n0 a):Nat):Int):=by omega
  refine⟨?_,trivial⟩
  all_goals(have hf0:=Lgrs_cnt a i)
  all_goals(repeat'(first|exact rfl|exact λ_=>⟨rfl,rfl⟩|apply zy|intro _))
  all_goals(try simp only[decide_eq_true_eq,decide_eq_false_iff_not,yg,yw]at*)
  all_goals(try simp(disch:=omega) only[IntWalk.i64_in])
  all_goals(first|omega|exact h2 _)
 ·have hw:=(IntWalk.i64_in ((i:Int)+1) ⟨by omega,by omega⟩)
  all_goals exact⟨rfl,Yq (ts:=Zd8 a) hw rfl,⟨LeK.refl _,LeK.Jb rfl (λj hj=>by first|rfl|exact softIf (g:=λv=>(Qk za (Ui v)).soft) rfl rfl),trivial⟩⟩
def Zc0(a:Zc):Tree V:=
 let q0:=(zf (zl za 2 a.n0 λj=>Zu za (a.2 j)) zh)
 zu (zf (zJ q0) zh=zf (zJ q0) zh/\a.n0<=(1000:Nat)/\∀(j:Nat),(a.2 j).n1<=(1000:Nat)) (zB (bif YH (ZG q0) != (0:Int)then ze else za) (zw V.Zo) (zu (Zjx a) (zu ((0:Nat)+zR (Ja a a.n0)<=zR (Ja a a.n0)) (zw (zl za 1 (zR (Ja a a.n0)) λj=>zf (zl za 1 (Zb.n0 ((Ja a a.n0).2 ((0:Nat)+j))) λj_1=>ci (((Ja a a.n0).2 ((0:Nat)+j)).2 j_1).f0 zh) zh)))))
theorem ZpW(a:Zc):ZT (Zl P [QK,Ws] [Zd7 a] ze) 400 144 (.cons (.agg (Y5 za a)) .nil)=Zc0 a:=by kernel_rfl
def YV(a:Zc):Nat:=(Zc0 a).valOf.Zi
def ZV(a:Zc):Nat->Zb:=λj=>Ui ((Zc0 a).valOf.Zn j)
theorem ZpV(a:Zc)(h0:a.n0<=1000)(h1:∀j,(a.r0 j).n1<=1000):Zh P 144 (.cons (.agg (Y5 za a)) .nil) (.rsl za 1 (YV a) λj=>Qk za ((ZV a) j)):=by
 refine X4 (E:=(Zl P [QK,Ws] [Zd7 a] ze)) (Zw hm hn (l:=[QK,Ws]) ⟨Zcq,V7,trivial⟩ (ls:=[Zd7 a]) ⟨ZmS a h0 h1,trivial⟩ ze) (.rsl za 1 0 λ_=>patDT119) (Has.of hn Tryz.func144 rfl) (ZpW a) ?_ ?_
 ·refine⟨?_,⟨λhb0=>trivial,λhb0=>⟨?_,⟨?_,trivial⟩⟩⟩⟩
  all_goals(first|exact Lgrs_fit a|((repeat'(first|exact rfl|exact λ_=>⟨rfl,rfl⟩|apply zy|intro _));all_goals(try simp only[decide_eq_true_eq,decide_eq_false_iff_not]at*);all_goals(first|exact h1 _|omega|(simp at*;omega))))
 ·refine⟨⟨rfl,?_⟩,⟨rfl,?_⟩⟩
  all_goals((repeat'(first|exact rfl|exact trivial|apply zy|intro _|(refine cP (p:=λv=>z8 v=Yh _ v) (λhc=>?_) (λhc=>?_))));all_goals(exfalso;simp only[YS,XO,XW,X7,XV,X6,zL,yE]at*;omega))
def Zfd(r0:Zc->Nat)(r1:Zc->Nat->Zb):Con:=Yd 144 (λx=>(.cons (.agg (Y5 za (ZG x.hd.inner))) .nil)) (λx=>(.rsl za 1 (r0 (ZG x.hd.inner)) λj=>Qk za ((r1 (ZG x.hd.inner)) j))) (λx=>(λ(a:Zc)=>a.n0<=1000/\∀j,(a.r0 j).n1<=1000) (ZG x.hd.inner))
abbrev c_gRows:Con:=Zfd YV ZV
theorem Zn6:c_gRows.Ok P:=Yf (λx h=>ZpV _ h.1 h.2)
abbrev rm2_ts(d:Za)(gn:Nat)(gr:Nat->DT3)(sa:Int)(p:Zj)(gu:Zf)(ga:Zc)(rn:Nat)(rr:Nat->Zb)(w:Int)(m:Nat)(r:Nat->DT3)(i:Int)(z:Nat×(Nat->ZE)):V:=(.cons (.ptr ze 0 0 0 0) (.cons (.bool ze za) (.cons (.osl za 1 1 0 z.1) (.cons (.rsl za 1 rn (λj=>Qk za (rr j))) (.cons (.int za .i64 ((rn:Nat):Int)) (.cons (.int za .i64 w) (.cons (.rsl za 1 m (λj=>ZK za (r j))) (.cons (.int za .i64 ((m:Nat):Int)) (.cons (.int za .i64 i) .nil)))))))))
abbrev rm2_ys(d:Za)(gn:Nat)(gr:Nat->DT3)(sa:Int)(p:Zj)(gu:Zf)(ga:Zc)(rn:Nat)(rr:Nat->Zb)(w:Int)(m:Nat)(r:Nat->DT3)(i:Int)(z:Nat×(Nat->ZE)):List Blk:=[.var (.cons (zcPt d gn gr sa p gu ga) .nil),.arr 1 z.1 (λj=>Z8 za (z.2 j))]
def rm2_R(d:Za)(gn:Nat)(gr:Nat->DT3)(sa:Int)(p:Zj)(gu:Zf)(ga:Zc)(rn:Nat)(rr:Nat->Zb)(w:Int)(m:Nat)(r:Nat->DT3)(i:Int)(z:Nat×(Nat->ZE)):Tree Rd:=
 let q3:=(zl za 4 gu.n0 λj=>Zv za (gu.2 j))
 let q4:=(zl za 4 gu.n1 λj=>Zt za (gu.4 j))
 let q0:=(V.rptr za (16:Nat) (1:Nat) (λjj=>ci d.f0 (zf (zl za 2 d.n1 λj=>Z9 za (d.3 j)) (zf (zl za 1 p.n0 λj=>zf (zn za .u32 (p.2 j).f0) zh) (zf q3 (zf q4 (zf (zl za 2 ga.n0 λj=>Zu za (ga.2 j)) (zf (zl za 11 d.n6 λj=>Zy za (d.13 j)) (zf (zl za 2 d.n7 λj=>Z0 za (d.15 j)) (zf (zl za 5 d.n8 λj=>ZP za (d.17 j)) (ci d.f9 (zf (zl za 2 d.n10 λj=>ZC za (d.20 j)) (zf (zl za 3 d.n11 λj=>ZF za (d.22 j)) (zf (zl za 2 d.n12 λj=>ZB za (d.24 j)) (zf (zn za .u64 d.f13) (zf (zl za 1 gn λj=>ci (gr j).f0 zh) (ci sa zh)))))))))))))))) (0:Nat) (0:Nat))
 let q1:=(ZQ (zf q3 (zf q4 zh)))
 let q2:=(zf q0 (ci (r (zk i)).f0 zh))
 let q5:=(gu.2 (zk (Zm q1 (r (zk i)).f0)))
 zu (((0:Int)<=i/\i<(m:Int))/\(sR q2 q2/\gu.n0<=(1000:Nat)/\gu.n1<=(1000:Nat)/\((0:Int)<=Zm q1 (r (zk i)).f0/\Zm q1 (r (zk i)).f0<((gu.n0:Nat):Int))/\(0:Int)<=q5.f3/\q5.f3<((p.n0:Nat):Int))/\zR z<=zR z/\fits (zR z+(1:Nat)) (4:Nat)) (zw (Ex.normal,ze,zf (pt 0) (zf (zC ze za) (zf (V.osl za 1 1 0 (zR z+(1:Nat))) (zf (zl za 1 rn λjj=>zf (zl za 1 (Zb.n0 (rr jj)) λj=>ci ((rr jj).2 j).f0 zh) zh) (ci (rn:Int) (ci w (zf (zl za 1 m λjj=>ci (r jj).f0 zh) (ci (m:Int) (ci (zD .i64 (i+(1:Int))) zh)))))))),[Blk.var (zf q0 zh),Blk.arr 1 (zR z+(1:Nat)) λjj=>bif zq jj (zR z+nat_lit 0)then zf (zn za .u32 (YF (Ym (zf (zl za 1 p.n0 λj=>Z8 za (p.2 j)) zh)) q1 (r (zk i)).f0)) zh else zf (zn za .u32 (z.2 jj).f0) zh]))
theorem rm2_round(d:Za)(gn:Nat)(gr:Nat->DT3)(sa:Int)(p:Zj)(gu:Zf)(ga:Zc)(rn:Nat)(rr:Nat->Zb)(w:Int)(m:Nat)(r:Nat->DT3):Yi P (Zl P [KI] [] ze) 78 8 1 2 44 [1,2,5,21,22,23,27,28,29] [(0,.own),(1,.tmp 5)] [] (rm2_ts d gn gr sa p gu ga rn rr w m r) (rm2_ys d gn gr sa p gu ga rn rr w m r) (λi=>(bif decide (i<(m:Int))then za else ze)) (.exit 2) (rm2_R d gn gr sa p gu ga rn rr w m r):=λB i z=>by kernel_rfl
def Zad(d:Za)(gn:Nat)(gr:Nat->DT3)(sa:Int)(p:Zj)(gu:Zf)(ga:Zc)(rn:Nat)(rr:Nat->Zb)(w:Int)(m:Nat)(r:Nat->DT3)(k:Nat)(z:Nat×(Nat->ZE)):Nat×(Nat->ZE):=(λ(i:Int)(z:Nat×(Nat->ZE))=>((((zR z+(1:Nat)):Nat),(λ(jj:Nat)=>X0 (bif zq jj (zR z+nat_lit 0)then zf (zn za .u32 (YF (Ym (zf (zl za 1 p.n0 λj=>Z8 za (p.2 j)) zh)) (ZQ (zf (zl za 4 gu.n0 λj=>Zv za (gu.2 j)) (zf (zl za 4 gu.n1 λj=>Zt za (gu.4 j)) zh))) (r (zk i)).f0)) zh else zf (zn za .u32 (z.2 jj).f0) zh))))) k z
def Q8(d:Za)(gn:Nat)(gr:Nat->DT3)(sa:Int)(p:Zj)(gu:Zf)(ga:Zc)(rn:Nat)(rr:Nat->Zb)(w:Int)(m:Nat)(r:Nat->DT3)(k:Nat):Nat×(Nat->ZE):=ZJ (0,(λ_=>X0 .nil)) (Zad d gn gr sa p gu ga rn rr w m r) k
theorem rm2_cnt(d:Za)(gn:Nat)(gr:Nat->DT3)(sa:Int)(p:Zj)(gu:Zf)(ga:Zc)(rn:Nat)(rr:Nat->Zb)(w:Int)(m:Nat)(r:Nat->DT3)(k:Nat):(Q8 d gn gr sa p gu ga rn rr w m r k).1<=k:=Zhp (m:=λz:Nat×(Nat->ZE)=>z.1) (zI _) (λk z=>((by show _<=_+1;first|omega|exact Nat.le_succ _|exact zI _):(λy:Nat×(Nat->ZE)=>y.1<=z.1+1) (Zad d gn gr sa p gu ga rn rr w m r k z))) k
def rm2_lp(d:Za)(gn:Nat)(gr:Nat->DT3)(sa:Int)(p:Zj)(gu:Zf)(ga:Zc)(rn:Nat)(rr:Nat->Zb)(w:Int)(m:Nat)(r:Nat->DT3):Lp:=Js 78 8 1 2 44 [1,2,5,21,22,23,27,28,29] [(0,.own),(1,.tmp 5)] [] (rm2_ts d gn gr sa p gu ga rn rr w m r) (rm2_ys d gn gr sa p gu ga rn rr w m r) (.exit 2) (0,(λ_=>X0 .nil)) (Q8 d gn gr sa p gu ga rn rr w m r) (m)
theorem rm2_lp_ok(d:Za)(gn:Nat)(gr:Nat->DT3)(sa:Int)(p:Zj)(gu:Zf)(ga:Zc)(rn:Nat)(rr:Nat->Zb)(w:Int)(m:Nat)(r:Nat->DT3)(hl:m<=1000)(hM:∀j,j<m->(0<=Zm gu (r j).f0/\Zm gu (r j).f0<gu.n0)/\0<=(gu.r0 (Zm gu (r j).f0).toNat).f3/\(gu.r0 (Zm gu (r j).f0).toNat).f3<p.n0)(hg0:gu.n0<=1000)(hg1:gu.n1<=1000):(rm2_lp d gn gr sa p gu ga rn rr w m r).Ok P:=by
 refine JZ (Zw hm hn (l:=[KI]) ⟨ZeZ,trivial⟩ (ls:=[]) trivial ze) rfl (by kernel_rfl) (rm2_round d gn gr sa p gu ga rn rr w m r) exN Yv (λ_=>rfl) (rd:=(λ_ t y=>((t.nth 2).oslN,(λj=>X0 ((y.getD 1 .none).arrG j))))) (λi z=>rfl) (λi=>rfl) rfl (λi hlt hg=>?_) (λi z hi=>?_)
 ·have hltI:(i:Int)<((m:Nat):Int):=by omega
  refine⟨?_,trivial⟩
  all_goals(have hf0:=rm2_cnt d gn gr sa p gu ga rn rr w m r i)
  all_goals(repeat'(first|exact rfl|exact λ_=>⟨rfl,rfl⟩|apply zy|intro _))
  all_goals(try simp only[decide_eq_true_eq,decide_eq_false_iff_not,yg,yw]at*)
  all_goals(try simp(disch:=omega) only[IntWalk.i64_in])
  all_goals(first|omega|exact(hM _ (by omega)).1.1|exact(hM _ (by omega)).1.2|exact(hM _ (by omega)).2.1|exact(hM _ (by omega)).2.2)
 ·have hw:=(IntWalk.i64_in ((i:Int)+1) ⟨by omega,by omega⟩)
  all_goals exact⟨rfl,Yq (ts:=rm2_ts d gn gr sa p gu ga rn rr w m r) hw rfl,⟨LeK.refl _,LeK.Jb rfl (λj hj=>by first|rfl|exact softIf (g:=λv=>(Z8 za (X0 v)).soft) rfl rfl),trivial⟩⟩
def rm2_in(d:Za)(gn:Nat)(gr:Nat->DT3)(sa:Int)(p:Zj)(gu:Zf)(ga:Zc)(rn:Nat)(rr:Nat->Zb):Lp:=⟨78,8,λ_ s=>(s.tmp 23).VH .stuck λw=>(s.tmp 27).G7 .stuck λm r27=>.need ((λ(d:Za)(gn:Nat)(gr:Nat->DT3)(sa:Int)(p:Zj)(gu:Zf)(ga:Zc)(rn:Nat)(rr:Nat->Zb)(w:Int)(m:Nat)(r:Nat->DT3)=>m<=1000/\(∀j,j<m->(0<=Zm gu (r j).f0/\Zm gu (r j).f0<gu.n0)/\0<=(gu.r0 (Zm gu (r j).f0).toNat).f3/\(gu.r0 (Zm gu (r j).f0).toNat).f3<p.n0)) d gn gr sa p gu ga rn rr w m (λj=>Zx (r27 j))) ((rm2_lp d gn gr sa p gu ga rn rr w m (λj=>Zx (r27 j))).g _ s)⟩
theorem rm2_in_ok(d:Za)(gn:Nat)(gr:Nat->DT3)(sa:Int)(p:Zj)(gu:Zf)(ga:Zc)(rn:Nat)(rr:Nat->Zb)(hg0:gu.n0<=1000)(hg1:gu.n1<=1000):(rm2_in d gn gr sa p gu ga rn rr).Ok P:=by
 intro body hin hfr B s Q hq
 obtain⟨w,hq⟩:=Uu hq
 obtain⟨m,r27,hq⟩:=Zbu hq
 exact rm2_lp_ok d gn gr sa p gu ga rn rr w m (λj=>Zx (r27 j)) hq.1.1 hq.1.2 hg0 hg1 body hin hfr B s Q hq.2
theorem chMay_rng(p:Zj)(gu:Zf)(b:Int):0<=YF p gu b/\YF p gu b<4294967296:=u32_rng _
section
variable(d:Za)(gn:Nat)(gr:Nat->DT3)(sa:Int)(p:Zj)(gu:Zf)(ga:Zc)(rn:Nat)(rr:Nat->Zb)(w:Int)(m:Nat)(r:Nat->DT3)
theorem ZgO:∀k j,j<(Q8 d gn gr sa p gu ga rn rr w m r k).1->0<=((Q8 d gn gr sa p gu ga rn rr w m r k).2 j).f0/\((Q8 d gn gr sa p gu ga rn rr w m r k).2 j).f0<4294967296:=by
 intro k
 induction k with
 |zero=>intro j hj;exact absurd hj (yB j)
 |succ k ih=>
  show ∀j,j<(Zad d gn gr sa p gu ga rn rr w m r k (Q8 d gn gr sa p gu ga rn rr w m r k)).1->0<=((Zad d gn gr sa p gu ga rn rr w m r k (Q8 d gn gr sa p gu ga rn rr w m r k)).2 j).f0/\((Zad d gn gr sa p gu ga rn rr w m r k (Q8 d gn gr sa p gu ga rn rr w m r k)).2 j).f0<4294967296
  generalize Q8 d gn gr sa p gu ga rn rr w m r k=z at ih⊢
  intro j hj
  have hj':j<z.1+1:=hj
  unfold Zad
  dsimp only
  cases h:zq j (z.1+0)with
  |true=>exact chMay_rng _ _ _
  |false=>
   have hne:j≠z.1:=λe=>by subst e;rw[Nat.add_zero,Nat.beq_refl]at h;cases h
   exact ih j (by omega)
end
abbrev Zcb(n:Nat)(r:Nat->ZH)(d:Za)(gn:Nat)(gr:Nat->DT3)(sa:Int)(p:Zj)(gu:Zf)(ga:Zc)(i:Int)(z:Unit):V:=(.cons (.rsl za 4 n (λjj=>zf (zn za zA (ZH.f0 (r jj))) (zf (zn za zA (ZH.f1 (r jj))) (zf (zn za yD (ZH.f2 (r jj))) (zf (zn za yD (ZH.f3 (r jj))) zh))))) (.cons (zcF1 142 d gn gr sa p gu ga) (.cons (.int ze .i64 0) (.cons (.int za .i64 ((n:Nat):Int)) (.cons (.int za .i64 i) .nil)))))
abbrev Zcc(n:Nat)(r:Nat->ZH)(d:Za)(gn:Nat)(gr:Nat->DT3)(sa:Int)(p:Zj)(gu:Zf)(ga:Zc)(i:Int)(z:Unit):List Blk:=[]
def LixMay_R(n:Nat)(r:Nat->ZH)(d:Za)(gn:Nat)(gr:Nat->DT3)(sa:Int)(p:Zj)(gu:Zf)(ga:Zc)(i:Int)(z:Unit):Tree Rd:=
 let q0:=(V.rptr za (16:Nat) (1:Nat) (λjj=>ci d.f0 (zf (zl za 2 d.n1 λjj=>Z9 za (d.3 jj)) (zf (zl za 1 p.n0 λjj=>zf (zn za .u32 (p.2 jj).f0) zh) (zf (zl za 4 gu.n0 λjj=>Zv za (gu.2 jj)) (zf (zl za 4 gu.n1 λjj=>Zt za (gu.4 jj)) (zf (zl za 2 ga.n0 λjj=>Zu za (ga.2 jj)) (zf (zl za 11 d.n6 λjj=>Zy za (d.13 jj)) (zf (zl za 2 d.n7 λjj=>Z0 za (d.15 jj)) (zf (zl za 5 d.n8 λjj=>ZP za (d.17 jj)) (ci d.f9 (zf (zl za 2 d.n10 λjj=>ZC za (d.20 jj)) (zf (zl za 3 d.n11 λjj=>ZF za (d.22 jj)) (zf (zl za 2 d.n12 λjj=>ZB za (d.24 jj)) (zf (zn za .u64 d.f13) (zf (zl za 1 gn λjj=>ci (gr jj).f0 zh) (ci sa zh)))))))))))))))) (0:Nat) (0:Nat))
 let q4:=(zl za 4 gu.n0 λj=>Zv za (gu.2 j))
 let q5:=(zl za 4 gu.n1 λj=>Zt za (gu.4 j))
 let q1:=(ZQ (zf q4 (zf q5 zh)))
 let q2:=(V.fn (Fn.func (142:FuncId)) zh (zf (V.rptr za (1:Nat) (1:Nat) (λjj=>zf q0 zh) (0:Nat) (0:Nat)) zh))
 let q3:=(zl za 1 p.n0 λj=>zf (zn za .u32 (p.2 j).f0) zh)
 let q6:=(ci (r (zk i)).f0 zh)
 let q7:=(gu.2 (zk (Zm q1 (r (zk i)).f0)))
 let q8:=(zl za 4 n λjj=>Zt za (r jj))
 zu (((0:Int)<=i/\i<(n:Int))/\sR (zf q0 q6) (zf (V.rptr za (16:Nat) (1:Nat) (λjj=>ci d.f0 (zf (zl za 2 d.n1 λj=>Z9 za (d.3 j)) (zf q3 (zf q4 (zf q5 (zf (zl za 2 ga.n0 λj=>Zu za (ga.2 j)) (zf (zl za 11 d.n6 λj=>Zy za (d.13 j)) (zf (zl za 2 d.n7 λj=>Z0 za (d.15 j)) (zf (zl za 5 d.n8 λj=>ZP za (d.17 j)) (ci d.f9 (zf (zl za 2 d.n10 λj=>ZC za (d.20 j)) (zf (zl za 3 d.n11 λj=>ZF za (d.22 j)) (zf (zl za 2 d.n12 λj=>ZB za (d.24 j)) (zf (zn za .u64 d.f13) (zf (zl za 1 gn λj=>ci (gr j).f0 zh) (ci sa zh)))))))))))))))) (0:Nat) (0:Nat)) q6)/\gu.n0<=(1000:Nat)/\gu.n1<=(1000:Nat)/\((0:Int)<=Zm q1 (r (zk i)).f0/\Zm q1 (r (zk i)).f0<((gu.n0:Nat):Int))/\(0:Int)<=q7.f3/\q7.f3<((p.n0:Nat):Int)) (zB (bif bif YF (Ym (zf q3 zh)) q1 (r (zk i)).f0==(0:Int)then ze else za then ze else za) (zw (Ex.ret,ze,zf q8 (zf q2 (ci i (ci (n:Int) (ci i zh)))),[])) (zw (Ex.normal,ze,zf q8 (zf q2 (zf (zn ze .i64 (0:Int)) (ci (n:Int) (ci (zD .i64 (i+(1:Int))) zh)))),[])))
theorem Znf(n:Nat)(r:Nat->ZH)(d:Za)(gn:Nat)(gr:Nat->DT3)(sa:Int)(p:Zj)(gu:Zf)(ga:Zc):Yi P (Zl P [KI] [] ze) 109 2 0 0 19 [0,1,4,7,8] [] [] (Zcb n r d gn gr sa p gu ga) (Zcc n r d gn gr sa p gu ga) (λi=>(bif decide (i<(n:Int))then za else ze)) (.exit 0) (LixMay_R n r d gn gr sa p gu ga):=λB i z=>by kernel_rfl
def Zei(n:Nat)(r:Nat->ZH)(d:Za)(gn:Nat)(gr:Nat->DT3)(sa:Int)(p:Zj)(gu:Zf)(ga:Zc)(k:Nat):Bool:=(λ(i:Int)(z:Unit)=>(bif bif bif YF (Ym (zf (zl za 1 p.n0 λj=>zf (zn za .u32 (p.2 j).f0) zh) zh)) (ZQ (zf (zl za 4 gu.n0 λj=>Zv za (gu.2 j)) (zf (zl za 4 gu.n1 λj=>Zt za (gu.4 j)) zh))) (r (zk i)).f0==(0:Int)then ze else za then ze else za then ze else za)) k ()
abbrev Znc(n:Nat)(r:Nat->ZH)(d:Za)(gn:Nat)(gr:Nat->DT3)(sa:Int)(p:Zj)(gu:Zf)(ga:Zc)(i:Int)(z:Unit):V:=(.cons (zl za 4 n λjj=>Zt za (r jj)) (.cons (zcF1 142 d gn gr sa p gu ga) (.cons (zn za .i64 i) (.cons (zn za .i64 (n:Int)) (.cons .junk .nil)))))
def Zej(n:Nat)(r:Nat->ZH)(d:Za)(gn:Nat)(gr:Nat->DT3)(sa:Int)(p:Zj)(gu:Zf)(ga:Zc):Lp:=lpL 109 2 0 0 19 [0,1,4,7,8] [] [] (Zcb n r d gn gr sa p gu ga) (Zcc n r d gn gr sa p gu ga) (.exit 0) .ret () (λ_=>()) (Zei n r d gn gr sa p gu ga) (n) (Znc n r d gn gr sa p gu ga) (Zcc n r d gn gr sa p gu ga)
def ZjF(n:Nat)(r:Nat->ZH)(d:Za)(gn:Nat)(gr:Nat->DT3)(sa:Int)(p:Zj)(gu:Zf)(ga:Zc):Prop:=YC 0 [] (Zcb n r d gn gr sa p gu ga) (Zcc n r d gn gr sa p gu ga) () (Zcb n r d gn gr sa p gu ga (0:Nat) ()) (Zcc n r d gn gr sa p gu ga (0:Nat) ())
theorem Znd(n:Nat)(r:Nat->ZH)(d:Za)(gn:Nat)(gr:Nat->DT3)(sa:Int)(p:Zj)(gu:Zf)(ga:Zc):ZjF n r d gn gr sa p gu ga:=⟨rfl,trivial⟩
theorem Zne(n:Nat)(r:Nat->ZH)(d:Za)(gn:Nat)(gr:Nat->DT3)(sa:Int)(p:Zj)(gu:Zf)(ga:Zc)(hl:n<=1000)(h0:gu.n0<=1000)(h1:gu.n1<=1000)(h2:∀j,j<n->(0<=Zm gu (r j).f0/\Zm gu (r j).f0<gu.n0)/\0<=(gu.r0 (Zm gu (r j).f0).toNat).f3/\(gu.r0 (Zm gu (r j).f0).toNat).f3<p.n0):(Zej n r d gn gr sa p gu ga).Ok P:=by
 refine YR (Zw hm hn (l:=[KI]) ⟨ZeZ,trivial⟩ (ls:=[]) trivial ze) rfl (by kernel_rfl) (Znf n r d gn gr sa p gu ga) exN Yv (λ_=>rfl) (step:=λ_ z=>z) (rd:=(λ_ t y=>())) (λi z=>rfl) (λi=>(cC rfl rfl)) rfl (λi hlt hg=>?_) (λi z hi=>?_)
 ·have hltI:(i:Int)<((n:Nat):Int):=by omega
  refine⟨?_,⟨λhb0=>trivial,λhb0=>trivial⟩⟩
  all_goals(repeat'(first|exact rfl|exact λ_=>⟨rfl,rfl⟩|apply zy|intro _))
  all_goals(try simp only[decide_eq_true_eq,decide_eq_false_iff_not,yg,yw]at*)
  all_goals(try simp(disch:=omega) only[IntWalk.i64_in])
  all_goals(first|omega|exact(h2 _ (by omega)).1.1|exact(h2 _ (by omega)).1.2|exact(h2 _ (by omega)).2.1|exact(h2 _ (by omega)).2.2)
 ·have hw:=(IntWalk.i64_in ((i:Int)+1) ⟨by omega,by omega⟩)
  refine⟨?_,?_⟩
  all_goals(first|exact⟨rfl,Yq (ts:=Zcb n r d gn gr sa p gu ga) (a:=()) hw rfl,Z5 _⟩|exact⟨rfl,rfl,(by repeat'(first|exact Le.refl _|exact Le.junk _ rfl|apply Le.cons)),Z5 _⟩)
def Zf3(d:Za)(gn:Nat)(gr:Nat->DT3)(sa:Int)(p:Zj)(gu:Zf)(ga:Zc)(an:Nat)(a:Nat->ZH):Tree V:=
 zu (ZjF an a d gn gr sa p gu ga) (zB (bif Zp (Zei an a d gn gr sa p gu ga) an then ze else za) (zw (vi ((ZN (Zei an a d gn gr sa p gu ga) an (0:Nat):Nat):Int))) (zw (zn ze .i64 (-1:Int))))
theorem Zqi(d:Za)(gn:Nat)(gr:Nat->DT3)(sa:Int)(p:Zj)(gu:Zf)(ga:Zc)(an:Nat)(a:Nat->ZH):ZT (Zl P [KI] [Zej an a d gn gr sa p gu ga] ze) 400 109 (.cons (.rsl za 4 an λj=>Zt za (a j)) (.cons (zcF1 142 d gn gr sa p gu ga) .nil))=Zf3 d gn gr sa p gu ga an a:=by kernel_rfl
def VB(p:Zj)(gu:Zf)(an:Nat)(a:Nat->ZH):Int:=(Zf3 (Yb .nil) 0 (λ_=>Zx .nil) 0 p gu (ZG .nil) an a).valOf.toInt
theorem Zqh(d:Za)(gn:Nat)(gr:Nat->DT3)(sa:Int)(p:Zj)(gu:Zf)(ga:Zc)(an:Nat)(a:Nat->ZH)(h0:an<=1000)(h1:gu.n0<=1000)(h2:gu.n1<=1000)(h3:∀j,j<an->(0<=Zm gu (a j).f0/\Zm gu (a j).f0<gu.n0)/\0<=(gu.r0 (Zm gu (a j).f0).toNat).f3/\(gu.r0 (Zm gu (a j).f0).toNat).f3<p.n0):Zh P 109 (.cons (.rsl za 4 an λj=>Zt za (a j)) (.cons (zcF1 142 d gn gr sa p gu ga) .nil)) (.int za .i64 (VB p gu an a)):=by
 refine(show Yh (.int za .i64 0) (Zf3 d gn gr sa p gu ga an a).valOf=(.int za .i64 (VB p gu an a))from by kernel_rfl)▸ ?_
 refine X4 (E:=(Zl P [KI] [Zej an a d gn gr sa p gu ga] ze)) (Zw hm hn (l:=[KI]) ⟨ZeZ,trivial⟩ (ls:=[Zej an a d gn gr sa p gu ga]) ⟨Zne an a d gn gr sa p gu ga h0 h1 h2 h3,trivial⟩ ze) (.int za .i64 0) (Has.of hn Tryz.func109 rfl) (Zqi d gn gr sa p gu ga an a) ?_ ?_
 ·refine⟨?_,⟨λhb0=>trivial,λhb0=>trivial⟩⟩
  all_goals(first|exact Znd an a d gn gr sa p gu ga|((repeat'(first|exact rfl|exact WG _|exact λ_=>⟨rfl,rfl⟩|apply zy|intro _));all_goals(try simp only[decide_eq_true_eq,decide_eq_false_iff_not]at*);all_goals(first|omega|(simp at*;omega))))
 ·refine⟨⟨rfl,?_⟩,⟨rfl,?_⟩⟩
  all_goals((repeat'(first|exact rfl|exact trivial|apply zy|intro _|(refine cP (p:=λv=>z8 v=Yh _ v) (λhc=>?_) (λhc=>?_))));all_goals(exfalso;simp only[YS,XO,XW,X7,XV,X6,zL,yE]at*;omega))
def c_ixMayA(r0:Zj->Zf->Nat->(Nat->ZH)->Int):Con:=conS 109 (λx=>(.cons (.rsl za 4 x.hd.Zi λj=>Zt za ((λj=>YK (x.hd.Zn j)) j)) (.cons (zcR1 142 ((x.tl.hd.Ye.hd.Zz 0).hd.Zz 0)) .nil))) (λx=>(.int za .i64 (r0 (Ym (.cons ((x.tl.hd.Ye.hd.Zz 0).hd.Zz 0).tl.tl.hd .nil)) (ZQ (.cons ((x.tl.hd.Ye.hd.Zz 0).hd.Zz 0).tl.tl.tl.hd (.cons ((x.tl.hd.Ye.hd.Zz 0).hd.Zz 0).tl.tl.tl.tl.hd .nil))) x.hd.Zi (λj=>YK (x.hd.Zn j))))) (λx=>(λ(p:Zj)(gu:Zf)(an:Nat)(a:Nat->ZH)=>an<=1000/\gu.n0<=1000/\gu.n1<=1000/\(∀j,j<an->(0<=Zm gu (a j).f0/\Zm gu (a j).f0<gu.n0)/\0<=(gu.r0 (Zm gu (a j).f0).toNat).f3/\(gu.r0 (Zm gu (a j).f0).toNat).f3<p.n0)) (Ym (.cons ((x.tl.hd.Ye.hd.Zz 0).hd.Zz 0).tl.tl.hd .nil)) (ZQ (.cons ((x.tl.hd.Ye.hd.Zz 0).hd.Zz 0).tl.tl.tl.hd (.cons ((x.tl.hd.Ye.hd.Zz 0).hd.Zz 0).tl.tl.tl.tl.hd .nil))) x.hd.Zi (λj=>YK (x.hd.Zn j)))
abbrev Zfh:Con:=c_ixMayA VB
theorem Zn8:Zfh.Ok P:=Vm (λx h=>Zqh _ _ _ _ _ _ _ _ _ h.1 h.2.1 h.2.2.1 h.2.2.2)
abbrev ZdI(d:Za)(gn:Nat)(gr:Nat->DT3)(sa:Int)(p:Zj)(gu:Zf)(ga:Zc)(rn:Nat)(rr:Nat->Zb)(i:Int)(z:Unit):V:=(.cons (.ptr ze 0 0 0 0) (.cons (.bool ze za) (.cons (.rsl za 1 rn (λj=>zf (zl za (1:Nat) (Zb.n0 (rr j)) λj_1=>zf (zn za zA (DT3.f0 ((rr j).2 j_1))) zh) zh)) (.cons (.int za .i64 ((rn:Nat):Int)) (.cons (.int za .i64 i) .nil)))))
abbrev ZdJ(d:Za)(gn:Nat)(gr:Nat->DT3)(sa:Int)(p:Zj)(gu:Zf)(ga:Zc)(rn:Nat)(rr:Nat->Zb)(i:Int)(z:Unit):List Blk:=[.var (.cons (.rptr za (16:Nat) (1:Nat) (λjj=>.cons (.int za zA (Za.f0 d)) (.cons (.rsl za (2:Nat) (Za.n1 d) λj=>.cons (.int za zA (VU.f0 (d.3 j))) (.cons (.int za zA (VU.f1 (d.3 j))) .nil)) (.cons (.rsl za (1:Nat) (Zj.n0 p) λj=>.cons (.int za yD (ZE.f0 (p.2 j))) .nil) (.cons (.rsl za (4:Nat) (Zf.n0 gu) λj=>.cons (.int za zA (Z6.f0 (gu.2 j))) (.cons (.int za zA (Z6.f1 (gu.2 j))) (.cons (.int za zA (Z6.f2 (gu.2 j))) (.cons (.int za zA (Z6.f3 (gu.2 j))) .nil)))) (.cons (.rsl za (4:Nat) (Zf.n1 gu) λj=>.cons (.int za zA (ZH.f0 (gu.4 j))) (.cons (.int za zA (ZH.f1 (gu.4 j))) (.cons (.int za yD (ZH.f2 (gu.4 j))) (.cons (.int za yD (ZH.f3 (gu.4 j))) .nil)))) (.cons (.rsl za (2:Nat) (Zc.n0 ga) λj=>.cons (.int za zA (ZI.f0 (ga.2 j))) (.cons (.rsl za (1:Nat) (ZI.n1 (ga.2 j)) λj_1=>.cons (.int za zA (DT3.f0 ((ga.2 j).3 j_1))) .nil) .nil)) (.cons (.rsl za (11:Nat) (Za.n6 d) λj=>.cons (.int za zA (Zq.f0 (d.13 j))) (.cons (.int za zA (Zq.f1 (d.13 j))) (.cons (.int za zA (Zq.f2 (d.13 j))) (.cons (.int za yD (Zq.f3 (d.13 j))) (.cons (.int za zA (Zq.f4 (d.13 j))) (.cons (.int za yH (Zq.f5 (d.13 j))) (.cons (.int za yH (Zq.f6 (d.13 j))) (.cons (.int za yH (Zq.f7 (d.13 j))) (.cons (.int za yH (Zq.f8 (d.13 j))) (.cons (.int za zA (Zq.f9 (d.13 j))) (.cons (.int za zA (Zq.f10 (d.13 j))) .nil))))))))))) (.cons (.rsl za (2:Nat) (Za.n7 d) λj=>.cons (.int za zA (Q9.f0 (d.15 j))) (.cons (.int za zA (Q9.f1 (d.15 j))) .nil)) (.cons (.rsl za (5:Nat) (Za.n8 d) λj=>.cons (.int za zA (XE.f0 (d.17 j))) (.cons (.int za zA (XE.f1 (d.17 j))) (.cons (.int za zA (XE.f2 (d.17 j))) (.cons (.bool za (XE.b3 (d.17 j))) (.cons (.bool za (XE.b4 (d.17 j))) .nil))))) (.cons (.int za zA (Za.f9 d)) (.cons (.rsl za (2:Nat) (Za.n10 d) λj=>.cons (.int za zA (J9.f0 (d.20 j))) (.cons (.int za zA (J9.f1 (d.20 j))) .nil)) (.cons (.rsl za (3:Nat) (Za.n11 d) λj=>.cons (.int za zA (Y0.f0 (d.22 j))) (.cons (.int za zA (Y0.f1 (d.22 j))) (.cons (.int za zA (Y0.f2 (d.22 j))) .nil))) (.cons (.rsl za (2:Nat) (Za.n12 d) λj=>.cons (.int za zA (ZA.f0 (d.24 j))) (.cons (.int za zA (ZA.f1 (d.24 j))) .nil)) (.cons (.int za yH (Za.f13 d)) (.cons (.rsl za (1:Nat) gn λj=>.cons (.int za zA (DT3.f0 (gr j))) .nil) (.cons (.int za zA sa) .nil)))))))))))))))) (0:Nat) (0:Nat)) .nil)]
def rm1_R(d:Za)(gn:Nat)(gr:Nat->DT3)(sa:Int)(p:Zj)(gu:Zf)(ga:Zc)(rn:Nat)(rr:Nat->Zb)(i:Int)(z:Unit):Tree Rd:=
 let q0:=(zf (zl za 2 d.n1 λj=>Z9 za (d.3 j)) (zf (zl za 1 p.n0 λj=>zf (zn za .u32 (p.2 j).f0) zh) (zf (zl za 4 gu.n0 λj=>Zv za (gu.2 j)) (zf (zl za 4 gu.n1 λj=>Zt za (gu.4 j)) (zf (zl za 2 ga.n0 λj=>Zu za (ga.2 j)) (zf (zl za 11 d.n6 λj=>Zy za (d.13 j)) (zf (zl za 2 d.n7 λj=>Z0 za (d.15 j)) (zf (zl za 5 d.n8 λj=>ZP za (d.17 j)) (ci d.f9 (zf (zl za 2 d.n10 λj=>ZC za (d.20 j)) (zf (zl za 3 d.n11 λj=>ZF za (d.22 j)) (zf (zl za 2 d.n12 λj=>ZB za (d.24 j)) (zf (zn za .u64 d.f13) (zf (zl za 1 gn λj=>ci (gr j).f0 zh) (ci sa zh)))))))))))))))
 let q5:=(Zb.n0 (rr (zk i)))
 let q1:=(Q8 d gn gr sa p gu ga rn rr i q5 (λj=>Zx (ci ((rr (zk i)).2 j).f0 zh)) q5)
 let q2:=(zl za 1 rn λj=>zf (zl za 1 (Zb.n0 (rr j)) λj_1=>ci ((rr j).2 j_1).f0 zh) zh)
 let q3:=[Blk.var (zf (V.rptr za (16:Nat) (1:Nat) (λjj=>ci d.f0 q0) (0:Nat) (0:Nat)) zh)]
 let q4:=(V.rptr za (16:Nat) (1:Nat) (λj=>ci d.f0 q0) (0:Nat) (0:Nat))
 zu (((0:Int)<=i/\i<(rn:Int))/\((Zb.n0 (rr (zk i))<=(1000:Nat)/\∀(j:Nat),j<Zb.n0 (rr (zk i))->((0:Int)<=Zm gu ((rr (zk i)).2 j).f0/\Zm gu ((rr (zk i)).2 j).f0<((gu.n0:Nat):Int))/\(0:Int)<=(gu.2 (zk (Zm gu ((rr (zk i)).2 j).f0))).f3/\(gu.2 (zk (Zm gu ((rr (zk i)).2 j).f0))).f3<((p.n0:Nat):Int))/\(zQ za 0 0 0 0=zQ za 0 0 0 0/\zC za za=zC za za/\((0:Nat)=(0:Nat)/\(1:Nat)<(2:Nat))/\(q2=zl za 1 rn λj=>zf (zl za 1 (Zb.n0 (rr j)) λj_1=>ci ((rr j).2 j_1).f0 zh) zh)/\vi (rn:Int)=vi (rn:Int)/\vi i=vi i/\((zl za 1 q5 λj=>ci ((rr (zk i)).2 j).f0 zh)=zl za 1 q5 λj=>ci ((rr (zk i)).2 j).f0 zh)/\vi ((Zb.n0 (rr (zk i)):Nat):Int)=vi ((Zb.n0 (rr (zk i)):Nat):Int)/\vi (0:Int)=vi (0:Int)/\zh=zh)/\zf q4 zh=zf q4 zh/\(0:Nat)=(0:Nat)/\True)/\(0:Nat)+zR q1<=zR q1/\zR q1<=(8:Nat)/\∀(j:Nat),j<zR q1->zf (zn za .u32 (q1.2 ((0:Nat)+j)).f0) zh=zf (zn za .u32 (q1.2 ((0:Nat)+j)).f0) zh/\(0:Int)<=(q1.2 ((0:Nat)+j)).f0/\(q1.2 ((0:Nat)+j)).f0<(4294967296:Int)) (zB (bif bif !W9 (zR q1) λj=>(q1.2 ((0:Nat)+j))then ze else za then ze else za) (zw (Ex.ret,ze,zf (pt 0) (zf (zC ze za) (zf q2 (ci (rn:Int) (ci i zh)))),q3)) (zw (Ex.normal,ze,zf (pt 0) (zf (zC ze za) (zf q2 (ci (rn:Int) (ci (zD .i64 (i+(1:Int))) zh)))),q3)))
theorem rm1_round(d:Za)(gn:Nat)(gr:Nat->DT3)(sa:Int)(p:Zj)(gu:Zf)(ga:Zc)(rn:Nat)(rr:Nat->Zb):Yi P (Zl P [Vf] [rm2_in d gn gr sa p gu ga rn rr] ze) 78 4 1 1 44 [1,2,21,22,23] [(0,.own)] [] (ZdI d gn gr sa p gu ga rn rr) (ZdJ d gn gr sa p gu ga rn rr) (λi=>(bif decide (i<(rn:Int))then za else ze)) (.exit 0) (rm1_R d gn gr sa p gu ga rn rr):=λB i z=>by kernel_rfl
def Zje(d:Za)(gn:Nat)(gr:Nat->DT3)(sa:Int)(p:Zj)(gu:Zf)(ga:Zc)(rn:Nat)(rr:Nat->Zb)(k:Nat):Bool:=(λ(i:Int)(z:Unit)=>
 let q0:=(Q8 d gn gr sa p gu ga rn rr i (Zb.n0 (rr (zk i))) (λj=>Zx (zf (zn za .i64 ((rr (zk i)).2 j).f0) zh)) (Zb.n0 (rr (zk i))))
 (bif bif bif !W9 (zR q0) λj=>X0 (Z8 za (q0.2 ((0:Nat)+j)))then ze else za then ze else za then ze else za)) k ()
abbrev rm1_ets(d:Za)(gn:Nat)(gr:Nat->DT3)(sa:Int)(p:Zj)(gu:Zf)(ga:Zc)(rn:Nat)(rr:Nat->Zb)(i:Int)(z:Unit):V:=(.cons (zQ ze 0 0 0 0) (.cons (zC ze za) (.cons (zl za 1 rn λj=>zf (zl za 1 (Zb.n0 (rr j)) λj_1=>zf (zn za .i64 ((rr j).2 j_1).f0) zh) zh) (.cons (zn za .i64 (rn:Int)) (.cons .junk .nil)))))
def ZgN(d:Za)(gn:Nat)(gr:Nat->DT3)(sa:Int)(p:Zj)(gu:Zf)(ga:Zc)(rn:Nat)(rr:Nat->Zb):Lp:=lpL 78 4 1 1 44 [1,2,21,22,23] [(0,.own)] [] (ZdI d gn gr sa p gu ga rn rr) (ZdJ d gn gr sa p gu ga rn rr) (.exit 0) .ret () (λ_=>()) (Zje d gn gr sa p gu ga rn rr) (rn) (rm1_ets d gn gr sa p gu ga rn rr) (ZdJ d gn gr sa p gu ga rn rr)
def rm1_need(d:Za)(gn:Nat)(gr:Nat->DT3)(sa:Int)(p:Zj)(gu:Zf)(ga:Zc)(rn:Nat)(rr:Nat->Zb):Prop:=YC 1 [] (ZdI d gn gr sa p gu ga rn rr) (ZdJ d gn gr sa p gu ga rn rr) () (ZdI d gn gr sa p gu ga rn rr (0:Nat) ()) (ZdJ d gn gr sa p gu ga rn rr (0:Nat) ())
theorem rm1_fit(d:Za)(gn:Nat)(gr:Nat->DT3)(sa:Int)(p:Zj)(gu:Zf)(ga:Zc)(rn:Nat)(rr:Nat->Zb):rm1_need d gn gr sa p gu ga rn rr:=⟨rfl,⟨rfl,trivial⟩⟩
theorem rm1_lp_ok(d:Za)(gn:Nat)(gr:Nat->DT3)(sa:Int)(p:Zj)(gu:Zf)(ga:Zc)(rn:Nat)(rr:Nat->Zb)(hl:rn<=1000)(hM:∀j,j<rn->0<(rr j).n0/\(rr j).n0<=8/\∀q,q<(rr j).n0->(0<=Zm gu ((rr j).r0 q).f0/\Zm gu ((rr j).r0 q).f0<gu.n0)/\0<=(gu.r0 (Zm gu ((rr j).r0 q).f0).toNat).f3/\(gu.r0 (Zm gu ((rr j).r0 q).f0).toNat).f3<p.n0)(hg0:gu.n0<=1000)(hg1:gu.n1<=1000):(ZgN d gn gr sa p gu ga rn rr).Ok P:=by
 refine YR (Zw hm hn (l:=[Vf]) ⟨ZhP,trivial⟩ (ls:=[rm2_in d gn gr sa p gu ga rn rr]) ⟨rm2_in_ok d gn gr sa p gu ga rn rr hg0 hg1,trivial⟩ ze) rfl (by kernel_rfl) (rm1_round d gn gr sa p gu ga rn rr) exN Yv (λ_=>rfl) (step:=λ_ z=>z) (rd:=(λ_ t y=>())) (λi z=>rfl) (λi=>(cC rfl rfl)) rfl (λi hlt hg=>?_) (λi z hi=>?_)
 ·have hltI:(i:Int)<((rn:Nat):Int):=by omega
  refine⟨?_,⟨λhb0=>trivial,λhb0=>trivial⟩⟩
  all_goals(have hf0:=hM ((i:Int).toNat) (by omega))
  all_goals(repeat'(first|exact rfl|exact λ_=>⟨rfl,rfl⟩|apply zy|intro _))
  all_goals(try simp only[decide_eq_true_eq,decide_eq_false_iff_not,yg,yw]at*)
  all_goals(try simp(disch:=omega) only[IntWalk.i64_in])
  all_goals(first|omega|exact(Nat.le_trans (rm2_cnt _ _ _ _ _ _ _ _ _ _ _ _ _) (hM _ (by omega)).2.1)|exact(ZgO _ _ _ _ _ _ _ _ _ _ _ _ _ _ (by assumption)).1|exact(ZgO _ _ _ _ _ _ _ _ _ _ _ _ _ _ (by assumption)).2|exact(by rw[zX];exact(ZgO _ _ _ _ _ _ _ _ _ _ _ _ _ _ (by assumption)).1)|exact(by rw[zX];exact(ZgO _ _ _ _ _ _ _ _ _ _ _ _ _ _ (by assumption)).2)|exact((hM _ (by omega)).2.2 _ (by assumption)).1.1|exact((hM _ (by omega)).2.2 _ (by assumption)).1.2|exact((hM _ (by omega)).2.2 _ (by assumption)).2.1|exact((hM _ (by omega)).2.2 _ (by assumption)).2.2)
 ·have hw:=(IntWalk.i64_in ((i:Int)+1) ⟨by omega,by omega⟩)
  refine⟨?_,?_⟩
  all_goals(first|exact⟨rfl,Yq (ts:=ZdI d gn gr sa p gu ga rn rr) (a:=()) hw rfl,Z5 _⟩|exact⟨rfl,rfl,(by repeat'(first|exact Le.refl _|exact Le.junk _ rfl|apply Le.cons)),Z5 _⟩)
def room_T(d:Za)(gn:Nat)(gr:Nat->DT3)(sa:Int)(p:Zj)(gu:Zf)(ga:Zc)(Rn:Zc->Nat)(Rr:Zc->Nat->Zb):Tree V:=
 let q6:=(zl za 4 gu.n0 λj=>Zv za (gu.2 j))
 let q3:=(zl za 4 gu.n1 λj=>Zt za (gu.4 j))
 let q7:=(zl za 2 ga.n0 λj=>Zu za (ga.2 j))
 let q0:=(zf (zl za 2 d.n1 λj=>Z9 za (d.3 j)) (zf (zl za 1 p.n0 λj=>zf (zn za .u32 (p.2 j).f0) zh) (zf q6 (zf q3 (zf q7 (zf (zl za 11 d.n6 λj=>Zy za (d.13 j)) (zf (zl za 2 d.n7 λj=>Z0 za (d.15 j)) (zf (zl za 5 d.n8 λj=>ZP za (d.17 j)) (ci d.f9 (zf (zl za 2 d.n10 λj=>ZC za (d.20 j)) (zf (zl za 3 d.n11 λj=>ZF za (d.22 j)) (zf (zl za 2 d.n12 λj=>ZB za (d.24 j)) (zf (zn za .u64 d.f13) (zf (zl za 1 gn λj=>ci (gr j).f0 zh) (ci sa zh)))))))))))))))
 let q1:=(ZQ (zf q6 (zf q3 zh)))
 let q2:=(zf q7 zh)
 let q4:=(V.rptr za (16:Nat) (1:Nat) (λjj=>ci d.f0 q0) (0:Nat) (0:Nat))
 let q5:=(V.rptr za (16:Nat) (1:Nat) (λj=>ci d.f0 q0) (0:Nat) (0:Nat))
 zu (sR (zf q3 (zf (V.fn (Fn.func (142:Nat)) zh (zf (V.rptr ze (1:Nat) (1:Nat) (λjj=>zf q4 zh) (0:Nat) (0:Nat)) zh)) zh)) (zf q3 (zf (V.fn (Fn.func (142:FuncId)) zh (zf (V.rptr za (1:Nat) (1:Nat) (λjj=>zf q4 zh) (0:Nat) (0:Nat)) zh)) zh))/\gu.n1<=(1000:Nat)/\gu.n0<=(1000:Nat)/\gu.n1<=(1000:Nat)/\∀(j:Nat),j<gu.n1->((0:Int)<=Zm q1 (gu.4 j).f0/\Zm q1 (gu.4 j).f0<((gu.n0:Nat):Int))/\(0:Int)<=(gu.2 (zk (Zm q1 (gu.4 j).f0))).f3/\(gu.2 (zk (Zm q1 (gu.4 j).f0))).f3<((p.n0:Nat):Int)) (zB (bif decide ((VB (Ym (zf (zl za 1 p.n0 λj=>Z8 za (p.2 j)) zh)) q1 gu.n1 λj=>(gu.4 j))>=(0:Int))then ze else za) (zw (zC ze za)) (zu (zf (zJ q2) zh=zf (zJ q2) zh/\ga.n0<=(1000:Nat)/\∀(j:Nat),(ga.2 j).n1<=(1000:Nat)) (zu (zf (zQ za 0 0 0 0) (zf (zC za za) (zf (zl za 1 (Rn (ZG q2)) λj=>zf (zl za 1 (Zb.n0 (Rr (ZG q2) j)) λj_1=>ci ((Rr (ZG q2) j).2 j_1).f0 zh) zh) (ci ((Rn (ZG q2):Nat):Int) (ci (0:Int) zh))))=zf (zQ za 0 0 0 0) (zf (zC za za) (zf (zl za 1 (Rn ga) λj=>zf (zl za 1 (Zb.n0 (Rr ga j)) λj_1=>ci ((Rr ga j).2 j_1).f0 zh) zh) (ci ((Rn ga:Nat):Int) (ci (0:Int) zh))))/\zf q5 zh=zf q5 zh/\True) (zB (bif Zp (Zje d gn gr sa p gu ga (Rn ga) (Rr ga)) (Rn ga)then ze else za) (zw (zC ze za)) (zw (zC ze ze))))))
theorem room_tree(d:Za)(gn:Nat)(gr:Nat->DT3)(sa:Int)(p:Zj)(gu:Zf)(ga:Zc)(Rn:Zc->Nat)(Rr:Zc->Nat->Zb):ZT (Zl P [Zfh,Zfd Rn Rr] [ZgN d gn gr sa p gu ga (Rn ga) (Rr ga)] ze) 400 78 (.cons (zcPt d gn gr sa p gu ga) .nil)=room_T d gn gr sa p gu ga Rn Rr:=by kernel_rfl
def YJ(p:Zj)(gu:Zf)(ga:Zc):Bool:=(room_T (Yb .nil) 0 (λ_=>Zx .nil) 0 p gu ga YV ZV).valOf.toBool
theorem Zrc(d:Za)(gn:Nat)(gr:Nat->DT3)(sa:Int)(p:Zj)(gu:Zf)(ga:Zc)(h0:ga.n0<=1000)(h1:∀j,(ga.r0 j).n1<=1000)(h2:gu.n1<=1000)(h3:gu.n0<=1000)(h4:gu.n1<=1000)(h5:YV ga<=1000)(h6:∀j,j<YV ga->0<(ZV ga j).n0/\(ZV ga j).n0<=8/\∀q,q<(ZV ga j).n0->(0<=Zm gu ((ZV ga j).r0 q).f0/\Zm gu ((ZV ga j).r0 q).f0<gu.n0)/\0<=(gu.r0 (Zm gu ((ZV ga j).r0 q).f0).toNat).f3/\(gu.r0 (Zm gu ((ZV ga j).r0 q).f0).toNat).f3<p.n0)(h7:∀j,j<gu.n1->(0<=Zm gu (gu.r1 j).f0/\Zm gu (gu.r1 j).f0<gu.n0)/\0<=(gu.r0 (Zm gu (gu.r1 j).f0).toNat).f3/\(gu.r0 (Zm gu (gu.r1 j).f0).toNat).f3<p.n0):Zh P 78 (.cons (zcPt d gn gr sa p gu ga) .nil) (.bool za (YJ p gu ga)):=by
 refine(show Yh (.bool za za) (room_T d gn gr sa p gu ga YV ZV).valOf=(.bool za (YJ p gu ga))from by kernel_rfl)▸ ?_
 refine X4 (E:=(Zl P [Zfh,Zfd YV ZV] [ZgN d gn gr sa p gu ga (YV ga) (ZV ga)] ze)) (Zw hm hn (l:=[Zfh,Zfd YV ZV]) ⟨Zn8,Zn6,trivial⟩ (ls:=[ZgN d gn gr sa p gu ga (YV ga) (ZV ga)]) ⟨rm1_lp_ok d gn gr sa p gu ga (YV ga) (ZV ga) h5 h6 h3 h4,trivial⟩ ze) (.bool za za) (Has.of hn Tryz.func78 rfl) (room_tree d gn gr sa p gu ga YV ZV) ?_ ?_
 ·refine⟨?_,⟨λhb0=>trivial,λhb0=>⟨?_,⟨?_,⟨λhb1=>trivial,λhb1=>trivial⟩⟩⟩⟩⟩
  all_goals(first|exact rm1_fit d gn gr sa p gu ga (YV ga) (ZV ga)|((repeat'(first|exact rfl|exact WG _|exact λ_=>⟨rfl,rfl⟩|apply zy|intro _));all_goals(try simp only[decide_eq_true_eq,decide_eq_false_iff_not]at*);all_goals(first|exact h1 _|exact(h7 _ ‹_›).1.1|exact(h7 _ ‹_›).1.2|exact(h7 _ ‹_›).2.1|exact(h7 _ ‹_›).2.2|omega|(simp at*;omega))))
 ·refine⟨⟨rfl,?_⟩,⟨⟨rfl,?_⟩,⟨rfl,?_⟩⟩⟩
  all_goals((repeat'(first|exact rfl|exact trivial|apply zy|intro _|(refine cP (p:=λv=>z8 v=Yh _ v) (λhc=>?_) (λhc=>?_))));all_goals(exfalso;simp only[YS,XO,XW,X7,XV,X6,zL,yE]at*;omega))
def U5(r0:Zj->Zf->Zc->Bool):Con:=conS 78 (λx=>(.cons (zcPr (x.hd.Zz 0)) .nil)) (λx=>(.bool za (r0 (Ym (.cons (x.hd.Zz 0).tl.tl.hd .nil)) (ZQ (.cons (x.hd.Zz 0).tl.tl.tl.hd (.cons (x.hd.Zz 0).tl.tl.tl.tl.hd .nil))) (ZG (.cons (x.hd.Zz 0).tl.tl.tl.tl.tl.hd .nil))))) (λx=>(λ(p:Zj)(gu:Zf)(ga:Zc)=>ga.n0<=1000/\(∀j,(ga.r0 j).n1<=1000)/\gu.n1<=1000/\gu.n0<=1000/\gu.n1<=1000/\YV ga<=1000/\(∀j,j<YV ga->0<(ZV ga j).n0/\(ZV ga j).n0<=8/\∀q,q<(ZV ga j).n0->(0<=Zm gu ((ZV ga j).r0 q).f0/\Zm gu ((ZV ga j).r0 q).f0<gu.n0)/\0<=(gu.r0 (Zm gu ((ZV ga j).r0 q).f0).toNat).f3/\(gu.r0 (Zm gu ((ZV ga j).r0 q).f0).toNat).f3<p.n0)/\(∀j,j<gu.n1->(0<=Zm gu (gu.r1 j).f0/\Zm gu (gu.r1 j).f0<gu.n0)/\0<=(gu.r0 (Zm gu (gu.r1 j).f0).toNat).f3/\(gu.r0 (Zm gu (gu.r1 j).f0).toNat).f3<p.n0)) (Ym (.cons (x.hd.Zz 0).tl.tl.hd .nil)) (ZQ (.cons (x.hd.Zz 0).tl.tl.tl.hd (.cons (x.hd.Zz 0).tl.tl.tl.tl.hd .nil))) (ZG (.cons (x.hd.Zz 0).tl.tl.tl.tl.tl.hd .nil)))
abbrev c_room:Con:=U5 YJ
theorem Zkc:c_room.Ok P:=Vm (λx h=>Zrc _ _ _ _ _ _ _ h.1 h.2.1 h.2.2.1 h.2.2.2.1 h.2.2.2.2.1 h.2.2.2.2.2.1 h.2.2.2.2.2.2.1 h.2.2.2.2.2.2.2)
end Go.Proofs.YthhbdbeglmkijaaGreatDoor
namespace Go.Fw
theorem Env.Ok.withNm{E:Env}(hE:E.Ok)(nm:FuncId->Bool):Env.Ok { E with nm:=nm }:=⟨hE.mixed,hE.named,hE.sure,hE.where_,hE.fork,hE.lp,hE.hk⟩
end Go.Fw
namespace Go.Proofs.YthhbdbeglmkijaaGreatDoor
open Go.Fw
variable{a:Za}
theorem WM(h:ZL a=0):VT (Zg a)=ze/\UA (Zg a)=ze/\UC (Zg a)=ze/\Zah (Zg a)=ze/\K5 (Zg a)=ze/\Zai (Zg a)=ze:=by
 unfold ZL at h
 cases h1:VT (Zg a)with
 |false=>rw[h1]at h;cases h
 |true=>
 cases h2:UA (Zg a)with
 |false=>rw[h1,h2]at h;cases h
 |true=>
 cases h3:UC (Zg a)with
 |false=>rw[h1,h2,h3]at h;cases h
 |true=>
 cases h4:Zah (Zg a)with
 |false=>rw[h1,h2,h3,h4]at h;cases h
 |true=>
 cases h5:K5 (Zg a)with
 |false=>rw[h1,h2,h3,h4,h5]at h;cases h
 |true=>
 cases h6:Zai (Zg a)with
 |false=>rw[h1,h2,h3,h4,h5,h6]at h;cases h
 |true=>exact⟨rfl,rfl,rfl,rfl,rfl,rfl⟩
def Xy(d:Ze)(b:Int):Int:=bif d.hh b then d.hg b else 0
def KZ(d:Ze)(b:Int):Int:=bif d.oh b then d.og b else 0
theorem Za4(h:ZL a=0):a.n6=a.n4/\a.n7=a.n3:=by
 obtain⟨h1,h2,h3,_⟩:=WM h
 exact⟨Zl3 h3,(ZiB h2).1⟩
theorem ZkT(h:ZL a=0):∀j,j<a.n3->0<=(a.r3 j).f3/\(a.r3 j).f3<a.n2:=λj hj=>by
 obtain⟨h1,h2,h3,_⟩:=WM h
 exact⟨Zkr (Zdz h1).1 j hj,(ZiB h2).2 j hj⟩
def chgV(k p q s:Int):V:=.agg (.cons (.int ze .i64 k) (.cons (.int ze .i64 0) (.cons (.int ze .i64 0) (.cons (.int ze .i64 0) (.cons (.int ze .i64 0) (.cons (.int za .i64 p) (.cons (.int za .i64 q) (.cons (.int ze .i64 0) (.cons (.int ze .i64 0) (.cons (.int ze .u32 0) (.cons (.int ze .u32 0) (.cons (.int za .u32 s) (.cons .Zo .nil)))))))))))))
def k_do(a:Za)(c:V)(n:Za)(k e:Int)(p:Prop):Con:=conS 41 (λ_=>.cons (.agg (Z7 za a)) (.cons c .nil)) (λ_=>.tup (.cons (.agg (Z7 za n)) (.cons (.int za .i64 k) (.cons (.int za .i64 e) .nil)))) (λ_=>p)
def zS:Za:=Yb VQ
def do_T(ck:Za->Int)(a n:Za)(q f g s k e:Int)(p:Prop):Tree V:=
 let q0:=(zJ (Z7 za a))
 .need (zf q0 zh=zf q0 zh/\small a) (.node (bif ck a != (0:Int)then ze else za) (.leaf (.tup (.cons (.agg VQ) (.cons (.int ze .i64 0) (.cons (.int za .i64 (ck a)) .nil))))) (.need (sR (zf q0 (zf (chgV q f g s) .nil)) (zf q0 (zf (chgV q f g s) .nil))/\p) (.leaf (.tup (.cons (.agg (Z7 za n)) (.cons (.int za .i64 k) (.cons (.int za .i64 e) .nil)))))))
variable{x:Int}
theorem nz0(h:(bif x != (0:Int)then ze else za)=za):x=0:=by
 have h:=nf4 h
 rw[bne]at h
 exact eqT (nT h)
def dO_n(a n:Za):Za:=Yb (do_T ZL a n 0 0 0 0 0 0 True).valOf.inner.hd.inner
def JJ(a:Za)(x y:Int):Int:=bif ZL a != (0:Int)then x else y
def stO(o:Zq):Y3:=⟨o.f1,o.f2,o.f3,o.f4⟩
theorem QS{c x y:Bool}(hy:y=ze)(h:(bif c then x else y)=za):c=ze/\x=za:=by
 cases c
 ·rw[hy]at h;cases h
 ·exact⟨rfl,h⟩
theorem Zgd{step:Nat->(Int->Bool)×(Int->Int)->(Int->Bool)×(Int->Int)}{ids vals:Nat->Int}(hs:∀k z,step k z=((λj=>bif j==ids k then ze else z.1 j),(λj=>bif j==ids k then vals k else z.2 j))){z0:(Int->Bool)×(Int->Int)}(h0:∀x,z0.1 x=za) :
  ∀n,(∀x,(ZJ z0 step n).1 x=ze->∃k,k<n/\ids k=x/\(ZJ z0 step n).2 x=vals k)/\∀k,k<n->(ZJ z0 step n).1 (ids k)=ze:=by
 intro n
 induction n with
 |zero=>exact⟨λx hx=>(by rw[show ZJ z0 step 0=z0 from rfl,h0]at hx;cases hx),λk hk=>absurd hk (yB _)⟩
 |succ n ih=>
  rw[Zep,hs]
  generalize ZJ z0 step n=z at ih⊢
  refine⟨λx hx=>?_,λk hk=>?_⟩
  ·have hx:(bif x==ids n then ze else z.1 x)=ze:=hx
   show ∃k,k<n+1/\ids k=x/\(bif x==ids n then vals n else z.2 x)=vals k
   cases e:(x==ids n)with
   |true=>exact⟨n,by omega,(eqT e).symm,rfl⟩
   |false=>
    rw[e]at hx
    obtain⟨k,h1,h2,h3⟩:=ih.1 x hx
    exact⟨k,by omega,h2,h3⟩
  ·show(bif ids k==ids n then ze else z.1 (ids k))=ze
   cases e:(ids k==ids n)with
   |true=>rfl
   |false=>
    rcases yG (Nat.le_of_lt_succ hk)with h|h
    ·subst h;simp at e
    ·exact ih.2 k h
theorem ow1_id(d:Ze)(k:Nat)(h:Uv d k=za):(d.a.r6 k).f0=(d.a.r4 k).f0:=eqT (QS rfl h).1
theorem Za3(h:ZL a=0):∀j,j<a.n6->(a.r6 j).f0=(a.r4 j).f0:=λj hj=>
 ow1_id (Zg a) j (Y7 (nf4 (fT (fT (WM h).2.2.1).2).1) j hj)
variable{n k:Nat}
theorem rv_step{r:Nat->ZH}(hk:k<=100000)(h:ZgR n r k=za):(r k).f0<(r (k+1)).f0:=by
 have h1:=of_decide_eq_false (nf4 (nf4 (nf4 h)))
 have e1:zk (zD zA ((k:Int)+(1:Int)-(1:Int)))=k:=by
  rw[IntWalk.i64_in _ ⟨by omega,by omega⟩];omega
 have e2:zk ((k:Int)+(1:Int))=k+1:=by omega
 rw[e1,e2]at h1
 omega
theorem Ziq(h:ZL a=0)(hs:a.n4<=1000):∀i j,i<j->j<a.n6->(a.r6 i).f0<(a.r6 j).f0:=by
 have h1:=(WM h).1
 have h2:Wy ⟨a.n3,a.r3,a.n4,a.r4⟩=0:=(Zdz h1).1
 have h3:Zcz a.n4 (λj=>YK (Zt za (a.r4 j)))=ze:=nT (orF (nf4 (zF (by decide) h2).1)).2
 have h4:=Y7 (nf4 (fT h3).1)
 have h64:=(Za4 h).1
 have st:∀k,k+1<a.n4->(a.r4 k).f0<(a.r4 (k+1)).f0:=λk hk=>rv_step (n:=a.n4) (r:=λj=>YK (Zt za (a.r4 j))) (by omega) (h4 k (by omega))
 intro i j hij hj
 rw[Za3 h i (by omega),Za3 h j hj]
 rw[h64]at hj
 induction j with
 |zero=>omega
 |succ j ih=>
  have hs:=st j hj
  rcases yG (Nat.le_of_lt_succ hij)with e|e
  ·rw[e];exact hs
  ·have:=ih e (by omega);omega
variable{i j:Nat}
theorem fine_inj(h:ZL a=0)(hs:a.n4<=1000)(hi:i<a.n6)(hj:j<a.n6)(e:(a.r6 i).f0=(a.r6 j).f0):i=j:=by
 rcases Nat.lt_trichotomy i j with h1|h1|h1
 ·have:=Ziq h hs i j h1 hj;omega
 ·exact h1
 ·have:=Ziq h hs j i h1 hi;omega
theorem Zgb(a:Za):(∀x,(Zg a).oh x=ze->∃k,k<a.n6/\(a.r6 k).f0=x/\(Zg a).og x=((k:Nat):Int))/\∀k,k<a.n6->(Zg a).oh (a.r6 k).f0=ze:=
 Zgd (step:=GQ a) (ids:=λk=>(a.r6 k).f0) (vals:=λk=>((k:Nat):Int)) (λk z=>rfl) (λx=>rfl) a.n6
theorem ZiS(a:Za):(∀x,(Zg a).nh x=ze->∃k,k<a.n12/\(a.r12 k).f0=x/\(Zg a).ng x=(a.r12 k).f1)/\∀k,k<a.n12->(Zg a).nh (a.r12 k).f0=ze:=
 Zgd (step:=Zly a) (ids:=λk=>(a.r12 k).f0) (vals:=λk=>(a.r12 k).f1) (λk z=>rfl) (λx=>rfl) a.n12
theorem stepE{T:Type}{c x y:Bool}{z w:T}(h:(bif c then(bif x then ze else za)else(bif y then ze else za))=za):(bif c then(bif x then z else w)else(bif y then z else w))=w:=by
 cases c<;>cases x<;>cases y<;>first|rfl|cases h
theorem Zac(d:Ze)(k:Nat)(h:J3 d k=za):WR d k<(d.a.r12 k).f1/\WR d (k+1)=(d.a.r12 k).f1/\(bif d.nh (d.a.r12 k).f0 then d.ng (d.a.r12 k).f0 else 0)=(d.a.r12 k).f1/\d.oh (d.a.r12 k).f0=ze/\ZbS (stO (d.a.r6 (KZ d (d.a.r12 k).f0).toNat))=ze:=by
 have c0:=(orF h).1
 have h1:=(orF h).2
 have c1:=(orF h1).1
 have h2:=(orF h1).2
 have c2:=(orF h2).1
 have h3:=(orF h2).2
 have c3:=(orF h3).1
 have h4:=(orF h3).2
 have c4:=(orF h4).1
 have h5:=(orF h4).2
 refine⟨?_,?_,?_,nT (nf4 c2),?_⟩
 ·have h6:¬(d.a.r12 k).f1<=WR d k:=of_decide_eq_false c0
  omega
 ·exact cF c0 (cF c1 (cF c2 (cF c3 (cF c4 (stepE h5)))))
 ·rw[bne]at c1
  exact eqT (nT c1)
 ·refine Eq.trans ?_ (nT c3)
  kernel_rfl
theorem Gv(h:ZL a=0):∀k,k<a.n12->J3 (Zg a) k=za:=Y7 (nf4 (fT (WM h).2.2.2.2.2).1)
theorem Zmm(h:ZL a=0):∀k,k<=a.n12->-1<=WR (Zg a) k/\∀i,i<k->(a.r12 i).f1<=WR (Zg a) k/\0<=(a.r12 i).f1:=by
 intro k
 induction k with
 |zero=>intro _;exact⟨Int.le_refl _,λi hi=>absurd hi (yB _)⟩
 |succ k ih=>
  intro hk
  have ih:=ih (by omega)
  have hp:=Zac (Zg a) k (Gv h k (by omega))
  have e:WR (Zg a) (k+1)=(a.r12 k).f1:=hp.2.1
  have hl:WR (Zg a) k<(a.r12 k).f1:=hp.1
  rw[e]
  refine⟨by omega,λi hi=>?_⟩
  rcases yG (Nat.le_of_lt_succ hi)with e2|e2
  ·subst e2;exact⟨Int.le_refl _,by omega⟩
  ·have:=ih.2 i e2;exact⟨by omega,this.2⟩
theorem put_lt(h:ZL a=0)(hij:i<j)(hj:j<a.n12):(a.r12 i).f1<(a.r12 j).f1:=by
 have h1:=((Zmm h j (by omega)).2 i hij).1
 have h2:WR (Zg a) j<(a.r12 j).f1:=(Zac (Zg a) j (Gv h j hj)).1
 omega
theorem cmpI_lt(a b:Int):decide (XY a b<0)=decide (a<b):=by
 unfold XY
 by_cases h1:a<b
 ·simp[h1]
 ·by_cases h2:a>b<;>simp[h1,h2]
variable{b:Int}
theorem cmpI_eq{a:Int}(h:a=b):(XY a b==0)=ze:=by
 subst h
 unfold XY
 simp
theorem cmpI_ne{a:Int}(h:(XY a b==0)=ze):a=b:=by
 unfold XY at h
 by_cases h1:a<b
 ·simp[h1]at h
 ·by_cases h2:a>b
  ·simp[h1,h2]at h
  ·omega
theorem ZjU{g:Nat->Int}{lt:Nat->Bool}(hl:∀k,k<n->lt k=decide (g k<x))(hr:∀i k,i<k->k<n->g i<g k)(hj:j<n)(e:g j=x):Xp lt n 0 n=j:=by
 obtain⟨_,h2,h3,h4⟩:=ZnI (lt:=lt) (n:=n) n 0 n (by omega) (Nat.zero_le _) (zI _) (λk hk=>absurd hk (yB _)) (λk h1 h2=>absurd h2 (by omega)) (λk l hkl hln hl2=>by
  rw[hl k (by omega)]
  rw[hl l hln]at hl2
  have h5:=of_decide_eq_true hl2
  rcases yG hkl with h6|h6
  ·subst h6;exact hl2
  ·have:=hr k l h6 hln;exact decide_eq_true (by omega))
 generalize Xp lt n 0 n=m at*
 rcases Nat.lt_trichotomy m j with h|h|h
 ·have h5:=h4 m (zI _) (by omega)
  rw[hl m (by omega)]at h5
  have:=of_decide_eq_false h5
  have:=hr m j h hj
  omega
 ·exact h
 ·have h5:=h3 j h
  rw[hl j hj]at h5
  have:=of_decide_eq_true h5
  omega
theorem plV_find{r:Nat->ZH}(hr:∀i k,i<k->k<n->(r i).f0<(r k).f0)(hj:j<n)(e:(r j).f0=x):QA n r x=ze/\WZ n r x=(j:Int):=by
 have h:Jk n r x=j:=ZjU (g:=λk=>(r k).f0) (λk _=>cmpI_lt _ _) hr hj e
 have h2:decide (((j:Nat):Int)<(n:Int))=ze:=decide_eq_true (by omega)
 refine⟨?_,?_⟩
 ·unfold QA;rw[h,h2];exact cmpI_eq e
 ·unfold WZ;rw[h,h2];rfl
def guO(a:Za):Zf:=⟨a.n3,a.r3,a.n4,a.r4⟩
def gaO(a:Za):Zc:=⟨a.n5,a.r5⟩
section
variable{a:Za}(h:ZL a=0)
include h
theorem Zio:Wy (guO a)=0:=(Zdz (WM h).1).1
theorem Zin:YH (gaO a)=0:=(Zdz (WM h).1).2.1
theorem Zis(hs:a.n4<=1000):∀i j,i<j->j<a.n4->(a.r4 i).f0<(a.r4 j).f0:=λi j hij hj=>by
 have h64:=(Za4 h).1
 rw[<- Za3 h i (by omega),<- Za3 h j (by omega)]
 exact Ziq h hs i j hij (by omega)
theorem Zir(hs:a.n3<=1000):∀i j,i<j->j<a.n3->(a.r3 i).f0<(a.r3 j).f0:=by
 have h3:ZaS a.n3 (λj=>XQ (Zv za (a.r3 j)))=ze:=nT (orF (nf4 (zF (by decide) (Zio h)).1)).1
 have h4:=Y7 (nf4 (fT h3).1)
 have st:∀k,k+1<a.n3->(a.r3 k).f0<(a.r3 (k+1)).f0:=λk hk=>by
  have e:ZgM a.n3 (λj=>XQ (Zv za (a.r3 j))) k=(bif (bif (bif decide ((a.r3 (zk (zD .i64 ((k:Int)+(1:Int)-(1:Int))))).f0>=(a.r3 (zk ((k:Int)+(1:Int)))).f0)then ze else za)then ze else za)then ze else za):=by kernel_rfl
  have h5:=h4 k (by omega)
  rw[e]at h5
  have h1:=of_decide_eq_false (nf4 (nf4 (nf4 h5)))
  have e1:zk (zD zA ((k:Int)+(1:Int)-(1:Int)))=k:=by
   rw[IntWalk.i64_in _ ⟨by omega,by omega⟩];omega
  have e2:zk ((k:Int)+(1:Int))=k+1:=by omega
  rw[e1,e2]at h1
  omega
 intro i j hij hj
 induction j with
 |zero=>omega
 |succ j ih=>
  have hs:=st j hj
  rcases yG (Nat.le_of_lt_succ hij)with e|e
  ·rw[e];exact hs
  ·have:=ih e (by omega);omega
theorem fine_dom{j:Nat}(hj:j<a.n4):∃i,i<a.n3/\(a.r3 i).f0=(a.r4 j).f1:=by
 have h2:=Y7 (nf4 (zF (by decide) (zF (by decide) (zF (by decide) (Zio h)).2).2).1) j hj
 have h3:U9 a.n3 (λj=>XQ (Zv za (a.r3 j))) (a.r4 j).f1=ze:=nT (orF (orF (orF (nf4 (nf4 (nf4 h2)))).2).2).2
 have hf:=Zh3 a.n3 (λj=>XQ (Zv za (a.r3 j))) (a.r4 j).f1
 have h4:=hf.2.2 h3
 refine⟨Qi a.n3 a.r3 (a.r4 j).f1,?_,?_⟩
 ·have e:Vn a.n3 (λj=>XQ (Zv za (a.r3 j))) (a.r4 j).f1=(Qi a.n3 a.r3 (a.r4 j).f1:Int):=by
   unfold Vn;cases decide (((Qi a.n3 (λj=>XQ (Zv za (a.r3 j))) (a.r4 j).f1:Nat):Int)<(a.n3:Int))<;>rfl
  omega
 ·have h5:(bif decide (((Qi a.n3 a.r3 (a.r4 j).f1:Nat):Int)<(a.n3:Int))then XY (a.r3 (zk ((Qi a.n3 a.r3 (a.r4 j).f1:Nat):Int))).f0 (a.r4 j).f1==(0:Int)else za)=ze:=h3
  exact cmpI_ne (Y4 h5).2
theorem dVcpu_at(hs:a.n4<=1000){j:Nat}(hj:j<a.n4):ZaT (guO a) (a.r4 j).f0=(a.r4 j).f0/\Ga (guO a) (a.r4 j).f0=(a.r4 j).f1/\Wu (guO a) (a.r4 j).f0=(a.r4 j).f2:=by
 have hp:QA a.n4 (λj=>YK (Zt za (a.r4 j))) (a.r4 j).f0=ze/\WZ a.n4 (λj=>YK (Zt za (a.r4 j))) (a.r4 j).f0=(j:Int):=plV_find (Zis h hs) hj rfl
 have hc:(Wy (ZQ (zf (zl za 4 a.n3 λj=>Zv za (a.r3 j)) (zf (zl za 4 a.n4 λj=>Zt za (a.r4 j)) zh))) != (0:Int))=za:=by
  rw[show Wy (ZQ (zf (zl za 4 a.n3 λj=>Zv za (a.r3 j)) (zf (zl za 4 a.n4 λj=>Zt za (a.r4 j)) zh)))=0 from Zio h];rfl
 have hc2:(bif (bif !QA a.n4 (λj=>YK (Zt za (a.r4 j))) (a.r4 j).f0 then ze else Wy (ZQ (zf (zl za 4 a.n3 λj=>Zv za (a.r3 j)) (zf (zl za 4 a.n4 λj=>Zt za (a.r4 j)) zh))) != (0:Int))then ze else za)=za:=by rw[hp.1,hc];rfl
 have e:∀(g:ZH->Int),(bif (bif (bif !QA a.n4 (λj=>YK (Zt za (a.r4 j))) (a.r4 j).f0 then ze else Wy (ZQ (zf (zl za 4 a.n3 λj=>Zv za (a.r3 j)) (zf (zl za 4 a.n4 λj=>Zt za (a.r4 j)) zh))) != (0:Int))then ze else za)then(0:Int)else g (a.r4 (zk (WZ a.n4 (λj=>YK (Zt za (a.r4 j))) (a.r4 j).f0))))=g (a.r4 j):=λg=>by
  rw[hc2,hp.2];rfl
 exact⟨e ZH.f0,e ZH.f1,e ZH.f2⟩
end
theorem ixDom_eq(y:ZH)(an:Nat)(a:Nat->Z6):VA y an a=bif Zp (JB an a y) an then((ZN (JB an a y) an 0:Nat):Int)else -1:=by
 unfold VA ZiE
 show V.toInt (bif (bif Zp (JB an a y) an then ze else za)then _ else _)=_
 cases Zp (JB an a y) an<;>rfl
theorem ixDom_at{y:ZH}{r:Nat->Z6}(hr:∀i k,i<k->k<n->(r i).f0<(r k).f0)(hi:i<n)(e:(r i).f0=y.f1):VA y n r=(i:Int):=by
 have hb:∀k,JB n r y k=((r k).f0==y.f1):=λk=>by
  show(bif (bif (bif (r k).f0==y.f1 then ze else za)then ze else za)then ze else za)=_
  cases(r k).f0==y.f1<;>rfl
 have hi2:JB n r y i=ze:=by rw[hb,e];simp
 have ha:Zp (JB n r y) n=ze:=by
  cases h:Zp (JB n r y) n
  ·rw[Y7 h i hi]at hi2;cases hi2
  ·rfl
 rw[ixDom_eq,ha]
 have hf:=ZfL ha
 generalize ZN (JB n r y) n 0=m at hf⊢
 have e2:=eqT (hb m▸hf.2.1)
 rcases Nat.lt_trichotomy m i with h|h|h
 ·have:=hr m i h hi;omega
 ·subst h;rfl
 ·have:=hr i m h hf.1;omega
theorem ZlB(a:Za):(∀x,(Xe a a.n3).1 x=ze->∃k,k<a.n3/\(a.r3 k).f0=x/\(Xe a a.n3).2 x=((k:Nat):Int))/\∀k,k<a.n3->(Xe a a.n3).1 (a.r3 k).f0=ze:=
 Zgd (step:=Zdk a) (ids:=λk=>(a.r3 k).f0) (vals:=λk=>((k:Nat):Int)) (λk z=>rfl) (λx=>rfl) a.n3
theorem ZiR(a:Za):(∀x,(Zg a).hh x=ze->∃k,k<a.n4/\(a.r4 k).f0=x/\(Zg a).hg x=bif (Xe a a.n3).1 (a.r4 k).f1 then(Xe a a.n3).2 (a.r4 k).f1 else 0)/\∀k,k<a.n4->(Zg a).hh (a.r4 k).f0=ze:=
 Zgd (step:=Zdm a) (ids:=λk=>(a.r4 k).f0) (vals:=λk=>bif (Xe a a.n3).1 (a.r4 k).f1 then(Xe a a.n3).2 (a.r4 k).f1 else 0) (λk z=>rfl) (λx=>rfl) a.n4
theorem ZiD(h:ZL a=0)(h3:a.n3<=1000)(h4:a.n4<=1000)(hj:j<a.n4):∃i,i<a.n3/\(a.r3 i).f0=(a.r4 j).f1/\Zm (guO a) (a.r4 j).f0=(i:Int)/\Xy (Zg a) (a.r4 j).f0=(i:Int)/\0<=(a.r3 i).f3/\(a.r3 i).f3<a.n2:=by
 obtain⟨i,hi,he⟩:=fine_dom h hj
 have hp:=ZkT h i hi
 refine⟨i,hi,he,?_,?_,hp.1,hp.2⟩
 ·have hv:=dVcpu_at h h4 hj
  show VA (YK (zf (zn za .i64 (ZaT (guO a) (a.r4 j).f0)) (zf (zn za .i64 (Ga (guO a) (a.r4 j).f0)) (zf (zn za .u32 (Wu (guO a) (a.r4 j).f0)) (zf (zn za .u32 (ZcA (guO a) (a.r4 j).f0)) zh))))) a.n3 a.r3=_
  refine ixDom_at (Zir h h3) hi ?_
  show(a.r3 i).f0=Ga (guO a) (a.r4 j).f0
  rw[hv.2.1,he]
 ·unfold Xy
  rw[(ZiR a).2 j hj]
  obtain⟨k,hk,ek,ev⟩:=(ZiR a).1 _ ((ZiR a).2 j hj)
  have hjk:k=j:=by
   rcases Nat.lt_trichotomy k j with q|q|q
   ·have:=Zis h h4 k j q hj;omega
   ·exact q
   ·have:=Zis h h4 j k q hk;omega
  subst hjk
  show(Zg a).hg (a.r4 k).f0=_
  have h1:=(ZlB a).2 i hi
  rw[he]at h1
  obtain⟨l,hl,el,vl⟩:=(ZlB a).1 _ h1
  have hil:l=i:=by
   rcases Nat.lt_trichotomy l i with q|q|q
   ·have:=Zir h h3 l i q hi;omega
   ·exact q
   ·have:=Zir h h3 i l q hl;omega
  rw[ev,h1,vl,hil];rfl
variable{m:Nat}
theorem Zja{D:Type}{F:Nat->D}{r0:Nat->D}{step:Nat->Nat×(Nat->D)->Nat×(Nat->D)}(hs:∀k z,k<m->step k z=(z.1+1,λjj=>bif zq jj z.1 then F k else z.2 jj)):∀n,n<=m->(ZJ (0,r0) step n).1=n/\∀j,j<n->(ZJ (0,r0) step n).2 j=F j:=by
 intro n
 induction n with
 |zero=>intro _;exact⟨rfl,λj hj=>absurd hj (yB _)⟩
 |succ n ih=>
  intro hn
  have ih:=ih (by omega)
  rw[Zep,hs _ _ (by omega)]
  generalize ZJ (0,r0) step n=z at ih⊢
  refine⟨by show z.1+1=n+1;rw[ih.1],λj hj=>?_⟩
  show(bif zq j z.1 then F n else z.2 j)=F j
  rw[ih.1]
  rcases yG (Nat.le_of_lt_succ hj)with e|e
  ·subst e;rw[Nat.beq_refl];rfl
  ·have hb:zq j n=za:=by
    cases hb:zq j n
    ·rfl
    ·have:=Nat.eq_of_beq_eq_true hb;omega
   rw[hb];exact ih.2 j e
def takeN(n:Nat)(a:Nat->ZE)(j:Nat):ZE:=bif zG j n then a j else⟨0⟩
theorem may0_take(LN:Int->Nat)(LI:Int->Nat->DT3)(a:Nat->ZE):Zge LN LI a=Zge LN LI (takeN 0 a):=by kernel_rfl
theorem may1_take(LN:Int->Nat)(LI:Int->Nat->DT3)(GM:Zb->Bool)(a:Nat->ZE):Zgf LN LI GM a=Zgf LN LI GM (takeN 1 a):=by kernel_rfl
theorem may2_take(LN:Int->Nat)(LI:Int->Nat->DT3)(GM:Zb->Zb->Bool)(a:Nat->ZE):Zgg LN LI GM a=Zgg LN LI GM (takeN 2 a):=by kernel_rfl
theorem may3_take(LN:Int->Nat)(LI:Int->Nat->DT3)(GM:Zb->Zb->Zb->Bool)(a:Nat->ZE):Zgh LN LI GM a=Zgh LN LI GM (takeN 3 a):=by kernel_rfl
theorem may4_take(LN:Int->Nat)(LI:Int->Nat->DT3)(GM:Zb->Zb->Zb->Zb->Bool)(a:Nat->ZE):Zgi LN LI GM a=Zgi LN LI GM (takeN 4 a):=by kernel_rfl
theorem may5_take(LN:Int->Nat)(LI:Int->Nat->DT3)(GM:Zb->Zb->Zb->Zb->Zb->Bool)(a:Nat->ZE):Zgj LN LI GM a=Zgj LN LI GM (takeN 5 a):=by kernel_rfl
theorem may6_take(LN:Int->Nat)(LI:Int->Nat->DT3)(GM:Zb->Zb->Zb->Zb->Zb->Zb->Bool)(a:Nat->ZE):Zgk LN LI GM a=Zgk LN LI GM (takeN 6 a):=by kernel_rfl
theorem may7_take(LN:Int->Nat)(LI:Int->Nat->DT3)(GM:Zb->Zb->Zb->Zb->Zb->Zb->Zb->Bool)(a:Nat->ZE):Zgl LN LI GM a=Zgl LN LI GM (takeN 7 a):=by kernel_rfl
theorem may8_take(LN:Int->Nat)(LI:Int->Nat->DT3)(GM:Zb->Zb->Zb->Zb->Zb->Zb->Zb->Zb->Bool)(a:Nat->ZE):Zgm LN LI GM a=Zgm LN LI GM (takeN 8 a):=by kernel_rfl
theorem Zk4(n:Nat)(a:Nat->ZE):W9 n a=W9 n (takeN n a):=by
 match n with
 |0=>exact(may0_take (λs=>Xf s.toNat) (λs=>Xb s.toNat) a:may0 a=may0 (takeN 0 a))
 |1=>exact(may1_take (λs=>Xf s.toNat) (λs=>Xb s.toNat) (λe0=>Xa 1 (row1 e0)) a:may1 a=may1 (takeN 1 a))
 |2=>exact(may2_take (λs=>Xf s.toNat) (λs=>Xb s.toNat) (λe0 e1=>Xa 2 (Jy e0 e1)) a:may2 a=may2 (takeN 2 a))
 |3=>exact(may3_take (λs=>Xf s.toNat) (λs=>Xb s.toNat) (λe0 e1 e2=>Xa 3 (row3 e0 e1 e2)) a:may3 a=may3 (takeN 3 a))
 |4=>exact(may4_take (λs=>Xf s.toNat) (λs=>Xb s.toNat) (λe0 e1 e2 e3=>Xa 4 (row4 e0 e1 e2 e3)) a:may4 a=may4 (takeN 4 a))
 |5=>exact(may5_take (λs=>Xf s.toNat) (λs=>Xb s.toNat) (λe0 e1 e2 e3 e4=>Xa 5 (row5 e0 e1 e2 e3 e4)) a:may5 a=may5 (takeN 5 a))
 |6=>exact(may6_take (λs=>Xf s.toNat) (λs=>Xb s.toNat) (λe0 e1 e2 e3 e4 e5=>Xa 6 (row6 e0 e1 e2 e3 e4 e5)) a:may6 a=may6 (takeN 6 a))
 |7=>exact(may7_take (λs=>Xf s.toNat) (λs=>Xb s.toNat) (λe0 e1 e2 e3 e4 e5 e6=>Xa 7 (row7 e0 e1 e2 e3 e4 e5 e6)) a:may7 a=may7 (takeN 7 a))
 |8=>exact(may8_take (λs=>Xf s.toNat) (λs=>Xb s.toNat) (λe0 e1 e2 e3 e4 e5 e6 e7=>Xa 8 (row8 e0 e1 e2 e3 e4 e5 e6 e7)) a:may8 a=may8 (takeN 8 a))
 |_+9=>rfl
theorem Zix{a b:Nat->ZE}(h:∀j,j<n->a j=b j):W9 n a=W9 n b:=by
 rw[Zk4 n a,Zk4 n b]
 congr 1
 funext j
 unfold takeN
 cases hj:zG j n
 ·rfl
 ·exact h j (by simpa[Nat.blt_eq]using hj)
def Qd(x y:Int):Int:=zD .u32 ((BitVec.toNat (BitVec.ofInt (zY .u32) x&&& BitVec.ofInt (zY .u32) y):Nat):Int)
theorem chMay_eq(p:Zj)(gu:Zf)(b:Int):YF p gu b=Qd (Wu gu b) (p.r0 (zk (gu.r0 (zk (Zm gu b))).f3)).f0:=by kernel_rfl
def mayV(p:Zj)(a:Za)(j:Nat):Int:=YF p (guO a) (a.r4 j).f0
section
variable{a:Za}(h:ZL a=0)(h3:a.n3<=1000)(h4:a.n4<=1000)
include h h3 h4
theorem Zbn(p:Zj){j:Nat}(hj:j<a.n4):Qd (Wu (guO a) (a.r4 j).f0) (p.r0 (zk (a.r3 (zk (Xy (Zg a) (a.r4 j).f0))).f3)).f0=mayV p a j:=by
 obtain⟨i,hi,he,e1,e2,_⟩:=ZiD h h3 h4 hj
 unfold mayV
 rw[chMay_eq,e1,e2];rfl
omit h3 h4 in
theorem Zbv{b:Int}(hb:(Zg a).oh b=ze):∃j,j<a.n4/\(a.r4 j).f0=b:=by
 obtain⟨k,hk,e,_⟩:=(Zgb a).1 b hb
 exact⟨k,by rw[<- (Za4 h).1];exact hk,by rw[<- Za3 h k hk,e]⟩
end
theorem ZkQ(h:ZL a=0):∀k,k<a.n5->Ug (Zg a) k=za:=Y7 (nf4 (fT (WM h).2.2.2.1).1)
def ga1_bad'(d:Ze)(k:Nat):Bool:=bif (bif Zp (Vu d (d.a.r5 k).n1 (d.a.r5 k).r1) (d.a.r5 k).n1 then ze else za)then ze else(bif (bif !W9 (Wv d (d.a.r5 k).n1 (d.a.r5 k).r1 (d.a.r5 k).n1).1 (λj=>(Wv d (d.a.r5 k).n1 (d.a.r5 k).r1 (d.a.r5 k).n1).2 (0+j))then ze else za)then ze else za)
theorem ga1_eq(d:Ze)(k:Nat):Ug d k=ga1_bad' d k:=by kernel_rfl
variable{d:Ze}
theorem Zk9(h:Ug d k=za):(∀q,q<(d.a.r5 k).n1->Vu d (d.a.r5 k).n1 (d.a.r5 k).r1 q=za)/\W9 (Wv d (d.a.r5 k).n1 (d.a.r5 k).r1 (d.a.r5 k).n1).1 (λj=>(Wv d (d.a.r5 k).n1 (d.a.r5 k).r1 (d.a.r5 k).n1).2 (0+j))=ze:=by
 rw[ga1_eq]at h
 have h1:=orF h
 exact⟨Y7 (nf4 h1.1),nT (nf4 (nf4 h1.2))⟩
variable{r:Nat->DT3}
theorem ga2_parts(h:Vu d m r k=za):d.oh (r k).f0=ze/\Xy d (r k).f0=Xy d (r 0).f0:=by
 have h1:=orF h
 have h2:((bif d.hh (r (zk (k:Int))).f0 then d.hg (r (zk (k:Int))).f0 else(0:Int)) != bif d.hh (r (zk (0:Int))).f0 then d.hg (r (zk (0:Int))).f0 else(0:Int))=za:=nf4 (nf4 h1.2)
 rw[bne]at h2
 exact⟨nT (nf4 h1.1),eqT (nT h2)⟩
theorem ga2_none(h1:d.oh (r k).f0=ze)(h2:Xy d (r k).f0=Xy d (r 0).f0):Vu d m r k=za:=by
 have e1:(bif !d.oh (r (zk (k:Int))).f0 then ze else za)=za:=by
  show(bif !d.oh (r k).f0 then ze else za)=za
  rw[h1];rfl
 have e2:((bif d.hh (r (zk (k:Int))).f0 then d.hg (r (zk (k:Int))).f0 else(0:Int)) != bif d.hh (r (zk (0:Int))).f0 then d.hg (r (zk (0:Int))).f0 else(0:Int))=za:=by
  show(Xy d (r k).f0 != Xy d (r 0).f0)=za
  rw[h2];simp
 show(bif (bif !d.oh (r (zk (k:Int))).f0 then ze else za)then ze else(bif (bif ((bif d.hh (r (zk (k:Int))).f0 then d.hg (r (zk (k:Int))).f0 else(0:Int)) != bif d.hh (r (zk (0:Int))).f0 then d.hg (r (zk (0:Int))).f0 else(0:Int))then ze else za)then ze else za))=za
 rw[e1,e2];rfl
theorem Zk6(h:∀q,q<m->Vu d m r q=za):(Wv d m r m).1=m/\∀j,j<m->(Wv d m r m).2 j=⟨Qd (Wu (guO d.a) (r j).f0) (d.a.r2 (zk (d.a.r3 (zk (Xy d (r j).f0))).f3)).f0⟩:=by
 refine Zja (F:=λj=>⟨Qd (Wu (guO d.a) (r j).f0) (d.a.r2 (zk (d.a.r3 (zk (Xy d (r j).f0))).f3)).f0⟩) (step:=Za7 d m r) (m:=m) (λk z hk=>?_) m (zI _)
 have hp:=orF (h k hk)
 have c1:=hp.1
 have c2:=nf4 hp.2
 refine cF c1 (cF c2 ?_)
 refine Prod.ext rfl (funext λjj=>?_)
 show X0 (bif zq jj (z.1+0)then _ else _)=bif zq jj z.1 then _ else _
 rw[Nat.add_zero]
 cases zq jj z.1<;>rfl
theorem Lgrs_at(a:Zc):(Ja a a.n0).1=a.n0/\∀j,j<a.n0->(Ja a a.n0).2 j=⟨(a.r0 j).n1,(a.r0 j).r1⟩:=by
 refine Zja (F:=λj=>⟨(a.r0 j).n1,(a.r0 j).r1⟩) (step:=Zhl a) (m:=a.n0) (λk z hk=>?_) a.n0 (zI _)
 refine Prod.ext rfl (funext λjj=>?_)
 show Ui (bif zq jj (z.1+0)then _ else _)=bif zq jj z.1 then _ else _
 rw[Nat.add_zero]
 cases zq jj z.1<;>rfl
theorem Ziy{a:Zc}(h:YH a=0):YV a=a.n0/\∀j,j<a.n0->ZV a j=⟨(a.r0 j).n1,(a.r0 j).r1⟩:=by
 have hc:(bif YH (ZG (zf (zl za 2 a.n0 λj=>Zu za (a.r0 j)) zh)) != (0:Int)then ze else za)=za:=by
  rw[show YH (ZG (zf (zl za 2 a.n0 λj=>Zu za (a.r0 j)) zh))=0 from h];rfl
 have hv:(Zc0 a).valOf=zl za 1 (Ja a a.n0).1 λj=>zf (zl za 1 (Zb.n0 ((Ja a a.n0).2 ((0:Nat)+j))) λj_1=>zf (zn za .i64 (((Ja a a.n0).2 ((0:Nat)+j)).r0 j_1).f0) zh) zh:=by
  unfold Zc0
  simp only[Tree.valOf]
  exact cF hc rfl
 have hl:=Lgrs_at a
 refine⟨?_,λj hj=>?_⟩
 ·unfold YV;rw[hv];exact hl.1
 ·unfold ZV;rw[hv]
  show(⟨((Ja a a.n0).2 (0+j)).n0,λk=>((Ja a a.n0).2 (0+j)).r0 k⟩:Zb)=_
  rw[zX,hl.2 j hj]
abbrev rmB(p:Zj)(gu:Zf)(ga:Zc)(k:Nat):Bool:=Zje (Yb .nil) 0 (λ_=>Zx .nil) 0 p gu ga (YV ga) (ZV ga) k
theorem room_eq(p:Zj)(gu:Zf)(ga:Zc):YJ p gu ga=(!decide (VB p gu gu.n1 gu.r1>=0)&&!Zp (rmB p gu ga) (YV ga)):=by
 have e:YJ p gu ga=V.toBool (bif (bif decide (VB p gu gu.n1 gu.r1>=(0:Int))then ze else za)then zC ze za else bif (bif Zp (rmB p gu ga) (YV ga)then ze else za)then zC ze za else zC ze ze):=by kernel_rfl
 rw[e]
 cases decide (VB p gu gu.n1 gu.r1>=0)<;>cases Zp (rmB p gu ga) (YV ga)<;>rfl
theorem ixMay_eq(p:Zj)(gu:Zf)(n:Nat)(r:Nat->ZH):VB p gu n r=bif Zp (λk=>YF p gu (r k).f0==0) n then((ZN (λk=>YF p gu (r k).f0==0) n 0:Nat):Int)else -1:=by
 have hb:Zei n r (Yb .nil) 0 (λ_=>Zx .nil) 0 p gu (ZG .nil)=λk=>YF p gu (r k).f0==0:=by
  funext k
  show(bif (bif (bif YF p gu (r k).f0==(0:Int)then ze else za)then ze else za)then ze else za)=_
  cases YF p gu (r k).f0==(0:Int)<;>rfl
 unfold VB Zf3
 rw[hb]
 show V.toInt (bif (bif Zp (λk=>YF p gu (r k).f0==0) n then ze else za)then _ else _)=_
 cases Zp (λk=>YF p gu (r k).f0==0) n<;>rfl
theorem rm2_masks(d:Za)(gn:Nat)(gr:Nat->DT3)(sa:Int)(p:Zj)(gu:Zf)(ga:Zc)(rn:Nat)(rr:Nat->Zb)(w:Int)(m:Nat)(r:Nat->DT3):(Q8 d gn gr sa p gu ga rn rr w m r m).1=m/\∀j,j<m->(Q8 d gn gr sa p gu ga rn rr w m r m).2 j=⟨YF p gu (r j).f0⟩:=by
 refine Zja (F:=λj=>⟨YF p gu (r j).f0⟩) (step:=Zad d gn gr sa p gu ga rn rr w m r) (m:=m) (λk z hk=>?_) m (zI _)
 refine Prod.ext rfl (funext λjj=>?_)
 show X0 (bif zq jj (z.1+0)then _ else _)=bif zq jj z.1 then _ else _
 rw[Nat.add_zero]
 cases zq jj z.1<;>rfl
theorem rmB_eq{p:Zj}{gu:Zf}{ga:Zc}(h:YH ga=0)(hk:k<ga.n0):rmB p gu ga k= !W9 (ga.r0 k).n1 (λq=>⟨YF p gu ((ga.r0 k).r1 q).f0⟩):=by
 have hr:=(Ziy h).2 k hk
 have e:rmB p gu ga k=bif (bif (bif !W9 (Q8 (Yb .nil) 0 (λ_=>Zx .nil) 0 p gu ga (YV ga) (ZV ga) (k:Int) (ZV ga k).n0 (ZV ga k).r0 (ZV ga k).n0).1 (λj=>(Q8 (Yb .nil) 0 (λ_=>Zx .nil) 0 p gu ga (YV ga) (ZV ga) (k:Int) (ZV ga k).n0 (ZV ga k).r0 (ZV ga k).n0).2 (0+j))then ze else za)then ze else za)then ze else za:=by kernel_rfl
 rw[e,hr]
 have hm:=rm2_masks (Yb .nil) 0 (λ_=>Zx .nil) 0 p gu ga (YV ga) (ZV ga) (k:Int) (ga.r0 k).n1 (ga.r0 k).r1
 dsimp only
 rw[hm.1,Zix (b:=λq=>⟨YF p gu ((ga.r0 k).r1 q).f0⟩) (λj hj=>by rw[zX];exact hm.2 j hj)]
 cases W9 (ga.r0 k).n1 (λq=>⟨YF p gu ((ga.r0 k).r1 q).f0⟩)<;>rfl
theorem Qv{f:Nat->Bool}(h:∀k,k<n->f k=za):Zp f n=za:=Zar h
theorem ZdK{p:Zj}{gu:Zf}{ga:Zc}(h:YH ga=0):YJ p gu ga=ze↔(∀j,j<gu.n1->YF p gu (gu.r1 j).f0≠0)/\∀k,k<ga.n0->W9 (ga.r0 k).n1 (λq=>⟨YF p gu ((ga.r0 k).r1 q).f0⟩)=ze:=by
 rw[room_eq,ixMay_eq,(Ziy h).1]
 constructor
 ·intro hr
  simp only[zL,yg]at hr
  refine⟨λj hj e=>?_,λk hk=>?_⟩
  ·have ha:Zp (λk=>YF p gu (gu.r1 k).f0==0) gu.n1=ze:=by
    cases hq:Zp (λk=>YF p gu (gu.r1 k).f0==0) gu.n1
    ·have:=Y7 hq j hj
     rw[e]at this;simp at this
    ·rfl
   rw[ha]at hr
   have:=of_decide_eq_false hr.1
   simp only[cond_true]at this
   omega
  ·have:=Y7 hr.2 k hk
   rw[rmB_eq h hk]at this
   exact nT (by rw[this])
 ·intro⟨h1,h2⟩
  have e1:Zp (λk=>YF p gu (gu.r1 k).f0==0) gu.n1=za:=Qv λk hk=>by
   have:=h1 k hk
   simp[this]
  have e2:Zp (rmB p gu ga) ga.n0=za:=Qv λk hk=>by rw[rmB_eq h hk,h2 k hk];rfl
  rw[e1,e2];rfl
theorem ix3_eq(n:Nat)(a:Nat->DT3)(b:Int):Zbg n a b=bif Zp (λk=>b==(a k).f0) n then((ZN (λk=>b==(a k).f0) n 0:Nat):Int)else -1:=by
 have hb:Zeb n a b=λk=>b==(a k).f0:=by
  funext k
  show(bif (bif (bif b==(a k).f0 then ze else za)then ze else za)then ze else za)=_
  cases b==(a k).f0<;>rfl
 unfold Zbg ix3_T
 rw[hb]
 show V.toInt (bif (bif Zp (λk=>b==(a k).f0) n then ze else za)then _ else _)=_
 cases Zp (λk=>b==(a k).f0) n<;>rfl
theorem Zfp{a:Nat->DT3}:YU n a b=ze↔∃k,k<n/\(a k).f0=b:=by
 have e:YU n a b=decide (Zbg n a b>=0):=by kernel_rfl
 rw[e,ix3_eq]
 constructor
 ·intro h
  cases hq:Zp (λk=>b==(a k).f0) n with
  |true=>
   obtain⟨k,hk,hf⟩:=Zck hq
   exact⟨k,hk,(eqT hf).symm⟩
  |false=>
   rw[hq]at h
   have:=of_decide_eq_true h
   simp only[cond_false]at this
   omega
 ·intro⟨k,hk,hf⟩
  have hq:Zp (λk=>b==(a k).f0) n=ze:=by
   cases hq:Zp (λk=>b==(a k).f0) n
   ·have:=Y7 hq k hk
    rw[hf]at this;simp at this
   ·rfl
  rw[hq]
  exact decide_eq_true (by simp only[cond_true];omega)
theorem ct3_no{a:Nat->DT3}(h:∀k,k<n->(a k).f0≠b):YU n a b=za:=by
 cases e:YU n a b
 ·rfl
 ·obtain⟨k,hk,hf⟩:=Zfp.1 e
  exact absurd hf (h k hk)
theorem Zla(n:Nat)(r:Nat->DT3)(h g:Int->Bool)(x:Int)(hx:h x=ze/\g x=ze):∀m,(XG n r h g m).1 x=ze/\(XG n r h g m).2 x=ze:=by
 intro m
 induction m with
 |zero=>exact hx
 |succ m ih=>
  show(Uh n r h g m (XG n r h g m)).1 x=ze/\(Uh n r h g m (XG n r h g m)).2 x=ze
  generalize XG n r h g m=z at ih
  unfold Uh
  dsimp only
  cases(bif bif bif z.1 (r (zk (m:Int))).f0 then z.2 (r (zk (m:Int))).f0 else za then ze else za then ze else za)
  ·show(bif x==(r (zk (m:Int))).f0 then ze else z.1 x)=ze/\(bif x==(r (zk (m:Int))).f0 then ze else z.2 x)=ze
   rw[ih.1,ih.2]
   cases x==(r (zk (m:Int))).f0<;>exact⟨rfl,rfl⟩
  ·exact ih
theorem gc2_has(n:Nat)(r:Nat->DT3)(h g:Int->Bool):∀m,(∀q,q<m->KP n r h g q=za)->∀q,q<m->(XG n r h g m).1 (r q).f0=ze/\(XG n r h g m).2 (r q).f0=ze:=by
 intro m
 induction m with
 |zero=>intro _ q hq;exact absurd hq (yB _)
 |succ m ih=>
  intro hb q hq
  have ih:=ih (λq hq=>hb q (by omega))
  have hbm:=hb m (by omega)
  show(Uh n r h g m (XG n r h g m)).1 (r q).f0=ze/\(Uh n r h g m (XG n r h g m)).2 (r q).f0=ze
  unfold KP at hbm
  generalize XG n r h g m=z at ih hbm
  have hc:=nf4 hbm
  have hs:Uh n r h g m z=((λj_=>bif j_==(r m).f0 then ze else z.1 j_),(λj_=>bif j_==(r m).f0 then ze else z.2 j_)):=cF hc rfl
  rw[hs]
  show(bif (r q).f0==(r m).f0 then ze else z.1 (r q).f0)=ze/\(bif (r q).f0==(r m).f0 then ze else z.2 (r q).f0)=ze
  rcases yG (Nat.le_of_lt_succ hq)with e|e
  ·subst e;simp
  ·have:=ih q e
   rw[this.1,this.2]
   cases(r q).f0==(r m).f0<;>exact⟨rfl,rfl⟩
section
variable{a:Zc}(h:YH a=0)
include h
theorem gc1_no:∀k,k<a.n0->Gz a k=za:=Y7 (nf4 (zF (by decide) h).1)
theorem Za8{k:Nat}(hk:k<a.n0):(YW a k).1<(a.r0 k).f0/\(a.r0 k).f0<=8/\QX (a.r0 k).n1 (a.r0 k).r1=ze/\(∀q,q<(a.r0 k).n1->KP (a.r0 k).n1 (a.r0 k).r1 (YW a k).2.1 (YW a k).2.2 q=za)/\YW a (k+1)=((a.r0 k).f0,(XG (a.r0 k).n1 (a.r0 k).r1 (YW a k).2.1 (YW a k).2.2 (a.r0 k).n1).1,(XG (a.r0 k).n1 (a.r0 k).r1 (YW a k).2.1 (YW a k).2.2 (a.r0 k).n1).2):=by
 have hb:=orF (gc1_no h k hk)
 have c1:=hb.1
 have c2:=(orF hb.2).1
 have d1:=orF (nf4 c1)
 have d2:=orF d1.2
 have e1:=of_decide_eq_false d1.1
 have e2:=of_decide_eq_false d2.1
 have e1':¬(a.r0 k).f0<=(YW a k).1:=e1
 have e2':¬(a.r0 k).f0>8:=e2
 refine⟨by omega,by omega,nT d2.2,Y7 (nf4 c2),?_⟩
 exact cF c1 (cF c2 rfl)
theorem Zk8:∀k,k<=a.n0->0<=(YW a k).1/\∀i,i<k->(a.r0 i).f0<=(YW a k).1:=by
 intro k
 induction k with
 |zero=>intro _;exact⟨Int.le_refl _,λi hi=>absurd hi (yB _)⟩
 |succ k ih=>
  intro hk
  have ih:=ih (by omega)
  have ha:=Za8 h (k:=k) (by omega)
  rw[ha.2.2.2.2]
  refine⟨by show 0<=(a.r0 k).f0;omega,λi hi=>?_⟩
  show(a.r0 i).f0<=(a.r0 k).f0
  rcases yG (Nat.le_of_lt_succ hi)with e|e
  ·subst e;exact Int.le_refl _
  ·have:=ih.2 i e;omega
theorem Zc3:∀i j,i<j->j<a.n0->(a.r0 i).f0<(a.r0 j).f0:=λi j hij hj=>by
 have h1:=(Zk8 h j (by omega)).2 i hij
 have h2:=(Za8 h hj).1
 omega
variable{i:Nat}
theorem Vv(hi:i<a.n0):1<=(a.r0 i).f0/\(a.r0 i).f0<=8:=by
 have h1:=(Zk8 h i (by omega)).1
 have h2:=Za8 h hi
 exact⟨by omega,h2.2.1⟩
theorem gang_size(hi:i<a.n0):0<(a.r0 i).n1/\(a.r0 i).n1<=8:=Zk5 (Za8 h hi).2.2.1
theorem gang_met:∀k,k<=a.n0->∀i,i<k->∀q,q<(a.r0 i).n1->(YW a k).2.1 ((a.r0 i).r1 q).f0=ze/\(YW a k).2.2 ((a.r0 i).r1 q).f0=ze:=by
 intro k
 induction k with
 |zero=>intro _ i hi;exact absurd hi (yB _)
 |succ k ih=>
  intro hk i hi q hq
  have ha:=Za8 h (k:=k) (by omega)
  rw[ha.2.2.2.2]
  rcases yG (Nat.le_of_lt_succ hi)with e|e
  ·subst e
   exact gc2_has _ _ _ _ _ ha.2.2.2.1 q hq
  ·exact Zla _ _ _ _ _ (ih (by omega) i e q hq) _
theorem Zk7{j q s:Nat}(hij:i<j)(hj:j<a.n0)(hq:q<(a.r0 i).n1)(hs:s<(a.r0 j).n1):((a.r0 i).r1 q).f0≠((a.r0 j).r1 s).f0:=by
 intro e
 have hm:=gang_met h j (by omega) i hij q hq
 have ha:=(Za8 h hj).2.2.2.1 s hs
 have hc:=nf4 (nf4 (nf4 ha))
 have h2:=Zla (a.r0 j).n1 (a.r0 j).r1 (YW a j).2.1 (YW a j).2.2 _ hm s
 rw[e]at h2
 have hc2:(bif (XG (a.r0 j).n1 (a.r0 j).r1 (YW a j).2.1 (YW a j).2.2 s).1 ((a.r0 j).r1 s).f0 then(XG (a.r0 j).n1 (a.r0 j).r1 (YW a j).2.1 (YW a j).2.2 s).2 ((a.r0 j).r1 s).f0 else za)=za:=hc
 rw[h2.1,h2.2]at hc2
 cases hc2
end
section
variable{a:Zc}(h:YH a=0)
include h
end
def WA(x c:Int):Bool:=bif (bif decide (c<(0:Int))then ze else decide (c>=(8:Int)))then Qd x 0 != 0 else Qd x (zD .u32 ((1:Int)*(2:Int)^min (zk c) (zY .u32))) != 0
section
variable(d:Za)(p:Zj)(gu:Zf)(ga:Zc)(no:Nat)(orr:Nat->Zq)(np:Nat)(pr:Nat->ZA)(sa la:Int)
end
abbrev OfZ:=Int×(Nat->Zq)×Nat×(Nat->ZA)
def Jt:Int:=4611686018427387904
def ofX(no:Nat)(z:OfZ)(k:Nat):Int:=XJ no (λj=>z.2.1 j) (0+k) z.2.2.1 (λj=>z.2.2.2 (0+j))
def ofCells(o:Zq):V:=.cons (.int za .i64 o.f0) (.cons (.int za .i64 o.f1) (.cons (.int za .i64 o.f2) (.cons (.int za .u32 o.f3) (.cons (.int za .i64 o.f4) (.cons (.int za .u64 o.f5) (.cons (.int za .u64 o.f6) (.cons (.int za .u64 o.f7) (.cons (.int za .u64 o.f8) (.cons (.int ze .i64 0) (.cons (.int za .i64 o.f10) .nil))))))))))
def Kr(z:OfZ)(k:Nat):Nat->Zq:=λj=>Xx (bif zq j (0+k)then V.splice (bif zq (0+k) (0+k)then ofCells (z.2.1 (0+k))else Zy za (z.2.1 (0+k))) 8 (zf (zn za .u64 (zD .u64 (z.1+1))) zh)else bif zq j (0+k)then ofCells (z.2.1 (0+k))else Zy za (z.2.1 j))
def Zbr(no:Nat)(z:OfZ)(k:Nat):Nat:=zk (ofX no z k)+(z.2.2.1-zk (zD .i64 (ofX no z k+1)))
def KY(no:Nat)(z:OfZ)(k:Nat):Nat->ZA:=λj=>Wo (bif zK (0+zk ((Zbr no z k:Nat):Int)) j&&zG j (0+zk ((Zbr no z k:Nat):Int)+(zk ((z.2.2.1:Nat):Int)-zk ((Zbr no z k:Nat):Int)))then zf (zn ze .i64 (0:Int)) (zf (zn ze .i64 (0:Int)) zh)else bif zK (0+zk (ofX no z k)) j&&zG j (0+zk (ofX no z k)+(z.2.2.1-zk (zD .i64 (ofX no z k+1))))then bif zG (0+zk (zD .i64 (ofX no z k+1))+(j-(0+zk (ofX no z k)))) z.2.2.1 then ZB za (z.2.2.2 (0+zk (zD .i64 (ofX no z k+1))+(j-(0+zk (ofX no z k)))))else zf V.junk (zf V.junk zh)else ZB za (z.2.2.2 j))
section
variable(d:Za)(p:Zj)(gu:Zf)(ga:Zc)(no:Nat)(orr:Nat->Zq)(np:Nat)(pr:Nat->ZA)(sa la:Int)(gn:Nat)(gr:Nat->DT3)
end
theorem hasT{c:Int}(h:WA x c=ze)(hb:(bif bif decide (c<(0:Int))then ze else decide (c>=(8:Int))then ze else za)=ze):(Qd x 0 != 0)=ze:=by
 unfold WA at h
 cases hq:(bif decide (c<(0:Int))then ze else decide (c>=(8:Int)))
 ·rw[hq]at hb;cases hb
 ·rw[hq]at h;exact h
theorem hasF{c:Int}(h:WA x c=ze)(hb:(bif bif decide (c<(0:Int))then ze else decide (c>=(8:Int))then ze else za)=za):(Qd x (zD .u32 ((1:Int)*(2:Int)^min (zk c) (zY .u32))) != 0)=ze:=by
 unfold WA at h
 cases hq:(bif decide (c<(0:Int))then ze else decide (c>=(8:Int)))
 ·rw[hq]at h;exact h
 ·rw[hq]at hb;cases hb
end Go.Proofs.YthhbdbeglmkijaaGreatDoor
end
