/- BdoP -/
import Derived.Test.YthhbdbeglmkijaaGreatDoorMAg
import Derived.Test.YthhbdbeglmkijaaGreatDoorMAp
import Derived.Test.YthhbdbeglmkijaaGreatDoorMAq
import Derived.Test.YthhbdbeglmkijaaGreatDoorMAj
import Derived.Test.YthhbdbeglmkijaaGreatDoorMAk
import Derived.Test.YthhbdbeglmkijaaGreatDoorMAf
import Derived.Carry
import Derived.OpenShut
import Derived.ProofKit
import Derived.Test.YthhbdbeglmkijaaGreatDoorMAh
set_option maxRecDepth 100000
set_option linter.unusedVariables false
set_option linter.unusedSimpArgs false
noncomputable section
open Go.Fw.V renaming cons→zf,rsl→zl,nil→zh,int→zn,agg→zJ,soft→z8,bool→zC
open Bool renaming false→za,true→ze,and_eq_true→zL,and_eq_false_iff→yE,not_eq_true'→yg,not_eq_false'→yw
open Prod renaming snd→zx,fst→zR
open Go.Fw.Tree renaming need→zu,node→zB,leaf→zw
open Int renaming toNat→zk
open Nat renaming zero_add→zX,not_lt_zero→yB,beq→zq,eq_of_beq_eq_true→zO
open And renaming intro→zy
open Go.IntKind renaming i64→zA,wrap→zD
open Option renaming none→zm,some→zi
namespace Go.Proofs.YthhbdbeglmkijaaGreatDoor
open Go.Fw
def ZaV(f:Int)(a:Za)(Gp:Zc->Int->Zc)(Gq:Zc->Int->Int)(Rm:Zj->Zf->Zc->Bool)(Bb:Zj->Zf->Zc->Nat->(Nat->Zq)->Nat->(Nat->ZA)->Int->Nat->(Nat->DT3)->Bool)(Bz:Zj->Zf->Zc->Nat->(Nat->Zq)->Nat->(Nat->ZA)->Int->Nat->(Nat->DT3)->Int×(Nat->Zq)×Nat×(Nat->ZA)):Tree V:=
 let q0:=(ZG (zf (zl za 2 a.n5 λj=>Zu za (a.11 j)) zh))
 let q24:=(Ym (zf (zl za 1 a.n2 λj=>Z8 za (a.5 j)) zh))
 let q4:=(zl za 4 a.n3 λj=>Zv za (a.7 j))
 let q5:=(zl za 4 a.n4 λj=>Zt za (a.9 j))
 let q32:=(ZQ (zf q4 (zf q5 zh)))
 let q26:=(ZG (zf (zl za 2 (Gp q0 f).n0 λj=>Zu za ((Gp q0 f).2 j)) zh))
 let q1:=(Bz q24 q32 q26 a.n6 (λj=>(a.13 j)) a.n12 (λj=>(a.24 j)) a.f13 (V.Zi V.Zo) λj=>Zx (V.Zn V.Zo j))
 let q25:=(zn ze .i64 (0:Int))
 let q2:=(zJ (zf q25 (zf V.Zo (zf V.Zo (zf V.Zo (zf V.Zo (zf V.Zo (zf V.Zo (zf V.Zo (zf V.Zo (zf q25 (zf V.Zo (zf V.Zo (zf V.Zo (zf (zn ze .u64 (0:Int)) zh)))))))))))))))
 let q3:=(zl za 2 (Gp q0 f).n0 λj=>ci ((Gp q0 f).2 j).f0 (zf (zl za 1 ((Gp q0 f).2 j).n1 λj_1=>ci (((Gp q0 f).2 j).r1 j_1).f0 zh) zh))
 let q7:=(Zf.mk a.6 a.r3 a.8 a.r4)
 let q8:=(zl za 1 a.n2 λj=>zf (zn za .u32 (a.5 j).f0) zh)
 let q9:=(Gp (Zc.mk a.10 a.r5) f)
 let q10:=(zl za 2 a.n7 λj=>Z0 za (a.15 j))
 let q11:=(zl za 2 a.n5 λj=>ci (a.11 j).f0 (zf (zl za 1 (a.11 j).n1 λj_1=>ci ((a.11 j).r1 j_1).f0 zh) zh))
 let q13:=(zl za 2 a.n10 λj=>ZC za (a.20 j))
 let q14:=(zl za 3 a.n11 λj=>ZF za (a.22 j))
 let q15:=(zl za 5 a.n8 λj=>ZP za (a.17 j))
 let q17:=(zl za 2 a.n1 λj=>Z9 za (a.3 j))
 let q29:=(zn za .u64 a.f13)
 let q33:=(vi (0:Int))
 let q27:=(zf q29 (zf (zl za 1 (0:Nat) λj=>zf q33 zh) (zf q33 zh)))
 let q28:=(zx (zx (Bz (Zj.mk a.4 a.r2) q7 q9 a.n6 (λj=>a.13 j) a.n12 (λj=>a.24 j) a.25 (0:Nat) λj=>DT3.mk (0:Int))))
 let q30:=(zl za 11 a.n6 λj=>Zy za (a.13 ((0:Nat)+j)))
 let q31:=(zl za 2 a.n12 λj=>ZB za (a.24 ((0:Nat)+j)))
 zu (hkEq (zf (zJ (ci a.f0 (zf (zl za 2 a.n1 λj=>Z9 za (a.3 j)) (zf (zl za 1 a.n2 λj=>zf (zn za .u32 (a.5 j).f0) zh) (zf (zl za 4 a.n3 λj=>Zv za (a.7 j)) (zf (zl za 4 a.n4 λj=>Zt za (a.9 j)) (zf (zl za 2 a.n5 λj=>ci (a.11 j).f0 (zf (zl za 1 (a.11 j).n1 λj_1=>ci ((a.11 j).r1 j_1).f0 zh) zh)) (zf (zl za 11 a.n6 λj=>Zy za (a.13 j)) (zf (zl za 2 a.n7 λj=>Z0 za (a.15 j)) (zf (zl za 5 a.n8 λj=>ZP za (a.17 j)) (ci a.f9 (zf (zl za 2 a.n10 λj=>ZC za (a.20 j)) (zf (zl za 3 a.n11 λj=>ZF za (a.22 j)) (zf (zl za 2 a.n12 λj=>ZB za (a.24 j)) (zf q29 zh))))))))))))))) zh) [] (zf (zJ (ci a.f0 (zf q17 (zf q8 (zf q4 (zf q5 (zf q11 (zf (zl za 11 a.n6 λj=>Zy za (a.13 j)) (zf q10 (zf q15 (ci a.f9 (zf q13 (zf q14 (zf (zl za 2 a.n12 λj=>ZB za (a.24 j)) (zf q29 zh))))))))))))))) zh) []/\a.n1<=(1000:Nat)/\a.n2<=(1000:Nat)/\a.n3<=(1000:Nat)/\a.n4<=(1000:Nat)/\a.n5<=(1000:Nat)/\a.n6<=(1000:Nat)/\a.n7<=(1000:Nat)/\a.n8<=(1000:Nat)/\a.n10<=(1000:Nat)/\a.n11<=(1000:Nat)/\a.n12<=(1000:Nat)/\∀(j:Nat),(a.11 j).n1<=(1000:Nat)) (zu (zf (zJ (zf q11 zh)) (ci f zh)=zf (zJ (zf (zl za 2 a.n5 λj=>ci (a.11 j).f0 (zf (zl za 1 (a.11 j).n1 λj_1=>ci ((a.11 j).r1 j_1).f0 zh) zh)) zh)) (ci f zh)/\a.10<=(1000:Nat)/\∀(j:Nat),(a.11 j).n1<=(1000:Nat)) (zu ((Gq (Zc.mk a.10 a.r5) f==(0:Int))=ze->((0:Nat)+a.n6<=a.n6/\(0:Nat)+a.n12<=a.n12)/\sR (zf (V.rptr ze (16:Nat) (1:Nat) (λjj=>ci a.f0 (zf q17 (zf q8 (zf q4 (zf q5 (zf q3 (zf q30 (zf q10 (zf q15 (ci a.f9 (zf q13 (zf q14 (zf q31 (zf q29 (zf V.Zo (zf q25 zh)))))))))))))))) (0:Nat) (0:Nat)) zh) (zf (V.rptr za (16:Nat) (1:Nat) (λjj=>ci a.f0 (zf q17 (zf q8 (zf q4 (zf q5 (zf q3 (zf (zl za 11 a.n6 λj=>Zy za (a.13 ((0:Nat)+j))) (zf q10 (zf q15 (ci a.f9 (zf q13 (zf q14 (zf (zl za 2 a.n12 λj=>ZB za (a.24 ((0:Nat)+j))) q27))))))))))))) (0:Nat) (0:Nat)) zh)/\q9.n0<=(1000:Nat)/\(∀(j:Nat),(q9.2 j).n1<=(1000:Nat))/\a.8<=(1000:Nat)/\a.6<=(1000:Nat)/\a.8<=(1000:Nat)/\YV q9<=(1000:Nat)/\(∀(j:Nat),j<YV q9->(0:Nat)<Zb.n0 (ZV q9 j)/\Zb.n0 (ZV q9 j)<=(8:Nat)/\∀(q:Nat),q<Zb.n0 (ZV q9 j)->((0:Int)<=Zm q7 (Zb.r0 (ZV q9 j) q).f0/\Zm q7 (Zb.r0 (ZV q9 j) q).f0<(a.6:Int))/\(0:Int)<=(a.7 (zk (Zm q7 (Zb.r0 (ZV q9 j) q).f0))).f3/\(a.7 (zk (Zm q7 (Zb.r0 (ZV q9 j) q).f0))).f3<(a.4:Int))/\∀(j:Nat),j<a.8->((0:Int)<=Zm q7 (a.9 j).f0/\Zm q7 (a.9 j).f0<(a.6:Int))/\(0:Int)<=(a.7 (zk (Zm q7 (a.9 j).f0))).f3/\(a.7 (zk (Zm q7 (a.9 j).f0))).f3<(a.4:Int)) (zB (bif Gq q0 f==(0:Int)then !Rm q24 q32 q26 else za) (zw (V.tup (zf q2 (zf q25 (zf (zn ze .i64 (8:Int)) zh))))) (zB (Gq q0 f==(0:Int)) (zu (hkEq (zf (pt 0) zh) [Blk.var (ci a.f0 (zf q17 (zf q8 (zf q4 (zf q5 (zf q3 (zf (V.osl za 1 11 0 a.n6) (zf q10 (zf q15 (ci a.f9 (zf q13 (zf q14 (zf (V.osl za 2 2 0 a.n12) (zf q29 (zf V.Zo (zf q25 zh)))))))))))))))),Blk.arr 11 a.n6 λj=>Zy za (a.13 j),Blk.arr 2 a.n12 λj=>ZB za (a.24 j)] (zf (pt 0) zh) [Blk.var (ci a.f0 (zf q17 (zf q8 (zf q4 (zf q5 (zf q3 (zf (V.osl za 1 11 0 a.n6) (zf q10 (zf q15 (ci a.f9 (zf q13 (zf q14 (zf (V.osl za 2 2 0 a.n12) q27))))))))))))),Blk.arr 11 a.n6 λj=>Zy za (a.13 j),Blk.arr 2 a.n12 λj=>ZB za (a.24 j)]/\a.n6<=(1000:Nat)/\a.n12<=(100:Nat)/\a.6<=(1000:Nat)/\a.8<=(1000:Nat)/\(0:Nat)<=(1000:Nat)/\(∀(j:Nat),j<a.n12->((0:Int)<=Zm q7 (a.24 j).f0/\Zm q7 (a.24 j).f0<(a.6:Int))/\(0:Int)<=(a.7 (zk (Zm q7 (a.24 j).f0))).f3/\(a.7 (zk (Zm q7 (a.24 j).f0))).f3<(a.4:Int))/\∀(j:Nat),j<a.n12->WA (YF (Zj.mk a.4 a.r2) q7 (a.24 j).f0) (a.24 j).f1=ze) (zB (bif Bb q24 q32 q26 a.n6 (λj=>(a.13 j)) a.n12 (λj=>(a.24 j)) a.f13 (V.Zi V.Zo) λj=>Zx (V.Zn V.Zo j)then ze else za) (zw (V.tup (zf q2 (zf q25 (zf (zn ze .i64 (6:Int)) zh))))) (zu ((0:Nat)+a.n6<=a.n6) (zu ((0:Nat)+zR q28<=zR q28) (zw (V.tup (zf (zJ (ci a.f0 (zf q17 (zf q8 (zf q4 (zf q5 (zf q3 (zf (zl za 11 a.n6 λj=>Zy za ((zx q1).1 ((0:Nat)+j))) (zf q10 (zf q15 (ci a.f9 (zf q13 (zf q14 (zf (zl za 2 (zR (zx (zx q1))) λj=>ZB za ((zx (zx q1)).2 ((0:Nat)+j))) (zf (zn za .u64 (zR q1)) zh))))))))))))))) (zf q33 (zf q25 zh))))))))) (zB (Gq q0 f != (0:Int)) (zw (V.tup (zf q2 (zf q25 (ci (Gq q0 f) zh))))) (zu ((0:Nat)+a.n6<=a.n6) (zu ((0:Nat)+a.n12<=a.n12) (zw (V.tup (zf (zJ (ci a.f0 (zf q17 (zf q8 (zf q4 (zf q5 (zf q3 (zf q30 (zf q10 (zf q15 (ci a.f9 (zf q13 (zf q14 (zf q31 (zf q29 zh))))))))))))))) (zf q25 (zf q25 zh))))))))))))
theorem doP_tree(f:Int)(a:Za)(Gp:Zc->Int->Zc)(Gq:Zc->Int->Int)(Rm:Zj->Zf->Zc->Bool)(Bb:Zj->Zf->Zc->Nat->(Nat->Zq)->Nat->(Nat->ZA)->Int->Nat->(Nat->DT3)->Bool)(Bz:Zj->Zf->Zc->Nat->(Nat->Zq)->Nat->(Nat->ZA)->Int->Nat->(Nat->DT3)->Int×(Nat->Zq)×Nat×(Nat->ZA)):ZT { (Zl P [Zfc Gp Gq,U5 Rm] [] ze)with nm:=λg=>JW g [41],hk:=Ww [⟨77,V9⟩,⟨79,Us Bb Bz⟩] } 400 41 (.cons (.agg (Z7 za a)) (.cons (.agg (.cons (.int ze .i64 6) (.cons (.int ze .i64 0) (.cons (.int ze .i64 0) (.cons (.int za .i64 f) (.cons (.int ze .i64 0) (.cons (.int ze .i64 0) (.cons (.int ze .i64 0) (.cons (.int ze .i64 0) (.cons (.int ze .i64 0) (.cons (.int ze .u32 0) (.cons (.int ze .u32 0) (.cons (.int ze .u32 0) (.cons .Zo .nil)))))))))))))) .nil))=ZaV f a Gp Gq Rm Bb Bz:=by kernel_rfl
def Vo(f:Int)(a:Za):Za:=Yb (ZaV f a Xd Ql YJ XK YL).valOf.inner.hd.inner
def Zft(f:Int)(a:Za):Int:=(ZaV f a Xd Ql YJ XK YL).valOf.inner.tl.hd.toInt
def Ua(f:Int)(a:Za):Int:=(ZaV f a Xd Ql YJ XK YL).valOf.inner.tl.tl.hd.toInt
theorem doP_meets(f:Int)(a:Za)(h0:a.n1<=1000)(h1:a.n2<=1000)(h2:a.n3<=1000)(h3:a.n4<=1000)(h4:a.n5<=1000)(h5:a.n6<=1000)(h6:a.n7<=1000)(h7:a.n8<=1000)(h8:a.n10<=1000)(h9:a.n11<=1000)(h10:a.n12<=1000)(h11:∀j,(a.r5 j).n1<=1000)(h12:a.n12<=100)(h13:Ql (⟨a.n5,a.r5⟩:Zc) f=0->(λ(p:Zj)(gu:Zf)(ga:Zc)=>ga.n0<=1000/\(∀j,(ga.r0 j).n1<=1000)/\YV ga<=1000/\(∀j,j<YV ga->0<(ZV ga j).n0/\(ZV ga j).n0<=8/\∀q,q<(ZV ga j).n0->(0<=Zm gu ((ZV ga j).r0 q).f0/\Zm gu ((ZV ga j).r0 q).f0<gu.n0)/\0<=(gu.r0 (Zm gu ((ZV ga j).r0 q).f0).toNat).f3/\(gu.r0 (Zm gu ((ZV ga j).r0 q).f0).toNat).f3<p.n0)/\(∀j,j<gu.n1->(0<=Zm gu (gu.r1 j).f0/\Zm gu (gu.r1 j).f0<gu.n0)/\0<=(gu.r0 (Zm gu (gu.r1 j).f0).toNat).f3/\(gu.r0 (Zm gu (gu.r1 j).f0).toNat).f3<p.n0)/\∀j,j<a.n12->((0<=Zm gu (a.r12 j).f0/\Zm gu (a.r12 j).f0<gu.n0)/\0<=(gu.r0 (Zm gu (a.r12 j).f0).toNat).f3/\(gu.r0 (Zm gu (a.r12 j).f0).toNat).f3<p.n0)/\WA (YF p gu (a.r12 j).f0) (a.r12 j).f1=ze) (⟨a.n2,a.r2⟩:Zj) (⟨a.n3,a.r3,a.n4,a.r4⟩:Zf) (Xd (⟨a.n5,a.r5⟩:Zc) f)):Zh P 41 (.cons (.agg (Z7 za a)) (.cons (.agg (.cons (.int ze .i64 6) (.cons (.int ze .i64 0) (.cons (.int ze .i64 0) (.cons (.int za .i64 f) (.cons (.int ze .i64 0) (.cons (.int ze .i64 0) (.cons (.int ze .i64 0) (.cons (.int ze .i64 0) (.cons (.int ze .i64 0) (.cons (.int ze .u32 0) (.cons (.int ze .u32 0) (.cons (.int ze .u32 0) (.cons .Zo .nil)))))))))))))) .nil)) (.tup (.cons (.agg (Z7 za (Vo f a))) (.cons (.int za .i64 (Zft f a)) (.cons (.int za .i64 (Ua f a)) .nil)))):=by
 refine(show Yh (.tup (.cons (.agg Zbw) (.cons (.int za .i64 0) (.cons (.int za .i64 0) .nil)))) (ZaV f a Xd Ql YJ XK YL).valOf=(.tup (.cons (.agg (Z7 za (Vo f a))) (.cons (.int za .i64 (Zft f a)) (.cons (.int za .i64 (Ua f a)) .nil))))from by kernel_rfl)▸ ?_
 refine X4 (E:={ (Zl P [Zfc Xd Ql,U5 YJ] [] ze)with nm:=λg=>JW g [41],hk:=Ww [⟨77,V9⟩,⟨79,Us XK YL⟩] }) ((Env.Ok.withNm (Zw hm hn (l:=[Zfc Xd Ql,U5 YJ]) ⟨Zn5,Zkc,trivial⟩ (ls:=[]) trivial ze) (λg=>JW g [41])).KD (l:=[⟨77,V9⟩,⟨79,Us XK YL⟩]) ⟨cpq_ok,offM_ok,trivial⟩) (.tup (.cons (.agg Zbw) (.cons (.int za .i64 0) (.cons (.int za .i64 0) .nil)))) (Has.of hn Tryz.func41 rfl) (doP_tree f a Xd Ql YJ XK YL) ?_ ?_
 ·refine⟨?_,⟨?_,⟨?_,⟨λhb0=>trivial,λhb0=>⟨λhb1=>⟨?_,⟨λhb2=>trivial,λhb2=>⟨?_,⟨?_,trivial⟩⟩⟩⟩,λhb1=>⟨λhb2=>trivial,λhb2=>⟨?_,⟨?_,trivial⟩⟩⟩⟩⟩⟩⟩⟩
  all_goals(first|exact⟨⟨WG _,trivial⟩,h0,h1,h2,h3,h4,h5,h6,h7,h8,h9,h10,h11⟩|exact Nat.le_of_eq (zX _)|exact⟨rfl,h4,h11⟩|(refine⟨?_,h5,h12,h2,h3,Nat.zero_le _,λj hj=>((h13 (LawfulBEq.eq_of_beq hb1)).2.2.2.2.2 j hj).1,λj hj=>((h13 (LawfulBEq.eq_of_beq hb1)).2.2.2.2.2 j hj).2⟩;(repeat'(first|exact rfl|exact trivial|exact λ_=>rfl|apply zy|intro _)))|(refine λhs=>⟨⟨Nat.le_of_eq (zX _),Nat.le_of_eq (zX _)⟩,?_,(h13 (LawfulBEq.eq_of_beq hs)).1,(h13 (LawfulBEq.eq_of_beq hs)).2.1,h3,h2,h3,(h13 (LawfulBEq.eq_of_beq hs)).2.2.1,(h13 (LawfulBEq.eq_of_beq hs)).2.2.2.1,(h13 (LawfulBEq.eq_of_beq hs)).2.2.2.2.1⟩;(repeat'(first|exact rfl|apply zy|intro _))))
 ·refine⟨⟨rfl,?_⟩,⟨⟨⟨rfl,?_⟩,⟨rfl,?_⟩⟩,⟨⟨rfl,?_⟩,⟨rfl,?_⟩⟩⟩⟩
  all_goals((repeat'(first|exact rfl|exact trivial|apply zy|intro _|(refine cP (p:=λv=>z8 v=Yh _ v) (λhc=>?_) (λhc=>?_))));all_goals(exfalso;simp only[YS,XO,XW,X7,XV,X6,zL,yE]at*;omega))
def chgF(n:Nat)(r:Nat->DT3):V:=zJ (.cons (.int ze .i64 5) (.cons (.int ze .i64 0) (.cons (.int ze .i64 0) (.cons (.int ze .i64 0) (.cons (.int ze .i64 0) (.cons (.int ze .i64 0) (.cons (.int ze .i64 0) (.cons (.int ze .i64 0) (.cons (.int ze .i64 0) (.cons (.int ze .u32 0) (.cons (.int ze .u32 0) (.cons (.int ze .u32 0) (.cons (.rsl za 1 n λj=>ZK za (r j)) .nil)))))))))))))
def chgP(f:Int):V:=zJ (.cons (.int ze .i64 6) (.cons (.int ze .i64 0) (.cons (.int ze .i64 0) (.cons (.int za .i64 f) (.cons (.int ze .i64 0) (.cons (.int ze .i64 0) (.cons (.int ze .i64 0) (.cons (.int ze .i64 0) (.cons (.int ze .i64 0) (.cons (.int ze .u32 0) (.cons (.int ze .u32 0) (.cons (.int ze .u32 0) (.cons .Zo .nil)))))))))))))
def do_U(ck:Za->Int)(a n:Za)(c:V)(k e:Int)(p:Prop):Tree V:=
  .need (zf (zJ (Z7 za a)) zh=zf (zJ (Z7 za a)) zh/\small a) (.node (bif ck a != (0:Int)then ze else za)
   (.leaf (.tup (.cons (.agg VQ) (.cons (.int ze .i64 0) (.cons (.int za .i64 (ck a)) .nil)))))
   (.need (sR (zf (zJ (Z7 za a)) (zf c .nil)) (zf (zJ (Z7 za a)) (zf c .nil))/\p)
    (.leaf (.tup (.cons (.agg (Z7 za n)) (.cons (.int za .i64 k) (.cons (.int za .i64 e) .nil)))))))
theorem do_treeF(ck:Za->Int)(a n:Za)(m:Nat)(r:Nat->DT3)(k e:Int)(p:Prop):ZT (Zl P [Vd ck,k_do a (chgF m r) n k e p] [] ze) 400 10 (.cons (.agg (Z7 za a)) (.cons (chgF m r) .nil))=do_U ck a n (chgF m r) k e p:=by kernel_rfl
theorem do_treeP(ck:Za->Int)(a n:Za)(f k e:Int)(p:Prop):ZT (Zl P [Vd ck,k_do a (chgP f) n k e p] [] ze) 400 10 (.cons (.agg (Z7 za a)) (.cons (chgP f) .nil))=do_U ck a n (chgP f) k e p:=by kernel_rfl
theorem Zkx{a n:Za}{c:V}{k e:Int}(hT:ZT (Zl P [Vd ZL,k_do a c n k e (ZL a=0)] [] ze) 400 10 (.cons (.agg (Z7 za a)) (.cons c .nil))=do_U ZL a n c k e (ZL a=0))(h:small a)(hd:ZL a=0->Zh P 41 (.cons (.agg (Z7 za a)) (.cons c .nil)) (.tup (.cons (.agg (Z7 za n)) (.cons (.int za .i64 k) (.cons (.int za .i64 e) .nil))))) :
  Zh P 10 (.cons (.agg (Z7 za a)) (.cons c .nil)) (.tup (.cons (.agg (Z7 za (dO_n a n))) (.cons (.int za .i64 (JJ a 0 k)) (.cons (.int za .i64 (JJ a (ZL a) e)) .nil)))):=by
 have e0:Yh (.tup (.cons (.agg Zbw) (.cons (.int za .i64 0) (.cons (.int za .i64 0) .nil)))) (do_U ZL a n c k e (ZL a=0)).valOf=(.tup (.cons (.agg (Z7 za (dO_n a n))) (.cons (.int za .i64 (JJ a 0 k)) (.cons (.int za .i64 (JJ a (ZL a) e)) .nil)))):=by
  unfold dO_n JJ do_U do_T
  show Yh _ (bif (bif ZL a != (0:Int)then ze else za)then _ else _)=_
  simp only[Tree.valOf]
  cases(ZL a != (0:Int))<;>kernel_rfl
 refine e0▸ ?_
 refine X4 (E:=Zl P [Vd ZL,k_do a c n k e (ZL a=0)] [] ze) (Zw hm hn (l:=[Vd ZL,k_do a c n k e (ZL a=0)]) ⟨Zhx,Vm λ_ h=>hd h,trivial⟩ (ls:=[]) trivial ze) (.tup (.cons (.agg Zbw) (.cons (.int za .i64 0) (.cons (.int za .i64 0) .nil)))) (Has.of hn Tryz.func10 rfl) hT ?_ ?_
 ·exact⟨⟨rfl,h⟩,λ_=>trivial,λhc=>⟨⟨WG _,nz0 hc⟩,trivial⟩⟩
 ·refine⟨⟨rfl,?_⟩,⟨rfl,?_⟩⟩
  all_goals(repeat'(first|exact rfl|exact trivial|apply zy|intro _))
abbrev ZbV(an:Nat)(a:Nat->DT3)(bn:Nat)(b:Nat->DT3)(i:Int)(z:Unit):V:=(.cons (.rsl za 1 an (λjj=>zf (zn za zA (DT3.f0 (a jj))) zh)) (.cons (.rsl za 1 bn (λjj=>zf (zn za zA (DT3.f0 (b jj))) zh)) (.cons (.bool ze za) (.cons (.int za .i64 ((an:Nat):Int)) (.cons (.int za .i64 i) .nil)))))
abbrev ZbW(an:Nat)(a:Nat->DT3)(bn:Nat)(b:Nat->DT3)(i:Int)(z:Unit):List Blk:=[]
def Leq3_R(an:Nat)(a:Nat->DT3)(bn:Nat)(b:Nat->DT3)(i:Int)(z:Unit):Tree Rd:=
 let q0:=(zl za 1 an λjj=>ci (a jj).f0 zh)
 let q1:=(zl za 1 bn λjj=>ci (b jj).f0 zh)
 zu (((0:Int)<=i/\i<(an:Int))/\(0:Int)<=i/\i<(bn:Int)) (zB (bif bif (a (zk i)).f0 != (b (zk i)).f0 then ze else za then ze else za) (zw (Ex.ret,ze,zf q0 (zf q1 (zf (zC ze za) (ci (an:Int) (ci i zh)))),[])) (zw (Ex.normal,ze,zf q0 (zf q1 (zf (zC ze za) (ci (an:Int) (ci (zD .i64 (i+(1:Int))) zh)))),[])))
theorem ZmR(an:Nat)(a:Nat->DT3)(bn:Nat)(b:Nat->DT3):Yi P (Zl P [] [] ze) 53 4 0 0 26 [0,1,4,12,13] [] [] (ZbV an a bn b) (ZbW an a bn b) (λi=>(bif decide (i<(an:Int))then za else ze)) (.exit 0) (Leq3_R an a bn b):=λB i z=>by kernel_rfl
def Zd5(an:Nat)(a:Nat->DT3)(bn:Nat)(b:Nat->DT3)(k:Nat):Bool:=(λ(i:Int)(z:Unit)=>(bif bif bif (a (zk i)).f0 != (b (zk i)).f0 then ze else za then ze else za then ze else za)) k ()
abbrev Leq3_ets(an:Nat)(a:Nat->DT3)(bn:Nat)(b:Nat->DT3)(i:Int)(z:Unit):V:=(.cons (zl za 1 an λjj=>zf (zn za .i64 (a jj).f0) zh) (.cons (zl za 1 bn λjj=>zf (zn za .i64 (b jj).f0) zh) (.cons (zC ze za) (.cons (zn za .i64 (an:Int)) (.cons .junk .nil)))))
def Zd6(an:Nat)(a:Nat->DT3)(bn:Nat)(b:Nat->DT3):Lp:=lpL 53 4 0 0 26 [0,1,4,12,13] [] [] (ZbV an a bn b) (ZbW an a bn b) (.exit 0) .ret () (λ_=>()) (Zd5 an a bn b) (an) (Leq3_ets an a bn b) (ZbW an a bn b)
def Leq3_need(an:Nat)(a:Nat->DT3)(bn:Nat)(b:Nat->DT3):Prop:=YC 0 [] (ZbV an a bn b) (ZbW an a bn b) () (ZbV an a bn b (0:Nat) ()) (ZbW an a bn b (0:Nat) ())
theorem Zjw(an:Nat)(a:Nat->DT3)(bn:Nat)(b:Nat->DT3):Leq3_need an a bn b:=⟨rfl,trivial⟩
theorem ZmQ(an:Nat)(a:Nat->DT3)(bn:Nat)(b:Nat->DT3)(hl:an<=1000)(he:an=bn):(Zd6 an a bn b).Ok P:=by
 refine YR (Zw hm hn (l:=[]) trivial (ls:=[]) trivial ze) rfl (by kernel_rfl) (ZmR an a bn b) exN Yv (λ_=>rfl) (step:=λ_ z=>z) (rd:=(λ_ t y=>())) (λi z=>rfl) (λi=>(cC rfl rfl)) rfl (λi hlt hg=>?_) (λi z hi=>?_)
 ·have hltI:(i:Int)<((an:Nat):Int):=by omega
  refine⟨?_,⟨λhb0=>trivial,λhb0=>trivial⟩⟩
  all_goals(repeat'(first|exact rfl|exact λ_=>⟨rfl,rfl⟩|apply zy|intro _))
  all_goals(try simp only[decide_eq_true_eq,decide_eq_false_iff_not,yg,yw]at*)
  all_goals(try simp(disch:=omega) only[IntWalk.i64_in])
  all_goals(first|omega)
 ·have hw:=(IntWalk.i64_in ((i:Int)+1) ⟨by omega,by omega⟩)
  refine⟨?_,?_⟩
  all_goals(first|exact⟨rfl,Yq (ts:=ZbV an a bn b) (a:=()) hw rfl,Z5 _⟩|exact⟨rfl,rfl,(by repeat'(first|exact Le.refl _|exact Le.junk _ rfl|apply Le.cons)),Z5 _⟩)
def eq3_T(an:Nat)(a:Nat->DT3)(bn:Nat)(b:Nat->DT3):Tree V:=
 let q0:=(zf (zl za 1 bn λj=>ci (b j).f0 zh) (zf (zC za za) (ci (an:Int) (ci (0:Int) zh))))
 let q1:=(zl za 1 an λj=>ci (a j).f0 zh)
 zB (bif (an:Int) != (bn:Int)then ze else za) (zw (zC ze za)) (zu (an=bn/\zf q1 q0=zf q1 q0/\True) (zB (bif Zp (Zd5 an a bn b) an then ze else za) (zw (zC ze za)) (zw (zC ze ze))))
theorem eq3_tree(an:Nat)(a:Nat->DT3)(bn:Nat)(b:Nat->DT3):ZT (Zl P [] [QB (an=bn) (Zd6 an a bn b)] ze) 400 53 (.cons (.rsl za 1 an λj=>ZK za (a j)) (.cons (.rsl za 1 bn λj=>ZK za (b j)) .nil))=eq3_T an a bn b:=by kernel_rfl
def Gh(an:Nat)(a:Nat->DT3)(bn:Nat)(b:Nat->DT3):Bool:=(eq3_T an a bn b).valOf.toBool
theorem eq3_meets(an:Nat)(a:Nat->DT3)(bn:Nat)(b:Nat->DT3)(h0:an<=1000):Zh P 53 (.cons (.rsl za 1 an λj=>ZK za (a j)) (.cons (.rsl za 1 bn λj=>ZK za (b j)) .nil)) (.bool za (Gh an a bn b)):=by
 refine X4 (E:=(Zl P [] [QB (an=bn) (Zd6 an a bn b)] ze)) (Zw hm hn (l:=[]) trivial (ls:=[QB (an=bn) (Zd6 an a bn b)]) ⟨Zdd λhg=>ZmQ an a bn b h0 hg,trivial⟩ ze) (.bool za za) (Has.of hn Tryz.func53 rfl) (eq3_tree an a bn b) ?_ ?_
 ·refine⟨λhb0=>trivial,λhb0=>⟨?_,⟨λhb1=>trivial,λhb1=>trivial⟩⟩⟩
  all_goals(first|exact Zjw an a bn b|((repeat'(first|exact Zjw _ _ _ _|exact rfl|exact λ_=>⟨rfl,rfl⟩|apply zy|intro _));all_goals(first|omega|(simp at*;omega))))
 ·refine⟨⟨rfl,?_⟩,⟨⟨rfl,?_⟩,⟨rfl,?_⟩⟩⟩
  all_goals((repeat'(first|exact rfl|exact trivial|apply zy|intro _|(refine cP (p:=λv=>z8 v=Yh _ v) (λhc=>?_) (λhc=>?_))));all_goals(exfalso;simp only[YS,XO,XW,X7,XV,X6,zL,yE]at*;omega))
def c_eq3A(r0:Nat->(Nat->DT3)->Nat->(Nat->DT3)->Bool):Con:=Yd 53 (λx=>(.cons (.rsl za 1 x.hd.Zi λj=>ZK za ((λj=>Zx (x.hd.Zn j)) j)) (.cons (.rsl za 1 x.tl.hd.Zi λj=>ZK za ((λj=>Zx (x.tl.hd.Zn j)) j)) .nil))) (λx=>(.bool za (r0 x.hd.Zi (λj=>Zx (x.hd.Zn j)) x.tl.hd.Zi (λj=>Zx (x.tl.hd.Zn j))))) (λx=>(λ(an:Nat)(a:Nat->DT3)(bn:Nat)(b:Nat->DT3)=>an<=1000) x.hd.Zi (λj=>Zx (x.hd.Zn j)) x.tl.hd.Zi (λj=>Zx (x.tl.hd.Zn j)))
abbrev c_eq3:Con:=c_eq3A Gh
theorem c_eq3_ok:c_eq3.Ok P:=Yf (λx h=>eq3_meets _ _ _ _ h)
abbrev ZbX(n:Nat)(r:Nat->ZI)(m:Nat)(s:Nat->ZI)(i:Int)(z:Unit):V:=(.cons (.rsl za 2 m (λjj=>zf (zn za zA (ZI.f0 (s jj))) (zf (zl za (1:Nat) (ZI.n1 (s jj)) λj=>zf (zn za zA (DT3.f0 ((s jj).3 j))) zh) zh))) (.cons (.fn (Fn.func (52:FuncId)) .nil .nil) (.cons (.bool ze za) (.cons (.rsl za 2 n (λjj=>zf (zn za zA (ZI.f0 (r jj))) (zf (zl za (1:Nat) (ZI.n1 (r jj)) λj=>zf (zn za zA (DT3.f0 ((r jj).3 j))) zh) zh))) (.cons (.int za .i64 ((n:Nat):Int)) (.cons (.int za .i64 i) .nil))))))
abbrev ZbY(n:Nat)(r:Nat->ZI)(m:Nat)(s:Nat->ZI)(i:Int)(z:Unit):List Blk:=[]
def Lgsm_R(n:Nat)(r:Nat->ZI)(m:Nat)(s:Nat->ZI)(i:Int)(z:Unit):Tree Rd:=
 let q0:=(zf (zl za 1 (s (zk i)).n1 λj=>ci ((s (zk i)).3 j).f0 zh) zh)
 let q1:=(zl za 1 (r (zk i)).n1 λj=>ci ((r (zk i)).3 j).f0 zh)
 let q2:=(zl za 2 m λjj=>Zu za (s jj))
 let q3:=(zl za 2 n λjj=>Zu za (r jj))
 zu (((0:Int)<=i/\i<(n:Int))/\((0:Int)<=i/\i<(m:Int))/\(((r (zk i)).f0==(s (zk i)).f0)=ze->zf q1 q0=zf q1 q0/\(r (Int.rec (λa=>a) (λa=>(0:Nat)) i)).2<=(1000:Nat))) (zB (bif bif !bif (r (zk i)).f0==(s (zk i)).f0 then Gh (r (zk i)).n1 (λj=>Zx (ci ((r (zk i)).3 j).f0 zh)) (s (zk i)).n1 λj=>Zx (ci ((s (zk i)).3 j).f0 zh)else za then ze else za then ze else za) (zw (Ex.ret,ze,zf q2 (zf (V.fn (Fn.func (52:FuncId)) zh zh) (zf (zC ze za) (zf q3 (ci (n:Int) (ci i zh))))),[])) (zw (Ex.normal,ze,zf q2 (zf (V.fn (Fn.func (52:FuncId)) zh zh) (zf (zC ze za) (zf q3 (ci (n:Int) (ci (zD .i64 (i+(1:Int))) zh))))),[])))
theorem ZmV(n:Nat)(r:Nat->ZI)(m:Nat)(s:Nat->ZI):Yi P (Zl P [c_eq3] [] ze) 51 4 0 0 32 [1,2,6,15,16,17] [] [] (ZbX n r m s) (ZbY n r m s) (λi=>(bif decide (i<(n:Int))then za else ze)) (.exit 0) (Lgsm_R n r m s):=λB i z=>by kernel_rfl
def Zd9(n:Nat)(r:Nat->ZI)(m:Nat)(s:Nat->ZI)(k:Nat):Bool:=(λ(i:Int)(z:Unit)=>(bif bif bif !bif (r (zk i)).f0==(s (zk i)).f0 then Gh (r (zk i)).n1 (λj=>Zx (zf (zn za .i64 ((r (zk i)).3 j).f0) zh)) (s (zk i)).n1 λj=>Zx (zf (zn za .i64 ((s (zk i)).3 j).f0) zh)else za then ze else za then ze else za then ze else za)) k ()
abbrev Lgsm_ets(n:Nat)(r:Nat->ZI)(m:Nat)(s:Nat->ZI)(i:Int)(z:Unit):V:=(.cons (zl za 2 m λjj=>Zu za (s jj)) (.cons (V.fn (Fn.func (52:FuncId)) zh zh) (.cons (zC ze za) (.cons (zl za 2 n λjj=>Zu za (r jj)) (.cons (zn za .i64 (n:Int)) (.cons .junk .nil))))))
def Zea(n:Nat)(r:Nat->ZI)(m:Nat)(s:Nat->ZI):Lp:=lpL 51 4 0 0 32 [1,2,6,15,16,17] [] [] (ZbX n r m s) (ZbY n r m s) (.exit 0) .ret () (λ_=>()) (Zd9 n r m s) (n) (Lgsm_ets n r m s) (ZbY n r m s)
def Lgsm_need(n:Nat)(r:Nat->ZI)(m:Nat)(s:Nat->ZI):Prop:=YC 0 [] (ZbX n r m s) (ZbY n r m s) () (ZbX n r m s (0:Nat) ()) (ZbY n r m s (0:Nat) ())
theorem Zjy(n:Nat)(r:Nat->ZI)(m:Nat)(s:Nat->ZI):Lgsm_need n r m s:=⟨rfl,trivial⟩
theorem ZmU(n:Nat)(r:Nat->ZI)(m:Nat)(s:Nat->ZI)(hl:n<=1000)(he:n=m)(hr:∀j,(r j).n1<=1000):(Zea n r m s).Ok P:=by
 refine YR (Zw hm hn (l:=[c_eq3]) ⟨c_eq3_ok,trivial⟩ (ls:=[]) trivial ze) rfl (by kernel_rfl) (ZmV n r m s) exN Yv (λ_=>rfl) (step:=λ_ z=>z) (rd:=(λ_ t y=>())) (λi z=>rfl) (λi=>(cC rfl rfl)) rfl (λi hlt hg=>?_) (λi z hi=>?_)
 ·have hltI:(i:Int)<((n:Nat):Int):=by omega
  refine⟨?_,⟨λhb0=>trivial,λhb0=>trivial⟩⟩
  all_goals(repeat'(first|exact rfl|exact λ_=>⟨rfl,rfl⟩|apply zy|intro _))
  all_goals(try simp only[decide_eq_true_eq,decide_eq_false_iff_not,yg,yw]at*)
  all_goals(try simp(disch:=omega) only[IntWalk.i64_in])
  all_goals(first|omega|exact hr _)
 ·have hw:=(IntWalk.i64_in ((i:Int)+1) ⟨by omega,by omega⟩)
  refine⟨?_,?_⟩
  all_goals(first|exact⟨rfl,Yq (ts:=ZbX n r m s) (a:=()) hw rfl,Z5 _⟩|exact⟨rfl,rfl,(by repeat'(first|exact Le.refl _|exact Le.junk _ rfl|apply Le.cons)),Z5 _⟩)
def gsm_T(an:Nat)(a:Nat->ZI)(bn:Nat)(b:Nat->ZI):Tree V:=
 let q0:=(zf (V.fn (Fn.func (52:FuncId)) zh zh) (zf (zC za za) (zf (zl za 2 an λj=>Zu za (a j)) (ci (an:Int) (ci (0:Int) zh)))))
 let q1:=(zl za 2 bn λj=>Zu za (b j))
 zB (bif (an:Int) != (bn:Int)then ze else za) (zw (zC ze za)) (zu (an=bn/\zf q1 q0=zf q1 q0/\True) (zB (bif Zp (Zd9 an a bn b) an then ze else za) (zw (zC ze za)) (zw (zC ze ze))))
theorem gsm_tree(an:Nat)(a:Nat->ZI)(bn:Nat)(b:Nat->ZI):ZT (Zl P [] [QB (an=bn) (Zea an a bn b)] ze) 400 51 (.cons (.rsl za 2 an λj=>Zu za (a j)) (.cons (.rsl za 2 bn λj=>Zu za (b j)) (.cons (.fn (.func 52) .nil .nil) .nil)))=gsm_T an a bn b:=by kernel_rfl
def Zdc(an:Nat)(a:Nat->ZI)(bn:Nat)(b:Nat->ZI):Bool:=(gsm_T an a bn b).valOf.toBool
theorem gsm_meets(an:Nat)(a:Nat->ZI)(bn:Nat)(b:Nat->ZI)(h0:an<=1000)(h1:∀j,(a j).n1<=1000):Zh P 51 (.cons (.rsl za 2 an λj=>Zu za (a j)) (.cons (.rsl za 2 bn λj=>Zu za (b j)) (.cons (.fn (.func 52) .nil .nil) .nil))) (.bool za (Zdc an a bn b)):=by
 refine X4 (E:=(Zl P [] [QB (an=bn) (Zea an a bn b)] ze)) (Zw hm hn (l:=[]) trivial (ls:=[QB (an=bn) (Zea an a bn b)]) ⟨Zdd λhg=>ZmU an a bn b h0 hg h1,trivial⟩ ze) (.bool za za) (Has.of hn Tryz.func51 rfl) (gsm_tree an a bn b) ?_ ?_
 ·refine⟨λhb0=>trivial,λhb0=>⟨?_,⟨λhb1=>trivial,λhb1=>trivial⟩⟩⟩
  all_goals(first|exact Zjy an a bn b|((repeat'(first|exact Zjy _ _ _ _|exact rfl|exact λ_=>⟨rfl,rfl⟩|apply zy|intro _));all_goals(first|omega|exact h1 _|(simp at*;omega))))
 ·refine⟨⟨rfl,?_⟩,⟨⟨rfl,?_⟩,⟨rfl,?_⟩⟩⟩
  all_goals((repeat'(first|exact rfl|exact trivial|apply zy|intro _|(refine cP (p:=λv=>z8 v=Yh _ v) (λhc=>?_) (λhc=>?_))));all_goals(exfalso;simp only[YS,XO,XW,X7,XV,X6,zL,yE]at*;omega))
def c_gsmA(r0:Nat->(Nat->ZI)->Nat->(Nat->ZI)->Bool):Con:=Yd 51 (λx=>(.cons (.rsl za 2 x.hd.Zi λj=>Zu za ((λj=>XC (x.hd.Zn j)) j)) (.cons (.rsl za 2 x.tl.hd.Zi λj=>Zu za ((λj=>XC (x.tl.hd.Zn j)) j)) (.cons (.fn (.func 52) .nil .nil) .nil)))) (λx=>(.bool za (r0 x.hd.Zi (λj=>XC (x.hd.Zn j)) x.tl.hd.Zi (λj=>XC (x.tl.hd.Zn j))))) (λx=>(λ(an:Nat)(a:Nat->ZI)(bn:Nat)(b:Nat->ZI)=>an<=1000/\∀j,(a j).n1<=1000) x.hd.Zi (λj=>XC (x.hd.Zn j)) x.tl.hd.Zi (λj=>XC (x.tl.hd.Zn j)))
abbrev c_gsm:Con:=c_gsmA Zdc
theorem c_gsm_ok:c_gsm.Ok P:=Yf (λx h=>gsm_meets _ _ _ _ h.1 h.2)
def gSame_T(a:Zc)(b:Zc):Tree V:=
 let q0:=(zl za 2 a.n0 λj=>ci (a.2 j).f0 (zf (zl za 1 (a.2 j).n1 λj_1=>ci ((a.2 j).r1 j_1).f0 zh) zh))
 let q1:=(zl za 2 b.n0 λj=>ci (b.2 j).f0 (zf (zl za 1 (b.2 j).n1 λj_1=>ci ((b.2 j).r1 j_1).f0 zh) zh))
 zu (zf q0 (zf q1 (zf (V.fn (Fn.func (52:Nat)) zh zh) zh))=zf q0 (zf q1 (zf (V.fn (Fn.func (52:FuncId)) zh zh) zh))/\a.1<=(1000:Nat)/\∀(j:Nat),(a.2 j).n1<=(1000:Nat)) (zw (zC za (Zdc a.n0 (λj=>(a.2 j)) b.n0 λj=>(b.2 j))))
theorem ZpY(a:Zc)(b:Zc):ZT (Zl P [c_gsm] [] ze) 400 18 (.cons (.agg (Y5 za a)) (.cons (.agg (Y5 za b)) .nil))=gSame_T a b:=by kernel_rfl
def Za6(a:Zc)(b:Zc):Bool:=(gSame_T a b).valOf.toBool
theorem ZpX(a:Zc)(b:Zc)(h0:a.n0<=1000)(h1:∀j,(a.r0 j).n1<=1000):Zh P 18 (.cons (.agg (Y5 za a)) (.cons (.agg (Y5 za b)) .nil)) (.bool za (Za6 a b)):=by
 refine X4 (E:=(Zl P [c_gsm] [] ze)) (Zw hm hn (l:=[c_gsm]) ⟨c_gsm_ok,trivial⟩ (ls:=[]) trivial ze) (.bool za za) (Has.of hn Tryz.func18 rfl) (ZpY a b) ?_ ?_
 ·refine⟨?_,trivial⟩
  all_goals((repeat'(first|exact rfl|exact WG _|exact λ_=>⟨rfl,rfl⟩|apply zy|intro _));all_goals(try simp only[decide_eq_true_eq,decide_eq_false_iff_not]at*);all_goals(first|exact h1 _|omega|(simp at*;omega)))
 ·refine⟨rfl,?_⟩
  all_goals((repeat'(first|exact rfl|exact trivial|apply zy|intro _|(refine cP (p:=λv=>z8 v=Yh _ v) (λhc=>?_) (λhc=>?_))));all_goals(exfalso;simp only[YS,XO,XW,X7,XV,X6,zL,yE]at*;omega))
def Zj4(r0:Zc->Zc->Bool):Con:=Yd 18 (λx=>(.cons (.agg (Y5 za (ZG x.hd.inner))) (.cons (.agg (Y5 za (ZG x.tl.hd.inner))) .nil))) (λx=>(.bool za (r0 (ZG x.hd.inner) (ZG x.tl.hd.inner)))) (λx=>(λ(a:Zc)(b:Zc)=>a.n0<=1000/\∀j,(a.r0 j).n1<=1000) (ZG x.hd.inner) (ZG x.tl.hd.inner))
abbrev c_gSame:Con:=Zj4 Za6
theorem Zn7:c_gSame.Ok P:=Yf (λx h=>ZpX _ _ h.1 h.2)
end Go.Proofs.YthhbdbeglmkijaaGreatDoor
namespace Go.Fw
def Jz(l:List V):Nat->V:=λj=>l.getD j .junk
def findL:List (V×V)->V->Option Ans
 |[],_=>zm
 |c::l,x=>bif YI x c.1 then zi (.sure c.2)else findL l x
def Zf5(g:FuncId)(cs:List (V×V)):Con:={ g,al:=ze,ans:=findL cs }
def Zjv(P:Program)(g:FuncId):List (V×V)->Prop
 |[]=>True
 |c::l=>Zh P g c.1 c.2/\Zjv P g l
variable{g:FuncId}
theorem Zh.sameArgs{P:Program}{a x v:V}(h:Zh P g a v)(hs:YI x a=ze):Zh P g x v:=
 ⟨h.1,λF w xs h1 h2 h3=>h.2 F w xs h1 h2 ((sameV_R _ _ hs 0 _).2 _ h3)⟩
theorem ZiO{P:Program}:∀{cs:List (V×V)},Zjv P g cs->(Zf5 g cs).Ok P:=by
 intro cs
 induction cs with
 |nil=>intro _ x;exact trivial
 |cons c l ih=>
  intro h x
  have h2:=ih h.2 x
  show match findL (c::l) x with
   |some (.sure v)=>Zh P g x v
   |some (.where_ p v)=>p->Zh P g x v
   |some (.fork b v v')=>(b=ze->Zh P g x v)/\(b=za->Zh P g x v')
   |none=>True
  unfold findL
  cases hs:YI x c.1
  ·exact h2
  ·exact h.1.sameArgs hs
theorem Zgn{E:Env}{gs:List FuncId}(hΓ:Among E gs)(hE:E.Ok)(k:Nat){args v:V}(hhas:Has E.P g)(h:Ya E gs k g args=.leaf v)(hc:v.soft.clean=ze):Zh E.P g args v:=by
 rw[ZcP hΓ]at h
 exact meets hE k hhas h ⟨hc,rfl⟩
open Go.WideShapes Go.RowKit Go.ChangeShapes
inductive Sh where
 |int (k:IntKind)
 |bool
 |str
 |unit
 |pair (a b:Sh)
 |sl (es:Nat) (e:Sh)
@[reducible] def Sh.den:Sh->Type
 | .int _=>Int
 | .bool=>Bool
 | .str=>List UInt8
 | .unit=>Unit
 | .pair a b=>a.den×b.den
 | .sl _ e=>Nat×(Nat->e.den)
def Sh.dflt:(s:Sh)->s.den
 | .int _=>(0:Int)
 | .bool=>za
 | .str=>([]:List UInt8)
 | .unit=>()
 | .pair a b=>(a.dflt,b.dflt)
 | .sl _ e=>((0:Nat),λ_=>e.dflt)
def Sh.push:(s:Sh)->s.den->V->V
 | .int k,x,tl=>.cons (.int za k x) tl
 | .bool,x,tl=>.cons (.bool za x) tl
 | .str,x,tl=>.cons (.str za x) tl
 | .unit,_,tl=>tl
 | .pair a b,x,tl=>a.push x.1 (b.push x.2 tl)
 | .sl es e,x,tl=>.cons (.rsl za es x.1 λi=>e.push (x.2 i) .nil) tl
def Sh.wf:(s:Sh)->s.den->Prop
 | .int k,x=>(Lit.int k x).wf=ze
 | .bool,_=>True
 | .str,x=>x.length<=maxLen
 | .unit,_=>True
 | .pair a b,x=>a.wf x.1/\b.wf x.2
 | .sl _ e,x=>x.1<=maxLen/\∀i,i<x.1->e.wf (x.2 i)
def shRep(s:Sh):Nat->Sh
 |0=>.unit
 |n+1=>.pair s (shRep s n)
section
variable(P:Program)
def shFs(rec_:TypeId->Option Sh):List Field->Nat->Option (Sh×Nat)
 |[],o=>zi (.unit,o)
 |f::fs,o=>if f.offset=o then match rec_ f.type,shFs rec_ fs (o+P.cellsOf f.type)with
  |some a,zi (b,o')=>zi (.pair a b,o')
  |_,_=>zm
  else zm
def shOf:Nat->TypeId->Option Sh
 |0,_=>zm
 |k+1,t=>match P.underlying t with
  |some .bool=>if P.cellsOf t=1 then zi .bool else zm
  |some (.int k)=>if P.cellsOf t=1 then zi (.int k)else zm
  |some .string=>if P.cellsOf t=1 then zi .str else zm
  |some (.struct fs)=>match shFs P (shOf k) fs.toList 0 with
   |some (s,o)=>if o=P.cellsOf t then zi s else zm
   |none=>zm
  |some (.slice e)=>if P.cellsOf e=0\/P.cellsOf t≠1 then zm else match shOf k e with
   |some s=>zi (.sl (P.cellsOf e) s)
   |none=>zm
  |some (.array n e)=>if P.cellsOf t=n*P.cellsOf e/\n<=8 then match shOf k e with
   |some s=>zi (shRep s n)
   |none=>zm
   else zm
  |_=>zm
end
theorem GJ{α:Type}{p:Prop}[Decidable p]{a b:α}(h:(if p then zi a else zm)=zi b):p/\a=b:=by
 grind
variable{F:Nat->Prop}{w:World}{n:Nat}
theorem ZjM{m:Nat->Option Nat}:∀(s:Sh)(x:s.den)(tl:V)(xs ys:List Value),
  RL F w (s.push x .nil) n m xs->RL F w tl n m ys->RL F w (s.push x tl) n m (xs++ys):=by
 suffices H:∀(s:Sh)(x:s.den)(t1 t2:V)(xs ys:List Value),(∀zs,RL F w t1 n m zs->RL F w t2 n m (zs++ys))->RL F w (s.push x t1) n m xs->RL F w (s.push x t2) n m (xs++ys)from
  λs x tl xs ys h1 h2=>H s x .nil tl xs ys (λzs hz=>by simp only[RL]at hz;subst hz;exact h2) h1
 intro s
 induction s with
 |int k=>intro x t1 t2 xs ys ht h;obtain⟨a,r,rfl,h1,h2⟩:=h;exact⟨a,r++ys,rfl,h1,ht r h2⟩
 |bool=>intro x t1 t2 xs ys ht h;obtain⟨a,r,rfl,h1,h2⟩:=h;exact⟨a,r++ys,rfl,h1,ht r h2⟩
 |str=>intro x t1 t2 xs ys ht h;obtain⟨a,r,rfl,h1,h2⟩:=h;exact⟨a,r++ys,rfl,h1,ht r h2⟩
 |unit=>intro x t1 t2 xs ys ht h;exact ht xs h
 |pair a b iha ihb=>intro x t1 t2 xs ys ht h;exact iha x.1 _ _ xs ys (λzs hz=>ihb x.2 t1 t2 zs ys ht hz) h
 |sl es e ih=>intro x t1 t2 xs ys ht h;obtain⟨a,r,rfl,h1,h2⟩:=h;exact⟨a,r++ys,rfl,h1,ht r h2⟩
theorem Zqx{α β:Type}{f:α->Option β}:∀{l:List α}{r:List β},l.mapM f=zi r->r.length=l.length/\∀i(h:i<l.length),f l[i]=r[i]?:=by
 intro l
 induction l<;>grind[Option.bind_eq_bind,Option.bind_eq_some_iff,Option.pure_def,refine]
variable{base:Nat}
theorem ZhX{a:Addr}{cs:List Value}(h:w.cells? base a n=zi cs):cs.length=n/\∀i,i<n->w.cell? (a.add i)=cs[i]?:=by
 unfold World.cells? at h
 split at h
 ·obtain⟨h1,h2⟩:=Zqx h
  grind
 ·cases h
theorem ZjO(a:Addr)(h:a.spot=zm)(n:Nat):a.add n=⟨a.block,a.off+n,zm⟩:=by
 cases a
 simp only at h
 subst h
 unfold Addr.add
 grind
section
variable{H:Type}{enc:TypeId×Value->H}{P:Program}{w:World}{spare:Nat->Bool}{held:Bool}{F:Nat->Prop}
variable{fuel:Nat}{cs:List Value}
theorem sh_fs{k:Nat}
  (ih:∀t s,shOf P k t=zi s->∀cs d ps,DataW.trod enc P w 0 spare held fuel t cs=zi (d,ps)->(∀p∈ps,F p.block)->
   cs.length=P.cellsOf t/\∃x,RL F w (s.push x .nil) 0 (λ_=>zm) cs/\s.wf x) :
  ∀(fs:List Field)(o:Nat)(s:Sh)(o':Nat),shFs P (shOf P k) fs o=zi (s,o')->
   (∀f∈fs,∃d ps,DataW.trod enc P w 0 spare held fuel f.type ((cs.drop f.offset).take (P.cellsOf f.type))=zi (d,ps)/\∀p∈ps,F p.block)->
   o'=cs.length->∃x,RL F w (s.push x .nil) 0 (λ_=>zm) (cs.drop o)/\s.wf x:=by
 intro fs
 induction fs with
 |nil=>
  intro o s o' h _ ho
  simp only[shFs,Option.some.injEq,Prod.mk.injEq]at h
  obtain⟨rfl,rfl⟩:=h
  refine⟨(),?_,trivial⟩
  show RL F w .nil 0 _ _
  grind[RL,List.drop_length]
 |cons f fs ihf=>
  intro o s o' h hall ho
  simp only[shFs]at h
  split at h
  ·rename_i hoff
   split at h
   ·rename_i a b o'' ha hb
    simp only[Option.some.injEq,Prod.mk.injEq]at h
    obtain⟨rfl,rfl⟩:=h
    obtain⟨d,ps,h1,h2⟩:=hall f (List.mem_cons_self ..)
    obtain⟨hl,x,hx,hwx⟩:=ih f.type a ha _ d ps h1 h2
    obtain⟨y,hy,hwy⟩:=ihf _ b o'' hb (λg hg=>hall g (List.mem_cons_of_mem _ hg)) ho
    refine⟨(x,y),?_,hwx,hwy⟩
    have e:cs.drop o=(cs.drop f.offset).take (P.cellsOf f.type)++cs.drop (o+P.cellsOf f.type):=by
     grind[List.drop_drop,List.take_append_drop]
    rw[e]
    exact ZjM a x _ _ _ hx hy
   ·cases h
  ·cases h
theorem sh_rep{e:TypeId}{s:Sh}{z:Nat}
  (ih:∀cs d ps,DataW.trod enc P w 0 spare held fuel e cs=zi (d,ps)->(∀p∈ps,F p.block)->∃x,RL F w (s.push x .nil) 0 (λ_=>zm) cs/\s.wf x) :
  ∀(n o:Nat),(∀i,i<n->∃d ps,DataW.trod enc P w 0 spare held fuel e ((cs.drop ((o+i)*z)).take z)=zi (d,ps)/\∀p∈ps,F p.block)->cs.length=(o+n)*z->
   ∃x,RL F w ((shRep s n).push x .nil) 0 (λ_=>zm) (cs.drop (o*z))/\(shRep s n).wf x:=by
 intro n
 induction n with
 |zero=>
  intro o _ hl
  refine⟨(),?_,trivial⟩
  show RL F w .nil 0 _ _
  simp_all[RL,Nat.add_zero,List.drop_length]
 |succ n ihn=>
  intro o hall hl
  obtain⟨d,ps,h1,h2⟩:=hall 0 (by omega)
  obtain⟨x,hx,hwx⟩:=ih _ d ps h1 h2
  obtain⟨y,hy,hwy⟩:=ihn (o+1) (λi hi=>by
   have:=hall (i+1) (by omega)
   rwa[show o+(i+1)=o+1+i by omega]at this) (by rw[hl];congr 1;omega)
  refine⟨(x,y),?_,hwx,hwy⟩
  have e1:cs.drop (o*z)=(cs.drop ((o+0)*z)).take z++cs.drop ((o+1)*z):=by
   rw[Nat.add_zero,Nat.add_mul,Nat.one_mul,<- List.drop_drop,List.take_append_drop]
  rw[e1]
  exact ZjM s x _ _ _ hx hy
theorem sh_ok:∀(k:Nat)(t:TypeId)(s:Sh),shOf P k t=zi s->∀(fuel:Nat)(cs:List Value)(d:DataW H)(ps:List MemPlace),DataW.trod enc P w 0 spare held fuel t cs=zi (d,ps)->(∀p∈ps,F p.block)->
  cs.length=P.cellsOf t/\∃x,RL F w (s.push x .nil) 0 (λ_=>zm) cs/\s.wf x:=by
 intro k
 induction k with
 |zero=>intro t s h;cases h
 |succ k ih=>
  intro t s h fuel cs d ps hd hps
  simp only[shOf]at h
  split at h
  ·rename_i hu
   rcases GJ h with⟨h1,rfl⟩
   obtain⟨b,rfl,_⟩:=DataW.trod_bool hu hd
   exact⟨h1.symm,b,⟨_,[],rfl,rfl,rfl⟩,trivial⟩
  ·rename_i ik hu
   rcases GJ h with⟨h1,rfl⟩
   obtain⟨n,rfl,_,hw⟩:=DataW.trod_int hu hd
   exact⟨h1.symm,n,⟨_,[],rfl,rfl,rfl⟩,hw⟩
  ·rename_i hu
   rcases GJ h with⟨h1,rfl⟩
   obtain⟨b,rfl,_,hl⟩:=DataW.trod_string hu hd
   exact⟨h1.symm,b.data.toList,⟨_,[],rfl,rfl,rfl⟩,by simpa[Sh.wf]using hl⟩
  ·rename_i fs hu
   split at h
   ·rename_i s' o hs
    split at h
    ·rename_i ho
     cases h
     obtain⟨xs,n,rfl,hx,hlen,hxl,hf⟩:=DataW.trod_struct hu hd
     simp only[Prod.mk.injEq]at hx
     refine⟨hlen,?_⟩
     have:=sh_fs (enc:=enc) (spare:=spare) (held:=held) (fuel:=n) (cs:=cs) (λt s h cs d ps=>ih t s h n cs d ps) fs.toList 0 s o hs (λf hfm=>?_) (ho.trans hlen.symm)
     ·simpa using this
     ·obtain⟨i,hi,rfl⟩:=List.getElem_of_mem hfm
      have hi':i<fs.size:=by simpa using hi
      have h1:=hf i fs[i] (by simp[hi'])
      have hxi:i<xs.length:=by omega
      refine⟨xs[i].1,xs[i].2,?_,λp hp=>hps p ?_⟩
      ·simp only[Array.getElem_toList]
       rw[h1,List.getElem?_eq_getElem hxi]
      ·rw[hx.2]
       exact List.mem_flatMap.2 ⟨xs[i],List.getElem_mem _,hp⟩
    ·cases h
   ·cases h
  ·rename_i e hu
   split at h
   ·cases h
   ·rename_i hes'
    have hes:P.cellsOf e≠0:=λe0=>hes' (.inl e0)
    have hlen1:P.cellsOf t=1:=Classical.byContradiction λe0=>hes' (.inr e0)
    split at h
    ·rename_i s' hs
     cases h
     rcases DataW.trod_slice hu hd with⟨rfl,_⟩|⟨a,len,cap,elems,rest,n,rfl,rfl,hx,_,hlc,hcm,hlen,hel,_,_⟩
     ·refine⟨hlen1.symm,((0:Nat),λ_=>s'.dflt),⟨_,[],rfl,⟨zm,0,rfl,Nat.le_refl _,.inl rfl⟩,rfl⟩,Nat.zero_le _,λi hi=>absurd hi (yB _)⟩
     ·simp only[Prod.mk.injEq]at hx
      have hpl:∀p∈MemPlace.row a ((elems.length+rest.length)*P.cellsOf e)++(elems++rest).flatMap (·.2),F p.block:=λp hp=>hps p (by rw[hx.2];exact hp)
      have hi:∀i,i<len->∃cs',w.cells? 0 (a.add (i*P.cellsOf e)) (P.cellsOf e)=zi cs'/\∃x,RL F w (s'.push x .nil) 0 (λ_=>zm) cs'/\s'.wf x:=by
       intro i hil
       have h1:=hel i hil
       have hil':i<elems.length:=by omega
       rw[List.getElem?_eq_getElem hil']at h1
       obtain⟨cs',h2,h3⟩:=Option.bind_eq_some_iff.1 h1
       exact⟨cs',h2,(ih e s' hs n cs' elems[i].1 elems[i].2 h3 (λp hp=>hpl p (List.mem_append_right _ (List.mem_flatMap.2 ⟨elems[i],List.mem_append_left _ (List.getElem_mem _),hp⟩)))).2⟩
      refine⟨hlen1.symm,(len,λi=>if h:i<len then(hi i h).choose_spec.2.choose else s'.dflt),⟨_,[],rfl,⟨zi a,cap,rfl,hlc,?_⟩,rfl⟩,Nat.le_trans hlc hcm,λi hil=>?_⟩
      ·rcases Nat.eq_zero_or_pos len with h0|h0
       ·exact .inl h0
       ·refine .inr ?_
        have hpos:0<P.cellsOf e:=Nat.pos_of_ne_zero hes
        obtain⟨cs0,hc0,_⟩:=hi 0 h0
        obtain⟨hl0,hg0⟩:=ZhX hc0
        have hz:=hg0 0 hpos
        rw[List.getElem?_eq_getElem (by omega)]at hz
        have hz':w.cell? a=zi cs0[0]:=by simpa[Addr.add]using hz
        unfold World.cell? at hz'
        split at hz'
        ·rename_i c el fr hb
         split at hz'
         ·cases hz'
         ·rename_i hsp
          have hsp':a.spot=zm:=by simpa using hsp
          have ea:a=⟨a.block,a.off,zm⟩:=by cases a;simp_all
          refine⟨a.block,a.off,congrArg zi ea,hpl (.cell a.block a.off) (List.mem_append_left _ ?_),c,el,fr,hb,λj hj=>?_⟩
          ·exact List.mem_map.2 ⟨0,List.mem_range.2 (Nat.mul_pos (by omega) hpos),rfl⟩
          ·refine⟨(hi j hj).choose,?_,?_,λq hq=>?_⟩
           ·simp only[hj,dif_pos]
            exact(hi j hj).choose_spec.2.choose_spec.1
           ·exact(ZhX (hi j hj).choose_spec.1).1
           ·have h4:=(ZhX (hi j hj).choose_spec.1).2 q hq
            rw[<- h4]
            have eb:((a.add (j*P.cellsOf e)).add q)=⟨a.block,a.off+j*P.cellsOf e+q,zm⟩:=by
             rw[ZjO a hsp',ZjO _ rfl]
            rw[eb]
            simp[World.cell?,hb]
        ·cases hz'
      ·simp only[hil,dif_pos]
       exact(hi i hil).choose_spec.2.choose_spec.2
    ·cases h
  ·rename_i n e hu
   split at h
   ·rename_i hc
    split at h
    ·rename_i s' hs
     cases h
     obtain⟨xs,q,rfl,hx,hlen,hxl,hf⟩:=DataW.trod_array hu hd
     simp only[Prod.mk.injEq]at hx
     refine⟨hlen,?_⟩
     have:=sh_rep (enc:=enc) (spare:=spare) (held:=held) (fuel:=q) (cs:=cs) (s:=s') (z:=P.cellsOf e) (λcs d ps h1 h2=>(ih e s' hs q cs d ps h1 h2).2) n 0 (λi hi=>by
      have h1:=hf i hi
      have hxi:i<xs.length:=by omega
      refine⟨xs[i].1,xs[i].2,?_,λp hp=>hps p ?_⟩
      ·rw[zX,h1,List.getElem?_eq_getElem hxi]
      ·rw[hx.2]
       exact List.mem_flatMap.2 ⟨xs[i],List.getElem_mem _,hp⟩) (by rw[hlen,hc.1,zX])
     simpa using this
    ·cases h
   ·cases h
  ·cases h
theorem ZgU{k:Nat}{t:TypeId}{s:Sh}{v:Value}{d:DataW H}{ps:List MemPlace}(hs:shOf P k t=zi s)(hd:DataW.Trod enc P w 0 spare held t v d ps)(hps:∀p∈ps,F p.block) :
  ∃x,RL F w (s.push x .nil) 0 (λ_=>zm) v.cells.toList/\s.wf x:=by
 obtain⟨fuel,hf⟩:=hd
 exact(sh_ok k t s hs fuel _ d ps hf hps).2
end
def Sh.val(s:Sh)(x:s.den):V:=match s,x with
 | .int k,x=>.int za k x
 | .bool,x=>.bool za x
 | .str,x=>.str za x
 | .unit,_=>.agg .nil
 | .pair a b,x=>.agg (a.push x.1 (b.push x.2 .nil))
 | .sl es e,x=>.rsl za es x.1 λi=>e.push (x.2 i) .nil
variable{W:World}{k:Nat}
theorem sh_val{P:Program}{b0:Nat}{r:Reach}{t:TypeId}{s:Sh}{v:Value}(hs:shOf P (k+1) t=zi s)(hv:Value.okWide P W r b0 t v){x:s.den}
  (h:RL F w (s.push x .nil) 0 (λ_=>zm) v.cells.toList):R F w (s.val x) 0 (λ_=>zm) v:=by
 have scal:∀y:V,(∀z,P.underlying t=zi (.struct z)->False)->(∀z z',P.underlying t=zi (.array z z')->False)->RL F w (.cons y .nil) 0 (λ_=>zm) v.cells.toList->R F w y 0 (λ_=>zm) v:=by
  intro y h1 h2 h3
  obtain⟨a,r,e1,h4,h5⟩:=h3
  simp only[RL]at h5
  subst h5
  have:v.cells= #[v]:=by
   cases v with
   |agg cs=>
    exfalso
    simp only[Value.okWide]at hv
    unfold Cell.okWide at hv
    split at hv<;>simp_all[Cell.ok]
   |_=>rfl
  grind
 simp only[shOf]at hs
 split at hs
 ·rename_i hu
  obtain⟨_,rfl⟩:=GJ hs
  exact scal _ (by simp[hu]) (by simp[hu]) h
 ·rename_i ik hu
  obtain⟨_,rfl⟩:=GJ hs
  exact scal _ (by simp[hu]) (by simp[hu]) h
 ·rename_i hu
  obtain⟨_,rfl⟩:=GJ hs
  exact scal _ (by simp[hu]) (by simp[hu]) h
 ·rename_i fs hu
  obtain⟨cs,rfl,_⟩:=okWide_struct hu hv
  split at hs
  ·rename_i s' o hfs
   obtain⟨_,rfl⟩:=GJ hs
   cases hl:fs.toList with
   |nil=>
    rw[hl]at hfs
    simp only[shFs,Option.some.injEq,Prod.mk.injEq]at hfs
    obtain⟨rfl,_⟩:=hfs
    exact⟨cs,rfl,h⟩
   |cons f fs'=>
    rw[hl]at hfs
    simp only[shFs]at hfs
    split at hfs
    ·split at hfs
     ·simp only[Option.some.injEq,Prod.mk.injEq]at hfs
      obtain⟨rfl,_⟩:=hfs
      exact⟨cs,rfl,h⟩
     grind
    grind
  ·cases hs
 ·rename_i e hu
  split at hs
  ·cases hs
  ·split at hs
   ·cases hs
    exact scal _ (by simp[hu]) (by simp[hu]) h
   ·cases hs
 ·rename_i n' e hu
  obtain⟨cs,rfl⟩:∃cs,v=.agg cs:=by
   grind[Value.okWide]
  split at hs
  ·split at hs
   ·rename_i s' _
    cases hs
    cases n' with
    |zero=>exact⟨cs,rfl,h⟩
    |succ n'=>exact⟨cs,rfl,h⟩
   ·cases hs
  ·cases hs
 ·cases hs
def shAll(P:Program)(k:Nat):List TypeId->Option Sh
 |[]=>zi .unit
 |t::ts=>match shOf P k t,shAll P k ts with
  |some a,zi b=>zi (.pair a b)
  |_,_=>zm
def Sh.vals:(s:Sh)->s.den->V
 | .pair a b,x=>.cons (a.val x.1) (b.vals x.2)
 |_,_=>.nil
variable{H:Type}
theorem sh_all{enc:TypeId×Value->H}{P:Program}{b0:Nat}{r:Reach}{spare:Nat->Bool}{held:Bool} :
  ∀(ts:List TypeId)(s:Sh)(vs:List Value)(ds:List (DataW H))(ps:List MemPlace),shAll P (k+1) ts=zi s->DataW.TrodAll enc P w 0 spare held ts vs ds ps->
   (∀(j:Nat) t v,ts[j]? =zi t->vs[j]? =zi v->Value.okWide P w r b0 t v)->(∀p∈ps,F p.block)->
   ∃x,RL F w (s.vals x) 0 (λ_=>zm) vs/\s.wf x:=by
 intro ts
 induction ts with
 |nil=>
  intro s vs ds ps hs h _ _
  simp only[shAll,Option.some.injEq]at hs
  subst hs
  obtain⟨rfl,_,_⟩:=trodAll_nil h
  exact⟨(),rfl,trivial⟩
 |cons t ts ih=>
  intro s vs ds ps hs h hok hps
  simp only[shAll]at hs
  split at hs
  ·rename_i a b ha hb
   cases hs
   obtain⟨v,vs1,d,ds1,p,q,rfl,rfl,rfl,h1,h2⟩:=trodAll_cons h
   obtain⟨x,hx,hwx⟩:=ZgU ha h1 (λz hz=>hps z (List.mem_append_left _ hz))
   obtain⟨y,hy,hwy⟩:=ih b vs1 ds1 q hb h2 (λj t v h3 h4=>hok (j+1) t v (by simpa using h3) (by simpa using h4)) (λz hz=>hps z (List.mem_append_right _ hz))
   exact⟨(x,y),⟨v,vs1,rfl,sh_val ha (hok 0 t v rfl rfl) hx,hy⟩,hwx,hwy⟩
  ·cases hs
variable{W':World}
theorem ZrB{enc:TypeId×Value->H}{P:Program}(hl:laidOutB P=ze)(hs:∀p:MemPlace,p.block<W.heap.size->W.sameAt W' p) :
  ∀(ts:List TypeId)(vs:List Value)(ds:List (DataW H))(ps:List MemPlace),(ts.all λt=>P.readableRec t&&decide (t<P.types.size))=ze->DataW.TrodAll enc P W 0 (λ_=>ze) ze ts vs ds ps->
   (∀p∈ps,p.block<W.heap.size)->∀sp:Nat->Bool,(∀p∈ps,sp p.block=ze)->DataW.TrodAll enc P W' 0 sp ze ts vs ds ps:=by
 intro ts
 induction ts with
 |nil=>
  intro vs ds ps _ h _ sp _
  obtain⟨rfl,rfl,rfl⟩:=trodAll_nil h
  exact trodAll_mk0
 |cons t ts ih=>
  intro vs ds ps ht h hps sp hsp
  obtain⟨v,vs1,d,ds1,p,q,rfl,rfl,rfl,h1,h2⟩:=trodAll_cons h
  simp only[List.all_cons,zL,decide_eq_true_eq]at ht
  exact trodAll_cons_mk (WideElems.Trod_stays hl ht.1.1 ht.1.2 h1 (λz hz=>hs z (hps z (List.mem_append_left _ hz))) (λz hz=>hsp z (List.mem_append_left _ hz)))
   (ih vs1 ds1 q ht.2 h2 (λz hz=>hps z (List.mem_append_right _ hz)) sp (λz hz=>hsp z (List.mem_append_right _ hz)))
variable{s:ChangeSpec}{apart fresh handsOn again:Bool}{before:List MemPlace}{tb:TypeId}
theorem law_post{enc:TypeId×Value->H}{P:Program}{f:Func}{fresh handsOn again:Bool}{args:Array Value}{ds gs:List (DataW H)}
  (hW:DataW.Whole enc P f.params.toList s.vars apart W args.toList ds gs before)(hvars:s.vars=[])(hb:Below W.heap.size W W')(hl:laidOutB P=ze)
  (hr:(f.params.toList.all λt=>P.readableRec t&&decide (t<P.types.size))=ze)(ht:f.resultTypes= #[tb])(hu:P.underlying tb=zi .bool)
  (hfn:s.fn H (ds++gs)={ results:=[.lit (.bool ze)],args:=ds }):s.post enc P f apart fresh handsOn again W args (.bool ze) W':=by
 have hlt:=hW.lt
 have hW0:=hW
 obtain⟨p,q,hA,hV,rfl,hfz,hnd⟩:=hW
 have hA':∀sp:Nat->Bool,(∀z∈p++q,sp z.block=ze)->DataW.TrodAll enc P W' 0 sp ze f.params.toList args.toList ds p:=λsp hsp=>
  ZrB hl (λz hz=>hb.same hz) _ _ _ _ hr hA (λz hz=>hlt z (List.mem_append_left _ hz)) sp (λz hz=>hsp z (List.mem_append_left _ hz))
 have hV':q=[]/\∀sp:Nat->Bool,DataW.TrodVars enc P W' sp s.vars [] []:=by
  rw[hvars]at hV⊢
  obtain⟨_,h2⟩:=trodVars_none hV
  exact⟨h2,λsp=>rfl⟩
 obtain⟨rfl,hV'⟩:=hV'
 have hres:∀(b:Nat)(sp:Nat->Bool)(hd:Bool),DataW.TrodAll enc P W' b sp hd f.resultTypes.toList ((Value.bool ze).resultList f.resultTypes.size) [.lit (.bool ze)] []:=by
  intro b sp hd
  rw[ht]
  exact trodAll_cons_mk (shut_bool hu _) trodAll_mk0
 refine⟨ds,gs,p++[],[],p,[],hW0,?_,?_,?_,hb.frame _,λ_=>⟨ok_one ht rfl (okWide_bool_mk hu _),_,_,([]++p)++[],⟨[]++p,[],trodAll_append (hA' _ (λ_ _=>rfl)) (hres _ _ _),hV' _,rfl,?_,?_⟩,?_⟩⟩
 ·rw[hfn];exact hres _ _ _
 ·rw[hfn];exact hA' _ (λz hz=>by simpa using hlt z hz)
 ·rw[hfn];exact hV' _
 ·intro b off hp
  have hp':MemPlace.cell b off∈p++[]:=by simpa using hp
  have:=hlt _ hp'
  rw[hb.frozen (p:=⟨b,off,zm⟩) this]
  exact hfz b off hp'
 ·intro ha
  have:=hnd ha
  simpa using this
 ·intro z hz _
  simpa using hz
theorem Zqq{enc:TypeId×Value->H}{P:Program}{f:Func}{sh:Sh}{apart fresh handsOn again:Bool}{W:World}{base:Nat}{args:Array Value}{ds gs:List (DataW H)}{before:List MemPlace}
{st:Bool}(hmeets:∀x:sh.den,sh.wf x->Zh P n (sh.vals x) (.bool st ze))(hsh:shAll P (k+1) f.params.toList=zi sh)
  (hvars:s.vars=[])(hl:laidOutB P=ze)(hr:(f.params.toList.all λt=>P.readableRec t&&decide (t<P.types.size))=ze)(ht:f.resultTypes= #[tb])(hu:P.underlying tb=zi .bool)
  (hfn:∀ds:List (DataW H),ds.length=f.params.toList.length->s.fn H ds={ results:=[.lit (.bool ze)],args:=ds })
  (hgl:GOk (λB=>B<W.heap.size) W)
  (hval:∀(j:Nat) t v,f.params[j]? =zi t->args[j]? =zi v->Value.okWide P W .any base t v)
  (hW:DataW.Whole enc P f.params.toList s.vars apart W args.toList ds gs before) :
  Calls P n args W λe W'=>∃v,e=.returned v/\s.post enc P f apart fresh handsOn again W args v W':=by
 have hlt:=hW.lt
 have hW0:=hW
 obtain⟨p,q,hA,hV,rfl,hfz,hnd⟩:=hW
 have hg:gs=[]:=by
  rw[hvars]at hV
  exact(trodVars_none hV).1
 obtain⟨x,hx,hwf⟩:=sh_all (F:=λB=>B<W.heap.size) (k:=k) (b0:=base) (r:=.any) f.params.toList sh args.toList ds p hsh hA
  (λj t v h1 h2=>hval j t v (by simpa using h1) (by simpa using h2)) (λz hz=>hlt z (List.mem_append_left _ hz))
 refine((hmeets x hwf).2 (λB=>B<W.heap.size) W args (λ_ h=>h) hgl hx).mono λe W' ⟨v,F',he,hlat,hR⟩=>?_
 subst he
 simp only[R]at hR
 subst hR
 refine⟨_,rfl,law_post hW0 hvars ⟨hlat.calm.os,hlat.calm.tape,hlat.calm.output,hlat.size,hlat.keep⟩ hl hr ht hu ?_⟩
 subst hg
 rw[List.append_nil]
 refine hfn ds ?_
 have:∀(ts:List TypeId)(vs:List Value)(ds:List (DataW H))(p:List MemPlace),DataW.TrodAll enc P W 0 (λ_=>ze) ze ts vs ds p->ds.length=ts.length:=by
  intro ts
  induction ts with
  |nil=>
   intro vs ds p h
   obtain⟨_,rfl,_⟩:=trodAll_nil h
   rfl
  |cons t ts ih=>
   intro vs ds p h
   obtain⟨_,vs1,_,ds1,_,q,rfl,rfl,rfl,_,h2⟩:=trodAll_cons h
   grind
 grind
end Go.Fw
namespace Go.Proofs.YthhbdbeglmkijaaGreatDoor
open Go.Fw
def cutG(x:ZI):ZI:=⟨x.f0,ZU 17 x.n1,x.r1⟩
def Kh(g:Nat->ZI)(i j:Nat):ZI:=bif decide (j<i)then cutG (g j)else g j
def ZbG(e:Za)(i:Int):V:=.cons (.ptr ze 0 0 0 0) (.cons (.ptr ze 1 0 0 0) (.cons (.int za .i64 ((e.n5:Nat):Int)) (.cons (.int za .i64 i) .nil)))
def ZbH(e:Za)(z:Nat->ZI):List Blk:=[.var (ZaO 33 e),.var VQ,.arr 2 e.n5 (λj=>Zu za (z j))]
def ZgU(x:ZI):V:=.cons (.rsl za 1 x.n1 λj=>ZK za (x.r1 j)) (.cons (.int za .i64 17) .nil)
def sh_T(e:Za)(i:Int)(z:Nat->ZI):Tree (Ex×Bool×V×List Blk):=
 .node (bif decide (i<((e.n5:Nat):Int))then za else ze) (.leaf (.exit 0,ze,ZbG e i,ZbH e z))
  (.need (((0:Int)<=i/\i<((e.n5:Nat):Int))/\0+zk i<e.n5/\(ZgU (z (0+zk i))=ZgU (z (0+zk i))/\True)/\((0:Int)<=i/\i<((e.n5:Nat):Int))/\0+zk i<e.n5)
   (.leaf (.normal,ze,ZbG e (zD .i64 (i+1)),[.var (ZaO 33 e),.var VQ,.arr 2 e.n5 (λj=>bif zq j (0+zk i)then Zu za (cutG (z (0+zk i)))else Zu za (z j))])))
theorem sh_round(B:Base)(e:Za)(i:Int)(z:Nat->ZI):((ev (Zl P [UR] [] ze) 400 8 (QZ P 8 5) B (Yl 44 89 [1,2,43,44] [(0,.own),(1,.own),(33,.own)] (ZbG e i) (ZbH e z))).bind λx=>zw (x.1,vwN 44 44 89 [1,2,43,44] [(0,.own),(1,.own),(33,.own)] x.2))=sh_T e i z:=by kernel_rfl
def sh_lp(e:Za)(g:Nat->ZI):Lp:=⟨8,5,λ_ s=>match vwN 44 44 89 [1,2,43,44] [(0,.own),(1,.own),(33,.own)] s with
 |(ze,.cons (.ptr ze 0 0 0 0) (.cons (.ptr ze 1 0 0 0) (.cons (.int _ .i64 t2) (.cons (.int _ .i64 t3) .nil))),[.var u0,.var u1,.arr 2 n f])=>bif zq s.n 44 then .need (((e.n5:Nat):Int)=t2/\0=t3/\z8 u0=z8 (ZaO 33 e)/\z8 u1=z8 VQ/\e.n5=n/\∀j,(f j).soft=(Zu za (g j)).soft)
  (.leaf (.exit 0,Yl 44 89 [1,2,43,44] [(0,.own),(1,.own),(33,.own)] (ZbG e ((e.n5:Nat):Int)) (ZbH e (λj=>cutG (g j)))))else .stuck
 |_=>.stuck⟩
theorem ZoI(g:Nat->ZI)(i j:Nat):(bif zq j (0+zk (i:Int))then Zu za (cutG (Kh g i (0+zk (i:Int))))else Zu za (Kh g i j))=Zu za (Kh g (i+1) j):=by
 have e0:0+zk (i:Int)=i:=by omega
 rw[e0]
 unfold Kh
 by_cases h:j=i
 ·subst h
  rw[decide_eq_false (Nat.lt_irrefl j),decide_eq_true (Nat.lt_succ_self j),Nat.beq_refl];rfl
 ·have h0:zq j i=za:=by
   cases hb:zq j i
   ·rfl
   ·exact absurd (zO hb) h
  have h1:decide (j<i+1)=decide (j<i):=by
   rw[decide_eq_decide];omega
  rw[h0,h1];rfl
theorem cutTo_end(g:Nat->ZI)(i j:Nat)(h:j<i):Kh g i j=cutG (g j):=by
 unfold Kh
 rw[decide_eq_true h];rfl
theorem cutTo_0(g:Nat->ZI):Kh g 0=g:=by
 funext j
 unfold Kh
 rw[decide_eq_false (yB j)];rfl
theorem sh_lp_ok(e:Za)(g:Nat->ZI)(hl:e.n5<=1000):(sh_lp e g).Ok P:=by
 refine KW (by kernel_rfl) λhin B s Q hq=>?_
 dsimp only[sh_lp]at hq hin⊢
 split at hq
 ·rename_i q1 t2 q2 t3 u0 u1 n f heq
  cases hsn:zq s.n 44
  ·rw[hsn]at hq;exact hq.elim
  ·rw[hsn]at hq
   obtain⟨⟨rfl,rfl,hw0,hw1,rfl,hf⟩,hq⟩:=hq
   have hsame:WT 44 44 89 [1,2,43,44] [(0,.own),(1,.own),(33,.own)] s (ZbG e 0) (ZbH e (Kh g 0)):=by
    rw[cutTo_0]
    refine⟨by rw[heq],by rw[heq];exact Le.soft rfl,by rw[heq];exact⟨LeK.var (Le.soft hw0),LeK.var (Le.soft hw1),LeK.Jb rfl (λj _=>hf j),trivial⟩⟩
   refine ZiT (k:=400) (f:=8) (Zw hm hn (l:=[UR]) ⟨ZhD,trivial⟩ (ls:=[]) trivial ze) rfl hin e.n5 (λi=>ZbG e i) (λi=>ZbH e (Kh g i)) (λ_=>True) Q (λi=>sh_round B e i (Kh g i)) (λi hi hg=>?_) (zO hsn) trivial hsame
   refine⟨λhc=>?_,λhc=>?_⟩
   ·have hge:¬((i:Int)<((e.n5:Nat):Int)):=λh=>by rw[decide_eq_true h]at hc;cases hc
    have ei:i=e.n5:=by omega
    subst ei
    exact⟨rfl,_,ZbH e (λj=>cutG (g j)),Le.refl _,⟨LeK.refl _,LeK.refl _,LeK.arr rfl (λj hj=>by rw[cutTo_end g _ j hj]),trivial⟩,hq⟩
   ·have hlt:((i:Int)<((e.n5:Nat):Int)):=by
     apply Classical.byContradiction;intro h;rw[decide_eq_false h]at hc;cases hc
    refine⟨⟨⟨by omega,hlt⟩,by omega,⟨rfl,trivial⟩,⟨by omega,hlt⟩,by omega⟩,?_⟩
    rw[IntWalk.i64_in ((i:Int)+1) ⟨by omega,by omega⟩]
    exact⟨rfl,by omega,trivial,Le.soft rfl,⟨LeK.refl _,LeK.refl _,LeK.arr rfl (λj hj=>ZoI g i j),trivial⟩⟩
 ·exact hq.elim
def cutA(a:Za):Za:={ a with n1:=ZU 9 a.n1,n2:=ZU 5 a.n2,n3:=ZU 9 a.n3,n4:=ZU 17 a.n4,n5:=ZU 9 a.n5,n8:=ZU 33 a.n8 }
def WY(a:Za):Za:={ cutA a with n6:=ZU 17 a.n6,n7:=ZU 9 a.n7,n10:=ZU 33 a.n10,n11:=ZU 17 a.n11,n12:=ZU 9 a.n12,r5:=λj=>cutG (a.r5 j) }
def K3(v:V):Prop:=v=v/\True
theorem Zrq(a:Za):ZT (Zl P [Zhy,Zhz,ZhA,ZhB,ZhC,UR,ZhE,ZhF,ZhG,ZhH,ZhI] [sh_lp (cutA a) (λj=>a.r5 j)] ze) 400 8 (.cons (.agg (Z7 za a)) .nil)=
 .need (K3 (.cons (.rsl za 2 a.n1 λj=>Z9 za (a.r1 j)) (.cons (.int za .i64 9) .nil))) (.need (K3 (.cons (.rsl za 1 a.n2 λj=>Z8 za (a.r2 j)) (.cons (.int za .i64 5) .nil))) (.need (K3 (.cons (.rsl za 4 a.n3 λj=>Zv za (a.r3 j)) (.cons (.int za .i64 9) .nil))) (.need (K3 (.cons (.rsl za 4 a.n4 λj=>Zt za (a.r4 j)) (.cons (.int za .i64 17) .nil))) (.need ((0:Int)<=cutI 9 a.n5/\cutI 9 a.n5<=((a.n5:Nat):Int)) (.need (True/\fits (ZU 9 a.n5-0) 32/\∀(j:Nat),j<ZU 9 a.n5-0->V.YN (Zu za (a.r5 (0+j)))=ze/\V.clean (Zu za (a.r5 (0+j)))=ze) (.need (K3 (.cons (.rsl za 5 a.n8 λj=>ZP za (a.r8 j)) (.cons (.int za .i64 33) .nil))) (.need ((((cutA a).n5:Nat):Int)=((ZU 9 a.n5-0:Nat):Int)/\(0:Int)=0/\z8 (ZaO 33 (cutA a))=z8 (ZaO 33 (cutA a))/\z8 VQ=z8 VQ/\(cutA a).n5=(cutA a).n5/\∀j,(Zu za (a.r5 (0+j))).soft=(Zu za (a.r5 j)).soft) (.need (K3 (.cons (.rsl za 3 a.n11 λj=>ZF za (a.r11 j)) (.cons (.int za .i64 17) .nil))) (.need (K3 (.cons (.rsl za 2 a.n10 λj=>ZC za (a.r10 j)) (.cons (.int za .i64 33) .nil))) (.need (K3 (.cons (.rsl za 11 a.n6 λj=>Zy za (a.r6 j)) (.cons (.int za .i64 17) .nil))) (.need (K3 (.cons (.rsl za 2 a.n7 λj=>Z0 za (a.r7 j)) (.cons (.int za .i64 9) .nil))) (.need (K3 (.cons (.rsl za 2 a.n12 λj=>ZB za (a.r12 j)) (.cons (.int za .i64 9) .nil))) (.need (0+ZU 9 a.n5<=ZU 9 a.n5) (.leaf (.agg (Z7 za { WY a with r5:=λj=>cutG (a.r5 (0+j)) })))))))))))))))):=by kernel_rfl
theorem Zrp(a:Za):Zh P 8 (.cons (.agg (Z7 za a)) .nil) (.agg (Z7 za (WY a))):=by
 refine meets (Zw hm hn (l:=[Zhy,Zhz,ZhA,ZhB,ZhC,UR,ZhE,ZhF,ZhG,ZhH,ZhI]) ⟨ZnT,ZnU,ZnV,ZnW,ZnX,ZhD,ZnY,ZnZ,Zn0,Zn1,Zn2,trivial⟩ (ls:=[sh_lp (cutA a) (λj=>a.r5 j)]) ⟨sh_lp_ok _ _ (Nat.le_trans (Jc (m:=9)).1 (by decide)),trivial⟩ ze) 400 (Has.of hn Tryz.func8 rfl) (Zrq a) ?_
 refine⟨⟨rfl,trivial⟩,⟨rfl,trivial⟩,⟨rfl,trivial⟩,⟨rfl,trivial⟩,Zkq (m:=9),⟨trivial,Zkp (m:=9) (by decide),λj _=>⟨rfl,rfl⟩⟩,⟨rfl,trivial⟩,⟨rfl,rfl,rfl,rfl,rfl,λj=>by rw[zX]⟩,⟨rfl,trivial⟩,⟨rfl,trivial⟩,⟨rfl,trivial⟩,⟨rfl,trivial⟩,⟨rfl,trivial⟩,Nat.le_of_eq (zX _),rfl,?_⟩
 have e:(λj=>cutG (a.r5 (0+j)))=λj=>cutG (a.r5 j):=by funext j;rw[zX]
 rw[e]
 rfl
theorem Zko(a:Za):(WY a).n1<=9/\(WY a).n2<=5/\(WY a).n3<=9/\(WY a).n4<=17/\(WY a).n5<=9/\(WY a).n6<=17/\(WY a).n8<=33/\(WY a).n10<=33/\(WY a).n11<=17/\(WY a).n12<=9/\∀j,((WY a).r5 j).n1<=17:=
 ⟨(Jc (m:=9)).1,(Jc (m:=5)).1,(Jc (m:=9)).1,(Jc (m:=17)).1,(Jc (m:=9)).1,(Jc (m:=17)).1,(Jc (m:=33)).1,(Jc (m:=33)).1,(Jc (m:=17)).1,(Jc (m:=9)).1,λj=>(Jc (m:=17)).1⟩
theorem vcheck0:ZT (Zl P [] [] ze) 400 60 (.cons (.agg (.cons (.int ze .i64 0) (.cons .Zo (.cons .Zo .nil)))) .nil)=.leaf (.int ze .i64 0):=by
 rw[<- ZcP ZaX]
 kernel_rfl
theorem Zr0:Zh P 60 (.cons (.agg (.cons (.int ze .i64 0) (.cons .Zo (.cons .Zo .nil)))) .nil) (.int ze .i64 0):=
 meets (E:=en []) (Gg (l:=[]) trivial) 400 (Has.of hn Tryz.func60 rfl) vcheck0 ⟨rfl,rfl⟩
def Wn:Con:={ g:=60,al:=ze,ans:=λx=>match x with
 | .cons (.agg (.cons (.int _ .i64 (.ofNat 0)) (.cons .Zo (.cons .Zo .nil)))) .nil=>zi (.sure (.int ze .i64 0))
 |_=>zm }
theorem ZaJ:Wn.Ok P:=by
 intro x
 dsimp only[Wn]
 split
 ·rename_i h
  split at h
  ·injection h with h;injection h with h;subst h
   exact Zr0
  ·cases h
 ·rename_i h
  split at h<;>cases h
 ·rename_i h
  split at h<;>cases h
 ·trivial
theorem Zrs(z:Int):ZT (en [Wn]) 400 71 (.cons (.agg (.cons (.int ze .i64 0) (.cons .Zo (.cons .Zo .nil)))) (.cons (.int za .i64 z) .nil))=
  zB (bif !bif decide (z>=(1:Int))then decide (z<=(16:Int))else za then ze else za) (.leaf (.tup (.cons (.int ze .i64 0) (.cons (.bool ze za) .nil)))) (.leaf (.tup (.cons (.int ze .i64 0) (.cons (.bool ze za) .nil)))):=by kernel_rfl
theorem Zrr(z:Int):Zh P 71 (.cons (.agg (.cons (.int ze .i64 0) (.cons .Zo (.cons .Zo .nil)))) (.cons (.int za .i64 z) .nil)) (.tup (.cons (.int ze .i64 0) (.cons (.bool ze za) .nil))):=
 meets (E:=en [Wn]) (Gg (l:=[Wn]) ⟨ZaJ,trivial⟩) 400 (Has.of hn Tryz.func71 rfl) (Zrs z) ⟨λ_=>⟨rfl,rfl⟩,λ_=>⟨rfl,rfl⟩⟩
def WL:Con:={ g:=71,al:=ze,ans:=λx=>match x with
 | .cons (.agg (.cons (.int _ .i64 (.ofNat 0)) (.cons .Zo (.cons .Zo .nil)))) (.cons (.int _ .i64 _) .nil)=>zi (.sure (.tup (.cons (.int ze .i64 0) (.cons (.bool ze za) .nil))))
 |_=>zm }
theorem Zcr:WL.Ok P:=by
 intro x
 dsimp only[WL]
 split
 ·rename_i h
  split at h
  ·injection h with h;injection h with h;subst h
   exact Zrr _
  ·cases h
 ·rename_i h
  split at h<;>cases h
 ·rename_i h
  split at h<;>cases h
 ·trivial
def m60_0_a:V:=(.cons (.agg (.cons (.rsl ze 4 1 (Jz [(.cons (.int ze .i64 1) (.cons (.int ze .i64 256) (.cons (.int ze .i64 0) (.cons (.int ze .i64 0) .nil))))])) (.cons (.rsl ze 4 2 (Jz [(.cons (.int ze .i64 1) (.cons (.int ze .i64 1) (.cons (.int ze .u32 3) (.cons (.int ze .u32 0) .nil)))),(.cons (.int ze .i64 2) (.cons (.int ze .i64 1) (.cons (.int ze .u32 3) (.cons (.int ze .u32 0) .nil))))])) .nil))) .nil)
def m60_0_r:V:=(.int ze .i64 0)
theorem m60_0:Zh P 57 m60_0_a m60_0_r:=
 Zgn (E:=Zl P [Wn,WL] [] ze) (gs:=Yc [Wn,WL]) ZaX (Gg (l:=[Wn,WL]) ⟨ZaJ,Zcr,trivial⟩) 400 (Has.of hn Tryz.func57 rfl) (by kernel_rfl) rfl
def QL:Con:=Zf5 57 [(m60_0_a,m60_0_r)]
theorem Zfi:QL.Ok P:=ZiO ⟨m60_0,trivial⟩
def ZlF:V:=(.cons (.agg (.cons (.rsl ze 4 1 (Jz [(.cons (.int ze .i64 1) (.cons (.int ze .i64 256) (.cons (.int ze .i64 0) (.cons (.int ze .i64 0) .nil))))])) (.cons (.rsl ze 4 2 (Jz [(.cons (.int ze .i64 1) (.cons (.int ze .i64 1) (.cons (.int ze .u32 3) (.cons (.int ze .u32 0) .nil)))),(.cons (.int ze .i64 2) (.cons (.int ze .i64 1) (.cons (.int ze .u32 3) (.cons (.int ze .u32 0) .nil))))])) .nil))) (.cons (.int ze .i64 1) .nil))
def ZlG:V:=(.tup (.cons (.agg (.cons (.int ze .i64 1) (.cons (.int ze .i64 1) (.cons (.int ze .u32 3) (.cons (.int ze .u32 0) .nil))))) (.cons (.bool ze ze) .nil)))
theorem m186_0:Zh P 110 ZlF ZlG:=
 Zgn (E:=Zl P [Wn,WL,QL] [] ze) (gs:=Yc [Wn,WL,QL]) ZaX (Gg (l:=[Wn,WL,QL]) ⟨ZaJ,Zcr,Zfi,trivial⟩) 400 (Has.of hn Tryz.func110 rfl) (by kernel_rfl) rfl
def ZlH:V:=(.cons (.agg (.cons (.rsl ze 4 1 (Jz [(.cons (.int ze .i64 1) (.cons (.int ze .i64 256) (.cons (.int ze .i64 0) (.cons (.int ze .i64 0) .nil))))])) (.cons (.rsl ze 4 2 (Jz [(.cons (.int ze .i64 1) (.cons (.int ze .i64 1) (.cons (.int ze .u32 3) (.cons (.int ze .u32 0) .nil)))),(.cons (.int ze .i64 2) (.cons (.int ze .i64 1) (.cons (.int ze .u32 3) (.cons (.int ze .u32 0) .nil))))])) .nil))) (.cons (.int ze .i64 2) .nil))
def ZlI:V:=(.tup (.cons (.agg (.cons (.int ze .i64 2) (.cons (.int ze .i64 1) (.cons (.int ze .u32 3) (.cons (.int ze .u32 0) .nil))))) (.cons (.bool ze ze) .nil)))
theorem m186_1:Zh P 110 ZlH ZlI:=
 Zgn (E:=Zl P [Wn,WL,QL] [] ze) (gs:=Yc [Wn,WL,QL]) ZaX (Gg (l:=[Wn,WL,QL]) ⟨ZaJ,Zcr,Zfi,trivial⟩) 400 (Has.of hn Tryz.func110 rfl) (by kernel_rfl) rfl
def Vh:Con:=Zf5 110 [(ZlF,ZlG),(ZlH,ZlI)]
theorem Zj9:Vh.Ok P:=ZiO ⟨m186_0,m186_1,trivial⟩
def m20_0_a:V:=(.cons (.agg (.cons (.int ze .i64 0) (.cons (.rsl ze 2 2 (Jz [(.cons (.int ze .i64 0) (.cons (.int ze .i64 0) .nil)),(.cons (.int ze .i64 0) (.cons (.int ze .i64 1) .nil))])) (.cons (.rsl ze 1 1 (Jz [(.cons (.int ze .u32 3) .nil)])) (.cons (.rsl ze 4 1 (Jz [(.cons (.int ze .i64 1) (.cons (.int ze .i64 256) (.cons (.int ze .i64 0) (.cons (.int ze .i64 0) .nil))))])) (.cons (.rsl ze 4 2 (Jz [(.cons (.int ze .i64 1) (.cons (.int ze .i64 1) (.cons (.int ze .u32 3) (.cons (.int ze .u32 0) .nil)))),(.cons (.int ze .i64 2) (.cons (.int ze .i64 1) (.cons (.int ze .u32 3) (.cons (.int ze .u32 0) .nil))))])) (.cons .Zo (.cons (.rsl ze 11 2 (Jz [(.cons (.int ze .i64 1) (.cons (.int ze .i64 1) (.cons (.int ze .i64 0) (.cons (.int ze .u32 0) (.cons (.int ze .i64 0) (.cons (.int ze .u64 0) (.cons (.int ze .u64 0) (.cons (.int ze .u64 256) (.cons (.int ze .u64 1) (.cons (.int ze .i64 0) (.cons (.int ze .i64 0) .nil))))))))))),(.cons (.int ze .i64 2) (.cons (.int ze .i64 1) (.cons (.int ze .i64 0) (.cons (.int ze .u32 0) (.cons (.int ze .i64 0) (.cons (.int ze .u64 0) (.cons (.int ze .u64 0) (.cons (.int ze .u64 256) (.cons (.int ze .u64 2) (.cons (.int ze .i64 0) (.cons (.int ze .i64 0) .nil)))))))))))])) (.cons (.rsl ze 2 1 (Jz [(.cons (.int ze .i64 0) (.cons (.int ze .i64 0) .nil))])) (.cons .Zo (.cons (.int ze .i64 0) (.cons .Zo (.cons .Zo (.cons (.rsl ze 2 2 (Jz [(.cons (.int ze .i64 1) (.cons (.int ze .i64 0) .nil)),(.cons (.int ze .i64 2) (.cons (.int ze .i64 1) .nil))])) (.cons (.int ze .u64 2) .nil))))))))))))))) .nil)
def m20_0_r:V:=(.int ze .i64 0)
theorem m20_0:Zh P 9 m20_0_a m20_0_r:=
 Zgn (E:=Zl P [Wn,WL,QL,Vh] [] ze) (gs:=Yc [Wn,WL,QL,Vh]) ZaX (Gg (l:=[Wn,WL,QL,Vh]) ⟨ZaJ,Zcr,Zfi,Zj9,trivial⟩) 400 (Has.of hn Tryz.func9 rfl) (by kernel_rfl) rfl
def ZaE:Con:=Zf5 9 [(m20_0_a,m20_0_r)]
theorem c_m20_ok:ZaE.Ok P:=ZiO ⟨m20_0,trivial⟩
end Go.Proofs.YthhbdbeglmkijaaGreatDoor
end
