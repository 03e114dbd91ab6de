/- lose: its loop, where nobody is lost -/
import Derived.Test.YthhbdbeglmkijaaGreatDoorMAg
import Derived.Test.YthhbdbeglmkijaaGreatDoorMAp
import Derived.Test.YthhbdbeglmkijaaGreatDoorMAl
import Derived.Test.YthhbdbeglmkijaaGreatDoorMAk
import Derived.Test.YthhbdbeglmkijaaGreatDoorMAh
import Derived.Test.YthhbdbeglmkijaaGreatDoorMAe
import Derived.Shelf.Spec.SlicesInsert
import Derived.Lib.AppendZerosOnto
set_option maxRecDepth 100000
set_option linter.unusedVariables false
set_option linter.unusedSimpArgs false
noncomputable section
open Bool renaming true→ze,false→za,not_eq_true'→yg,not_eq_false'→yw,and_eq_true→zL,and_eq_false_iff→yE
open Go.Fw.V renaming rsl→zl,cons→zf,int→zn,nil→zh,soft→z8,ptr→zQ,agg→zJ
open Go.Fw.Tree renaming leaf→zw,need→zu,node→zB
open Go.IntKind renaming wrap→zD,bits→zY
open Go.Fw.Blk renaming var→zN
open Int renaming toNat→zk
open BitVec renaming toNat→yF,ofInt→yc
open And renaming intro→zy
open Prod renaming fst→zR,snd→zx
open Nat renaming blt→zG,beq→zq,ble→zK,le_refl→zI,eq_of_beq_eq_true→zO,mul_le_mul_right→yx,zero_add→zX
open Option renaming some→zi,none→zm
open Go.Builtin renaming zeroCells→yC
namespace Go.Proofs.YthhbdbeglmkijaaGreatDoor
open Go.Fw
abbrev lq_ts(d:Za)(p:Zj)(gu:Zf)(ga:Zc)(no:Nat)(orr:Nat->Zq)(np:Nat)(pr:Nat->ZA)(sa:Int)(la:Int)(mn:Nat)(mr:Nat->DT3)(i:Int)(z:Unit):V:=(.cons (.ptr ze 0 0 0 0) (.cons (.osl za 2 2 0 np) (.cons (.int za .i64 ((np:Nat):Int)) (.cons (.int za .i64 i) .nil))))
abbrev lq_ys(d:Za)(p:Zj)(gu:Zf)(ga:Zc)(no:Nat)(orr:Nat->Zq)(np:Nat)(pr:Nat->ZA)(sa:Int)(la:Int)(mn:Nat)(mr:Nat->DT3)(i:Int)(z:Unit):List Blk:=[.var (chO d p gu ga no np la (.rsl za 1 mn λj=>ZK za (mr j)) sa),.arr 11 no (λj=>Zy za (orr j)),.arr 2 np (λj=>ZB za (pr j))]
def lq_R(d:Za)(p:Zj)(gu:Zf)(ga:Zc)(no:Nat)(orr:Nat->Zq)(np:Nat)(pr:Nat->ZA)(sa:Int)(la:Int)(mn:Nat)(mr:Nat->DT3)(i:Int)(z:Unit):Tree Rd:=
 let q12:=(zl za 2 d.n1 λj=>Z9 za (d.3 j))
 let q5:=(zl za 1 p.n0 λj=>zf (zn za .u32 (p.2 j).f0) zh)
 let q6:=(zl za 4 gu.n0 λj=>Zv za (gu.2 j))
 let q10:=(zl za 4 gu.n1 λj=>Zt za (gu.4 j))
 let q2:=(zl za 2 ga.n0 λj=>ci (ga.2 j).f0 (zf (zl za 1 (ga.2 j).n1 λj_1=>ci ((ga.2 j).r1 j_1).f0 zh) zh))
 let q7:=(zl za 2 d.n7 λj=>Z0 za (d.15 j))
 let q11:=(zl za 5 d.n8 λj=>ZP za (d.17 j))
 let q8:=(zl za 2 d.n10 λj=>ZC za (d.20 j))
 let q9:=(zl za 3 d.n11 λj=>ZF za (d.22 j))
 let q3:=(zf (zn za .u64 la) (zf (zl za 1 mn λjj=>ci (mr jj).f0 zh) (ci sa zh)))
 let q0:=(zw (Ex.normal,ze,zf (pt 0) (zf (V.osl za 2 2 0 np) (ci (np:Int) (ci (zD .i64 (i+(1:Int))) zh))),[zN (ci d.f0 (zf q12 (zf q5 (zf q6 (zf q10 (zf q2 (zf (V.osl za 1 11 0 no) (zf q7 (zf q11 (ci d.f9 (zf q8 (zf q9 (zf (V.osl za 2 2 0 np) q3))))))))))))),Blk.arr 11 no λjj=>Zy za (orr jj),Blk.arr 2 np λjj=>ZB za (pr jj)]))
 let q1:=(pr ((Nat.brecOn.go (motive:=λx=>Nat->Nat) (Int.rec (λa=>a) (λa=>(0:Nat)) i) Nat.add._f).1 (0:Nat)))
 let q4:=(pr ((0:Nat)+zk i))
 zu ((0:Int)<=i/\i<(np:Int)) (zu ((0:Nat)+zk i<np) (zu ((0:Nat)+no<=no/\(0:Nat)+np<=np) (zu (sR (zf (V.rptr ze (16:Nat) (1:Nat) (λjj=>ci d.f0 (zf q12 (zf q5 (zf q6 (zf q10 (zf q2 (zf (zl za 11 no λj=>Zy za (orr ((0:Nat)+j))) (zf q7 (zf q11 (ci d.f9 (zf q8 (zf q9 (zf (zl za 2 np λj=>ZB za (pr ((0:Nat)+j))) q3))))))))))))) (0:Nat) (0:Nat)) (ci q4.f0 zh)) (zf (V.rptr za (16:Nat) (1:Nat) (λjj=>ci d.f0 (zf (zl za 2 d.n1 λj=>Z9 za (d.3 j)) (zf (zl za 1 p.n0 λj=>zf (zn za .u32 (p.2 j).f0) zh) (zf (zl za 4 gu.n0 λj=>Zv za (gu.2 j)) (zf (zl za 4 gu.n1 λj=>Zt za (gu.4 j)) (zf (zl za 2 ga.n0 λj=>ci (ga.2 j).f0 (zf (zl za 1 (ga.2 j).n1 λj_1=>ci ((ga.2 j).r1 j_1).f0 zh) zh)) (zf (zl za 11 no λj=>Zy za (orr ((0:Nat)+j))) (zf (zl za 2 d.n7 λj=>Z0 za (d.15 j)) (zf (zl za 5 d.n8 λj=>ZP za (d.17 j)) (ci d.f9 (zf (zl za 2 d.n10 λj=>ZC za (d.20 j)) (zf (zl za 3 d.n11 λj=>ZF za (d.22 j)) (zf (zl za 2 np λj=>ZB za (pr ((0:Nat)+j))) (zf (zn za .u64 la) (zf (zl za 1 mn λj=>ci (mr j).f0 zh) (ci sa zh)))))))))))))))) (0:Nat) (0:Nat)) (ci q4.f0 zh))/\gu.n0<=(1000:Nat)/\gu.n1<=(1000:Nat)/\((0:Int)<=Zm gu q1.1/\Zm gu q1.1<((gu.n0:Nat):Int))/\(0:Int)<=(gu.2 (zk (Zm gu q1.1))).f3/\(gu.2 (zk (Zm gu q1.1))).f3<((p.n0:Nat):Int)) (zB (bif bif decide (q4.f1<(0:Int))then ze else decide (q4.f1>=(8:Int))then ze else za) (zu ((zD .u32 ((yF (yc (zY .u32) (YF p gu q1.1)&&& yc (zY .u32) (0:Int)):Nat):Int) != (0:Int))=ze) q0) (zu ((0:Int)<=q4.f1) (zu ((zD .u32 ((yF (yc (zY .u32) (YF p gu q1.1)&&& yc (zY .u32) (zD .u32 ((1:Int)*(2:Int)^min (zk q4.f1) (zY .u32)))):Nat):Int) != (0:Int))=ze) q0))))))
theorem lq_round(d:Za)(p:Zj)(gu:Zf)(ga:Zc)(no:Nat)(orr:Nat->Zq)(np:Nat)(pr:Nat->ZA)(sa:Int)(la:Int)(mn:Nat)(mr:Nat->DT3):Yi P { (Zl P [KI] [] ze)with way:=KC [(145,22,ze)] } 145 1 3 3 54 [0,10,11,12] [(0,.own),(1,.own),(2,.own)] [] (lq_ts d p gu ga no orr np pr sa la mn mr) (lq_ys d p gu ga no orr np pr sa la mn mr) (λi=>(bif decide (i<(np:Int))then za else ze)) (.exit 0) (lq_R d p gu ga no orr np pr sa la mn mr):=λB i z=>by kernel_rfl
def lq_lp(d:Za)(p:Zj)(gu:Zf)(ga:Zc)(no:Nat)(orr:Nat->Zq)(np:Nat)(pr:Nat->ZA)(sa:Int)(la:Int)(mn:Nat)(mr:Nat->DT3):Lp:=Js 145 1 3 3 54 [0,10,11,12] [(0,.own),(1,.own),(2,.own)] [] (lq_ts d p gu ga no orr np pr sa la mn mr) (lq_ys d p gu ga no orr np pr sa la mn mr) (.exit 0) () (λ_=>()) (np)
theorem lq_lp_ok(d:Za)(p:Zj)(gu:Zf)(ga:Zc)(no:Nat)(orr:Nat->Zq)(np:Nat)(pr:Nat->ZA)(sa:Int)(la:Int)(mn:Nat)(mr:Nat->DT3)(hl:np<=100)(hg0:gu.n0<=1000)(hg1:gu.n1<=1000)(hM:∀j,j<np->(0<=Zm gu (pr j).f0/\Zm gu (pr j).f0<gu.n0)/\0<=(gu.r0 (Zm gu (pr j).f0).toNat).f3/\(gu.r0 (Zm gu (pr j).f0).toNat).f3<p.n0)(hH:∀j,j<np->WA (YF p gu (pr j).f0) (pr j).f1=ze):(lq_lp d p gu ga no orr np pr sa la mn mr).Ok P:=by
 refine JZ ((Zw hm hn (l:=[KI]) ⟨ZeZ,trivial⟩ (ls:=[]) trivial ze).Zjr (KC [(145,22,ze)])) rfl (by kernel_rfl) (lq_round d p gu ga no orr np pr sa la mn mr) exN Yv (λ_=>rfl) (step:=λ_ z=>z) (rd:=(λ_ t y=>())) (λi z=>rfl) (λi=>(cS rfl rfl)) rfl (λi hlt hg=>?_) (λi z hi=>?_)
 ·have hltI:(i:Int)<((np:Nat):Int):=by omega
  refine⟨?_,⟨?_,⟨?_,⟨?_,⟨λhb0=>⟨?_,trivial⟩,λhb0=>⟨?_,⟨?_,trivial⟩⟩⟩⟩⟩⟩⟩
  all_goals(repeat'(first|exact rfl|exact λ_=>⟨rfl,rfl⟩|apply zy|intro _))
  all_goals(try simp only[decide_eq_true_eq,decide_eq_false_iff_not,yg,yw]at*)
  all_goals(try simp(disch:=omega) only[IntWalk.i64_in])
  all_goals(first|omega|exact(by show(0:Int)<=Zm _ _;exact cast (by kernel_rfl) ((hM (0+zk (i:Int)) (by omega)).1.1))|exact(by show Zm _ _<_;exact cast (by kernel_rfl) ((hM (0+zk (i:Int)) (by omega)).1.2))|exact(by show(0:Int)<=(gu.r0 _).f3;exact cast (by kernel_rfl) ((hM (0+zk (i:Int)) (by omega)).2.1))|exact(by show(gu.r0 _).f3<_;exact cast (by kernel_rfl) ((hM (0+zk (i:Int)) (by omega)).2.2))|exact(by show _=ze;have hb:_=ze:=hb0;exact cast (by kernel_rfl) (hasT (hH (0+zk (i:Int)) (by omega)) (cast (by kernel_rfl) hb0)))|exact(by show _=ze;have hb:_=za:=hb0;exact cast (by kernel_rfl) (hasF (hH (0+zk (i:Int)) (by omega)) (cast (by kernel_rfl) hb0)))|exact(by simp at*;omega))
 ·have hw:=(IntWalk.i64_in ((i:Int)+1) ⟨by omega,by omega⟩)
  refine⟨?_,?_⟩
  all_goals exact⟨rfl,Yq (ts:=lq_ts d p gu ga no orr np pr sa la mn mr) (a:=()) hw rfl,⟨LeK.refl _,LeK.Jb rfl (λj hj=>congrArg z8 (by first|rfl|exact UN (c:=Zy za) (r:=orr) j)),LeK.Jb rfl (λj hj=>congrArg z8 (by first|rfl|exact UN (c:=ZB za) (r:=pr) j)),trivial⟩⟩
abbrev ofm_ts(d:Za)(p:Zj)(gu:Zf)(ga:Zc)(no:Nat)(orr:Nat->Zq)(np:Nat)(pr:Nat->ZA)(sa:Int)(la:Int)(gn:Nat)(gr:Nat->DT3)(Xv:Nat->(Nat->Zq)->Nat->Nat->(Nat->ZA)->Int)(Cv:Nat->(Nat->DT3)->Int->Bool)(i:Int)(z:Int×(Nat->Zq)×Nat×(Nat->ZA)):V:=(.cons (.ptr ze 0 0 0 0) (.cons (.int ze .i64 0) (.cons (.int za .i64 ((no:Nat):Int)) (.cons (.int za .i64 i) .nil))))
abbrev ofm_ys(d:Za)(p:Zj)(gu:Zf)(ga:Zc)(no:Nat)(orr:Nat->Zq)(np:Nat)(pr:Nat->ZA)(sa:Int)(la:Int)(gn:Nat)(gr:Nat->DT3)(Xv:Nat->(Nat->Zq)->Nat->Nat->(Nat->ZA)->Int)(Cv:Nat->(Nat->DT3)->Int->Bool)(i:Int)(z:Int×(Nat->Zq)×Nat×(Nat->ZA)):List Blk:=[.var (chO d p gu ga no z.2.2.1 z.1 (.rsl za 1 gn λj=>ZK za (gr j)) sa),.arr 11 no (λj=>Zy za (z.2.1 j)),.arr 2 z.2.2.1 (λj=>ZB za (z.2.2.2 j))]
def ofm_R(d:Za)(p:Zj)(gu:Zf)(ga:Zc)(no:Nat)(orr:Nat->Zq)(np:Nat)(pr:Nat->ZA)(sa:Int)(la:Int)(gn:Nat)(gr:Nat->DT3)(Xv:Nat->(Nat->Zq)->Nat->Nat->(Nat->ZA)->Int)(Cv:Nat->(Nat->DT3)->Int->Bool)(i:Int)(z:Int×(Nat->Zq)×Nat×(Nat->ZA)):Tree Rd:=
 let q8:=(zR (zx (zx z)))
 let q0:=(Xv no (λj=>((zx z).1 j)) ((0:Nat)+zk i) q8 λj=>((zx (zx z)).2 ((0:Nat)+j)))
 let q1:=(Xv no (λj=>(zx z).1 j) ((0:Nat)+zk i) (zx (zx z)).1 λj=>(zx (zx z)).2 ((0:Nat)+j))
 let q29:=(zl za 2 d.n1 λj=>Z9 za (d.3 j))
 let q17:=(zl za 1 p.n0 λj=>zf (zn za .u32 (p.2 j).f0) zh)
 let q23:=(zl za 4 gu.n0 λj=>Zv za (gu.2 j))
 let q27:=(zl za 4 gu.n1 λj=>Zt za (gu.4 j))
 let q11:=(zl za 2 ga.n0 λj=>ci (ga.2 j).f0 (zf (zl za 1 (ga.2 j).n1 λj_1=>ci ((ga.2 j).r1 j_1).f0 zh) zh))
 let q24:=(zl za 2 d.n7 λj=>Z0 za (d.15 j))
 let q28:=(zl za 5 d.n8 λj=>ZP za (d.17 j))
 let q25:=(zl za 2 d.n10 λj=>ZC za (d.20 j))
 let q26:=(zl za 3 d.n11 λj=>ZF za (d.22 j))
 let q14:=(zf (zl za 1 gn λjj=>ci (gr jj).f0 zh) (ci sa zh))
 let q2:=[zN (ci d.f0 (zf q29 (zf q17 (zf q23 (zf q27 (zf q11 (zf (V.osl za 1 11 0 no) (zf q24 (zf q28 (ci d.f9 (zf q25 (zf q26 (zf (V.osl za 2 2 0 q8) (zf (zn za .u64 (zR z)) q14)))))))))))))),Blk.arr 11 no λjj=>Zy za ((zx z).1 jj),Blk.arr 2 q8 λjj=>ZB za ((zx (zx z)).2 jj)]
 let q3:=((zx z).1 ((0:Nat)+zk i))
 let q4:=((zR (zx (zx z)):Nat):Int)
 let q19:=(zD .i64 (q1+(1:Int)))
 let q5:=(zR (zx (zx z))-zk q19)
 let q9:=(zn ze .i64 (0:Int))
 let q6:=(ci q3.f1 (ci q3.f2 (zf (zn za .u32 q3.f3) (ci q3.f4 (zf (zn za .u64 q3.f5) (zf (zn za .u64 q3.f6) (zf (zn za .u64 q3.f7) (zf (zn za .u64 q3.f8) (zf q9 (ci q3.f10 zh))))))))))
 let q7:=(zD .i64 (q0+(1:Int)))
 let q10:=(zR (zx (zx z))-zk q7)
 let q12:=(zf q9 (ci (no:Int) (ci (zD .i64 (i+(1:Int))) zh)))
 let q13:=((zk q1+q5:Nat):Int)
 let q15:=(V.rptr za (11:Nat) no (λj=>Zy za ((zx z).1 j)) ((0:Nat)+zk i) (0:Nat))
 let q16:=(zl za 2 q8 λj=>ZB za ((zx (zx z)).2 ((0:Nat)+j)))
 let q18:=(zl za 1 gn λj=>ci (gr j).f0 zh)
 let q20:=(vi q3.f0)
 let q21:=((zk q0+q10:Nat):Int)
 let q22:=(zn za .u64 (zD .u64 (zR z+(1:Int))))
 zu ((0:Int)<=i/\i<(no:Int)) (zu ((0:Nat)+zR (zx (zx z))<=zR (zx (zx z))/\(0:Nat)+zk i<no) (zu (zf q16 (zf (V.fn (Fn.func (147:Nat)) zh (zf (V.rptr za (1:Nat) (1:Nat) (λj=>zf q15 zh) (0:Nat) (0:Nat)) zh)) zh)=zf q16 (zf (V.fn (Fn.func (147:FuncId)) zh (zf (V.rptr za (1:Nat) (1:Nat) (λjj=>zf q15 zh) (0:Nat) (0:Nat)) zh)) zh)/\(zx (zx z)).1<=(1000:Nat)/\(0:Nat)+zk i<no) (zu (decide (q1<(0:Int))=za->(0:Nat)+zk i<no/\zf q18 (zf q20 zh)=zf q18 (zf q20 zh)/\gn<=(1000:Nat)) (zB (bif bif decide (q0<(0:Int))then ze else !Cv gn (λj=>(gr j)) q3.f0 then ze else za) (zw (Ex.normal,ze,zf (pt 0) q12,q2)) (zB (bif zR z==(4611686018427387904:Int)then ze else za) (zw (Ex.ret,ze,zf (pt 0) (zf (zn ze .i64 (6:Int)) (ci (no:Int) (ci i zh))),q2)) (zu ((0:Nat)+zk i<no) (zu ((0:Nat)+zk i<no) (zu ((0:Int)<=q4/\q4<=q4) (zu ((0:Int)<=zD .i64 (q1+(1:Int))/\zD .i64 (q1+(1:Int))<=((zk q4:Nat):Int)) (zu (((0:Int)<=Xv no (λj=>(zx z).1 j) ((0:Nat)+zk i) (zx (zx z)).1 λj=>(zx (zx z)).2 ((0:Nat)+j))/\q1<=((zk q19:Nat):Int)) (zu ((q1==zD .i64 (q1+(1:Int)))=za) (zu (((0:Int)<=Xv no (λj=>(zx z).1 j) ((0:Nat)+zk i) (zx (zx z)).1 λj=>(zx (zx z)).2 ((0:Nat)+j))/\q1<=q4) (zu ((0:Int)<=zD .i64 (q1+(1:Int))/\zD .i64 (q1+(1:Int))<=q4) (zu (zk q1+q5<=zR (zx (zx z))) (zu ((0:Nat)+zk q1+q5<=zR (zx (zx z))/\∀(j:Nat),j<zR (zx (zx z))-zk q19->V.YN (bif zG ((0:Nat)+zk q7+j) q8 then ZB za ((zx (zx z)).2 ((0:Nat)+zk q7+j))else zf V.junk (zf V.junk zh))=ze/\V.clean (bif zG ((0:Nat)+zk q7+j) q8 then ZB za ((zx (zx z)).2 ((0:Nat)+zk q7+j))else zf V.junk (zf V.junk zh))=ze) (zu ((0:Int)<=q4/\q4<=q4) (zu ((0:Int)<=q13/\q13<=((zk q4:Nat):Int)) (zu ((0:Nat)+zk q13+(zk q4-zk q13)<=zR (zx (zx z))/\∀(j:Nat),j<zk q4-zk q13->V.YN (zf q9 (zf q9 zh))=ze/\V.clean (zf q9 (zf q9 zh))=ze) (zw (Ex.normal,ze,zf (pt 0) q12,[zN (ci d.f0 (zf q29 (zf q17 (zf q23 (zf q27 (zf q11 (zf (V.osl za 1 11 0 no) (zf q24 (zf q28 (ci d.f9 (zf q25 (zf q26 (zf (V.osl za 2 2 0 (zk q0+q10)) (zf q22 q14)))))))))))))),Blk.arr 11 no λj=>bif zq j ((0:Nat)+zk i)then V.splice (bif zq ((0:Nat)+zk i) ((0:Nat)+zk i)then zf q20 q6 else Zy za q3) (8:Nat) (zf q22 zh)else bif zq j ((0:Nat)+zk i)then zf q20 q6 else Zy za ((zx z).1 j),Blk.arr 2 q8 λj=>bif zK ((0:Nat)+zk q21) j&&zG j ((0:Nat)+zk q21+(zk q4-zk q21))then zf q9 (zf q9 zh)else bif zK ((0:Nat)+zk q0) j&&zG j ((0:Nat)+zk q0+q10)then bif zG ((0:Nat)+zk q7+(j-((0:Nat)+zk q0))) q8 then ZB za ((zx (zx z)).2 ((0:Nat)+zk q7+(j-((0:Nat)+zk q0))))else zf V.junk (zf V.junk zh)else ZB za ((zx (zx z)).2 j)]))))))))))))))))))))
theorem ofm_round(d:Za)(p:Zj)(gu:Zf)(ga:Zc)(no:Nat)(orr:Nat->Zq)(np:Nat)(pr:Nat->ZA)(sa:Int)(la:Int)(gn:Nat)(gr:Nat->DT3)(Xv:Nat->(Nat->Zq)->Nat->Nat->(Nat->ZA)->Int)(Cv:Nat->(Nat->DT3)->Int->Bool):Yi P { (Zl P [U3 Xv,UQ Cv] [] ze)with way:=KC [(149,16,za)] } 79 3 3 3 85 [0,2,13,14] [(0,.own),(1,.own),(2,.cell 0 12)] [] (ofm_ts d p gu ga no orr np pr sa la gn gr Xv Cv) (ofm_ys d p gu ga no orr np pr sa la gn gr Xv Cv) (λi=>(bif decide (i<(no:Int))then za else ze)) (.exit 0) (ofm_R d p gu ga no orr np pr sa la gn gr Xv Cv):=λB i z=>by kernel_rfl
def Zbs(d:Za)(p:Zj)(gu:Zf)(ga:Zc)(no:Nat)(orr:Nat->Zq)(np:Nat)(pr:Nat->ZA)(sa:Int)(la:Int)(gn:Nat)(gr:Nat->DT3)(Xv:Nat->(Nat->Zq)->Nat->Nat->(Nat->ZA)->Int)(Cv:Nat->(Nat->DT3)->Int->Bool)(k:Nat)(z:Int×(Nat->Zq)×Nat×(Nat->ZA)):Int×(Nat->Zq)×Nat×(Nat->ZA):=(ofm_R d p gu ga no orr np pr sa la gn gr Xv Cv k z).carry ((λt y=>(((y.getD 0 .none).cells.nth 13).toInt,(λj=>Xx ((y.getD 1 .none).arrG j)),((y.getD 0 .none).cells.nth 12).oslN,(λj=>Wo ((y.getD 2 .none).arrG j))))) z
def XD(d:Za)(p:Zj)(gu:Zf)(ga:Zc)(no:Nat)(orr:Nat->Zq)(np:Nat)(pr:Nat->ZA)(sa:Int)(la:Int)(gn:Nat)(gr:Nat->DT3)(Xv:Nat->(Nat->Zq)->Nat->Nat->(Nat->ZA)->Int)(Cv:Nat->(Nat->DT3)->Int->Bool)(k:Nat):Int×(Nat->Zq)×Nat×(Nat->ZA):=ZJ ((la,orr,np,pr):Int×(Nat->Zq)×Nat×(Nat->ZA)) (Zbs d p gu ga no orr np pr sa la gn gr Xv Cv) k
def G6(d:Za)(p:Zj)(gu:Zf)(ga:Zc)(no:Nat)(orr:Nat->Zq)(np:Nat)(pr:Nat->ZA)(sa:Int)(la:Int)(gn:Nat)(gr:Nat->DT3)(Xv:Nat->(Nat->Zq)->Nat->Nat->(Nat->ZA)->Int)(Cv:Nat->(Nat->DT3)->Int->Bool)(k:Nat):Bool:=(ofm_R d p gu ga no orr np pr sa la gn gr Xv Cv k (XD d p gu ga no orr np pr sa la gn gr Xv Cv k)).early
theorem gdOwn(x:Zq):Xx (Zy za x)=x:=rfl
theorem gdPut(x:ZA):Wo (ZB za x)=x:=rfl
theorem ofm_cnt(d:Za)(p:Zj)(gu:Zf)(ga:Zc)(no:Nat)(orr:Nat->Zq)(np:Nat)(pr:Nat->ZA)(sa:Int)(la:Int)(gn:Nat)(gr:Nat->DT3)(Xv:Nat->(Nat->Zq)->Nat->Nat->(Nat->ZA)->Int)(Cv:Nat->(Nat->DT3)->Int->Bool)(hX:∀k y q n r,-1<=Xv k y q n r/\Xv k y q n r<((n:Nat):Int))(hp:np<=100)(k:Nat):(XD d p gu ga no orr np pr sa la gn gr Xv Cv k).2.2.1<=np:=by
 induction k with
 |zero=>exact zI _
 |succ k ih=>
  show(ZJ _ (Zbs d p gu ga no orr np pr sa la gn gr Xv Cv) (k+1)).2.2.1<=_
  rw[Zep]
  have h2:(ZJ _ (Zbs d p gu ga no orr np pr sa la gn gr Xv Cv) k)=XD d p gu ga no orr np pr sa la gn gr Xv Cv k:=rfl
  rw[h2]
  generalize XD d p gu ga no orr np pr sa la gn gr Xv Cv k=z at ih
  have hx:=hX no (λj=>z.2.1 j) (0+zk k) z.2.2.1 (λj=>z.2.2.2 (0+j))
  have hC:zk (Xv no (λj=>z.2.1 j) (0+zk k) z.2.2.1 (λj=>z.2.2.2 (0+j)))+(z.2.2.1-zk (zD .i64 (Xv no (λj=>z.2.1 j) (0+zk k) z.2.2.1 (λj=>z.2.2.2 (0+j))+1)))<=np:=by
   rw[IntWalk.i64_in _ ⟨by omega,by omega⟩];omega
  exact WO (p:=λy:Int×(Nat->Zq)×Nat×(Nat->ZA)=>y.2.2.1<=np) ih (WO (p:=λy:Int×(Nat->Zq)×Nat×(Nat->ZA)=>y.2.2.1<=np) ih hC)
abbrev ofm_ets(d:Za)(p:Zj)(gu:Zf)(ga:Zc)(no:Nat)(orr:Nat->Zq)(np:Nat)(pr:Nat->ZA)(sa:Int)(la:Int)(gn:Nat)(gr:Nat->DT3)(Xv:Nat->(Nat->Zq)->Nat->Nat->(Nat->ZA)->Int)(Cv:Nat->(Nat->DT3)->Int->Bool)(i:Int)(z:Int×(Nat->Zq)×Nat×(Nat->ZA)):V:=(.cons (zQ ze 0 0 0 0) (.cons (zn ze .i64 (6:Int)) (.cons (zn za .i64 (no:Int)) (.cons .junk .nil))))
abbrev ofm_eys(d:Za)(p:Zj)(gu:Zf)(ga:Zc)(no:Nat)(orr:Nat->Zq)(np:Nat)(pr:Nat->ZA)(sa:Int)(la:Int)(gn:Nat)(gr:Nat->DT3)(Xv:Nat->(Nat->Zq)->Nat->Nat->(Nat->ZA)->Int)(Cv:Nat->(Nat->DT3)->Int->Bool)(i:Int)(z:Int×(Nat->Zq)×Nat×(Nat->ZA)):List Blk:=[.any,.any,.any]
def ZgA(d:Za)(p:Zj)(gu:Zf)(ga:Zc)(no:Nat)(orr:Nat->Zq)(np:Nat)(pr:Nat->ZA)(sa:Int)(la:Int)(gn:Nat)(gr:Nat->DT3)(Xv:Nat->(Nat->Zq)->Nat->Nat->(Nat->ZA)->Int)(Cv:Nat->(Nat->DT3)->Int->Bool):Lp:=lpL 79 3 3 3 85 [0,2,13,14] [(0,.own),(1,.own),(2,.cell 0 12)] [] (ofm_ts d p gu ga no orr np pr sa la gn gr Xv Cv) (ofm_ys d p gu ga no orr np pr sa la gn gr Xv Cv) (.exit 0) .ret ((la,orr,np,pr):Int×(Nat->Zq)×Nat×(Nat->ZA)) (XD d p gu ga no orr np pr sa la gn gr Xv Cv) (G6 d p gu ga no orr np pr sa la gn gr Xv Cv) (no) (ofm_ets d p gu ga no orr np pr sa la gn gr Xv Cv) (ofm_eys d p gu ga no orr np pr sa la gn gr Xv Cv)
theorem ofm_lp_ok(d:Za)(p:Zj)(gu:Zf)(ga:Zc)(no:Nat)(orr:Nat->Zq)(np:Nat)(pr:Nat->ZA)(sa:Int)(la:Int)(gn:Nat)(gr:Nat->DT3)(Xv:Nat->(Nat->Zq)->Nat->Nat->(Nat->ZA)->Int)(Cv:Nat->(Nat->DT3)->Int->Bool)(hc1:(U3 Xv).Ok P)(hc2:(UQ Cv).Ok P)(hX:∀k y q n r,-1<=Xv k y q n r/\Xv k y q n r<((n:Nat):Int))(hl:no<=1000)(hp:np<=100)(hg:gn<=1000):(ZgA d p gu ga no orr np pr sa la gn gr Xv Cv).Ok P:=by
 refine lpL_okA ((Zw hm hn (l:=[U3 Xv,UQ Cv]) ⟨hc1,hc2,trivial⟩ (ls:=[]) trivial ze).Zjr (KC [(149,16,za)])) rfl (by kernel_rfl) (ofm_round d p gu ga no orr np pr sa la gn gr Xv Cv) exN Yv (λ_=>rfl) (rd:=(λ_ t y=>(((y.getD 0 .none).cells.nth 13).toInt,(λj=>Xx ((y.getD 1 .none).arrG j)),((y.getD 0 .none).cells.nth 12).oslN,(λj=>Wo ((y.getD 2 .none).arrG j))))) (λi z=>rfl) (λi=>rfl) rfl (λi hlt hg=>?_) (λi hi0 hi=>?_)
 ·have hltI:(i:Int)<((no:Nat):Int):=by omega
  refine⟨?_,⟨?_,⟨?_,⟨?_,⟨λhb0=>trivial,λhb0=>⟨λhb1=>trivial,λhb1=>⟨?_,⟨?_,⟨?_,⟨?_,⟨?_,⟨?_,⟨?_,⟨?_,⟨?_,⟨?_,⟨?_,⟨?_,⟨?_,trivial⟩⟩⟩⟩⟩⟩⟩⟩⟩⟩⟩⟩⟩⟩⟩⟩⟩⟩⟩
  all_goals(have hf0:=ofm_cnt d p gu ga no orr np pr sa la gn gr Xv Cv hX hp i;have hf1:=hX no (λj=>(XD d p gu ga no orr np pr sa la gn gr Xv Cv i).2.1 j) (0+zk i) (XD d p gu ga no orr np pr sa la gn gr Xv Cv i).2.2.1 (λj=>(XD d p gu ga no orr np pr sa la gn gr Xv Cv i).2.2.2 (0+j)))
  all_goals(repeat'(first|exact rfl|exact λ_=>⟨rfl,rfl⟩|apply zy|intro _))
  all_goals(try simp only[decide_eq_true_eq,decide_eq_false_iff_not,yg,yw,gdOwn,gdPut]at*)
  all_goals(try simp(disch:=omega) only[IntWalk.i64_in])
  all_goals(first|omega|exact(by simp at*;omega)|exact(by refine cP (p:=λv=>V.YN v=ze) (λhc=>?_) (λhc=>?_)<;>first|rfl|(exfalso;simp only[XO]at hc;simp(disch:=omega) only[IntWalk.i64_in]at*;omega))|exact(by refine cP (p:=λv=>V.clean v=ze) (λhc=>?_) (λhc=>?_)<;>first|rfl|(exfalso;simp only[XO]at hc;simp(disch:=omega) only[IntWalk.i64_in]at*;omega)))
 ·have hw:=(IntWalk.i64_in ((i:Int)+1) ⟨by omega,by omega⟩)
  have hf:=ofm_cnt d p gu ga no orr np pr sa la gn gr Xv Cv hX hp i
  have hx:-1<=(Xv no (λj=>(XD d p gu ga no orr np pr sa la gn gr Xv Cv i).2.1 j) (0+zk i) (XD d p gu ga no orr np pr sa la gn gr Xv Cv i).2.2.1 (λj=>(XD d p gu ga no orr np pr sa la gn gr Xv Cv i).2.2.2 (0+j)))/\(Xv no (λj=>(XD d p gu ga no orr np pr sa la gn gr Xv Cv i).2.1 j) (0+zk i) (XD d p gu ga no orr np pr sa la gn gr Xv Cv i).2.2.1 (λj=>(XD d p gu ga no orr np pr sa la gn gr Xv Cv i).2.2.2 (0+j)))<(((XD d p gu ga no orr np pr sa la gn gr Xv Cv i).2.2.1:Nat):Int):=hX _ _ _ _ _
  have hle:zk (Xv no (λj=>(XD d p gu ga no orr np pr sa la gn gr Xv Cv i).2.1 j) (0+zk i) (XD d p gu ga no orr np pr sa la gn gr Xv Cv i).2.2.1 (λj=>(XD d p gu ga no orr np pr sa la gn gr Xv Cv i).2.2.2 (0+j)))+((XD d p gu ga no orr np pr sa la gn gr Xv Cv i).2.2.1-zk (zD .i64 ((Xv no (λj=>(XD d p gu ga no orr np pr sa la gn gr Xv Cv i).2.1 j) (0+zk i) (XD d p gu ga no orr np pr sa la gn gr Xv Cv i).2.2.1 (λj=>(XD d p gu ga no orr np pr sa la gn gr Xv Cv i).2.2.2 (0+j)))+1)))<=(XD d p gu ga no orr np pr sa la gn gr Xv Cv i).2.2.1:=by rw[IntWalk.i64_in _ ⟨by omega,by omega⟩];omega
  refine⟨?_,⟨?_,?_⟩⟩
  all_goals(first|exact⟨rfl,Yq (ts:=ofm_ts d p gu ga no orr np pr sa la gn gr Xv Cv) hw rfl,⟨LeK.var (Le.soft rfl),LeK.Jb rfl (λj hj=>by first|rfl|exact ofA rfl rfl rfl rfl),LeK.arrLe (by first|exact zI _|exact hle) (λj hj=>by first|rfl|exact ofB rfl hj),trivial⟩⟩|exact⟨rfl,rfl,(by repeat'(first|exact Le.refl _|exact Le.junk _ rfl|apply Le.cons)),⟨LeK.any _,LeK.any _,LeK.any _,trivial⟩⟩)
def offM_T(d:Za)(p:Zj)(gu:Zf)(ga:Zc)(no:Nat)(orr:Nat->Zq)(np:Nat)(pr:Nat->ZA)(sa:Int)(la:Int)(mn:Nat)(mr:Nat->DT3)(Xv:Nat->(Nat->Zq)->Nat->Nat->(Nat->ZA)->Int)(Cv:Nat->(Nat->DT3)->Int->Bool):Tree (V×List Blk):=
 let q12:=(zl za 2 d.n1 λj=>Z9 za (d.3 j))
 let q4:=(zl za 1 p.n0 λj=>zf (zn za .u32 (p.2 j).f0) zh)
 let q6:=(zl za 4 gu.n0 λj=>Zv za (gu.2 j))
 let q10:=(zl za 4 gu.n1 λj=>Zt za (gu.4 j))
 let q2:=(zl za 2 ga.n0 λj=>ci (ga.2 j).f0 (zf (zl za 1 (ga.2 j).n1 λj_1=>ci ((ga.2 j).r1 j_1).f0 zh) zh))
 let q7:=(zl za 2 d.n7 λj=>Z0 za (d.15 j))
 let q11:=(zl za 5 d.n8 λj=>ZP za (d.17 j))
 let q8:=(zl za 2 d.n10 λj=>ZC za (d.20 j))
 let q9:=(zl za 3 d.n11 λj=>ZF za (d.22 j))
 let q5:=(zl za 1 mn λj=>ci (mr j).f0 zh)
 let q0:=(vi d.f0=vi d.f0/\(q12=zl za 2 d.n1 λj=>Z9 za (d.3 j))/\(q4=zl za 1 p.n0 λj=>zf (zn za .u32 (p.2 j).f0) zh)/\(q6=zl za 4 gu.n0 λj=>Zv za (gu.2 j))/\(q10=zl za 4 gu.n1 λj=>Zt za (gu.4 j))/\(q2=zl za 2 ga.n0 λj=>ci (ga.2 j).f0 (zf (zl za 1 (ga.2 j).n1 λj_1=>ci ((ga.2 j).r1 j_1).f0 zh) zh))/\V.osl za 1 11 0 no=V.osl za 1 11 0 no/\(q7=zl za 2 d.n7 λj=>Z0 za (d.15 j))/\(q11=zl za 5 d.n8 λj=>ZP za (d.17 j))/\vi d.f9=vi d.f9/\(q8=zl za 2 d.n10 λj=>ZC za (d.20 j))/\(q9=zl za 3 d.n11 λj=>ZF za (d.22 j))/\V.osl za 2 2 0 np=V.osl za 2 2 0 np/\zn za .u64 la=zn za .u64 la/\(q5=zl za 1 mn λj=>ci (mr j).f0 zh)/\vi sa=vi sa/\zh=zh)
 let q1:=(XD d p gu ga no orr np pr sa la mn mr Xv Cv no)
 let q3:=(ci (0:Int) (ci (no:Int) (ci (0:Int) zh)))
 zu ((zQ za 0 0 0 0=zQ za 0 0 0 0/\V.osl za 2 2 0 np=V.osl za 2 2 0 np/\vi (np:Int)=vi (np:Int)/\vi (0:Int)=vi (0:Int)/\zh=zh)/\q0/\((11:Nat)=(11:Nat)/\no=no/\∀(j:Nat),Zy za (orr j)=Zy za (orr j))/\((2:Nat)=(2:Nat)/\np=np/\∀(j:Nat),ZB za (pr j)=ZB za (pr j))/\True) (zu (zf (zQ za 0 0 0 0) q3=zf (zQ za 0 0 0 0) q3/\q0/\((11:Nat)=(11:Nat)/\no=no/\∀(j:Nat),Zy za (orr j)=Zy za (orr j))/\((2:Nat)=(2:Nat)/\np=np/\∀(j:Nat),ZB za (pr j)=ZB za (pr j))/\True) (zB (bif Zp (G6 d p gu ga no orr np pr sa la mn mr Xv Cv) no then ze else za) (zw (zn ze .i64 (6:Int),[Blk.any,Blk.any,Blk.any])) (zw (zn ze .i64 (0:Int),[zN (ci d.f0 (zf q12 (zf q4 (zf q6 (zf q10 (zf q2 (zf (V.osl za 1 11 0 no) (zf q7 (zf q11 (ci d.f9 (zf q8 (zf q9 (zf (V.osl za 2 2 0 (zR (zx (zx q1)))) (zf (zn za .u64 (zR q1)) (zf q5 (ci sa zh)))))))))))))))),Blk.arr 11 no λj=>Zy za ((zx q1).1 j),Blk.arr 2 (zR (zx (zx q1))) λj=>ZB za ((zx (zx q1)).2 j)]))))
theorem offM_tree(d:Za)(p:Zj)(gu:Zf)(ga:Zc)(no:Nat)(orr:Nat->Zq)(np:Nat)(pr:Nat->ZA)(sa:Int)(la:Int)(mn:Nat)(mr:Nat->DT3)(Xv:Nat->(Nat->Zq)->Nat->Nat->(Nat->ZA)->Int)(Cv:Nat->(Nat->DT3)->Int->Bool):evH (Zl P [U3 Xv,UQ Cv] [lq_lp d p gu ga no orr np pr sa la mn mr,ZgA d p gu ga no orr np pr sa la mn mr Xv Cv] ze) 400 79 (.cons (.ptr ze 0 0 0 0) .nil) [.var (chO d p gu ga no np la (.rsl za 1 mn λj=>ZK za (mr j)) sa),.arr 11 no (λj=>Zy za (orr j)),.arr 2 np (λj=>ZB za (pr j))]=offM_T d p gu ga no orr np pr sa la mn mr Xv Cv:=by kernel_rfl
def XK(p:Zj)(gu:Zf)(ga:Zc)(no:Nat)(orr:Nat->Zq)(np:Nat)(pr:Nat->ZA)(la:Int)(mn:Nat)(mr:Nat->DT3):Bool:=Zp (G6 (Yb .nil) p gu ga no orr np pr 0 la mn mr XJ YU) no
def YL(p:Zj)(gu:Zf)(ga:Zc)(no:Nat)(orr:Nat->Zq)(np:Nat)(pr:Nat->ZA)(la:Int)(mn:Nat)(mr:Nat->DT3):Int×(Nat->Zq)×Nat×(Nat->ZA):=XD (Yb .nil) p gu ga no orr np pr 0 la mn mr XJ YU no
theorem offM_at(d:Za)(p:Zj)(gu:Zf)(ga:Zc)(no:Nat)(orr:Nat->Zq)(np:Nat)(pr:Nat->ZA)(sa:Int)(la:Int)(mn:Nat)(mr:Nat->DT3)(h0:no<=1000)(h1:np<=100)(h2:gu.n0<=1000)(h3:gu.n1<=1000)(h4:mn<=1000)(h5:∀j,j<np->(0<=Zm gu (pr j).f0/\Zm gu (pr j).f0<gu.n0)/\0<=(gu.r0 (Zm gu (pr j).f0).toNat).f3/\(gu.r0 (Zm gu (pr j).f0).toNat).f3<p.n0)(h6:∀j,j<np->WA (YF p gu (pr j).f0) (pr j).f1=ze):YG P 79 (.cons (.ptr ze 0 0 0 0) .nil) [.var (chO d p gu ga no np la (.rsl za 1 mn λj=>ZK za (mr j)) sa),.arr 11 no (λj=>Zy za (orr j)),.arr 2 np (λj=>ZB za (pr j))] (.node (bif (XK p gu ga no orr np pr la mn mr)then ze else za) (.leaf (.int ze .i64 6,[.any,.any,.any])) (.leaf (.int ze .i64 0,[.var (chO d p gu ga no ((YL p gu ga no orr np pr la mn mr)).2.2.1 ((YL p gu ga no orr np pr la mn mr)).1 (.rsl za 1 mn λj=>ZK za (mr j)) sa),.arr 11 no (λj=>Zy za (((YL p gu ga no orr np pr la mn mr)).2.1 j)),.arr 2 ((YL p gu ga no orr np pr la mn mr)).2.2.1 (λj=>ZB za (((YL p gu ga no orr np pr la mn mr)).2.2.2 j))]))):=by
 have hfin:(offM_T d p gu ga no orr np pr sa la mn mr XJ YU).bare=(.node (bif (XK p gu ga no orr np pr la mn mr)then ze else za) (.leaf (.int ze .i64 6,[.any,.any,.any])) (.leaf (.int ze .i64 0,[.var (chO d p gu ga no ((YL p gu ga no orr np pr la mn mr)).2.2.1 ((YL p gu ga no orr np pr la mn mr)).1 (.rsl za 1 mn λj=>ZK za (mr j)) sa),.arr 11 no (λj=>Zy za (((YL p gu ga no orr np pr la mn mr)).2.1 j)),.arr 2 ((YL p gu ga no orr np pr la mn mr)).2.2.1 (λj=>ZB za (((YL p gu ga no orr np pr la mn mr)).2.2.2 j))]))):=by
  kernel_rfl
 rw[<- hfin]
 refine hk_bare (E:=(Zl P [U3 XJ,UQ YU] [lq_lp d p gu ga no orr np pr sa la mn mr,ZgA d p gu ga no orr np pr sa la mn mr XJ YU] ze)) (Zw hm hn (l:=[U3 XJ,UQ YU]) ⟨Zj8,Ze8,trivial⟩ (ls:=[lq_lp d p gu ga no orr np pr sa la mn mr,ZgA d p gu ga no orr np pr sa la mn mr XJ YU]) ⟨lq_lp_ok d p gu ga no orr np pr sa la mn mr h1 h2 h3 h5 h6,ofm_lp_ok d p gu ga no orr np pr sa la mn mr XJ YU Zj8 Ze8 ixPut_rng h0 h1 h4,trivial⟩ ze) (offM_tree d p gu ga no orr np pr sa la mn mr XJ YU) ?_
 refine⟨?_,⟨?_,⟨λhb0=>trivial,λhb0=>trivial⟩⟩⟩
 all_goals(first|exact lq_fit d p gu ga no orr np pr sa la mn mr|exact ofm_fit d p gu ga no orr np pr sa la mn mr XJ YU|((repeat'(first|exact rfl|exact WG _|exact λ_=>⟨rfl,rfl⟩|exact λ_=>rfl|apply zy|intro _));all_goals(try simp only[decide_eq_true_eq,decide_eq_false_iff_not]at*);all_goals(first|omega|(simp at*;omega))))
def Us(fbad:Zj->Zf->Zc->Nat->(Nat->Zq)->Nat->(Nat->ZA)->Int->Nat->(Nat->DT3)->Bool)(fz:Zj->Zf->Zc->Nat->(Nat->Zq)->Nat->(Nat->ZA)->Int->Nat->(Nat->DT3)->Int×(Nat->Zq)×Nat×(Nat->ZA)):HK:=λargs bl=>match args,bl with
 | .cons _ .nil,[.var c,.arr _ no g1,.arr _ np g2]=>zi (.need (hkEq args bl (.cons (.ptr ze 0 0 0 0) .nil) [.var (chO (Yb c) (Ym (.cons (c.nth 2) .nil)) (ZQ (.cons (c.nth 3) (.cons (c.nth 4) .nil))) (ZG (.cons (c.nth 5) .nil)) (no) (np) ((c.nth 13).toInt) (.rsl za 1 ((c.nth 14).Zi) λj=>ZK za (((λj=>Zx ((c.nth 14).Zn j))) j)) ((c.nth 15).toInt)),.arr 11 (no) (λj=>Zy za (((λj=>Xx (g1 j))) j)),.arr 2 (np) (λj=>ZB za (((λj=>Wo (g2 j))) j))]/\(λ(d:Za)(p:Zj)(gu:Zf)(ga:Zc)(no:Nat)(orr:Nat->Zq)(np:Nat)(pr:Nat->ZA)(sa:Int)(la:Int)(mn:Nat)(mr:Nat->DT3)=>no<=1000/\np<=100/\gu.n0<=1000/\gu.n1<=1000/\mn<=1000/\(∀j,j<np->(0<=Zm gu (pr j).f0/\Zm gu (pr j).f0<gu.n0)/\0<=(gu.r0 (Zm gu (pr j).f0).toNat).f3/\(gu.r0 (Zm gu (pr j).f0).toNat).f3<p.n0)/\(∀j,j<np->WA (YF p gu (pr j).f0) (pr j).f1=ze)) (Yb c) (Ym (.cons (c.nth 2) .nil)) (ZQ (.cons (c.nth 3) (.cons (c.nth 4) .nil))) (ZG (.cons (c.nth 5) .nil)) (no) ((λj=>Xx (g1 j))) (np) ((λj=>Wo (g2 j))) ((c.nth 15).toInt) ((c.nth 13).toInt) ((c.nth 14).Zi) ((λj=>Zx ((c.nth 14).Zn j)))) (.node (bif (fbad (Ym (.cons (c.nth 2) .nil)) (ZQ (.cons (c.nth 3) (.cons (c.nth 4) .nil))) (ZG (.cons (c.nth 5) .nil)) (no) ((λj=>Xx (g1 j))) (np) ((λj=>Wo (g2 j))) ((c.nth 13).toInt) ((c.nth 14).Zi) ((λj=>Zx ((c.nth 14).Zn j))))then ze else za) (.leaf (.int ze .i64 6,[.any,.any,.any])) (.leaf (.int ze .i64 0,[.var (chO (Yb c) (Ym (.cons (c.nth 2) .nil)) (ZQ (.cons (c.nth 3) (.cons (c.nth 4) .nil))) (ZG (.cons (c.nth 5) .nil)) (no) ((fz (Ym (.cons (c.nth 2) .nil)) (ZQ (.cons (c.nth 3) (.cons (c.nth 4) .nil))) (ZG (.cons (c.nth 5) .nil)) (no) ((λj=>Xx (g1 j))) (np) ((λj=>Wo (g2 j))) ((c.nth 13).toInt) ((c.nth 14).Zi) ((λj=>Zx ((c.nth 14).Zn j))))).2.2.1 ((fz (Ym (.cons (c.nth 2) .nil)) (ZQ (.cons (c.nth 3) (.cons (c.nth 4) .nil))) (ZG (.cons (c.nth 5) .nil)) (no) ((λj=>Xx (g1 j))) (np) ((λj=>Wo (g2 j))) ((c.nth 13).toInt) ((c.nth 14).Zi) ((λj=>Zx ((c.nth 14).Zn j))))).1 (.rsl za 1 ((c.nth 14).Zi) λj=>ZK za (((λj=>Zx ((c.nth 14).Zn j))) j)) ((c.nth 15).toInt)),.arr 11 (no) (λj=>Zy za (((fz (Ym (.cons (c.nth 2) .nil)) (ZQ (.cons (c.nth 3) (.cons (c.nth 4) .nil))) (ZG (.cons (c.nth 5) .nil)) (no) ((λj=>Xx (g1 j))) (np) ((λj=>Wo (g2 j))) ((c.nth 13).toInt) ((c.nth 14).Zi) ((λj=>Zx ((c.nth 14).Zn j))))).2.1 j)),.arr 2 ((fz (Ym (.cons (c.nth 2) .nil)) (ZQ (.cons (c.nth 3) (.cons (c.nth 4) .nil))) (ZG (.cons (c.nth 5) .nil)) (no) ((λj=>Xx (g1 j))) (np) ((λj=>Wo (g2 j))) ((c.nth 13).toInt) ((c.nth 14).Zi) ((λj=>Zx ((c.nth 14).Zn j))))).2.2.1 (λj=>ZB za (((fz (Ym (.cons (c.nth 2) .nil)) (ZQ (.cons (c.nth 3) (.cons (c.nth 4) .nil))) (ZG (.cons (c.nth 5) .nil)) (no) ((λj=>Xx (g1 j))) (np) ((λj=>Wo (g2 j))) ((c.nth 13).toInt) ((c.nth 14).Zi) ((λj=>Zx ((c.nth 14).Zn j))))).2.2.2 j))]))))
 |_,_=>zm
abbrev offM_K:HK:=Us XK YL
theorem offM_ok:Xo P 79 offM_K:=by
 intro args bl T hT
 unfold offM_K Us at hT
 split at hT
 ·rename_i q0 c q1 no g1 q2 np g2
  injection hT with hT
  subst hT
  exact hk_need λhp=>YG.eq (offM_at (Yb c) (Ym (.cons (c.nth 2) .nil)) (ZQ (.cons (c.nth 3) (.cons (c.nth 4) .nil))) (ZG (.cons (c.nth 5) .nil)) (no) ((λj=>Xx (g1 j))) (np) ((λj=>Wo (g2 j))) ((c.nth 15).toInt) ((c.nth 13).toInt) ((c.nth 14).Zi) ((λj=>Zx ((c.nth 14).Zn j))) hp.2.1 hp.2.2.1 hp.2.2.2.1 hp.2.2.2.2.1 hp.2.2.2.2.2.1 hp.2.2.2.2.2.2.1 hp.2.2.2.2.2.2.2) hp.1
 ·cases hT
abbrev gw_ts(a:Zc)(mn:Nat)(mr:Nat->DT3)(i:Int)(z:Unit):V:=(.cons (.fn (.func 223) .nil (.cons (.ptr ze 1 0 0 0) (.cons (.ptr ze 3 0 0 0) .nil))) (.cons (.ptr ze 5 0 0 0) (.cons (.ptr ze 7 0 0 0) (.cons (.int za .i64 ((a.n0:Nat):Int)) (.cons (.int za .i64 i) .nil)))))
abbrev gw_ys(a:Zc)(mn:Nat)(mr:Nat->DT3)(i:Int)(z:Unit):List Blk:=[.var (.cons (.rsl za 1 mn λj=>ZK za (mr j)) .nil),.var (.cons .Zo .nil),.var (.cons (.int ze .i64 0) .nil),.var (.cons .Zo .nil),.arr 2 a.n0 (λj=>Zu za (a.r0 j)),.var (.cons (.osl za 6 2 0 a.n0) .nil)]
def gw_R(a:Zc)(mn:Nat)(mr:Nat->DT3)(i:Int)(z:Unit):Tree Rd:=
 zu (((0:Int)<=i/\i<((a.n0:Nat):Int))/\(0:Nat)+zk i<a.n0/\(zf (zl za 1 (a.2 ((0:Nat)+zk i)).n1 λj=>ci ((a.2 ((0:Nat)+zk i)).r1 j).f0 zh) zh=zf (zl za 1 (a.2 ((0:Nat)+zk i)).n1 λj=>ci ((a.2 ((0:Nat)+zk i)).r1 j).f0 zh) zh/\(a.2 ((Nat.brecOn.go (motive:=λx=>Nat->Nat) (Int.rec (λa=>a) (λa=>(0:Nat)) i) Nat.add._f).1 (0:Nat))).2<=(1000:Nat))/\((0:Int)<=i/\i<((a.n0:Nat):Int))/\(0:Nat)+zk i<a.n0) (zw (Ex.normal,ze,zf (V.fn (Fn.func (223:FuncId)) zh (zf (pt 1) (zf (pt 3) zh))) (zf (pt 5) (zf (pt 7) (ci ((a.n0:Nat):Int) (ci (zD .i64 (i+(1:Int))) zh)))),[zN (zf (zl za 1 mn λjj=>ci (mr jj).f0 zh) zh),zN (zf V.Zo zh),zN (zf (zn ze .i64 (0:Int)) zh),zN (zf V.Zo zh),Blk.arr 2 a.n0 λj=>bif zq j ((0:Nat)+zk i)then ci (a.2 ((0:Nat)+zk i)).f0 (zf (zl za 1 (a.2 ((0:Nat)+zk i)).n1 λj=>ci ((a.2 ((0:Nat)+zk i)).r1 j).f0 zh) zh)else ci (a.2 j).f0 (zf (zl za 1 (a.2 j).n1 λj_1=>ci ((a.2 j).r1 j_1).f0 zh) zh),zN (zf (V.osl za 6 2 0 a.n0) zh)]))
theorem gw_round(a:Zc)(mn:Nat)(mr:Nat->DT3):Yi P (Zl P [Ws] [] ze) 222 6 8 8 46 [1,4,7,22,23] [(1,.own),(2,.own),(3,.own),(5,.own),(6,.own),(7,.own)] [] (gw_ts a mn mr) (gw_ys a mn mr) (λi=>(bif decide (i<((a.n0:Nat):Int))then za else ze)) (.exit 0) (gw_R a mn mr):=λB i z=>by kernel_rfl
def gw_lp(a:Zc)(mn:Nat)(mr:Nat->DT3):Lp:=Js 222 6 8 8 46 [1,4,7,22,23] [(1,.own),(2,.own),(3,.own),(5,.own),(6,.own),(7,.own)] [] (gw_ts a mn mr) (gw_ys a mn mr) (.exit 0) () (λ_=>()) (a.n0)
def gw_need(a:Zc)(mn:Nat)(mr:Nat->DT3):Prop:=YC 8 [] (gw_ts a mn mr) (gw_ys a mn mr) () (gw_ts a mn mr (0:Nat) ()) (gw_ys a mn mr (0:Nat) ())
theorem gw_fit(a:Zc)(mn:Nat)(mr:Nat->DT3):gw_need a mn mr:=⟨rfl,⟨Kg _,Kg _,Kg _,Kg _,⟨rfl,rfl,λ_=>rfl⟩,Kg _,trivial⟩⟩
theorem gw_lp_ok(a:Zc)(mn:Nat)(mr:Nat->DT3)(hl:a.n0<=1000)(hM:∀j,(a.r0 j).n1<=1000):(gw_lp a mn mr).Ok P:=by
 refine JZ (Zw hm hn (l:=[Ws]) ⟨V7,trivial⟩ (ls:=[]) trivial ze) rfl (by kernel_rfl) (gw_round a mn mr) exN Yv (λ_=>rfl) (step:=λ_ z=>z) (rd:=(λ_ t y=>())) (λi z=>rfl) (λi=>rfl) rfl (λi hlt hg=>?_) (λi z hi=>?_)
 ·have hltI:(i:Int)<((a.n0:Nat):Int):=by omega
  refine⟨?_,trivial⟩
  all_goals(repeat'(first|exact rfl|exact λ_=>⟨rfl,rfl⟩|apply zy|intro _))
  all_goals(try simp only[decide_eq_true_eq,decide_eq_false_iff_not,yg,yw]at*)
  all_goals(try simp(disch:=omega) only[IntWalk.i64_in])
  all_goals(first|omega|exact hM _)
 ·have hw:=(IntWalk.i64_in ((i:Int)+1) ⟨by omega,by omega⟩)
  all_goals exact⟨rfl,Yq (ts:=gw_ts a mn mr) (a:=()) hw rfl,⟨LeK.refl _,LeK.refl _,LeK.refl _,LeK.refl _,LeK.Jb rfl (λj hj=>congrArg z8 (by first|rfl|exact UN (c:=Zu za) (r:=a.r0) j)),LeK.refl _,trivial⟩⟩
end Go.Proofs.YthhbdbeglmkijaaGreatDoor
namespace Go.Fw
theorem loop_genP{B:Base}{P:Program}{E:Env}(hE:E.Ok)(hP:E.P=P){k:Nat}{f:FuncId}{b:Code}(hin:∀b'∈YQ b,Wq P f b'){n1 n0 N0:Nat}{KT:List Nat}{KH:List (Nat×Src)}{KR:List Nat}{A:Type}(N:Nat)(ts:Int->A->V)(ys:Int->A->List Blk)(ex eex:Ex)(hex:ex≠.normal)
{c:Int->Bool}{R:Int->A->Tree Rd}(hT:∀(B:Base) i z,((ev E k f b B (Yl n0 N0 KT KH (ts i z) (ys i z))).bind λx=>zw (x.1,vwR n1 n0 N0 KT KH KR x.2))=.node (c i) (R i z) (.leaf (ex,ze,ts i z,ys i z)))
  (hc:∀i:Nat,i<=N->(c i=za↔i=N)){a0:A}{step:Nat->A->A}{bad:Nat->Bool}{rd:Nat->A->V->List Blk->A}{ets:Int->A->V}{eys:Int->A->List Blk}
  (hstep:∀(i:Nat) z,(R i z).carry (rd i z) z=step i z)(hbad:∀i:Nat,(R i (ZJ a0 step i)).early=bad i)
  (hpre:∀i:Nat,i<N->(∀j,j<i->bad j=za)->(R i (ZJ a0 step i)).pre)
  (hlv:∀i:Nat,i<N->(∀j,j<i->bad j=za)->(R i (ZJ a0 step i)).leaves (UH n0 (ts ((i+1:Nat):Int)) (ys ((i+1:Nat):Int)) (rd i (ZJ a0 step i)) eex (ets i (ZJ a0 step i)) (eys i (ZJ a0 step i))))
  {Q:Ex×St B->Prop}(he:Zp bad N=ze->Q (eex,Yl n0 N0 KT KH (ets (ZN bad N 0:Nat) (ZJ a0 step (ZN bad N 0))) (eys (ZN bad N 0:Nat) (ZJ a0 step (ZN bad N 0)))))
  (hq:Zp bad N=za->Q (ex,Yl n0 N0 KT KH (ts (N:Nat) (ZJ a0 step N)) (ys (N:Nat) (ZJ a0 step N))))
  {s:St B}(hn:s.n=n1)(hs:WT n1 n0 N0 KT KH s (ts (0:Nat) a0) (ys (0:Nat) a0)):V3 P b s Q:=by
 refine ZlC hE hP hin N (λi=>ts i (ZJ a0 step i)) (λi=>ys i (ZJ a0 step i)) (λi=>∀j,j<i->bad j=za) Q (λi=>hT B i _) (λi hi hg=>?_) hn (λj hj=>absurd hj (Nat.not_lt_zero j)) hs
 refine⟨λh=>?_,λh=>?_⟩
 ·have hlt:i<N:=by
   rcases Nat.lt_or_eq_of_le hi with h1|h1
   ·exact h1
   ·have:=(hc i hi).2 h1
    rw[h]at this;cases this
  refine Tree.XI _ (λy hy=>?_) (Tree.Zll (rd:=rd i (ZJ a0 step i)) (z:=ZJ a0 step i) _ (hpre i hlt hg) (hlv i hlt hg))
  obtain⟨e,y⟩:=y
  obtain⟨h1,h2⟩:=hy
  have early:e=eex->(R i (ZJ a0 step i)).early=ze->y.1=ze->Le n0 y.2.1 (ets i (ZJ a0 step i))->XL n0 y.2.2 (eys i (ZJ a0 step i))->y.1=ze/\∃ts' ys',Le n0 y.2.1 ts'/\XL n0 y.2.2 ys'/\Q (e,Yl n0 N0 KT KH ts' ys'):=λh3 h4 h5 h6 h7=>by
   grind[ZcY,Zcl]
  cases e with
  |normal=>
   obtain⟨h3,h4,h5⟩:=h1
   obtain⟨k1,k2⟩:=h2
   rw[hbad]at k1
   rw[hstep]at k2
   have e2:ZJ a0 step (i+1)=rd i (ZJ a0 step i) y.2.1 y.2.2:=k2
   grind
  |exit id=>exact early h1.2.1 h2 h1.1 h1.2.2.1 h1.2.2.2
  |ret=>exact early h1.2.1 h2 h1.1 h1.2.2.1 h1.2.2.2
 ·have e:=(hc i hi).1 h
  subst e
  have h1:=hq (Zar hg)
  cases ex with
  |normal=>grind
  |exit id=>exact⟨rfl,_,_,Le.refl _,Z5 _,h1⟩
  |ret=>exact⟨rfl,_,_,Le.refl _,Z5 _,h1⟩
def ZjN{A:Type}(P:Program)(E:Env)(f:FuncId)(id n1 n0 N0:Nat)(KT:List Nat)(KH:List (Nat×Src))(KR:List Nat)(ts:Int->A->V)(ys:Int->A->List Blk)(c:Int->Bool)(ex:Ex)(R:Int->A->Tree Rd):Prop:=∀(B:Base) i z,((ev E 400 f (QZ P f id) B (Yl n0 N0 KT KH (ts i z) (ys i z))).bind λx=>zw (x.1,vwR n1 n0 N0 KT KH KR x.2))=.node (c i) (R i z) (.leaf (ex,ze,ts i z,ys i z))
section
variable{P:Program}{E:Env}{f:FuncId}{id n1 n0 N0:Nat}{KT:List Nat}{KH:List (Nat×Src)}{KR:List Nat}
variable{bad:Nat->Bool}
theorem Zk0:∀{n k:Nat},(∀j,k<=j->j<k+n->bad j=za)->ZN bad n k=k+n:=by
 intro n
 induction n with
 |zero=>intro k _;rfl
 |succ n ih=>
  intro k h
  show(bif bad k then k else ZN bad n (k+1))=_
  rw[h k (zI _) (by omega),cond_false,ih λj h1 h2=>h j (by omega) (by omega)]
  omega
theorem ZkZ:∀{n k:Nat},ZN bad n k<=k+n:=by
 intro n
 induction n with
 |zero=>intro k;exact zI _
 |succ n ih=>
  intro k
  show(bif bad k then k else ZN bad n (k+1))<=_
  cases bad k
  ·have:=ih (k:=k+1);simp only[cond_false];omega
  ·simp only[cond_true];omega
theorem fstTo_le0{n:Nat}:((ZN bad n 0:Nat):Int)<=((n:Nat):Int):=by
 have:=ZkZ (bad:=bad) (n:=n) (k:=0);omega
def lpF(f:FuncId)(id n1 n0 N0:Nat)(KT:List Nat)(KH:List (Nat×Src))(KR:List Nat)(ts:Int->Unit->V)(ys:Int->Unit->List Blk)(ex:Ex)(bad:Nat->Bool)(N:Nat):Lp:=lpG f id n1 n0 N0 KT KH KR (ts (0:Nat) ()) (ys (0:Nat) ()) λ_=>
 .leaf (ex,Yl n0 N0 KT KH (ts (ZN bad N 0:Nat) ()) (ys (ZN bad N 0:Nat) ()))
theorem lpF_ok{ts:Int->Unit->V}{ys:Int->Unit->List Blk}{ex:Ex}{N:Nat}(hE:E.Ok)(hP:E.P=P)(h1:G9 P f id=ze){c:Int->Bool}{R:Int->Unit->Tree Rd}(hT:ZjN P E f id n1 n0 N0 KT KH KR ts ys c ex R)(hex:ex≠.normal)(hc:∀i:Nat,i<=N->(c i=za↔i=N))
  (hbad:∀i:Nat,(R i ()).early=bad i)(hy:(ys (0:Nat) ()).map (nfR KR)=ys (0:Nat) ())
  (hpre:∀i:Nat,i<N->(R i ()).pre)(hlv:∀i:Nat,i<N->(R i ()).leaves (UH n0 (ts ((i+1:Nat):Int)) (ys ((i+1:Nat):Int)) (λ_ _=>()) ex (ts i ()) (ys i ()))):(lpF f id n1 n0 N0 KT KH KR ts ys ex bad N).Ok P:=by
 refine KW h1 λhin B s Q hq=>?_
 dsimp only[lpF,lpG]at hq hin⊢
 split at hq
 ·rename_i t bl heq
  cases hsn:zq s.n n1
  ·rw[hsn]at hq;exact hq.elim
  ·rw[hsn]at hq
   obtain⟨⟨h2,h3⟩,hq⟩:=hq
   exact loop_genP hE hP hin N ts ys ex ex hex hT hc (a0:=()) (step:=λ_ z=>z) (rd:=λ_ _ _ _=>()) (bad:=bad) (ets:=ts) (eys:=ys) (λ_ _=>rfl) hbad (λi hi _=>hpre i hi) (λi hi _=>hlv i hi) (λ_=>hq)
    (λh=>(by have e:ZN bad N 0=N:=(by rw[Zk0 λj _ hj=>Y7 h j (by omega)];omega);simp only[Tree.holds,e]at hq;exact hq)) (zO hsn) ⟨by rw[heq],by rw[heq];exact vEq_le h2,by rw[heq,<- hy];exact ZjV h3⟩
 ·exact hq.elim
theorem hcLtP{N:Nat}(i:Nat)(h:i<=N):decide ((i:Int)<((N:Nat):Int))=za↔i=N:=by
 rw[decide_eq_false_iff_not];omega
end
end Go.Fw
namespace Go.Proofs.YthhbdbeglmkijaaGreatDoor
open Go.Fw
abbrev fm_ts(a:Zc)(mn:Nat)(mr:Nat->DT3)(i:Int)(z:Unit):V:=(.cons (.ptr ze 1 0 0 0) (.cons (.ptr ze 3 0 0 0) (.cons (.ptr ze 8 0 0 0) (.cons (.int za .i64 i) .nil))))
abbrev fm_ys(a:Zc)(mn:Nat)(mr:Nat->DT3)(i:Int)(z:Unit):List Blk:=[.var (.cons (.rsl za 1 mn λj=>ZK za (mr j)) .nil),.var (.cons .Zo .nil),.var (.cons (.int ze .i64 0) .nil),.var (.cons .Zo .nil),.arr 2 a.n0 (λj=>Zu za (a.r0 j)),.var (.cons (.osl za 6 2 0 a.n0) .nil),.var (.cons (.ptr ze 7 0 0 0) .nil)]
def fm_R(a:Zc)(mn:Nat)(mr:Nat->DT3)(i:Int)(z:Unit):Tree Rd:=
 let q0:=[zN (zf (zl za 1 mn λjj=>ci (mr jj).f0 zh) zh),zN (zf V.Zo zh),zN (zf (zn ze .i64 (0:Int)) zh),zN (zf V.Zo zh),Blk.arr 2 a.n0 λjj=>ci (a.2 jj).f0 (zf (zl za 1 (a.2 jj).n1 λj=>ci ((a.2 jj).r1 j).f0 zh) zh),zN (zf (V.osl za 6 2 0 a.n0) zh),zN (zf (pt 7) zh)]
 zu ((0:Int)<=i/\i<((a.n0:Nat):Int)) (zu ((0:Nat)+zk i<a.n0) (zB (bif (a.2 ((0:Nat)+zk i)).f0==zD .i64 (i+(1:Int))then za else ze) (zw (Ex.exit 0,ze,zf (pt 1) (zf (pt 3) (zf (pt 8) (ci i zh))),q0)) (zw (Ex.normal,ze,zf (pt 1) (zf (pt 3) (zf (pt 8) (ci (zD .i64 (i+(1:Int))) zh))),q0))))
theorem fm_round(a:Zc)(mn:Nat)(mr:Nat->DT3):ZjN P (Zl P [] [] ze) 223 6 9 9 52 [1,2,3,5] [(1,.own),(2,.own),(3,.own),(5,.own),(6,.own),(7,.own),(8,.own)] [] (fm_ts a mn mr) (fm_ys a mn mr) (λi=>(decide (i<((a.n0:Nat):Int)))) (.exit 0) (fm_R a mn mr):=λB i z=>by kernel_rfl
def Kl(a:Zc)(mn:Nat)(mr:Nat->DT3)(k:Nat):Bool:=(fm_R a mn mr k ()).early
def fm_lp(a:Zc)(mn:Nat)(mr:Nat->DT3):Lp:=lpF 223 6 9 9 52 [1,2,3,5] [(1,.own),(2,.own),(3,.own),(5,.own),(6,.own),(7,.own),(8,.own)] [] (fm_ts a mn mr) (fm_ys a mn mr) (.exit 0) (Kl a mn mr) (a.n0)
theorem fm_lp_ok(a:Zc)(mn:Nat)(mr:Nat->DT3)(hl:a.n0<=1000):(fm_lp a mn mr).Ok P:=by
 refine lpF_ok (Zw hm hn (l:=[]) trivial (ls:=[]) trivial ze) rfl (by kernel_rfl) (fm_round a mn mr) exN hcLtP (λi=>rfl) rfl (λi hlt=>?_) (λi hi=>?_)
 ·have hltI:(i:Int)<((a.n0:Nat):Int):=by omega
  refine⟨?_,⟨?_,⟨λhb0=>trivial,λhb0=>trivial⟩⟩⟩
  all_goals(repeat'(first|exact rfl|exact λ_=>⟨rfl,rfl⟩|apply zy|intro _))
  all_goals(try simp only[decide_eq_true_eq,decide_eq_false_iff_not,yg,yw]at*)
  all_goals(try simp(disch:=omega) only[IntWalk.i64_in])
  all_goals(first|omega)
 ·have hw:=(IntWalk.i64_in ((i:Int)+1) ⟨by omega,by omega⟩)
  exact⟨⟨rfl,rfl,Le.refl _,⟨LeK.refl _,LeK.refl _,LeK.refl _,LeK.refl _,LeK.Jb rfl (λj hj=>congrArg z8 (by first|rfl|exact UN (c:=Zu za) (r:=a.r0) j)),LeK.refl _,LeK.refl _,trivial⟩⟩,⟨rfl,Yq (ts:=fm_ts a mn mr) (a:=()) hw rfl,⟨LeK.refl _,LeK.refl _,LeK.refl _,LeK.refl _,LeK.Jb rfl (λj hj=>congrArg z8 (by first|rfl|exact UN (c:=Zu za) (r:=a.r0) j)),LeK.refl _,LeK.refl _,trivial⟩⟩⟩
end Go.Proofs.YthhbdbeglmkijaaGreatDoor
namespace Go.Fw
def WB(C news:List Value)(z n i:Nat):List Value:=C.take (i*z)++news++(C.drop (i*z)).take ((n-i)*z)
def insR(old:Nat->V)(i m:Nat)(new:Nat->V):Nat->V:=λj=>bif zG j i then old j else bif zG j (i+m)then new (j-i)else old (j-m)
def oneR(m:Nat)(new:Nat->V):Nat->V:=match m with
 |1=>λ_=>new 0
 |_=>new
theorem oneR_at{m j:Nat}{new:Nat->V}(h:j<m):oneR m new j=new j:=by
 unfold oneR
 split
 ·obtain rfl:j=0:=by omega
  rfl
 ·rfl
structure InsOk(P:Program)(f t e:Nat)(z by_:Nat):Prop where
 has:Has P f
 ht:P.underlying t=zi (.slice e)
 hi:∃i zv,P.info? e=zi i/\i.zero=zi zv/\zv.cells.size=i.size/\i.size=z/\i.bytes=by_
 shift:∀(B n c i vb m vc:Nat)(cur vcur:Array Value)(el vel:TypeId)(news:List Value)(w:World),i<n->0<m->n+m<=c->n+m<=9223372036854775807->
  w.heap[B]? =zi (.cells cur el (0,0))->c*z<=cur.size->w.heap[vb]? =zi (.cells vcur vel (0,0))->vb≠B->
  news.length=m*z->(∀(j:Nat)(u:Value),news[j]? =zi u->vcur.toList[j]? =zi u)->(∀v∈(cur.toList.drop (i*z)).take ((n-i)*z),v.oneCell'=ze)->(∀v∈news,v.oneCell'=ze)->
  Calls P f #[.slice (zi ⟨B,0,zm⟩) n c,.int .i64 i,.slice (zi ⟨vb,0,zm⟩) m vc] w λx w'=>
   x=.returned (.slice (zi ⟨B,0,zm⟩) (n+m) c)/\w'=w.drew.setRow B (WB cur.toList news z n i++cur.toList.drop ((n+m)*z)).toArray
 grow:∀(B n c i vb m vc:Nat)(cur vcur:Array Value)(el vel:TypeId)(news:List Value)(w:World),i<n->0<m->n<=c->c<n+m->(n+m)*by_<=140737488355328->
  w.heap[B]? =zi (.cells cur el (0,0))->B<w.heap.size->vb<w.heap.size->c*z<=cur.size->w.heap[vb]? =zi (.cells vcur vel (0,0))->
  news.length=m*z->(∀(j:Nat)(u:Value),news[j]? =zi u->vcur.toList[j]? =zi u)->(∀v∈(cur.toList.drop (i*z)).take ((n-i)*z),v.oneCell'=ze)->(∀v∈news,v.oneCell'=ze)->
  Calls P f #[.slice (zi ⟨B,0,zm⟩) n c,.int .i64 i,.slice (zi ⟨vb,0,zm⟩) m vc] w λx w'=>
   ∃rest,x=.returned (.slice (zi ⟨w.heap.size,0,zm⟩) (n+m) (grownCap w (n+m) c e))/\rest.length=(grownCap w (n+m) c e-(n+m))*z/\
    w'=w.drew.drew.alloc (.cells (WB cur.toList news z n i++rest).toArray e)
 end_:∀(base:Option Addr)(n c m:Nat)(va:Option Addr)(vc:Nat)(w w':World)(v':Value),0<m->n<=c->
  (∀ty,(Builtin.append_ #[t,t] ty #[.slice base n c,.slice va m vc]).run P w=.ok v' w')->
  Calls P f #[.slice base n c,.int .i64 n,.slice va m vc] w λx w''=>x=.returned v'/\w''=w'
def insK(z by_:Nat):HK:=λargs bl=>match args with
 | .cons s (.cons (.int _ .i64 a) (.cons (.osl sx bx ex ix mx) .nil))=>match Wx (λb=>bl.getD b .none) z s,rowsOf (λb=>bl.getD b .none) z (.osl sx bx ex ix mx)with
  |some (_,k,old,pre,zi b),zi (_,m,new)=>bif !zq bx b&&zq ix 0 then
   zi (.need (pre/\(0<=a/\a<=k/\0<m/\fits (k+m) by_)/\(∀j,j<k->(old j).YN=ze/\(old j).clean=ze)/\∀j,j<m->(oneR m new j).YN=ze/\(oneR m new j).clean=ze)
    (.leaf (.osl za bl.length z 0 (k+m),bl.set b .any++[.arr z (k+m) (insR old a.toNat m (oneR m new))])))else zm
  |_,_=>zm
 |_=>zm
section
variable{base:Nat}{m:Nat->Option Nat}{F:Nat->Prop}{h:Nat->Blk}{n:Nat}{w:World}
variable{z k:Nat}{L:List Value}
theorem Rows.sub{get:Nat->V}(hL:Rows F w n m z k get L)(j:Nat)(hj:j<k):∃ys,RL F w (get j) n m ys/\ys.length=z/\∀q,q<z->L[j*z+q]? =ys[q]?:=hL.2 j hj
variable{old new:Nat->V}{C:List Value}
theorem Zln{mm i:Nat}{N:List Value}(hz:0<z)(hi:i<=k)(hL:Rows F w n m z k old L)(hN:Rows F w n m z mm new N)(hC:C.take (k*z)=L):Rows F w n m z (k+mm) (insR old i mm new) (WB C N z k i):=by
 have h1:i*z<=k*z:=yx _ hi
 have h2:(k-i)*z=k*z-i*z:=Nat.sub_mul ..
 have h0:=hL.1
 have hcl:k*z<=C.length:=by rw[<- hC]at h0;simp at h0;omega
 have hlen:(WB C N z k i).length=(k+mm)*z:=by
  simp only[WB,List.length_append,List.length_take,List.length_drop,hN.1]
  rw[Nat.add_mul,h2];omega
 refine⟨hlen,λj hj=>?_⟩
 have hget:∀q,(C.take (i*z))[q]? =if q<i*z then C[q]? else zm:=λq=>by rw[List.getElem?_take]
 have hCL:∀q,q<k*z->C[q]? =L[q]?:=λq hq=>by rw[<- hC,List.getElem?_take_of_lt hq]
 have hl1:(C.take (i*z)).length=i*z:=by simp;omega
 have hl2:(C.take (i*z)++N).length=i*z+mm*z:=by rw[List.length_append,hl1,hN.1]
 simp only[insR]
 by_cases c1:j<i
 ·obtain⟨ys,g1,g2,g3⟩:=hL.2 j (by omega)
  have hm1:(j+1)*z<=i*z:=yx _ c1
  rw[Nat.add_mul,Nat.one_mul]at hm1
  refine⟨ys,by rw[YS.2 c1];exact g1,g2,λq hq=>?_⟩
  rw[<- g3 q hq,<- hCL _ (by omega)]
  simp only[WB,List.append_assoc]
  rw[List.getElem?_append_left (by omega),List.getElem?_take_of_lt (by omega)]
 ·have b1:zG j i=za:=by cases hb:zG j i with
   |false=>rfl
   |true=>exact absurd (YS.1 hb) c1
  rw[b1]
  have hm1:i*z<=j*z:=yx _ (by omega)
  by_cases c2:j<i+mm
  ·obtain⟨ys,g1,g2,g3⟩:=hN.2 (j-i) (by omega)
   have hm2:(j-i)*z=j*z-i*z:=Nat.sub_mul ..
   have hm3:(j+1)*z<=(i+mm)*z:=yx _ c2
   rw[Nat.add_mul,Nat.one_mul,Nat.add_mul]at hm3
   refine⟨ys,by rw[YS.2 c2];exact g1,g2,λq hq=>?_⟩
   rw[<- g3 q hq]
   simp only[WB]
   rw[List.getElem?_append_left (by omega),List.getElem?_append_right (by omega),hl1,hm2]
   congr 1;omega
  ·have b2:zG j (i+mm)=za:=by cases hb:zG j (i+mm)with
    |false=>rfl
    |true=>exact absurd (YS.1 hb) c2
   rw[b2]
   obtain⟨ys,g1,g2,g3⟩:=hL.2 (j-mm) (by omega)
   have hm2:(j-mm)*z=j*z-mm*z:=Nat.sub_mul ..
   have hm3:(i+mm)*z<=j*z:=yx _ (by omega)
   have hm4:(j+1)*z<=(k+mm)*z:=yx _ hj
   rw[Nat.add_mul]at hm3
   rw[Nat.add_mul,Nat.one_mul,Nat.add_mul]at hm4
   refine⟨ys,g1,g2,λq hq=>?_⟩
   rw[<- g3 q hq,<- hCL _ (by omega)]
   simp only[WB]
   rw[List.getElem?_append_right (by omega),hl2,List.getElem?_take_of_lt (by omega),List.getElem?_drop]
   congr 1;omega
theorem Rows.oneI{mm i:Nat}(h:Rows F w n m z (k+mm) (insR old i mm new) L):Rows F w n m z (k+mm) (insR old i mm (oneR mm new)) L:=by
 have e:insR old i mm (oneR mm new)=insR old i mm new:=by
  funext j
  unfold insR
  cases h1:zG j i
  ·cases h2:zG j (i+mm)
   ·rfl
   ·simp only[cond_false,cond_true]
    rw[oneR_at]
    have h3:=YS.1 h2
    have h4:¬j<i:=λh=>by rw[YS.2 h]at h1;cases h1
    omega
  ·rfl
 rw[e];exact h
theorem mem_mid{a b:Nat}{v:Value}(h:v∈(C.drop a).take (b-a))(hab:a<=b):v∈C.take b:=by
 rw[<- List.drop_take]at h
 exact List.mem_of_mem_drop h
theorem getD_app{bl:List Blk}{b:Nat}{x:Blk}(hb:b<bl.length)(c:Nat):(bl.set b .any++[x]).getD c .none=if c=bl.length then x else if c=b then .any else bl.getD c .none:=by
 simp only[List.getD_eq_getElem?_getD]
 by_cases e:c=bl.length
 ·subst e
  rw[if_pos rfl,List.getElem?_append_right (by simp)]
  simp
 ·rw[if_neg e]
  by_cases h1:c<bl.length
  ·rw[List.getElem?_append_left (by simpa using h1),List.getElem?_set]
   by_cases e2:b=c
   ·subst e2;simp[h1]
   ·rw[if_neg e2,if_neg (λq=>e2 q.symm)]
  ·rw[List.getElem?_eq_none (by simp;omega),if_neg (by omega),List.getElem?_eq_none (by omega)]
theorem InsOk.hk{P:Program}{f t e by_:Nat}(I:InsOk P f t e z by_)(hz:0<z):Xo P f (insK z by_):=by
 intro args bl T hT base m F w xs Q KK hr hargs hq hk
 unfold insK at hT
 split at hT
 case h_2=>cases hT
 rename_i s it a sx bx ex ix mx
 split at hT
 case h_2=>cases hT
 rename_i st k old pre b st' mm new hbase hrows
 cases hg:(!zq bx b&&zq ix 0)
 ·rw[hg]at hT;cases hT
 rw[hg]at hT
 simp only[cond_true]at hT
 injection hT with hT
 subst hT
 obtain⟨⟨hpre,⟨ha0,hak,hm0,hf⟩,hco,hcn0⟩,hq⟩:=hq
 have hcn:∀j,j<mm->(new j).YN=ze/\(new j).clean=ze:=λj hj=>by have h:=hcn0 j hj;rw[oneR_at (new:=new) hj]at h;exact h
 simp only[RL]at hargs
 obtain⟨S,r,e1,hS,X1,r1,e2,hX1,X,r2,e3,hX,e4⟩:=hargs
 have hxs:xs= #[S,X1,X]:=by grind
 subst hxs
 obtain⟨a0,cap,L,rfl,hkc,hLr,hLc,hnone,hblk,hst⟩:=Zcn hr hS hbase hpre
 have hX0:=hX
 obtain⟨va,vc,rfl,hnew⟩:=ZdL hr hX hrows
 obtain⟨ad,N,rfl,hN,hNc⟩:=hnew.resolve_left (by omega)
 obtain rfl:X1=.int .i64 a:=hX1
 obtain⟨i,rfl⟩:∃i:Nat,a=i:=⟨a.toNat,by omega⟩
 have hik:i<=k:=by omega
 have hbn:b<bl.length:=Zhr hr hS hbase
 have hone:∀v∈N,v.oneCell'=ze:=hN.one hz λj hj=>(hcn j hj).1
 have honeL:∀v∈L,v.oneCell'=ze:=hLr.one hz λj hj=>(hco j hj).1
 obtain⟨i0,zv,hi0,hzv,hzs,hsz,hby⟩:=I.hi
 refine⟨I.has,?_⟩
 have fin:∀(w':World)(B:Nat)(arr:Array Value)(el:TypeId)(capn:Nat)(rest C:List Value),HR base m F (λc=>if c=b then .any else bl.getD c .none) bl.length w'->Ext base m F bl.length w m F bl.length w'->
   ((base<=B/\¬F B)/\B<w'.heap.size/\∀c,m c=zi B->(if c=b then Blk.any else bl.getD c .none)=.any)->w'.heap[B]? =zi (.cells arr el (0,0))->k+mm<=capn->capn*z<=arr.size->arr.toList=WB C N z k i++rest->C.take (k*z)=L->
   (w.heap.size<=B\/∃c,m c=zi B)->KK (.returned (.slice (zi ⟨B,0,zm⟩) (k+mm) capn)) w':=by
  intro w' B arr el capn rest C h1 h2 h3 h4 h5 h6 h7 hC h8
  have hrow0:=Zln hz hik (hLr.down λj hj=>(hco j hj).2) (hN.down λj hj=>(hcn j hj).2) hC
  have hrow:=hrow0.oneI
  have hfitsz:(k+mm)*z<=arr.size:=Nat.le_trans (yx _ h5) h6
  have j1:=h1.name (h':=λc=>(bl.set b .any++[Blk.arr z (k+mm) (insR old (i:Int).toNat mm (oneR mm new))]).getD c .none) (B:=zi B) (blk:=.arr z (k+mm) (insR old (i:Int).toNat mm (oneR mm new))) (λk hk=>by injection hk with hk;subst hk;exact h3) (λc=>getD_app hbn c)
   (.inr ⟨B,arr,el,rfl,h4,hfitsz,λj hj=>by
    obtain⟨ys,g1,g2,g3⟩:=hrow.2 j hj
    refine⟨ys,(Xj h2.sz h2.f (λB hB=>h2.keep B (.inr hB)) _ 0 0 _ _ (zI _) (λ_ _ _ h=>h)).2 _ g1,g2,λq hq=>?_⟩
    rw[<- g3 q hq]
    have hmul:(j+1)*z<=(k+mm)*z:=yx _ hj
    rw[Nat.add_mul,Nat.one_mul]at hmul
    exact Kv (ys:=WB C N z k i) (zs:=rest) h7 (by rw[hrow.1];omega)⟩)
  have hlen:(bl.set b Blk.any++[Blk.arr z (k+mm) (insR old (i:Int).toNat mm (oneR mm new))]).length=bl.length+1:=by simp
  refine hk _ _ hq (λc=>if c=bl.length then zi B else m c) F w' _ ?_ ?_ ?_
  ·rw[hlen];exact h2.name (λk hk=>by injection hk with hk;subst hk;exact h8)
  ·rw[hlen];exact j1
  ·rw[hlen,Yp]
   exact⟨by omega,_,capn,rfl,h5,.inr ⟨B,arr,el,(0,0),by rw[Nat.zero_mul],by rw[if_pos rfl],h4,by rw[zX];exact h6⟩⟩
 have hlenI:∀C:List Value,C.take (k*z)=L->(WB C N z k i).length=(k+mm)*z:=λC hC=>(Zln hz hik hLr hN hC).1
 rcases Nat.lt_or_eq_of_le hik with hlt|rfl
 ·
  rcases hblk with h0|⟨b',B,c,el,hb',hbn',hB,hna,rfl,hcell,hfit,htk⟩
  ·omega
  injection hb' with hb'
  subst hb'
  have hne:bx≠b:=λe=>by
   subst e
   rw[Nat.beq_refl]at hg
   simp at hg
  obtain rfl:ix=0:=zO (by cases h1:zq ix 0<;>simp_all)
  rw[Yp]at hX0
  obtain⟨hbxn,ax,capx,hXe,hmc,hXr⟩:=hX0
  injection hXe with q1 q2 q3
  subst q1
  subst q3
  rcases hXr with h0|⟨B',vcur,vel,fr,hax,hB',hvc,hvs⟩
  ·omega
  injection hax with hax
  rw[Nat.zero_mul]at hax
  subst hax
  have hfr:fr=(0,0)/\bl.getD bx .none≠.any:=by
   have hb:=hr.blk bx hbxn
   unfold rowsOf V.Wl ZbE at hrows
   dsimp only at hrows
   cases hes:zq z ex
   ·rw[hes]at hrows;cases hrows
   rw[hes]at hrows
   simp only[cond_true]at hrows
   cases hh:bl.getD bx .none<;>rw[hh]at hrows hb<;>try(cases hrows;done)
   ·obtain⟨B2,xs2,el2,ys,zs,e1,e2,_⟩:=hb
    rw[hB']at e1
    injection e1 with e1
    subst e1
    rw[hvc]at e2
    injection e2 with e2
    injection e2 with _ _ e3
    exact⟨e3,by simp⟩
   ·rcases hb with⟨_,h0⟩|⟨B2,c2,el2,e1,e2,_⟩
    ·rw[hB']at h0;cases h0
    ·rw[hB']at e1
     injection e1 with e1
     subst e1
     rw[hvc]at e2
     injection e2 with e2
     injection e2 with _ _ e3
     exact⟨e3,by simp⟩
  obtain⟨rfl,hxa⟩:=hfr
  have hBB:B'≠B:=λe=>by
   subst e
   rcases hr.inj bx b B' hB' hB hne with h|h
   ·exact hxa h
   ·exact hna h
  have hnews:∀(j:Nat)(u:Value),N[j]? =zi u->vcur.toList[j]? =zi u:=λj u hu=>by
   have h1:=hNc j u hu
   rw[Addr.add_lit,zX]at h1
   simpa[World.cell?,hvc]using h1
  have h1c:∀v∈(c.toList.drop (i*z)).take ((k-i)*z),v.oneCell'=ze:=λv hv=>honeL v (by
   rw[<- htk]
   rw[Nat.sub_mul]at hv
   exact mem_mid hv (yx _ hik))
  by_cases hroom:k+mm<=cap
  ·refine Calls.mono (I.shift B k cap i B' mm vc c vcur el vel N w hlt hm0 hroom hf.2 hcell hfit hvc hBB hN.1 hnews h1c hone) λx w' he=>?_
   obtain⟨rfl,rfl⟩:=he
   have hdrew:Later F w F w.drew:=⟨λ_ h=>h,λ_ h=>.inl h,λ_ _=>rfl,zI _,λhd B hB=>hd B hB,⟨rfl,rfl,rfl⟩⟩
   have hfit2:(k+mm)*z<=c.size:=Nat.le_trans (yx _ hroom) hfit
   have hns:(WB c.toList N z k i++c.toList.drop ((k+mm)*z)).toArray.size=c.size:=by
    rw[List.size_toArray,List.length_append,hlenI c.toList htk]
    simp;omega
   obtain⟨k1,k2⟩:=(hr.later hdrew).turn (h':=λc=>if c=b then .any else bl.getD c .none) hB (old:=c) (el:=el) hcell hns hna (blk:=.any) (λc=>rfl) (λ_=>trivial)
   refine fin _ B _ el cap (c.toList.drop ((k+mm)*z)) c.toList k1 ((hr.ext hdrew).trans k2) ⟨hr.own b B hB,?_,λc' hc'=>?_⟩ (setRow_heap w.drew B _ _ el _ hcell) hroom (by rw[hns];exact hfit) rfl htk (.inr ⟨b,hB⟩)
   ·simpa using hr.dom b B hB
   ·by_cases e:c'=b
    ·rw[if_pos e]
    ·rw[if_neg e]
     rcases hr.inj c' b B hc' hB e with h|h
     ·exact h
     ·exact absurd h hna
  ·refine Calls.mono (I.grow B k cap i B' mm vc c vcur el vel N w hlt hm0 hkc (by omega) hf.1 hcell (hr.dom b B hB) (hr.dom bx B' hB') hfit hvc hN.1 hnews h1c hone) λx w' he=>?_
   obtain⟨rest,rfl,hrl,rfl⟩:=he
   have hcut:Later F w F (w.drew.drew.alloc (.cells (WB c.toList N z k i++rest).toArray e)):=
    ⟨λ_ h=>h,λ_ h=>.inl h,λB hB=>heap_alloc_old w.drew.drew _ B hB,by simp,λhd B hB=>by have:=hd B hB;simp;omega,⟨rfl,rfl,rfl⟩⟩
   have hge:k+mm<=grownCap w (k+mm) cap e:=by simp[grownCap,Question.cut]
   refine fin _ w.heap.size _ e _ rest c.toList ((hr.later hcut).forget (b:=b) λc=>rfl) (hr.ext hcut) ⟨⟨hr.low,λhF=>absurd (hr.fdom _ hF) (Nat.lt_irrefl _)⟩,by simp,λc hc=>absurd (hr.dom c _ hc) (Nat.lt_irrefl _)⟩
    (heap_alloc_new w.drew.drew _) hge ?_ rfl htk (.inl (zI _))
   rw[List.size_toArray,List.length_append,hlenI c.toList htk,hrl,<- Nat.add_mul]
   exact yx _ (by omega)
 ·
  obtain⟨w',B,arr,el,capn,rest,hrun,k1,k2,k3,k4,k5,k6,k7,k8⟩:=Zcm (P:=P) (ty:=0) (g:=λb=>bl.getD b .none) (h0:=.nil) hr I.ht hi0 hzv hzs hkc (by rw[hsz];exact hLr.1) hLc (b:=zi b) hnone (by rw[hsz];exact hblk) (ad:=ad) (c:=vc) hm0 (by rw[hsz];exact hN.1) hNc hone (by rw[hby];exact hf)
  have hl:∀c,look (λb=>bl.getD b .none) (JY .nil (zi b)) c=if c=b then .any else bl.getD c .none:=λc=>Yg _ _ _ _ _
  rw[hsz]at k6
  refine Calls.mono (I.end_ a0 i cap mm _ vc w w' _ hm0 hkc λty=>hrun) λx w'' he=>?_
  ·obtain⟨rfl,rfl⟩:=he
   refine fin _ B arr el capn rest L ?_ k2 ?_ k4 k5 k6 ?_ ?_ k8
   ·rw[<- funext hl];exact k1
   ·refine⟨k3.1,k3.2.1,λc hc=>?_⟩
    rw[<- hl c];exact k3.2.2 c hc
   ·rw[k7]
    have h0:=hLr.1
    simp[WB,List.take_of_length_le (Nat.le_of_eq h0)]
   ·exact List.take_of_length_le (Nat.le_of_eq hLr.1)
end
section
variable{Pp:Program}
open Go.RowKit Go.Lib
theorem ZgQ(w:World)(dT sT ty elem:TypeId)(g o dLen dCap:Nat)(a:Addr)(sLen sCap z:Nat)(cur:Array Value)(t:TypeId)(cs:List Value)
  (hu:Pp.underlying dT=zi (.slice elem))(hs:(Pp.info? elem).map (·.size)=zi z)
  (hg:w.heap[g]? =zi (.cells cur t (0,0)))(hn:cs.length=Nat.min sLen dLen*z)
  (hsrc:∀j v,cs[j]? =zi v->w.cell? (a.add j)=zi v)(hfit:o+cs.length<=cur.size)(h1:∀v∈cs,v.oneCell'=ze) :
  (Builtin.copy_ #[dT,sT] ty #[.slice (zi ⟨g,o,zm⟩) dLen dCap,.slice (zi a) sLen sCap]).run Pp w=
   .ok (goInt (Nat.min sLen dLen)) (w.setRow g (cur.toList.take o++cs++cur.toList.drop (o+cs.length)).toArray):=by
 have hl:=run_loadCells_list (P:=Pp) w a cs hsrc
 have hst:=run_storeCells_at Pp g o t cs 0 cur w hg (by simpa using hfit) h1
 cases hq:Pp.info? elem with
 |none=>simp[hq]at hs
 |some i=>
  have hi:i.size=z:=by simpa[hq]using hs
  simp[Builtin.copy_,run_underlying hu,Builtin.lenOf,Builtin.firstCells,sizeOf,typeInfo,hq,hi,<- hn,hl,hst]
theorem Zcw{w:World}{B:Nat}{cur:Array Value}{el:TypeId}(hB:w.heap[B]? =zi (.cells cur el (0,0)))(o j:Nat){v:Value}(h:cur.toList[o+j]? =zi v):w.cell? ((⟨B,o,zm⟩:Addr).add j)=zi v:=by
 rw[Addr.add_lit]
 have:o+j<cur.size:=by
  have:=(List.getElem?_eq_some_iff.1 h).1
  simpa using this
 simp[World.cell?,hB,this]
 simpa[this]using h
variable{C news A:List Value}{a b:Nat}
theorem ins_list{k:Nat}(h1:a<=b)(hl:news.length=k)(hc:b+k<=C.length)
  (hA:A=C.take (a+k)++(C.drop a).take (b-a)++C.drop (a+k+(b-a))) :
  A.take a++news++A.drop (a+k)=C.take a++news++(C.drop a).take (b-a)++C.drop (b+k):=by
 have ht:A.take a=C.take a:=by
  rw[hA,List.append_assoc,List.take_append_of_le_length (by simp;omega),List.take_take]
  congr 1;omega
 have hd:A.drop (a+k)=(C.drop a).take (b-a)++C.drop (b+k):=by
  rw[hA,List.append_assoc,List.drop_append]
  have h0:(C.take (a+k)).drop (a+k)=[]:=List.drop_eq_nil_of_le (by simp;omega)
  have h3:(C.take (a+k)).length=a+k:=by simp;omega
  rw[h0,h3,Nat.sub_self,List.drop_zero,List.nil_append,show a+k+(b-a)=b+k by omega]
 rw[ht,hd,List.append_assoc,List.append_assoc,List.append_assoc]
variable{cs:List Value}
theorem ins_two{z n m i:Nat}(hi:i<=n)(hl:news.length=m*z)(hc:(n+m)*z<=C.length)(hcs:cs=(C.drop (i*z)).take ((n-i)*z))
  (hA:A=C.take ((i+m)*z)++cs++C.drop ((i+m)*z+cs.length)):A.take (i*z)++news++A.drop (i*z+news.length)=WB C news z n i++C.drop ((n+m)*z):=by
 have h1:i*z<=n*z:=yx _ hi
 have hcl:cs.length=n*z-i*z:=by
  rw[hcs,Nat.sub_mul];rw[Nat.add_mul]at hc;simp;omega
 rw[Nat.add_mul]at hc
 rw[hl]
 have:=ins_list (C:=C) (news:=news) (a:=i*z) (b:=n*z) (k:=m*z) h1 hl hc (A:=A) (by rw[hA,hcl,hcs,Nat.add_mul,Nat.sub_mul])
 rw[this,WB,Nat.add_mul,Nat.sub_mul]
theorem Zno(w:World)(a b:Array Value)(e:TypeId):(w.alloc (.cells a e)).setRow w.heap.size b=w.alloc (.cells b e):=by
 simp only[World.alloc,World.setRow]
 congr 1
 apply Array.ext_getElem?
 intro k
 grind
theorem grow_list{R:List Value}{k:Nat}(h1:a<=b)(hR:R.take a=C.take a)(hl:news.length=k)(hc:b+k<=R.length)(hcl:cs.length=b-a)
  (hA:A=R.take a++news++R.drop (a+k)):A.take (a+k)++cs++A.drop (a+k+(b-a))=C.take a++news++cs++R.drop (b+k):=by
 have h2:(R.take a++news).length=a+k:=by simp;omega
 have ht:A.take (a+k)=C.take a++news:=by
  rw[hA,<- hR,<- h2,List.take_left]
 have hd:A.drop (a+k+(b-a))=R.drop (b+k):=by
  rw[hA,List.drop_append,h2,List.drop_eq_nil_of_le (by omega),List.nil_append,List.drop_drop]
  congr 1;omega
 rw[ht,hd]
theorem info_of{Pp:Program}{t:TypeId}{z:Value}(h:(Pp.info? t).map (λi=>(i.zero,i.size,i.bytes))=zi (zi z,a,b)):∃i,Pp.info? t=zi i/\i.zero=zi z/\i.size=a/\i.bytes=b:=by
 cases hi:Pp.info? t with
 |none=>simp[hi]at h
 |some i=>simp[hi]at h;exact⟨i,rfl,h.1,h.2.1,h.2.2⟩
theorem Zsg(z:Array Value)(k:Nat):(yC z k).size=k*z.size:=by simp[yC]
end
end Go.Fw
namespace Go.Proofs.YthhbdbeglmkijaaGreatDoor
open Go.Shelf Go.RowKit Go.Lib Go.Fw
theorem KQ:P.underlying 32=zi (.slice 103):=by kernel_rfl
theorem ins226_z(w:World):(Go.sizeOf 103).run P w=.ok 2 w:=by
 have h:(P.info? 103).map (·.size)=zi 2:=by kernel_rfl
 cases hi:P.info? 103 with
 |none=>rw[hi]at h;cases h
 |some i=>rw[hi]at h;simp[Go.sizeOf,typeInfo,hi]at h⊢;exact h
theorem Zf0:(P.info? 103).map (·.size)=zi 2:=by kernel_rfl
theorem Zp9(B n c i vb m vc:Nat)(cur vcur:Array Value)(el vel:TypeId)(news:List Value)(w:World)(hi:i<n)(hm:0<m)(hroom:n+m<=c)(hn63:n+m<=9223372036854775807)
  (hB:w.heap[B]? =zi (.cells cur el (0,0)))(hsz:c*2<=cur.size)(hV:w.heap[vb]? =zi (.cells vcur vel (0,0)))(hne:vb≠B)
  (hl:news.length=m*2)(hnews:∀(j:Nat)(u:Value),news[j]? =zi u->vcur.toList[j]? =zi u)(h1c:∀v∈(cur.toList.drop (i*2)).take ((n-i)*2),v.oneCell'=ze)(h1v:∀v∈news,v.oneCell'=ze)
  :
  Calls P 226 #[.slice (zi ⟨B,0,zm⟩) n c,.int .i64 i,.slice (zi ⟨vb,0,zm⟩) m vc] w λe w'=>
   e=.returned (.slice (zi ⟨B,0,zm⟩) (n+m) c)/\w'=w.drew.setRow B (WB cur.toList news 2 n i++cur.toList.drop ((n+m)*2)).toArray:=by
 have hz1:¬((m:Int)=0):=by omega
 have hz2:¬((i:Int)=(n:Int)):=by omega
 have hw1:IntKind.i64.wrap ((i:Int)+(m:Int))=(i:Int)+(m:Int):=by rw[IntKind.wrap_i64];omega
 have hb1:(0:Int)<=(i:Int)+(m:Int):=by omega
 have hin:i<=n:=by omega
 have htn:((i:Int)+(m:Int)).toNat=i+m:=by omega
 have hb2:¬(c=i+m):=by omega
 have hb3:(i:Int)<=(n:Int)+(m:Int):=by omega
 have hb4:¬(c=i):=by omega
 have ht:=KQ
 have mixed:P.follows .mixedOrders=ze:=Go.Proofs.YthhbdbeglmkijaaGreatDoor.hm
 have hov:∀lb cb,(callFunc 255 #[.slice (zi ⟨vb,0,zm⟩) m vc,.slice (zi ⟨B,(i+m)*2,zm⟩) lb cb]).run P w=.ok (.value (.bool za)) w:=λlb cb=>by
  rw[run_callFunc_extern Tryz.func255 (by kernel_rfl) (by kernel_rfl) (by kernel_rfl) (e:=Extern.SlicesOverlaps.overlaps #[32,32] #[4]) (by kernel_rfl),
   Lib.run_overlaps_apart w 32 4 103 KQ 2 ins226_z ⟨vb,0,zm⟩ ⟨B,(i+m)*2,zm⟩ m vc lb cb hne vel el vcur.size cur.size (by simp[World.shape?,hV]) (by simp[World.shape?,hB]) (by omega) (by simp[World.frozen?,hV]) (by simp[World.frozen?,hV])]
  rfl
 obtain⟨cs,hcs⟩:∃cs,cs=(cur.toList.drop (i*2)).take ((n-i)*2):=⟨_,rfl⟩
 have hcl:cs.length=(n-i)*2:=by rw[hcs];simp;omega
 have hcp1:∀ty dc sc,(Builtin.copy_ #[32,32] ty #[.slice (zi ⟨B,(i+m)*2,zm⟩) (n+m-(i+m)) dc,.slice (zi ⟨B,i*2,zm⟩) (n+m-i) sc]).run P w.drew=_:=λty dc sc=>
  ZgQ w.drew 32 32 ty 103 B ((i+m)*2) (n+m-(i+m)) dc ⟨B,i*2,zm⟩ (n+m-i) sc 2 cur el cs KQ Zf0 hB (by rw[hcl];simp only[Nat.min_def];split<;>omega)
   (λj v hj=>Zcw hB _ _ (by rw[hcs,List.getElem?_take]at hj;split at hj<;>simp_all)) (by omega) (by rw[hcs];exact h1c)
 obtain⟨arr1,ha1⟩:∃a:List Value,a=cur.toList.take ((i+m)*2)++cs++cur.toList.drop ((i+m)*2+cs.length):=⟨_,rfl⟩
 have hcp2:∀(W:World),(∀k,W.heap[k]? =(w.drew.setRow B arr1.toArray).heap[k]?)->∀ty dc,(Builtin.copy_ #[32,32] ty #[.slice (zi ⟨B,i*2,zm⟩) (n+m-i) dc,.slice (zi ⟨vb,0,zm⟩) m vc]).run P W=_:=λW hW ty dc=>
  ZgQ W 32 32 ty 103 B (i*2) (n+m-i) dc ⟨vb,0,zm⟩ m vc 2 arr1.toArray el news KQ Zf0 (by rw[hW];exact setRow_heap w.drew B cur _ el _ hB) (by rw[hl];simp only[Nat.min_def];split<;>omega)
   (λj v hj=>Zcw (by rw[hW,setRow_other _ _ _ _ hne];exact hV) _ _ (by rw[zX];exact hnews j v hj)) (by rw[ha1];simp;omega) h1v
 rw[<- ha1]at hcp1
 go_enter Tryz.func226,Tryz.ntmps226
 go_wp2_with (simp only[hov])
 go_region_law_o (refine step_copy_runI rfl _ _ 32 32 rfl _ _ (by simp[Act.eval,Act.put]) (by simp[Act.eval,Act.put]) (hcp1 _ _ _) ?_)
 go_wp2_with (at_builtin;refine wpList_copy_runI _ rfl _ _ 32 32 rfl _ _ rfl rfl (hcp2 _ (λ_=>rfl) _ _) ?_)
 go_ret
 refine⟨rfl,?_⟩
 rw[<- ins_two (C:=cur.toList) (m:=m) hin hl (by simp;omega) hcs ha1]
 simp[setRow_setRow,ha1,hcs,hl]
theorem ins226_u:P.underlying 3=zi (.int .i64):=by kernel_rfl
theorem Zlm:(P.info? 103).map (λi=>(i.zero,i.size,i.bytes))=zi (zi (.agg #[.int .i64 0,.slice zm 0 0]),2,32):=by kernel_rfl
theorem Zp8(B n c i vb m vc:Nat)(cur vcur:Array Value)(el vel:TypeId)(news:List Value)(w:World)(hi:i<n)(hm:0<m)(hnc:n<=c)(hroom:c<n+m)(hbig:(n+m)*32<=140737488355328)
  (hB:w.heap[B]? =zi (.cells cur el (0,0)))(hBs:B<w.heap.size)(hVs:vb<w.heap.size)(hsz:c*2<=cur.size)(hV:w.heap[vb]? =zi (.cells vcur vel (0,0)))
  (hl:news.length=m*2)(hnews:∀(j:Nat)(u:Value),news[j]? =zi u->vcur.toList[j]? =zi u)(h1c:∀v∈(cur.toList.drop (i*2)).take ((n-i)*2),v.oneCell'=ze)(h1v:∀v∈news,v.oneCell'=ze) :
  Calls P 226 #[.slice (zi ⟨B,0,zm⟩) n c,.int .i64 i,.slice (zi ⟨vb,0,zm⟩) m vc] w λe w'=>
   ∃rest,e=.returned (.slice (zi ⟨w.heap.size,0,zm⟩) (n+m) (grownCap w (n+m) c 103))/\rest.length=(grownCap w (n+m) c 103-(n+m))*2/\
    w'=w.drew.drew.alloc (.cells (WB cur.toList news 2 n i++rest).toArray 103):=by
 have hz1:¬((m:Int)=0):=by omega
 have hz2:¬((i:Int)=(n:Int)):=by omega
 have hz3:(c:Int)<(n:Int)+(m:Int):=by omega
 have ht:=KQ
 have mixed:P.follows .mixedOrders=ze:=Go.Proofs.YthhbdbeglmkijaaGreatDoor.hm
 obtain⟨i0,hi0,hz0,hzs,hzb⟩:=info_of Zlm
 have hkk:(n:Int)+(m:Int)-(i:Int)=((n+m-i:Nat):Int):=by omega
 have hik:i+(n+m-i)=n+m:=by omega
 obtain⟨cs,hcs⟩:∃cs,cs=(cur.toList.drop (i*2)).take ((n-i)*2):=⟨_,rfl⟩
 have hcl:cs.length=(n-i)*2:=by rw[hcs];simp;omega
 have hold:(Builtin.firstCells i0.size i (.slice (zi ⟨B,0,zm⟩) i c)).run P w.drew=.ok (cur.toList.take (i*2)).toArray w.drew:=by
  rw[hzs]
  exact run_firstCells_some w.drew 2 i ⟨B,0,zm⟩ i c (cur.toList.take (i*2)) (by simp;omega) (λj v hj=>Zcw (w:=w.drew) hB _ _ (by rw[List.getElem?_take]at hj;split at hj<;>simp_all))
 obtain⟨zz,hzz⟩:∃zz:Value,zz=.agg #[.int .i64 0,.slice zm 0 0]:=⟨_,rfl⟩
 rw[<- hzz]at hz0
 have hzc:zz.cells.size=2:=by rw[hzz];rfl
 have hrz:∀ty,(Builtin.append_ #[32,3] ty #[.slice (zi ⟨B,0,zm⟩) i c,.int .i64 ((n:Int)+(m:Int)-(i:Int))]).run P w=.ok (.slice (zi ⟨w.heap.size,0,zm⟩) (n+m) (grownCap w (n+m) c 103)) (w.drew.alloc (.cells ((cur.toList.take (i*2)).toArray++yC zz.cells (n+m-i)++yC zz.cells (grownCap w (n+m) c 103-(n+m))) 103)):=λty=>by
  have h:=Lib.run_append_grow_zeros w 32 3 ty 103 i0 _ .i64 .i64 KQ ins226_u hi0 hz0 (zi ⟨B,0,zm⟩) i c (cur.toList.take (i*2)) hold (n+m-i) (by omega) (by omega) (by omega) (by omega) (by rw[hzb];omega) (by rw[hzb,hik];exact growslice_fits hroom hbig)
  rw[hik]at h
  rw[hkk]
  exact h
 obtain⟨G,hG⟩:∃G,G=grownCap w (n+m) c 103:=⟨_,rfl⟩
 obtain⟨ROW,hROW⟩:∃ROW:Array Value,ROW=(cur.toList.take (i*2)).toArray++yC zz.cells (n+m-i)++yC zz.cells (G-(n+m)):=⟨_,rfl⟩
 have hGn:n+m<=G:=by rw[hG];exact grownCap_ge w _ _ _
 have hG63:G<=9223372036854775807:=by
  have:=grownCap_le_maxLen w (n+m) c 103 (by unfold maxLen;omega)
  rw[<- hG]at this
  unfold maxLen at this
  omega
 simp only[<- hG]at hrz⊢
 simp only[<- hROW]at hrz
 have hRl:ROW.size=G*2:=by
  rw[hROW]
  simp[Zsg,hzc]
  omega
 obtain⟨NB,hNB⟩:∃NB,NB=w.heap.size:=⟨_,rfl⟩
 rw[<- hNB]at hrz⊢
 obtain⟨A1,hA1⟩:∃a:List Value,a=ROW.toList.take (i*2)++news++ROW.toList.drop (i*2+news.length):=⟨_,rfl⟩
 have hA1l:A1.length=G*2:=by rw[hA1];simp[hRl,hl];omega
 obtain⟨A2,hA2⟩:∃a:List Value,a=A1.take ((i+m)*2)++cs++A1.drop ((i+m)*2+cs.length):=⟨_,rfl⟩
 have hcpA:∀(W:World),(∀k,W.heap[k]? =(w.drew.alloc (.cells ROW 103)).heap[k]?)->∀ty dc,(Builtin.copy_ #[32,32] ty #[.slice (zi ⟨NB,i*2,zm⟩) (n+m-i) dc,.slice (zi ⟨vb,0,zm⟩) m vc]).run P W=_:=λW hW ty dc=>
  ZgQ W 32 32 ty 103 NB (i*2) (n+m-i) dc ⟨vb,0,zm⟩ m vc 2 ROW 103 news KQ Zf0 (by rw[hW,hNB];exact heap_alloc_new w.drew _) (by rw[hl];simp only[Nat.min_def];split<;>omega)
   (λj v hj=>Zcw (by rw[hW,heap_alloc_old w.drew _ hVs];exact hV) _ _ (by rw[zX];exact hnews j v hj)) (by omega) h1v
 rw[<- hA1]at hcpA
 have hbN:B≠NB:=by omega
 have hcpB:∀(W:World),(∀k,W.heap[k]? =((w.drew.alloc (.cells ROW 103)).setRow NB A1.toArray).heap[k]?)->∀ty dc sc,(Builtin.copy_ #[32,32] ty #[.slice (zi ⟨NB,(i+m)*2,zm⟩) (n+m-(i+m)) dc,.slice (zi ⟨B,i*2,zm⟩) (n-i) sc]).run P W=_:=λW hW ty dc sc=>
  ZgQ W 32 32 ty 103 NB ((i+m)*2) (n+m-(i+m)) dc ⟨B,i*2,zm⟩ (n-i) sc 2 A1.toArray 103 cs KQ Zf0
   (by rw[hW];exact setRow_heap _ NB ROW _ 103 _ (by rw[hNB];exact heap_alloc_new w.drew _)) (by rw[hcl];simp only[Nat.min_def];split<;>omega)
   (λj v hj=>Zcw (by rw[hW,setRow_other _ _ _ _ hbN,heap_alloc_old w.drew _ hBs];exact hB) _ _ (by rw[hcs,List.getElem?_take]at hj;split at hj<;>simp_all)) (by simp;omega) (by rw[hcs];exact h1c)
 rw[show A1.toArray.toList=A1 from rfl,<- hA2]at hcpB
 have hE:∀k:Nat,((w.alloc (.cells ROW 103)).drew).heap[k]? =(w.drew.alloc (.cells ROW 103)).heap[k]?:=λk=>rfl
 have hF:∀k:Nat,(((w.alloc (.cells ROW 103)).drew.setRow NB A1.toArray).drew).heap[k]? =((w.drew.alloc (.cells ROW 103)).setRow NB A1.toArray).heap[k]?:=λk=>rfl
 have hw1:IntKind.i64.wrap ((i:Int)+(m:Int))=(i:Int)+(m:Int):=by rw[IntKind.wrap_i64];omega
 have hb1:(0:Int)<=(i:Int)+(m:Int):=by omega
 have hin:i<=n:=by omega
 have htn:((i:Int)+(m:Int)).toNat=i+m:=by omega
 have hb3:(i:Int)<=(n:Int):=by omega
 have hGi:¬(G=i):=by omega
 have hGim:¬(G=i+m):=by omega
 have hci:¬(c=i):=by omega
 have hRt:ROW.toList.take (i*2)=cur.toList.take (i*2):=by
  have h0:(cur.toList.take (i*2)).length=i*2:=by simp;omega
  rw[hROW]
  simp only[Array.toList_append,List.toList_toArray,List.append_assoc]
  rw[List.take_append_of_le_length (by omega),List.take_of_length_le (by omega)]
 have hfin:A2=WB cur.toList news 2 n i++ROW.toList.drop ((n+m)*2):=by
  have:=grow_list (cs:=cs) (news:=news) (a:=i*2) (b:=n*2) (k:=m*2) (by omega) hRt hl (by simp[hRl];omega) (by omega) (A:=A1) (by rw[hA1,hl])
  rw[hA2,hcl,show(i+m)*2=i*2+m*2 by omega,show(n-i)*2=n*2-i*2 by omega,this,WB,<- hcs,show(n+m)*2=n*2+m*2 by omega]
 have hrl:(ROW.toList.drop ((n+m)*2)).length=(G-(n+m))*2:=by simp[hRl];omega
 have hNB':=hNB.symm
 clear hkk hik hold hRl hRt hG hROW hA1 hA2 hcs hzz hNB hcl
 go_enter Tryz.func226,Tryz.ntmps226
 go_wp2_with (first
  |(at_builtin;refine Lib.wpList_append_run _ rfl _ _ _ _ rfl _ _ rfl rfl _ _ (hrz _) ?_)
  |(at_builtin;refine wpList_copy_runI _ rfl _ _ 32 32 rfl _ _ rfl rfl (hcpA _ hE _ _) ?_))
 go_region_law_o (refine step_copy_runI rfl _ _ 32 32 rfl (.slice (zi ⟨NB,(i+m)*2,zm⟩) (n+m-(i+m)) (G-(i+m))) (.slice (zi ⟨B,i*2,zm⟩) (n-i) (c-i)) (by simp[Act.eval,Act.put]) (by simp[Act.eval,Act.put]) (hcpB _ hF 3 (G-(i+m)) (c-i)) ?_)
 go_wp2
 go_ret
 refine⟨ROW.toList.drop ((n+m)*2),rfl,?_,?_⟩
 ·exact hrl
 ·rw[<- hfin,<- hNB']
  show((w.drew.drew.alloc (.cells ROW 103)).setRow w.heap.size A1.toArray).setRow w.heap.size A2.toArray=_
  rw[setRow_setRow]
  exact Zno w.drew.drew ROW A2.toArray 103
theorem Zp7(base:Option Addr)(n c m:Nat)(va:Option Addr)(vc:Nat)(w w':World)(v':Value)(hm:0<m)(hnc:n<=c)
  (hr:∀ty,(Builtin.append_ #[32,32] ty #[.slice base n c,.slice va m vc]).run P w=.ok v' w') :
  Calls P 226 #[.slice base n c,.int .i64 n,.slice va m vc] w λe w''=>e=.returned v'/\w''=w':=by
 have hz1:¬((m:Int)=0):=by omega
 have ht:=KQ
 have mixed:P.follows .mixedOrders=ze:=Go.Proofs.YthhbdbeglmkijaaGreatDoor.hm
 go_enter Tryz.func226,Tryz.ntmps226
 cases base with
 |none=>
  go_wp2_with (at_builtin;refine Lib.wpList_append_run _ rfl _ _ _ _ rfl _ _ rfl rfl _ _ (hr _) ?_)
  all_goals(go_ret;exact⟨rfl,rfl⟩)
 |some a=>
  obtain⟨ab,ao,asp⟩:=a
  cases asp
  all_goals
  go_wp2_with (at_builtin;refine Lib.wpList_append_run _ rfl _ _ _ _ rfl _ _ rfl rfl _ _ (hr _) ?_)
  all_goals(go_ret;exact⟨rfl,rfl⟩)
theorem ins226:InsOk P 226 32 103 2 32 where
 has:=⟨_,_,Tryz.func226,rfl,by kernel_rfl⟩
 ht:=KQ
 hi:=by
  obtain⟨i,h1,h2,h3,h4⟩:=info_of Zlm
  exact⟨i,_,h1,h2,by rw[h3];rfl,h3,h4⟩
 shift B n c i vb m vc cur vcur el vel news w h1 h2 h3 h4 h5 h6 h7 h8 h9 h10 h11 h12:=Zp9 B n c i vb m vc cur vcur el vel news w h1 h2 h3 h4 h5 h6 h7 h8 h9 h10 h11 h12
 grow B n c i vb m vc cur vcur el vel news w h1 h2 h3 h4 h5 h6 h7 h8 h9 h10 h11 h12 h13 h14:=Zp8 B n c i vb m vc cur vcur el vel news w h1 h2 h3 h4 h5 h6 h7 h8 h9 h10 h11 h12 h13 h14
 end_ b n c m va vc w w' v h1 h2 h3:=Zp7 b n c m va vc w w' v h1 h2 h3
def ZcZ(a:Zc)(bn:Nat)(b:Nat->DT3):Tree V:=
 let q0:=(zl za 1 bn λj=>ci (b j).f0 zh)
 let q1:=((ZN (Kl a bn b) a.n0 (0:Nat):Nat):Int)
 let q2:=(vi (0:Int))
 let q3:=(vi (zD .i64 (q1+(1:Int))))
 let q4:=(zf (zQ za 5 0 0 0) (zf (zQ za 7 0 0 0) (ci ((a.n0:Nat):Int) (zf q2 zh))))
 let q5:=(zn ze .i64 (0:Int))
 let q6:=(zJ (zf V.Zo zh))
 let q7:=(ZG (zf (zl za 2 a.n0 λj=>Zu za (a.2 j)) zh))
 let q8:=(zf (zQ za 3 0 0 0) (zf (zQ za 8 0 0 0) (zf q2 zh)))
 let q9:=(zf (zQ za 1 0 0 0) (zf (zQ za 3 0 0 0) zh))
 let q10:=(V.osl za 6 2 0 a.n0=V.osl za 6 2 0 a.n0/\zh=zh)
 let q11:=(zf q0 zh=zf q0 zh/\bn<=(1000:Nat))
 zu (zf (zJ (zf (zl za 2 a.n0 λj=>ci (a.2 j).f0 (zf (zl za 1 (a.2 j).n1 λj_1=>ci ((a.2 j).r1 j_1).f0 zh) zh)) zh)) zh=zf (zJ (zf (zl za 2 a.n0 λj=>ci (a.2 j).f0 (zf (zl za 1 (a.2 j).n1 λj_1=>ci ((a.2 j).r1 j_1).f0 zh) zh)) zh)) zh/\a.n0<=(1000:Nat)/\∀(j:Nat),(a.2 j).n1<=(1000:Nat)) (zB (bif YH q7 != (0:Int)then ze else za) (zw (V.tup (zf q6 (zf q5 (ci (YH q7) zh))))) (zu (a.n0<=(1000:Nat)/\∀(j:Nat),ci (a.2 j).f0 (zf (zl za 1 (a.2 j).n1 λj_1=>ci ((a.2 j).r1 j_1).f0 zh) zh)=ci (a.2 j).f0 (zf (zl za 1 (a.2 j).n1 λj_1=>ci ((a.2 j).r1 j_1).f0 zh) zh)) (zu (zf (V.fn (Fn.func (223:Nat)) zh q9) q4=zf (V.fn (Fn.func (223:FuncId)) zh q9) q4/\zf q0 zh=zf q0 zh/\zf V.Zo zh=zf V.Zo zh/\zf q2 zh=zf q2 zh/\zf V.Zo zh=zf V.Zo zh/\((2:Nat)=(2:Nat)/\a.n0=a.n0/\∀(j:Nat),ci (a.2 j).f0 (zf (zl za 1 (a.2 j).n1 λj_1=>ci ((a.2 j).r1 j_1).f0 zh) zh)=ci (a.2 j).f0 (zf (zl za 1 (a.2 j).n1 λj_1=>ci ((a.2 j).r1 j_1).f0 zh) zh))/\q10/\True) (zu q11 (zB (bif !QX bn λj=>(b j)then ze else za) (zw (V.tup (zf q6 (zf q5 (zf (zn ze .i64 (2:Int)) zh))))) (zu ((0:Nat)+a.n0<=a.n0) (zu (zf q0 (zf (V.fn (Fn.func (224:Nat)) zh (zf (V.rptr za (1:Nat) (1:Nat) (λj=>zf (V.rptr za (1:Nat) (1:Nat) (λj=>zf (zl za 2 a.n0 λj=>ci (a.2 ((0:Nat)+j)).f0 (zf (zl za 1 (a.2 ((0:Nat)+j)).n1 λj_1=>ci ((a.2 ((0:Nat)+j)).r1 j_1).f0 zh) zh)) zh) (0:Nat) (0:Nat)) zh) (0:Nat) (0:Nat)) zh)) zh)=zf q0 (zf (V.fn (Fn.func (224:FuncId)) zh (zf (V.rptr za (1:Nat) (1:Nat) (λjj=>zf (V.rptr za (1:Nat) (1:Nat) (λjj=>zf (zl za 2 a.n0 λj=>ci (a.2 ((0:Nat)+j)).f0 (zf (zl za 1 (a.2 ((0:Nat)+j)).n1 λj_1=>ci ((a.2 ((0:Nat)+j)).r1 j_1).f0 zh) zh)) zh) (0:Nat) (0:Nat)) zh) (0:Nat) (0:Nat)) zh)) zh)/\bn<=(1000:Nat)/\a.1<=(1000:Nat)/\∀(j:Nat),(a.2 ((Nat.brecOn.go (motive:=λx=>Nat->Nat) j Nat.add._f).1 (0:Nat))).2<=(1000:Nat)) (zB (bif ZaP (ZG (zf (zl za 2 a.n0 λj=>Zu za (a.2 ((0:Nat)+j))) zh)) bn λj=>(b j)then ze else za) (zw (V.tup (zf q6 (zf q5 (zf (zn ze .i64 (5:Int)) zh))))) (zu (zf (zQ za 1 0 0 0) q8=zf (zQ za 1 0 0 0) q8/\zf q0 zh=zf q0 zh/\zf V.Zo zh=zf V.Zo zh/\zf q2 zh=zf q2 zh/\zf V.Zo zh=zf V.Zo zh/\((2:Nat)=(2:Nat)/\a.n0=a.n0/\∀(j:Nat),ci (a.2 j).f0 (zf (zl za 1 (a.2 j).n1 λj_1=>ci ((a.2 j).r1 j_1).f0 zh) zh)=ci (a.2 j).f0 (zf (zl za 1 (a.2 j).n1 λj_1=>ci ((a.2 j).r1 j_1).f0 zh) zh))/\q10/\zf (zQ za 7 0 0 0) zh=zf (zQ za 7 0 0 0) zh/\True) (zB (bif q1==(8:Int)then ze else za) (zw (V.tup (zf q6 (zf q5 (zf (zn ze .i64 (6:Int)) zh))))) (zu q11 (zu (a.n0<=a.n0/\((0:Int)<=q1/\q1<=((a.n0:Nat):Int)/\(0:Nat)<(1:Nat)/\fits (a.n0+(1:Nat)) (32:Nat))/\(∀(j:Nat),j<a.n0->V.YN (ci (a.2 j).f0 (zf (zl za 1 (a.2 j).n1 λj_1=>ci ((a.2 j).r1 j_1).f0 zh) zh))=ze/\V.clean (ci (a.2 j).f0 (zf (zl za 1 (a.2 j).n1 λj_1=>ci ((a.2 j).r1 j_1).f0 zh) zh))=ze)/\∀(j:Nat),j<(1:Nat)->V.YN (zf q3 (zf q0 zh))=ze/\V.clean (zf q3 (zf q0 zh))=ze) (zu ((0:Nat)+(a.n0+(1:Nat))<=a.n0+(1:Nat)) (zw (V.tup (zf (zJ (zf (zl za 2 (a.n0+(1:Nat)) λj=>bif zG ((0:Nat)+j) (zk q1)then ci (a.2 ((0:Nat)+j)).f0 (zf (zl za 1 (a.2 ((0:Nat)+j)).n1 λj_1=>ci ((a.2 ((0:Nat)+j)).r1 j_1).f0 zh) zh)else bif zG ((0:Nat)+j) (zk q1+(1:Nat))then zf q3 (zf q0 zh)else ci (a.2 ((0:Nat)+j-(1:Nat))).f0 (zf (zl za 1 (a.2 ((0:Nat)+j-(1:Nat))).n1 λj_1=>ci ((a.2 ((0:Nat)+j-(1:Nat))).r1 j_1).f0 zh) zh)) zh)) (zf q3 (zf q5 zh))))))))))))))))))
theorem ZpP(a:Zc)(bn:Nat)(b:Nat->DT3):ZT { (Zl P [QK,V8,ZeY,Ws] [gw_lp a bn b,fm_lp a bn b] ze)with hk:=Ww [⟨134,KJ⟩,⟨226,(insK 2 32)⟩] } 400 184 (.cons (.agg (Y5 za a)) (.cons (.rsl za 1 bn λj=>ZK za (b j)) .nil))=ZcZ a bn b:=by kernel_rfl
def YP(a:Zc)(bn:Nat)(b:Nat->DT3):Zc:=ZG (ZcZ a bn b).valOf.inner.hd.inner
def Y9(a:Zc)(bn:Nat)(b:Nat->DT3):Int:=(ZcZ a bn b).valOf.inner.tl.hd.toInt
def XF(a:Zc)(bn:Nat)(b:Nat->DT3):Int:=(ZcZ a bn b).valOf.inner.tl.tl.hd.toInt
theorem ZpO(a:Zc)(bn:Nat)(b:Nat->DT3)(h0:a.n0<=1000)(h1:∀j,(a.r0 j).n1<=1000)(h2:bn<=1000):Zh P 184 (.cons (.agg (Y5 za a)) (.cons (.rsl za 1 bn λj=>ZK za (b j)) .nil)) (.tup (.cons (.agg (Y5 za (YP a bn b))) (.cons (.int za .i64 (Y9 a bn b)) (.cons (.int za .i64 (XF a bn b)) .nil)))):=by
 refine X4 (E:={ (Zl P [QK,V8,ZeY,Ws] [gw_lp a bn b,fm_lp a bn b] ze)with hk:=Ww [⟨134,KJ⟩,⟨226,(insK 2 32)⟩] }) ((Zw hm hn (l:=[QK,V8,ZeY,Ws]) ⟨Zcq,ZhQ,c_cfFg_ok,V7,trivial⟩ (ls:=[gw_lp a bn b,fm_lp a bn b]) ⟨gw_lp_ok a bn b h0 h1,fm_lp_ok a bn b h0,trivial⟩ ze).KD (l:=[⟨134,KJ⟩,⟨226,(insK 2 32)⟩]) ⟨Zh0,(ins226.hk (by omega)),trivial⟩) (.tup (.cons (.agg Zl9) (.cons (.int za .i64 0) (.cons (.int za .i64 0) .nil)))) (Has.of hn Tryz.func184 rfl) (ZpP a bn b) ?_ ?_
 ·refine⟨?_,⟨λhb0=>trivial,λhb0=>⟨?_,⟨?_,⟨?_,⟨λhb1=>trivial,λhb1=>⟨?_,⟨?_,⟨λhb2=>trivial,λhb2=>⟨?_,⟨λhb3=>trivial,λhb3=>⟨?_,⟨?_,⟨?_,trivial⟩⟩⟩⟩⟩⟩⟩⟩⟩⟩⟩⟩⟩⟩
  all_goals(first|exact gw_fit a bn b|exact fm_fit a bn b|((repeat'(first|exact rfl|exact WG _|exact λ_=>⟨rfl,rfl⟩|apply zy|intro _));all_goals(try simp only[decide_eq_true_eq,decide_eq_false_iff_not]at*);all_goals(first|omega|exact h1 _|exact fstTo_le0|(simp at*;omega))))
 ·refine⟨⟨rfl,?_⟩,⟨⟨rfl,?_⟩,⟨⟨rfl,?_⟩,⟨⟨rfl,?_⟩,⟨rfl,?_⟩⟩⟩⟩⟩
  all_goals((repeat'(first|exact rfl|exact trivial|apply zy|intro _|(refine cP (p:=λv=>z8 v=Yh _ v) (λhc=>?_) (λhc=>?_))));all_goals(exfalso;simp only[YS,XO,XW,X7,XV,X6,zL,yE]at*;omega))
def Zfb(r0:Zc->Nat->(Nat->DT3)->Zc)(r1:Zc->Nat->(Nat->DT3)->Int)(r2:Zc->Nat->(Nat->DT3)->Int):Con:=Yd 184 (λx=>(.cons (.agg (Y5 za (ZG x.hd.inner))) (.cons (.rsl za 1 x.tl.hd.Zi λj=>ZK za ((λj=>Zx (x.tl.hd.Zn j)) j)) .nil))) (λx=>(.tup (.cons (.agg (Y5 za (r0 (ZG x.hd.inner) x.tl.hd.Zi (λj=>Zx (x.tl.hd.Zn j))))) (.cons (.int za .i64 (r1 (ZG x.hd.inner) x.tl.hd.Zi (λj=>Zx (x.tl.hd.Zn j)))) (.cons (.int za .i64 (r2 (ZG x.hd.inner) x.tl.hd.Zi (λj=>Zx (x.tl.hd.Zn j)))) .nil))))) (λx=>(λ(a:Zc)(bn:Nat)(b:Nat->DT3)=>a.n0<=1000/\(∀j,(a.r0 j).n1<=1000)/\bn<=1000) (ZG x.hd.inner) x.tl.hd.Zi (λj=>Zx (x.tl.hd.Zn j)))
abbrev c_gForm:Con:=Zfb YP Y9 XF
theorem Zn4:c_gForm.Ok P:=Yf (λx h=>ZpO _ _ _ h.1 h.2.1 h.2.2)
def fnIx:V->Nat
 | .fn (.func k) _ _=>k
 |_=>0
def ZeX(Fo:Za->Nat->(Nat->DT3)->Bool)(Fh:Zf->Nat->(Nat->DT3)->Nat->(Nat->DT3)->Bool):Con:={ g:=180,al:=ze,ans:=λx=>bif zq (fnIx x.tl.hd) 181 then(Zhw Fo).ans x else(Zhv Fh).ans x }
theorem c_cfB_ok:(ZeX Xu XP).Ok P:=λx=>by
 have h1:=c_cfFo_ok x
 have h2:=c_cfFh_ok x
 show match(bif zq (fnIx x.tl.hd) 181 then(Zhw Xu).ans x else(Zhv XP).ans x)with
  |some (.sure v)=>Zh P 180 x v
  |some (.where_ p v)=>p->Zh P 180 x v
  |some (.fork b v v')=>(b=ze->Zh P 180 x v)/\(b=za->Zh P 180 x v')
  |none=>True
 cases zq (fnIx x.tl.hd) 181
 ·exact h2
 ·exact h1
theorem zo(e:Za):({ e with r6:=λj=>e.r6 (0+j),r12:=λj=>e.r12 (0+j) }:Za)=e:=by simp only[zX]
theorem foN{a:Za}{n:Nat}{b:Nat->DT3}(h:(bif Xu { a with r6:=λj=>a.r6 (0+j),r12:=λj=>a.r12 (0+j) } n b then ze else za)=za):Xu a n b=za:=by
 rw[zo]at h
 cases e:Xu a n b
 ·rfl
 ·rw[e]at h;cases h
def Kj(mn:Nat)(mr:Nat->DT3)(a:Za)(Fo:Za->Nat->(Nat->DT3)->Bool)(Fh:Zf->Nat->(Nat->DT3)->Nat->(Nat->DT3)->Bool)(Gf:Zc->Nat->(Nat->DT3)->Zc)(Gi:Zc->Nat->(Nat->DT3)->Int)(Ge:Zc->Nat->(Nat->DT3)->Int)(Rm:Zj->Zf->Zc->Bool)(Bb:Zj->Zf->Zc->Nat->(Nat->Zq)->Nat->(Nat->ZA)->Int->Nat->(Nat->DT3)->Bool)(Bz:Zj->Zf->Zc->Nat->(Nat->Zq)->Nat->(Nat->ZA)->Int->Nat->(Nat->DT3)->Int×(Nat->Zq)×Nat×(Nat->ZA)):Tree V:=
 let q51:=(zl za 2 a.n5 λj=>Zu za (a.11 j))
 let q0:=(ZG (zf q51 zh))
 let q24:=(zl za 2 a.n1 λj=>Z9 za (a.3 j))
 let q16:=(zl za 1 a.n2 λj=>zf (zn za .u32 (a.5 j).f0) zh)
 let q18:=(zl za 4 a.n3 λj=>Zv za (a.7 j))
 let q25:=(zl za 4 a.n4 λj=>Zt za (a.9 j))
 let q7:=(zl za 2 a.n5 λj=>ci (a.11 j).f0 (zf (zl za 1 (a.11 j).n1 λj_1=>ci ((a.11 j).r1 j_1).f0 zh) zh))
 let q44:=(zl za 11 a.n6 λj=>Zy za (a.13 ((0:Nat)+j)))
 let q17:=(zl za 2 a.n7 λj=>Z0 za (a.15 j))
 let q23:=(zl za 5 a.n8 λj=>ZP za (a.17 j))
 let q20:=(zl za 2 a.n10 λj=>ZC za (a.20 j))
 let q21:=(zl za 3 a.n11 λj=>ZF za (a.22 j))
 let q45:=(zl za 2 a.n12 λj=>ZB za (a.24 ((0:Nat)+j)))
 let q38:=(zn za .u64 a.f13)
 let q59:=(vi (0:Int))
 let q43:=(zf q38 (zf (zl za 1 (0:Nat) λj=>zf q59 zh) (zf q59 zh)))
 let q1:=(V.rptr za (16:Nat) (1:Nat) (λjj=>ci a.f0 (zf q24 (zf q16 (zf q18 (zf q25 (zf q7 (zf q44 (zf q17 (zf q23 (ci a.f9 (zf q20 (zf q21 (zf q45 q43))))))))))))) (0:Nat) (0:Nat))
 let q10:=(zn ze .i64 (0:Int))
 let q12:=(zf q44 (zf q17 (zf q23 (ci a.f9 (zf q20 (zf q21 (zf q45 (zf q38 (zf V.Zo (zf q10 zh))))))))))
 let q2:=(V.rptr ze (16:Nat) (1:Nat) (λjj=>ci a.f0 (zf q24 (zf q16 (zf q18 (zf q25 (zf q7 q12)))))) (0:Nat) (0:Nat))
 let q3:=(ZQ (zf q18 (zf q25 zh)))
 let q4:=(zJ (zf q10 (zf V.Zo (zf V.Zo (zf V.Zo (zf V.Zo (zf V.Zo (zf V.Zo (zf V.Zo (zf V.Zo (zf q10 (zf V.Zo (zf V.Zo (zf V.Zo (zf (zn ze .u64 (0:Int)) zh)))))))))))))))
 let q5:=(Gf q0 mn λj=>(mr j))
 let q52:=(zl za 1 a.n2 λj=>Z8 za (a.5 j))
 let q26:=(Ym (zf q52 zh))
 let q41:=(ZG (zf (zl za 2 q5.n0 λj=>Zu za (q5.2 j)) zh))
 let q6:=(Bz q26 q3 q41 a.n6 (λj=>(a.13 j)) a.n12 (λj=>(a.24 j)) a.f13 mn λj=>(mr j))
 let q9:=(Bz q26 q3 q0 a.n6 (λj=>(a.13 j)) a.n12 (λj=>(a.24 j)) a.f13 (V.Zi V.Zo) λj=>Zx (V.Zn V.Zo j))
 let q11:=(Zf.mk a.6 a.r3 a.8 a.r4)
 let q14:=(zf q44 (zf q17 (zf q23 (ci a.f9 (zf q20 (zf q21 (zf q45 (zf q38 zh))))))))
 let q27:=(zl za 2 q5.n0 λj=>ci (q5.2 j).f0 (zf (zl za 1 (q5.2 j).n1 λj_1=>ci ((q5.2 j).r1 j_1).f0 zh) zh))
 let q28:=(Gf (Zc.mk a.10 a.r5) mn λj=>mr j)
 let q33:=(zl za 1 mn λj=>ci (mr j).f0 zh)
 let q34:=(Ge q0 mn λj=>(mr j))
 let q36:=(vi (Gi q0 mn λj=>(mr j)))
 let q37:=(zl za 1 mn λjj=>ci (mr jj).f0 zh)
 let q42:=(zx (zx (Bz (Zj.mk a.4 a.r2) q11 (Zc.mk a.10 a.r5) a.n6 (λj=>a.13 j) a.n12 (λj=>a.24 j) a.25 (0:Nat) λj=>DT3.mk (0:Int))))
 let q46:=(zx (zx (Bz (Zj.mk a.4 a.r2) q11 q28 a.n6 (λj=>a.13 j) a.n12 (λj=>a.24 j) a.25 mn λj=>mr j)))
 let q47:=(zn ze .u32 (0:Int))
 let q48:=(zf (pt 0) zh)
 let q49:=(zw (V.tup (zf q4 (zf q10 (zf (zn ze .i64 (8:Int)) zh)))))
 let q50:=(zw (V.tup (zf q4 (zf q10 (zf (zn ze .i64 (6:Int)) zh)))))
 let q53:=(V.rptr za (1:Nat) (1:Nat) (λjj=>zf q1 zh) (0:Nat) (0:Nat))
 let q54:=(zw (V.tup (zf q4 (zf q10 (ci q34 zh)))))
 let q55:=(V.rptr ze (1:Nat) (1:Nat) (λjj=>zf q2 zh) (0:Nat) (0:Nat))
 let q56:=(V.osl za 1 11 0 a.n6)
 let q57:=(V.osl za 2 2 0 a.n12)
 let q58:=((Ge (Zc.mk a.10 a.r5) mn λj=>mr j)==(0:Int))
 zu (hkEq (zf (zJ (ci a.f0 (zf (zl za 2 a.n1 λj=>Z9 za (a.3 j)) (zf (zl za 1 a.n2 λj=>zf (zn za .u32 (a.5 j).f0) zh) (zf (zl za 4 a.n3 λj=>Zv za (a.7 j)) (zf (zl za 4 a.n4 λj=>Zt za (a.9 j)) (zf (zl za 2 a.n5 λj=>ci (a.11 j).f0 (zf (zl za 1 (a.11 j).n1 λj_1=>ci ((a.11 j).r1 j_1).f0 zh) zh)) (zf (zl za 11 a.n6 λj=>Zy za (a.13 j)) (zf (zl za 2 a.n7 λj=>Z0 za (a.15 j)) (zf (zl za 5 a.n8 λj=>ZP za (a.17 j)) (ci a.f9 (zf (zl za 2 a.n10 λj=>ZC za (a.20 j)) (zf (zl za 3 a.n11 λj=>ZF za (a.22 j)) (zf (zl za 2 a.n12 λj=>ZB za (a.24 j)) (zf q38 zh))))))))))))))) zh) [] (zf (zJ (ci a.f0 (zf q24 (zf q16 (zf q18 (zf q25 (zf q7 (zf (zl za 11 a.n6 λj=>Zy za (a.13 j)) (zf q17 (zf q23 (ci a.f9 (zf q20 (zf q21 (zf (zl za 2 a.n12 λj=>ZB za (a.24 j)) (zf q38 zh))))))))))))))) zh) []/\a.n1<=(1000:Nat)/\a.n2<=(1000:Nat)/\a.n3<=(1000:Nat)/\a.n4<=(1000:Nat)/\a.n5<=(1000:Nat)/\a.n6<=(1000:Nat)/\a.n7<=(1000:Nat)/\a.n8<=(1000:Nat)/\a.n10<=(1000:Nat)/\a.n11<=(1000:Nat)/\a.n12<=(1000:Nat)/\∀(j:Nat),(a.11 j).n1<=(1000:Nat)) (zu ((0:Nat)+a.n6<=a.n6/\(0:Nat)+a.n12<=a.n12) (zu (sR (zf q37 (zf (V.fn (Fn.func (181:Nat)) zh (zf q55 zh)) zh)) (zf q33 (zf (V.fn (Fn.func (181:FuncId)) zh (zf q53 zh)) zh))/\mn<=(1000:Nat)/\a.12<=(1000:Nat)) (zB (bif Fo (Yb (ci a.f0 (zf q24 (zf q52 (zf q18 (zf q25 (zf q51 q12))))))) mn λj=>(mr j)then ze else za) (zw (V.tup (zf q4 (zf q10 (zf (zn ze .i64 (4:Int)) zh))))) (zu ((0:Nat)+a.n6<=a.n6/\(0:Nat)+a.n12<=a.n12) (zu (sR (zf q37 (zf (V.fn (Fn.func (182:Nat)) zh (zf q55 (zf (V.rptr ze (13:Nat) (1:Nat) (λjj=>zf (zn ze .i64 (5:Int)) (zf q10 (zf q10 (zf q10 (zf q10 (zf q10 (zf q10 (zf q10 (zf q10 (zf q47 (zf q47 (zf q47 (zf q37 zh))))))))))))) (0:Nat) (0:Nat)) zh))) zh)) (zf q33 (zf (V.fn (Fn.func (182:FuncId)) zh (zf q53 (zf (V.rptr za (13:Nat) (1:Nat) (λjj=>zf (zn ze .i64 (5:Int)) (zf q10 (zf q10 (zf q10 (zf q10 (zf q10 (zf q10 (zf q10 (zf q10 (zf q47 (zf q47 (zf q47 (zf q33 zh))))))))))))) (0:Nat) (0:Nat)) zh))) zh))/\mn<=(1000:Nat)/\a.6<=(1000:Nat)/\a.8<=(1000:Nat)/\mn<=mn) (zB (bif Fh q3 mn (λj=>(mr j)) mn λj=>(mr j)then ze else za) (zw (V.tup (zf q4 (zf q10 (zf (zn ze .i64 (2:Int)) zh))))) (zu (zf (zJ (zf q7 zh)) (zf q33 zh)=zf (zJ (zf q7 zh)) (zf q33 zh)/\a.10<=(1000:Nat)/\(∀(j:Nat),(a.11 j).n1<=(1000:Nat))/\mn<=(1000:Nat)) (zB (q34==(0:Int)) (zu (q58=ze->((0:Nat)+a.n6<=a.n6/\(0:Nat)+a.n12<=a.n12)/\sR (zf (V.rptr ze (16:Nat) (1:Nat) (λjj=>ci a.f0 (zf q24 (zf q16 (zf q18 (zf q25 (zf q27 (zf q44 (zf q17 (zf q23 (ci a.f9 (zf q20 (zf q21 (zf q45 (zf q38 (zf q37 (zf q36 zh)))))))))))))))) (0:Nat) (0:Nat)) zh) (zf (V.rptr za (16:Nat) (1:Nat) (λjj=>ci a.f0 (zf q24 (zf q16 (zf q18 (zf q25 (zf q27 (zf q44 (zf q17 (zf q23 (ci a.f9 (zf q20 (zf q21 (zf q45 (zf q38 (zf q33 (zf q36 zh)))))))))))))))) (0:Nat) (0:Nat)) zh)/\q28.n0<=(1000:Nat)/\(∀(j:Nat),(q28.2 j).n1<=(1000:Nat))/\a.8<=(1000:Nat)/\a.6<=(1000:Nat)/\a.8<=(1000:Nat)/\YV q28<=(1000:Nat)/\(∀(j:Nat),j<YV q28->(0:Nat)<Zb.n0 (ZV q28 j)/\Zb.n0 (ZV q28 j)<=(8:Nat)/\∀(q:Nat),q<Zb.n0 (ZV q28 j)->((0:Int)<=Zm q11 (Zb.r0 (ZV q28 j) q).f0/\Zm q11 (Zb.r0 (ZV q28 j) q).f0<(a.6:Int))/\(0:Int)<=(a.7 (zk (Zm q11 (Zb.r0 (ZV q28 j) q).f0))).f3/\(a.7 (zk (Zm q11 (Zb.r0 (ZV q28 j) q).f0))).f3<(a.4:Int))/\∀(j:Nat),j<a.8->((0:Int)<=Zm q11 (a.9 j).f0/\Zm q11 (a.9 j).f0<(a.6:Int))/\(0:Int)<=(a.7 (zk (Zm q11 (a.9 j).f0))).f3/\(a.7 (zk (Zm q11 (a.9 j).f0))).f3<(a.4:Int)) (zB (bif q34==(0:Int)then !Rm q26 q3 q41 else za) q49 (zB (q34==(0:Int)) (zu (hkEq q48 [zN (ci a.f0 (zf q24 (zf q16 (zf q18 (zf q25 (zf q27 (zf q56 (zf q17 (zf q23 (ci a.f9 (zf q20 (zf q21 (zf q57 (zf q38 (zf q37 (zf q36 zh)))))))))))))))),Blk.arr 11 a.n6 λj=>Zy za (a.13 j),Blk.arr 2 a.n12 λj=>ZB za (a.24 j)] q48 [zN (ci a.f0 (zf q24 (zf q16 (zf q18 (zf q25 (zf q27 (zf q56 (zf q17 (zf q23 (ci a.f9 (zf q20 (zf q21 (zf q57 (zf q38 (zf q33 (zf q36 zh)))))))))))))))),Blk.arr 11 a.n6 λj=>Zy za (a.13 j),Blk.arr 2 a.n12 λj=>ZB za (a.24 j)]/\a.n6<=(1000:Nat)/\a.n12<=(100:Nat)/\a.6<=(1000:Nat)/\a.8<=(1000:Nat)/\mn<=(1000:Nat)/\(∀(j:Nat),j<a.n12->((0:Int)<=Zm q11 (a.24 j).f0/\Zm q11 (a.24 j).f0<(a.6:Int))/\(0:Int)<=(a.7 (zk (Zm q11 (a.24 j).f0))).f3/\(a.7 (zk (Zm q11 (a.24 j).f0))).f3<(a.4:Int))/\∀(j:Nat),j<a.n12->WA (YF (Zj.mk a.4 a.r2) q11 (a.24 j).f0) (a.24 j).f1=ze) (zB (bif Bb q26 q3 q41 a.n6 (λj=>(a.13 j)) a.n12 (λj=>(a.24 j)) a.f13 mn λj=>(mr j)then ze else za) q50 (zu ((0:Nat)+a.n6<=a.n6) (zu ((0:Nat)+zR q46<=zR q46) (zw (V.tup (zf (zJ (ci a.f0 (zf q24 (zf q16 (zf q18 (zf q25 (zf q27 (zf (zl za 11 a.n6 λj=>Zy za ((zx q6).1 ((0:Nat)+j))) (zf q17 (zf q23 (ci a.f9 (zf q20 (zf q21 (zf (zl za 2 (zR (zx (zx q6))) λj=>ZB za ((zx (zx q6)).2 ((0:Nat)+j))) (zf (zn za .u64 (zR q6)) zh))))))))))))))) (zf q36 (zf q10 zh))))))))) (zB (q34 != (0:Int)) q54 (zu ((0:Nat)+a.n6<=a.n6) (zu ((0:Nat)+a.n12<=a.n12) (zw (V.tup (zf (zJ (ci a.f0 (zf q24 (zf q16 (zf q18 (zf q25 (zf q27 q14))))))) (zf q36 (zf q10 zh))))))))))) (zu (q58=ze->((0:Nat)+a.n6<=a.n6/\(0:Nat)+a.n12<=a.n12)/\sR (zf q2 zh) (zf q1 zh)/\a.10<=(1000:Nat)/\(∀(j:Nat),(a.11 j).n1<=(1000:Nat))/\a.8<=(1000:Nat)/\a.6<=(1000:Nat)/\a.8<=(1000:Nat)/\YV (Zc.mk a.10 a.r5)<=(1000:Nat)/\(∀(j:Nat),j<YV (Zc.mk a.10 a.r5)->(0:Nat)<Zb.n0 (ZV (Zc.mk a.10 a.r5) j)/\Zb.n0 (ZV (Zc.mk a.10 a.r5) j)<=(8:Nat)/\∀(q:Nat),q<Zb.n0 (ZV (Zc.mk a.10 a.r5) j)->((0:Int)<=Zm q11 (Zb.r0 (ZV (Zc.mk a.10 a.r5) j) q).f0/\Zm q11 (Zb.r0 (ZV (Zc.mk a.10 a.r5) j) q).f0<(a.6:Int))/\(0:Int)<=(a.7 (zk (Zm q11 (Zb.r0 (ZV (Zc.mk a.10 a.r5) j) q).f0))).f3/\(a.7 (zk (Zm q11 (Zb.r0 (ZV (Zc.mk a.10 a.r5) j) q).f0))).f3<(a.4:Int))/\∀(j:Nat),j<a.8->((0:Int)<=Zm q11 (a.9 j).f0/\Zm q11 (a.9 j).f0<(a.6:Int))/\(0:Int)<=(a.7 (zk (Zm q11 (a.9 j).f0))).f3/\(a.7 (zk (Zm q11 (a.9 j).f0))).f3<(a.4:Int)) (zB (bif q34==(0:Int)then !Rm q26 q3 q0 else za) q49 (zB (q34==(0:Int)) (zu (hkEq q48 [zN (ci a.f0 (zf q24 (zf q16 (zf q18 (zf q25 (zf q7 (zf q56 (zf q17 (zf q23 (ci a.f9 (zf q20 (zf q21 (zf q57 (zf q38 (zf V.Zo (zf q10 zh)))))))))))))))),Blk.arr 11 a.n6 λj=>Zy za (a.13 j),Blk.arr 2 a.n12 λj=>ZB za (a.24 j)] q48 [zN (ci a.f0 (zf q24 (zf q16 (zf q18 (zf q25 (zf q7 (zf q56 (zf q17 (zf q23 (ci a.f9 (zf q20 (zf q21 (zf q57 q43))))))))))))),Blk.arr 11 a.n6 λj=>Zy za (a.13 j),Blk.arr 2 a.n12 λj=>ZB za (a.24 j)]/\a.n6<=(1000:Nat)/\a.n12<=(100:Nat)/\a.6<=(1000:Nat)/\a.8<=(1000:Nat)/\(0:Nat)<=(1000:Nat)/\(∀(j:Nat),j<a.n12->((0:Int)<=Zm q11 (a.24 j).f0/\Zm q11 (a.24 j).f0<(a.6:Int))/\(0:Int)<=(a.7 (zk (Zm q11 (a.24 j).f0))).f3/\(a.7 (zk (Zm q11 (a.24 j).f0))).f3<(a.4:Int))/\∀(j:Nat),j<a.n12->WA (YF (Zj.mk a.4 a.r2) q11 (a.24 j).f0) (a.24 j).f1=ze) (zB (bif Bb q26 q3 q0 a.n6 (λj=>(a.13 j)) a.n12 (λj=>(a.24 j)) a.f13 (V.Zi V.Zo) λj=>Zx (V.Zn V.Zo j)then ze else za) q50 (zu ((0:Nat)+a.n6<=a.n6) (zu ((0:Nat)+zR q42<=zR q42) (zw (V.tup (zf (zJ (ci a.f0 (zf q24 (zf q16 (zf q18 (zf q25 (zf q7 (zf (zl za 11 a.n6 λj=>Zy za ((zx q9).1 ((0:Nat)+j))) (zf q17 (zf q23 (ci a.f9 (zf q20 (zf q21 (zf (zl za 2 (zR (zx (zx q9))) λj=>ZB za ((zx (zx q9)).2 ((0:Nat)+j))) (zf (zn za .u64 (zR q9)) zh))))))))))))))) (zf q59 (zf q10 zh))))))))) (zB (q34 != (0:Int)) q54 (zu ((0:Nat)+a.n6<=a.n6) (zu ((0:Nat)+a.n12<=a.n12) (zw (V.tup (zf (zJ (ci a.f0 (zf q24 (zf q16 (zf q18 (zf q25 (zf q7 q14))))))) (zf q10 (zf q10 zh)))))))))))))))))))
theorem doF_tree(mn:Nat)(mr:Nat->DT3)(a:Za)(Fo:Za->Nat->(Nat->DT3)->Bool)(Fh:Zf->Nat->(Nat->DT3)->Nat->(Nat->DT3)->Bool)(Gf:Zc->Nat->(Nat->DT3)->Zc)(Gi:Zc->Nat->(Nat->DT3)->Int)(Ge:Zc->Nat->(Nat->DT3)->Int)(Rm:Zj->Zf->Zc->Bool)(Bb:Zj->Zf->Zc->Nat->(Nat->Zq)->Nat->(Nat->ZA)->Int->Nat->(Nat->DT3)->Bool)(Bz:Zj->Zf->Zc->Nat->(Nat->Zq)->Nat->(Nat->ZA)->Int->Nat->(Nat->DT3)->Int×(Nat->Zq)×Nat×(Nat->ZA)):ZT { (Zl P [ZeX Fo Fh,Zfb Gf Gi Ge,U5 Rm] [] ze)with nm:=λg=>JW g [41],hk:=Ww [⟨77,V9⟩,⟨79,Us Bb Bz⟩] } 400 41 (.cons (.agg (Z7 za a)) (.cons (.agg (.cons (.int ze .i64 5) (.cons (.int ze .i64 0) (.cons (.int ze .i64 0) (.cons (.int ze .i64 0) (.cons (.int ze .i64 0) (.cons (.int ze .i64 0) (.cons (.int ze .i64 0) (.cons (.int ze .i64 0) (.cons (.int ze .i64 0) (.cons (.int ze .u32 0) (.cons (.int ze .u32 0) (.cons (.int ze .u32 0) (.cons (.rsl za 1 mn λj=>ZK za (mr j)) .nil)))))))))))))) .nil))=Kj mn mr a Fo Fh Gf Gi Ge Rm Bb Bz:=by kernel_rfl
def ZaU(mn:Nat)(mr:Nat->DT3)(a:Za):Za:=Yb (Kj mn mr a Xu XP YP Y9 XF YJ XK YL).valOf.inner.hd.inner
def JK(mn:Nat)(mr:Nat->DT3)(a:Za):Int:=(Kj mn mr a Xu XP YP Y9 XF YJ XK YL).valOf.inner.tl.hd.toInt
def JL(mn:Nat)(mr:Nat->DT3)(a:Za):Int:=(Kj mn mr a Xu XP YP Y9 XF YJ XK YL).valOf.inner.tl.tl.hd.toInt
theorem doF_meets(mn:Nat)(mr:Nat->DT3)(a:Za)(h0:a.n1<=1000)(h1:a.n2<=1000)(h2:a.n3<=1000)(h3:a.n4<=1000)(h4:a.n5<=1000)(h5:a.n6<=1000)(h6:a.n7<=1000)(h7:a.n8<=1000)(h8:a.n10<=1000)(h9:a.n11<=1000)(h10:a.n12<=1000)(h11:∀j,(a.r5 j).n1<=1000)(h12:a.n12<=100)(h13:mn<=1000)(h14:Xu a mn mr=za->XP (⟨a.n3,a.r3,a.n4,a.r4⟩:Zf) mn mr mn mr=za->XF (⟨a.n5,a.r5⟩:Zc) mn mr=0->(λ(p:Zj)(gu:Zf)(ga:Zc)=>ga.n0<=1000/\(∀j,(ga.r0 j).n1<=1000)/\YV ga<=1000/\(∀j,j<YV ga->0<(ZV ga j).n0/\(ZV ga j).n0<=8/\∀q,q<(ZV ga j).n0->(0<=Zm gu ((ZV ga j).r0 q).f0/\Zm gu ((ZV ga j).r0 q).f0<gu.n0)/\0<=(gu.r0 (Zm gu ((ZV ga j).r0 q).f0).toNat).f3/\(gu.r0 (Zm gu ((ZV ga j).r0 q).f0).toNat).f3<p.n0)/\(∀j,j<gu.n1->(0<=Zm gu (gu.r1 j).f0/\Zm gu (gu.r1 j).f0<gu.n0)/\0<=(gu.r0 (Zm gu (gu.r1 j).f0).toNat).f3/\(gu.r0 (Zm gu (gu.r1 j).f0).toNat).f3<p.n0)/\∀j,j<a.n12->((0<=Zm gu (a.r12 j).f0/\Zm gu (a.r12 j).f0<gu.n0)/\0<=(gu.r0 (Zm gu (a.r12 j).f0).toNat).f3/\(gu.r0 (Zm gu (a.r12 j).f0).toNat).f3<p.n0)/\WA (YF p gu (a.r12 j).f0) (a.r12 j).f1=ze) (⟨a.n2,a.r2⟩:Zj) (⟨a.n3,a.r3,a.n4,a.r4⟩:Zf) (YP (⟨a.n5,a.r5⟩:Zc) mn mr)):Zh P 41 (.cons (.agg (Z7 za a)) (.cons (.agg (.cons (.int ze .i64 5) (.cons (.int ze .i64 0) (.cons (.int ze .i64 0) (.cons (.int ze .i64 0) (.cons (.int ze .i64 0) (.cons (.int ze .i64 0) (.cons (.int ze .i64 0) (.cons (.int ze .i64 0) (.cons (.int ze .i64 0) (.cons (.int ze .u32 0) (.cons (.int ze .u32 0) (.cons (.int ze .u32 0) (.cons (.rsl za 1 mn λj=>ZK za (mr j)) .nil)))))))))))))) .nil)) (.tup (.cons (.agg (Z7 za (ZaU mn mr a))) (.cons (.int za .i64 (JK mn mr a)) (.cons (.int za .i64 (JL mn mr a)) .nil)))):=by
 refine(show Yh (.tup (.cons (.agg Zbw) (.cons (.int za .i64 0) (.cons (.int za .i64 0) .nil)))) (Kj mn mr a Xu XP YP Y9 XF YJ XK YL).valOf=(.tup (.cons (.agg (Z7 za (ZaU mn mr a))) (.cons (.int za .i64 (JK mn mr a)) (.cons (.int za .i64 (JL mn mr a)) .nil))))from by kernel_rfl)▸ ?_
 refine X4 (E:={ (Zl P [ZeX Xu XP,Zfb YP Y9 XF,U5 YJ] [] ze)with nm:=λg=>JW g [41],hk:=Ww [⟨77,V9⟩,⟨79,Us XK YL⟩] }) ((Env.Ok.withNm (Zw hm hn (l:=[ZeX Xu XP,Zfb YP Y9 XF,U5 YJ]) ⟨c_cfB_ok,Zn4,Zkc,trivial⟩ (ls:=[]) trivial ze) (λg=>JW g [41])).KD (l:=[⟨77,V9⟩,⟨79,Us XK YL⟩]) ⟨cpq_ok,offM_ok,trivial⟩) (.tup (.cons (.agg Zbw) (.cons (.int za .i64 0) (.cons (.int za .i64 0) .nil)))) (Has.of hn Tryz.func41 rfl) (doF_tree mn mr a Xu XP YP Y9 XF YJ XK YL) ?_ ?_
 ·refine⟨?_,⟨?_,⟨?_,⟨λhb0=>trivial,λhb0=>⟨?_,⟨?_,⟨λhb1=>trivial,λhb1=>⟨?_,⟨λhb2=>⟨?_,⟨λhb3=>trivial,λhb3=>⟨λhb4=>⟨?_,⟨λhb5=>trivial,λhb5=>⟨?_,⟨?_,trivial⟩⟩⟩⟩,λhb4=>⟨λhb5=>trivial,λhb5=>⟨?_,⟨?_,trivial⟩⟩⟩⟩⟩⟩,λhb2=>⟨?_,⟨λhb3=>trivial,λhb3=>⟨λhb4=>⟨?_,⟨λhb5=>trivial,λhb5=>⟨?_,⟨?_,trivial⟩⟩⟩⟩,λhb4=>⟨λhb5=>trivial,λhb5=>⟨?_,⟨?_,trivial⟩⟩⟩⟩⟩⟩⟩⟩⟩⟩⟩⟩⟩⟩⟩
  all_goals(first|exact⟨⟨WG _,trivial⟩,h0,h1,h2,h3,h4,h5,h6,h7,h8,h9,h10,h11⟩|exact Nat.le_of_eq (zX _)|exact⟨Nat.le_of_eq (zX _),Nat.le_of_eq (zX _)⟩|exact⟨rfl,h4,h11,h13⟩|exact λhs=>absurd (hb2.symm.trans hs) Bool.false_ne_true|exact absurd (hb2.symm.trans hb4) Bool.false_ne_true|(refine⟨?_,h13,h5⟩;(repeat'(first|exact rfl|apply zy|intro _)))|(refine⟨?_,h13,h2,h3,zI _⟩;(repeat'(first|exact rfl|apply zy|intro _)))|(refine⟨?_,h5,h12,h2,h3,h13,λj hj=>(((h14 (foN (a:=a) (n:=mn) (b:=mr) hb0) (nf4 hb1)) (LawfulBEq.eq_of_beq hb4)).2.2.2.2.2 j hj).1,λj hj=>(((h14 (foN (a:=a) (n:=mn) (b:=mr) hb0) (nf4 hb1)) (LawfulBEq.eq_of_beq hb4)).2.2.2.2.2 j hj).2⟩;(repeat'(first|exact rfl|exact trivial|exact λ_=>rfl|apply zy|intro _)))|(refine λhs=>⟨⟨Nat.le_of_eq (zX _),Nat.le_of_eq (zX _)⟩,?_,((h14 (foN (a:=a) (n:=mn) (b:=mr) hb0) (nf4 hb1)) (LawfulBEq.eq_of_beq hs)).1,((h14 (foN (a:=a) (n:=mn) (b:=mr) hb0) (nf4 hb1)) (LawfulBEq.eq_of_beq hs)).2.1,h3,h2,h3,((h14 (foN (a:=a) (n:=mn) (b:=mr) hb0) (nf4 hb1)) (LawfulBEq.eq_of_beq hs)).2.2.1,((h14 (foN (a:=a) (n:=mn) (b:=mr) hb0) (nf4 hb1)) (LawfulBEq.eq_of_beq hs)).2.2.2.1,((h14 (foN (a:=a) (n:=mn) (b:=mr) hb0) (nf4 hb1)) (LawfulBEq.eq_of_beq hs)).2.2.2.2.1⟩;(repeat'(first|exact rfl|apply zy|intro _))))
 ·refine⟨⟨rfl,?_⟩,⟨⟨rfl,?_⟩,⟨⟨⟨rfl,?_⟩,⟨⟨⟨rfl,?_⟩,⟨rfl,?_⟩⟩,⟨⟨rfl,?_⟩,⟨rfl,?_⟩⟩⟩⟩,⟨⟨rfl,?_⟩,⟨⟨⟨rfl,?_⟩,⟨rfl,?_⟩⟩,⟨⟨rfl,?_⟩,⟨rfl,?_⟩⟩⟩⟩⟩⟩⟩
  all_goals((repeat'(first|exact rfl|exact trivial|apply zy|intro _|(refine cP (p:=λv=>z8 v=Yh _ v) (λhc=>?_) (λhc=>?_))));all_goals(exfalso;simp only[YS,XO,XW,X7,XV,X6,zL,yE]at*;omega))
abbrev Zde(a:Zc)(b:Int)(i:Int)(z:Unit):V:=(.cons (.fn (.func 227) .nil (.cons (.ptr ze 1 0 0 0) .nil)) (.cons (.ptr ze 4 0 0 0) (.cons (.ptr ze 6 0 0 0) (.cons (.int za .i64 ((a.n0:Nat):Int)) (.cons (.int za .i64 i) .nil)))))
abbrev ZfX(a:Zc)(b:Int)(i:Int)(z:Unit):List Blk:=[.var (.cons (.int za .i64 b) .nil),.var (.cons .Zo .nil),.var (.cons .Zo .nil),.arr 2 a.n0 (λj=>Zu za (a.r0 j)),.var (.cons (.osl za 5 2 0 a.n0) .nil)]
def gwp_R(a:Zc)(b:Int)(i:Int)(z:Unit):Tree Rd:=
 zu (((0:Int)<=i/\i<((a.n0:Nat):Int))/\(0:Nat)+zk i<a.n0/\(zf (zl za 1 (a.2 ((0:Nat)+zk i)).n1 λj=>ci ((a.2 ((0:Nat)+zk i)).r1 j).f0 zh) zh=zf (zl za 1 (a.2 ((0:Nat)+zk i)).n1 λj=>ci ((a.2 ((0:Nat)+zk i)).r1 j).f0 zh) zh/\(a.2 ((Nat.brecOn.go (motive:=λx=>Nat->Nat) (Int.rec (λa=>a) (λa=>(0:Nat)) i) Nat.add._f).1 (0:Nat))).2<=(1000:Nat))/\((0:Int)<=i/\i<((a.n0:Nat):Int))/\(0:Nat)+zk i<a.n0) (zw (Ex.normal,ze,zf (V.fn (Fn.func (227:FuncId)) zh (zf (pt 1) zh)) (zf (pt 4) (zf (pt 6) (ci ((a.n0:Nat):Int) (ci (zD .i64 (i+(1:Int))) zh)))),[zN (ci b zh),zN (zf V.Zo zh),zN (zf V.Zo zh),Blk.arr 2 a.n0 λj=>bif zq j ((0:Nat)+zk i)then ci (a.2 ((0:Nat)+zk i)).f0 (zf (zl za 1 (a.2 ((0:Nat)+zk i)).n1 λj=>ci ((a.2 ((0:Nat)+zk i)).r1 j).f0 zh) zh)else ci (a.2 j).f0 (zf (zl za 1 (a.2 j).n1 λj_1=>ci ((a.2 j).r1 j_1).f0 zh) zh),zN (zf (V.osl za 5 2 0 a.n0) zh)]))
theorem gwp_round(a:Zc)(b:Int):Yi P (Zl P [Ws] [] ze) 222 6 7 7 46 [1,4,7,22,23] [(1,.own),(2,.own),(4,.own),(5,.own),(6,.own)] [] (Zde a b) (ZfX a b) (λi=>(bif decide (i<((a.n0:Nat):Int))then za else ze)) (.exit 0) (gwp_R a b):=λB i z=>by kernel_rfl
def ZfW(a:Zc)(b:Int):Lp:=Js 222 6 7 7 46 [1,4,7,22,23] [(1,.own),(2,.own),(4,.own),(5,.own),(6,.own)] [] (Zde a b) (ZfX a b) (.exit 0) () (λ_=>()) (a.n0)
def gwp_need(a:Zc)(b:Int):Prop:=YC 7 [] (Zde a b) (ZfX a b) () (Zde a b (0:Nat) ()) (ZfX a b (0:Nat) ())
theorem gwp_fit(a:Zc)(b:Int):gwp_need a b:=⟨rfl,⟨Kg _,Kg _,Kg _,⟨rfl,rfl,λ_=>rfl⟩,Kg _,trivial⟩⟩
theorem gwp_lp_ok(a:Zc)(b:Int)(hl:a.n0<=1000)(hM:∀j,(a.r0 j).n1<=1000):(ZfW a b).Ok P:=by
 refine JZ (Zw hm hn (l:=[Ws]) ⟨V7,trivial⟩ (ls:=[]) trivial ze) rfl (by kernel_rfl) (gwp_round a b) exN Yv (λ_=>rfl) (step:=λ_ z=>z) (rd:=(λ_ t y=>())) (λi z=>rfl) (λi=>rfl) rfl (λi hlt hg=>?_) (λi z hi=>?_)
 ·have hltI:(i:Int)<((a.n0:Nat):Int):=by omega
  refine⟨?_,trivial⟩
  all_goals(repeat'(first|exact rfl|exact λ_=>⟨rfl,rfl⟩|apply zy|intro _))
  all_goals(try simp only[decide_eq_true_eq,decide_eq_false_iff_not,yg,yw]at*)
  all_goals(try simp(disch:=omega) only[IntWalk.i64_in])
  all_goals(first|omega|exact hM _)
 ·have hw:=(IntWalk.i64_in ((i:Int)+1) ⟨by omega,by omega⟩)
  all_goals exact⟨rfl,Yq (ts:=Zde a b) (a:=()) hw rfl,⟨LeK.refl _,LeK.refl _,LeK.refl _,LeK.Jb rfl (λj hj=>congrArg z8 (by first|rfl|exact UN (c:=Zu za) (r:=a.r0) j)),LeK.refl _,trivial⟩⟩
def ZfO(a:Zc)(b:Int)(Ax:Zc->Int->Int)(Ay:Zc->Int->Bool):Tree V:=
 let q0:=(Zc.mk a.1 λj=>ZI.mk (a.2 ((Nat.brecOn.go (motive:=λx=>Nat->Nat) j Nat.add._f).1 (0:Nat))).1 (a.2 ((Nat.brecOn.go (motive:=λx=>Nat->Nat) j Nat.add._f).1 (0:Nat))).2 (a.2 ((0:Nat)+j)).r1)
 let q1:=(ZG (zf (zl za 2 a.n0 λj=>Zu za (a.2 ((0:Nat)+j))) zh))
 let q2:=(zD .i64 (Ax q1 b+(1:Int)))
 let q9:=(zD .i64 (Ax q0 b+(1:Int)))
 let q3:=(a.n0-zk q9)
 let q4:=(zf (zQ za 4 0 0 0) (zf (zQ za 6 0 0 0) (ci ((a.n0:Nat):Int) (ci (0:Int) zh))))
 let q5:=((zk (Ax q0 b)+q3:Nat):Int)
 let q6:=((zk (Ax q1 b)+(a.n0-zk q2):Nat):Int)
 let q7:=(zw (V.tup (zf (zJ (zf V.Zo zh)) (zf (zn ze .i64 (4:Int)) zh))))
 let q8:=(ZG (zf (zl za 2 a.n0 λj=>Zu za (a.2 j)) zh))
 let q10:=(zn ze .i64 (0:Int))
 zu (zf (zJ (zf (zl za 2 a.n0 λj=>ci (a.2 j).f0 (zf (zl za 1 (a.2 j).n1 λj_1=>ci ((a.2 j).r1 j_1).f0 zh) zh)) zh)) zh=zf (zJ (zf (zl za 2 a.n0 λj=>ci (a.2 j).f0 (zf (zl za 1 (a.2 j).n1 λj_1=>ci ((a.2 j).r1 j_1).f0 zh) zh)) zh)) zh/\a.n0<=(1000:Nat)/\∀(j:Nat),(a.2 j).n1<=(1000:Nat)) (zB (bif YH q8 != (0:Int)then ze else za) (zw (V.tup (zf (zJ (zf V.Zo zh)) (ci (YH q8) zh)))) (zu (a.n0<=(1000:Nat)/\∀(j:Nat),ci (a.2 j).f0 (zf (zl za 1 (a.2 j).n1 λj_1=>ci ((a.2 j).r1 j_1).f0 zh) zh)=ci (a.2 j).f0 (zf (zl za 1 (a.2 j).n1 λj_1=>ci ((a.2 j).r1 j_1).f0 zh) zh)) (zu (zf (V.fn (Fn.func (227:Nat)) zh (zf (zQ za 1 0 0 0) zh)) q4=zf (V.fn (Fn.func (227:FuncId)) zh (zf (zQ za 1 0 0 0) zh)) q4/\ci b zh=ci b zh/\zf V.Zo zh=zf V.Zo zh/\zf V.Zo zh=zf V.Zo zh/\((2:Nat)=(2:Nat)/\a.n0=a.n0/\∀(j:Nat),ci (a.2 j).f0 (zf (zl za 1 (a.2 j).n1 λj_1=>ci ((a.2 j).r1 j_1).f0 zh) zh)=ci (a.2 j).f0 (zf (zl za 1 (a.2 j).n1 λj_1=>ci ((a.2 j).r1 j_1).f0 zh) zh))/\(V.osl za 5 2 0 a.n0=V.osl za 5 2 0 a.n0/\zh=zh)/\True) (zB (bif bif decide (b<(1:Int))then ze else decide (b>(8:Int))then ze else za) q7 (zu ((0:Nat)+a.n0<=a.n0) (zu (zf (zJ (zf (zl za 2 a.n0 λj=>ci (a.2 ((0:Nat)+j)).f0 (zf (zl za 1 (a.2 ((0:Nat)+j)).n1 λj_1=>ci ((a.2 ((0:Nat)+j)).r1 j_1).f0 zh) zh)) zh)) (ci b zh)=zf (zJ (zf (zl za 2 a.n0 λj=>ci (a.2 ((0:Nat)+j)).f0 (zf (zl za 1 (a.2 ((0:Nat)+j)).n1 λj_1=>ci ((a.2 ((0:Nat)+j)).r1 j_1).f0 zh) zh)) zh)) (ci b zh)/\a.1<=(1000:Nat)) (zB (bif !Ay q1 b then ze else za) q7 (zu ((0:Int)<=((a.n0:Nat):Int)/\((a.n0:Nat):Int)<=((a.n0:Nat):Int)) (zu ((0:Int)<=zD .i64 (Ax q0 b+(1:Int))/\zD .i64 (Ax q0 b+(1:Int))<=((zk ((a.n0:Nat):Int):Nat):Int)) (zu ((0:Int)<=Ax q0 b/\Ax q0 b<=((zk q9:Nat):Int)) (zu ((Ax q0 b==zD .i64 (Ax q0 b+(1:Int)))=za) (zu ((0:Int)<=Ax q0 b/\Ax q0 b<=((a.n0:Nat):Int)) (zu ((0:Int)<=zD .i64 (Ax q0 b+(1:Int))/\zD .i64 (Ax q0 b+(1:Int))<=((a.n0:Nat):Int)) (zu (zk (Ax q0 b)+q3<=a.n0) (zu ((0:Nat)+zk (Ax q0 b)+q3<=a.n0/\∀(j:Nat),j<a.n0-zk q9->V.YN (bif zG ((0:Nat)+zk q2+j) a.n0 then ci (a.2 ((0:Nat)+zk q2+j)).f0 (zf (zl za 1 (a.2 ((0:Nat)+zk q2+j)).n1 λj_1=>ci ((a.2 ((0:Nat)+zk q2+j)).r1 j_1).f0 zh) zh)else zf V.junk (zf V.junk zh))=ze/\V.clean (bif zG ((0:Nat)+zk q2+j) a.n0 then ci (a.2 ((0:Nat)+zk q2+j)).f0 (zf (zl za 1 (a.2 ((0:Nat)+zk q2+j)).n1 λj_1=>ci ((a.2 ((0:Nat)+zk q2+j)).r1 j_1).f0 zh) zh)else zf V.junk (zf V.junk zh))=ze) (zu ((0:Int)<=((a.n0:Nat):Int)/\((a.n0:Nat):Int)<=((a.n0:Nat):Int)) (zu ((0:Int)<=q5/\q5<=((zk ((a.n0:Nat):Int):Nat):Int)) (zu ((0:Nat)+zk q5+(zk ((a.n0:Nat):Int)-zk q5)<=a.n0/\∀(j:Nat),j<zk ((a.n0:Nat):Int)-zk q5->V.YN (zf q10 (zf V.Zo zh))=ze/\V.clean (zf q10 (zf V.Zo zh))=ze) (zu ((0:Nat)+(zk (Ax q0 b)+q3)<=a.n0) (zw (V.tup (zf (zJ (zf (zl za 2 (zk (Ax q1 b)+(a.n0-zk q2)) λj=>bif zK ((0:Nat)+zk q6) ((0:Nat)+j)&&zG ((0:Nat)+j) ((0:Nat)+zk q6+(zk ((a.n0:Nat):Int)-zk q6))then zf q10 (zf V.Zo zh)else bif zK ((0:Nat)+zk (Ax q1 b)) ((0:Nat)+j)&&zG ((0:Nat)+j) ((0:Nat)+zk (Ax q1 b)+(a.n0-zk q2))then bif zG ((0:Nat)+zk q2+((0:Nat)+j-((0:Nat)+zk (Ax q1 b)))) a.n0 then ci (a.2 ((0:Nat)+zk q2+((0:Nat)+j-((0:Nat)+zk (Ax q1 b))))).f0 (zf (zl za 1 (a.2 ((0:Nat)+zk q2+((0:Nat)+j-((0:Nat)+zk (Ax q1 b))))).n1 λj_1=>ci ((a.2 ((0:Nat)+zk q2+((0:Nat)+j-((0:Nat)+zk (Ax q1 b))))).r1 j_1).f0 zh) zh)else zf V.junk (zf V.junk zh)else ci (a.2 ((0:Nat)+j)).f0 (zf (zl za 1 (a.2 ((0:Nat)+j)).n1 λj_1=>ci ((a.2 ((0:Nat)+j)).r1 j_1).f0 zh) zh)) zh)) (zf q10 zh)))))))))))))))))))))))
theorem ZpU(a:Zc)(b:Int)(Ax:Zc->Int->Int)(Ay:Zc->Int->Bool):ZT { (Zl P [QK,Zfa Ax Ay,Ws] [ZfW a b] ze)with way:=KC [(229,16,za)],hk:=Ww [⟨134,KJ⟩] } 400 185 (.cons (.agg (Y5 za a)) (.cons (.int za .i64 b) .nil))=ZfO a b Ax Ay:=by kernel_rfl
def Xd(a:Zc)(b:Int):Zc:=ZG (ZfO a b X9 QW).valOf.inner.hd.inner
def Ql(a:Zc)(b:Int):Int:=(ZfO a b X9 QW).valOf.inner.tl.hd.toInt
theorem gAt_0{a:Zc}{b:Int}(h:QW a b=ze):0<=X9 a b/\X9 a b<a.n0:=⟨(Zk2 a b).1,(Zk2 a b).2.2 h⟩
theorem ZpT(a:Zc)(b:Int)(h0:a.n0<=1000)(h1:∀j,(a.r0 j).n1<=1000):Zh P 185 (.cons (.agg (Y5 za a)) (.cons (.int za .i64 b) .nil)) (.tup (.cons (.agg (Y5 za (Xd a b))) (.cons (.int za .i64 (Ql a b)) .nil))):=by
 refine X4 (E:={ (Zl P [QK,Zfa X9 QW,Ws] [ZfW a b] ze)with way:=KC [(229,16,za)],hk:=Ww [⟨134,KJ⟩] }) ((Env.Ok.Zjr (Zw hm hn (l:=[QK,Zfa X9 QW,Ws]) ⟨Zcq,c_gAt_ok,V7,trivial⟩ (ls:=[ZfW a b]) ⟨gwp_lp_ok a b h0 h1,trivial⟩ ze) (KC [(229,16,za)])).KD (l:=[⟨134,KJ⟩]) ⟨Zh0,trivial⟩) (.tup (.cons (.agg Zl9) (.cons (.int za .i64 0) .nil))) (Has.of hn Tryz.func185 rfl) (ZpU a b X9 QW) ?_ ?_
 ·refine⟨?_,⟨λhb0=>trivial,λhb0=>⟨?_,⟨?_,⟨λhb1=>trivial,λhb1=>⟨?_,⟨?_,⟨λhb2=>trivial,λhb2=>⟨?_,⟨?_,⟨?_,⟨?_,⟨?_,⟨?_,⟨?_,⟨?_,⟨?_,⟨?_,⟨?_,⟨?_,trivial⟩⟩⟩⟩⟩⟩⟩⟩⟩⟩⟩⟩⟩⟩⟩⟩⟩⟩⟩⟩
  all_goals(try(have eA:(ZG ((zl za 2 a.n0 λj=>Zu za (a.r0 (0+j))).cons zh))=a:=(by
   have h:(λj=>Zu za (a.r0 (0+j)))=λj=>Zu za (a.r0 j):=funext λj=>by rw[zX]
   rw[h];rfl)))
  all_goals(try rw[eA]at hb2)
  all_goals(try(have f:=gAt_0 (nf hb2)))
  all_goals(try(have hw:=IntWalk.i64_in (X9 a b+1) ⟨by omega,by omega⟩))
  all_goals(try(have gx:∀A:Zc,A=a->X9 A b=X9 a b:=(λA h=>by rw[h])))
  all_goals(first|exact gwp_fit a b|((repeat'(first|exact rfl|exact WG _|exact λ_=>⟨rfl,rfl⟩|apply zy|intro _));all_goals(try simp only[decide_eq_true_eq,decide_eq_false_iff_not]at*);all_goals(try simp(disch:=exact Eq.trans (by kernel_rfl) eA) only[gx,hw]);all_goals(first|omega|(rename_i hj;simp(disch:=exact Eq.trans (by kernel_rfl) eA) only[gx,hw]at hj;first|(rw[YS.2 (by omega)];rfl)|rfl)|exact h1 _|(refine beq_eq_false_iff_ne.2 ?_;omega)|trace_state)))
 ·refine⟨⟨rfl,?_⟩,⟨⟨rfl,?_⟩,⟨⟨rfl,?_⟩,⟨rfl,?_⟩⟩⟩⟩
  all_goals((repeat'(first|exact rfl|exact trivial|apply zy|intro _|(refine cP (p:=λv=>z8 v=Yh _ v) (λhc=>?_) (λhc=>?_))));all_goals(exfalso;simp only[YS,XO,XW,X7,XV,X6,zL,yE]at*;omega))
def Zfc(r0:Zc->Int->Zc)(r1:Zc->Int->Int):Con:=Yd 185 (λx=>(.cons (.agg (Y5 za (ZG x.hd.inner))) (.cons (.int za .i64 x.tl.hd.toInt) .nil))) (λx=>(.tup (.cons (.agg (Y5 za (r0 (ZG x.hd.inner) x.tl.hd.toInt))) (.cons (.int za .i64 (r1 (ZG x.hd.inner) x.tl.hd.toInt)) .nil)))) (λx=>(λ(a:Zc)(b:Int)=>a.n0<=1000/\∀j,(a.r0 j).n1<=1000) (ZG x.hd.inner) x.tl.hd.toInt)
abbrev c_gPart:Con:=Zfc Xd Ql
theorem Zn5:c_gPart.Ok P:=Yf (λx h=>ZpT _ _ h.1 h.2)
end Go.Proofs.YthhbdbeglmkijaaGreatDoor
end
