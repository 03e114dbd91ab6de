/- Fvcpu9 -/
import Derived.Test.YthhbdbeglmkijaaGreatDoorMAg
import Derived.Test.YthhbdbeglmkijaaGreatDoorMAk
import Derived.Test.YthhbdbeglmkijaaGreatDoorMAj
import Derived.Test.YthhbdbeglmkijaaGreatDoorMAf
set_option maxRecDepth 100000
set_option linter.unusedVariables false
set_option linter.unusedSimpArgs false
noncomputable section
open Go.Fw.V renaming rsl→zl,cons→zf,nil→zh,agg→zJ,int→zn,bool→zC,soft→z8,mp→zZ,ptr→zQ
open Bool renaming false→za,true→ze,and_eq_true→zL,and_eq_false_iff→yE,not_eq_true'→yg,not_eq_false'→yw
open Go.Fw.Tree renaming need→zu,node→zB,leaf→zw
open Int renaming toNat→zk
open Go.IntKind renaming i64→zA,u32→yD,wrap→zD,u64→yH,bits→zY
open And renaming intro→zy
open Option renaming none→zm
open Go.Fw.Blk renaming var→zN
open Go.Value renaming int→zW
open Prod renaming snd→zx,fst→zR
open True renaming intro→yj
open Nat renaming beq→zq,eq_of_beq_eq_true→zO
namespace Go.Proofs.YthhbdbeglmkijaaGreatDoor
open Go.Fw
def dVcpu_T(a:Zf)(b:Int):Tree V:=
 let q1:=(zl za 4 a.n1 λj=>Zt za (a.4 j))
 let q0:=(zf (zl za 4 a.n0 λj=>Zv za (a.2 j)) (zf q1 zh))
 zu (zf q1 (ci b (zf (V.fn (Fn.func (93:Nat)) zh zh) zh))=zf q1 (ci b (zf (V.fn (Fn.func (93:FuncId)) zh zh) zh))/\a.n1<=(1000:Nat)) (zu ((!QA a.n1 (λj=>(a.4 j)) b)=za->zf (zJ q0) zh=zf (zJ q0) zh/\a.n0<=(1000:Nat)/\a.n1<=(1000:Nat)) (zB (bif bif !QA a.n1 (λj=>(a.4 j)) b then ze else Wy (ZQ q0) != (0:Int)then ze else za) (zw (V.tup (zf (zJ (zf (zn ze .i64 (0:Int)) (zf (zn ze .i64 (0:Int)) (zf (zn ze .u32 (0:Int)) (zf (zn ze .u32 (0:Int)) zh))))) (zf (zC ze za) zh)))) (zu ((0:Int)<=WZ a.n1 (λj=>(a.4 j)) b/\WZ a.n1 (λj=>(a.4 j)) b<((a.n1:Nat):Int)) (zw (V.tup (zf (zJ (Zt za (a.4 (zk (WZ a.n1 (λj=>(a.4 j)) b))))) (zf (zC ze ze) zh)))))))
theorem ZoW(a:Zf)(b:Int):ZT (Zl P [c_dPlV,ZaA] [] ze) 400 110 (.cons (.agg (Vj za a)) (.cons (.int za .i64 b) .nil))=dVcpu_T a b:=by kernel_rfl
def ZaT(a:Zf)(b:Int):Int:=
  (bif bif bif !QA a.n1 (λj=>YK (Zt za (a.4 j))) b then ze else Wy (ZQ (zf (zl za 4 a.n0 λj=>Zv za (a.2
  j)) (zf (zl za 4 a.n1 λj=>Zt za (a.4 j)) zh))) != (0:Int)then ze else za then(0:Int)else(a.4 (zk (WZ a.n1 (λj=>
  YK (Zt za (a.4 j))) b))).f0)
def Ga(a:Zf)(b:Int):Int:=
  (bif bif bif !QA a.n1 (λj=>YK (Zt za (a.4 j))) b then ze else Wy (ZQ (zf (zl za 4 a.n0 λj=>Zv za (a.2
  j)) (zf (zl za 4 a.n1 λj=>Zt za (a.4 j)) zh))) != (0:Int)then ze else za then(0:Int)else(a.4 (zk (WZ a.n1 (λj=>
  YK (Zt za (a.4 j))) b))).f1)
def Wu(a:Zf)(b:Int):Int:=
  (bif bif bif !QA a.n1 (λj=>YK (Zt za (a.4 j))) b then ze else Wy (ZQ (zf (zl za 4 a.n0 λj=>Zv za (a.2
  j)) (zf (zl za 4 a.n1 λj=>Zt za (a.4 j)) zh))) != (0:Int)then ze else za then(0:Int)else(a.4 (zk (WZ a.n1 (λj=>
  YK (Zt za (a.4 j))) b))).f2)
def ZcA(a:Zf)(b:Int):Int:=
  (bif bif bif !QA a.n1 (λj=>YK (Zt za (a.4 j))) b then ze else Wy (ZQ (zf (zl za 4 a.n0 λj=>Zv za (a.2
  j)) (zf (zl za 4 a.n1 λj=>Zt za (a.4 j)) zh))) != (0:Int)then ze else za then(0:Int)else(a.4 (zk (WZ a.n1 (λj=>
  YK (Zt za (a.4 j))) b))).f3)
def Zkt(a:Zf)(b:Int):Bool:=
  (bif bif bif !QA a.n1 (λj=>YK (Zt za (a.4 j))) b then ze else Wy (ZQ (zf (zl za 4 a.n0 λj=>Zv za (a.2
  j)) (zf (zl za 4 a.n1 λj=>Zt za (a.4 j)) zh))) != (0:Int)then ze else za then za else ze)
theorem ZoV(a:Zf)(b:Int)(h0:a.n0<=1000)(h1:a.n1<=1000):Zh P 110 (.cons (.agg (Vj za a)) (.cons (.int za .i64 b) .nil)) (.tup (.cons (.agg (.cons (.int za zA (ZaT a b)) (.cons (.int za zA (Ga a b)) (.cons (.int za yD (Wu a b)) (.cons (.int za yD (ZcA a b)) .nil))))) (.cons (.bool za (Zkt a b)) .nil))):=
 Xn (Zw hm hn (l:=[c_dPlV,ZaA]) ⟨c_dPlV_ok,Zj1,trivial⟩ (ls:=[]) trivial ze) 400 (Has.of hn Tryz.func110 rfl) (ZoW a b) (Tree.Pre.mk (by refine⟨?_,⟨?_,⟨λ_=>trivial,λ_=>⟨?_,trivial⟩⟩⟩⟩;all_goals(((repeat'(first|exact rfl|exact λ_=>⟨rfl,rfl⟩|apply zy|intro _));all_goals(try simp only[decide_eq_true_eq,decide_eq_false_iff_not]at*);all_goals(first|omega|exact(Zks _ _ _).1|exact(Zks _ _ _).2.2 (nf2 ‹_›)))))) (by kernel_rfl) (by kernel_rfl)
def X8:Con:=Yd 110 (λx=>(.cons (.agg (Vj za (ZQ x.hd.inner))) (.cons (.int za .i64 x.tl.hd.toInt) .nil))) (λx=>(.tup (.cons (.agg (.cons (.int za zA (ZaT (ZQ x.hd.inner) x.tl.hd.toInt)) (.cons (.int za zA (Ga (ZQ x.hd.inner) x.tl.hd.toInt)) (.cons (.int za yD (Wu (ZQ x.hd.inner) x.tl.hd.toInt)) (.cons (.int za yD (ZcA (ZQ x.hd.inner) x.tl.hd.toInt)) .nil))))) (.cons (.bool za (Zkt (ZQ x.hd.inner) x.tl.hd.toInt)) .nil)))) (λx=>(ZQ x.hd.inner).n0<=1000/\(ZQ x.hd.inner).n1<=1000)
theorem Ve:X8.Ok P:=Yf (λx h=>ZoV _ _ h.1 h.2)
def ZhY(d:Za)(gn:Nat)(gr:Nat->DT3)(sa:Int)(p:Zj)(gu:Zf)(ga:Zc)(b:Int):Tree V:=
 let q2:=(zl za 4 gu.n0 λj=>Zv za (gu.2 j))
 let q0:=(zf q2 (zf (zl za 4 gu.n1 λj=>Zt za (gu.4 j)) zh))
 let q1:=(ci (Ga (ZQ q0) b) (zf (zn za .u32 (Wu (ZQ q0) b)) (zf (zn za .u32 (ZcA (ZQ q0) b)) zh)))
 let q3:=(vi (ZaT (ZQ q0) b))
 zu (zf (zJ q0) (ci b zh)=zf (zJ q0) (ci b zh)/\gu.n0<=(1000:Nat)/\gu.n1<=(1000:Nat)) (zu (zf q2 (zf (V.fn (Fn.func (221:Nat)) zh (zf (V.rptr za (4:Nat) (1:Nat) (λj=>zf q3 q1) (0:Nat) (0:Nat)) zh)) zh)=zf q2 (zf (V.fn (Fn.func (221:FuncId)) zh (zf (V.rptr za (4:Nat) (1:Nat) (λjj=>zf q3 q1) (0:Nat) (0:Nat)) zh)) zh)/\gu.n0<=(1000:Nat)) (zw (vi (VA (YK (zf q3 q1)) gu.n0 λj=>(gu.2 j)))))
theorem Zoh(d:Za)(gn:Nat)(gr:Nat->DT3)(sa:Int)(p:Zj)(gu:Zf)(ga:Zc)(b:Int):ZT (Zl P [X8,U2] [] ze) 400 183 (.cons (zcPt d gn gr sa p gu ga) (.cons (.int za .i64 b) .nil))=ZhY d gn gr sa p gu ga b:=by kernel_rfl
def Zm(gu:Zf)(b:Int):Int:=(ZhY (Yb .nil) 0 (λ_=>Zx .nil) 0 (Ym .nil) gu (ZG .nil) b).valOf.toInt
theorem Zog(d:Za)(gn:Nat)(gr:Nat->DT3)(sa:Int)(p:Zj)(gu:Zf)(ga:Zc)(b:Int)(h0:gu.n0<=1000)(h1:gu.n1<=1000):Zh P 183 (.cons (zcPt d gn gr sa p gu ga) (.cons (.int za .i64 b) .nil)) (.int za .i64 (Zm gu b)):=by
 refine(show Yh (.int za .i64 0) (ZhY d gn gr sa p gu ga b).valOf=(.int za .i64 (Zm gu b))from by kernel_rfl)▸ ?_
 refine X4 (E:=(Zl P [X8,U2] [] ze)) (Zw hm hn (l:=[X8,U2]) ⟨Ve,Zj5,trivial⟩ (ls:=[]) trivial ze) (.int za .i64 0) (Has.of hn Tryz.func183 rfl) (Zoh d gn gr sa p gu ga b) ?_ ?_
 ·refine⟨?_,⟨?_,trivial⟩⟩
  all_goals((repeat'(first|exact rfl|exact WG _|exact λ_=>⟨rfl,rfl⟩|apply zy|intro _));all_goals(try simp only[decide_eq_true_eq,decide_eq_false_iff_not]at*);all_goals(first|omega|(simp at*;omega)))
 ·refine⟨rfl,?_⟩
  all_goals((repeat'(first|exact rfl|exact trivial|apply zy|intro _|(refine cP (p:=λv=>z8 v=Yh _ v) (λhc=>?_) (λhc=>?_))));all_goals(exfalso;simp only[YS,XO,XW,X7,XV,X6,zL,yE]at*;omega))
def c_chHomeA(r0:Zf->Int->Int):Con:=conS 183 (λx=>(.cons (zcPr (x.hd.Zz 0)) (.cons (.int za .i64 x.tl.hd.toInt) .nil))) (λx=>(.int za .i64 (r0 (ZQ (.cons (x.hd.Zz 0).tl.tl.tl.hd (.cons (x.hd.Zz 0).tl.tl.tl.tl.hd .nil))) x.tl.hd.toInt))) (λx=>(λ(gu:Zf)(b:Int)=>gu.n0<=1000/\gu.n1<=1000) (ZQ (.cons (x.hd.Zz 0).tl.tl.tl.hd (.cons (x.hd.Zz 0).tl.tl.tl.tl.hd .nil))) x.tl.hd.toInt)
abbrev Zax:Con:=c_chHomeA Zm
theorem Zj0:Zax.Ok P:=Vm (λx h=>Zog _ _ _ _ _ _ _ _ h.1 h.2)
abbrev Zb5(n:Nat)(r:Nat->DT3)(d:Za)(gn:Nat)(gr:Nat->DT3)(sa:Int)(p:Zj)(gu:Zf)(ga:Zc)(mn:Nat)(mr:Nat->DT3)(i:Int)(z:Unit):V:=(.cons (.rsl za 1 n (λjj=>zf (zn za zA (DT3.f0 (r jj))) zh)) (.cons (zcF2 182 d gn gr sa p gu ga mn mr) (.cons (.int ze .i64 0) (.cons (.int za .i64 ((n:Nat):Int)) (.cons (.int za .i64 i) .nil)))))
abbrev Zb6(n:Nat)(r:Nat->DT3)(d:Za)(gn:Nat)(gr:Nat->DT3)(sa:Int)(p:Zj)(gu:Zf)(ga:Zc)(mn:Nat)(mr:Nat->DT3)(i:Int)(z:Unit):List Blk:=[]
def LixFh_R(n:Nat)(r:Nat->DT3)(d:Za)(gn:Nat)(gr:Nat->DT3)(sa:Int)(p:Zj)(gu:Zf)(ga:Zc)(mn:Nat)(mr:Nat->DT3)(i:Int)(z:Unit):Tree Rd:=
 let q0:=(V.rptr za (16:Nat) (1:Nat) (λjj=>ci d.f0 (zf (zl za 2 d.n1 λjj=>Z9 za (d.3 jj)) (zf (zl za 1 p.n0 λjj=>zf (zn za .u32 (p.2 jj).f0) zh) (zf (zl za 4 gu.n0 λjj=>Zv za (gu.2 jj)) (zf (zl za 4 gu.n1 λjj=>Zt za (gu.4 jj)) (zf (zl za 2 ga.n0 λjj=>ci (ga.2 jj).f0 (zf (zl za 1 (ga.2 jj).n1 λjj_1=>ci ((ga.2 jj).r1 jj_1).f0 zh) zh)) (zf (zl za 11 d.n6 λjj=>Zy za (d.13 jj)) (zf (zl za 2 d.n7 λjj=>Z0 za (d.15 jj)) (zf (zl za 5 d.n8 λjj=>ZP za (d.17 jj)) (ci d.f9 (zf (zl za 2 d.n10 λjj=>ZC za (d.20 jj)) (zf (zl za 3 d.n11 λjj=>ZF za (d.22 jj)) (zf (zl za 2 d.n12 λjj=>ZB za (d.24 jj)) (zf (zn za .u64 d.f13) (zf (zl za 1 gn λjj=>ci (gr jj).f0 zh) (ci sa zh)))))))))))))))) (0:Nat) (0:Nat))
 let q1:=(V.rptr za (16:Nat) (1:Nat) (λjj=>ci d.f0 (zf (zl za 2 d.n1 λj=>Z9 za (d.3 j)) (zf (zl za 1 p.n0 λj=>zf (zn za .u32 (X0 (zf (zn za .u32 (p.2 j).f0) zh)).f0) zh) (zf (zl za 4 gu.n0 λj=>Zv za (gu.2 j)) (zf (zl za 4 gu.n1 λj=>Zt za (gu.4 j)) (zf (zl za 2 ga.n0 λj=>ci (XC (ci (ga.2 j).f0 (zf (zl za 1 (ga.2 j).n1 λj_1=>ci ((ga.2 j).r1 j_1).f0 zh) zh))).f0 (zf (zl za 1 (XC (ci (ga.2 j).f0 (zf (zl za 1 (ga.2 j).n1 λj_1=>ci ((ga.2 j).r1 j_1).f0 zh) zh))).n1 λj_1=>ci ((XC (ci (ga.2 j).f0 (zf (zl za 1 (ga.2 j).n1 λj_1=>ci ((ga.2 j).r1 j_1).f0 zh) zh))).r1 j_1).f0 zh) zh)) (zf (zl za 11 d.n6 λj=>Zy za (d.13 j)) (zf (zl za 2 d.n7 λj=>Z0 za (d.15 j)) (zf (zl za 5 d.n8 λj=>ZP za (d.17 j)) (ci d.f9 (zf (zl za 2 d.n10 λj=>ZC za (d.20 j)) (zf (zl za 3 d.n11 λj=>ZF za (d.22 j)) (zf (zl za 2 d.n12 λj=>ZB za (d.24 j)) (zf (zn za .u64 d.f13) (zf (zl za 1 gn λj=>ci (gr j).f0 zh) (ci sa zh)))))))))))))))) (0:Nat) (0:Nat))
 let q3:=(zn ze .i64 (0:Int))
 let q8:=(zn ze .u32 (0:Int))
 let q2:=(V.fn (Fn.func (182:FuncId)) zh (zf (V.rptr za (1:Nat) (1:Nat) (λjj=>zf q0 zh) (0:Nat) (0:Nat)) (zf (V.rptr za (13:Nat) (1:Nat) (λjj=>zf (zn ze .i64 (5:Int)) (zf q3 (zf q3 (zf q3 (zf q3 (zf q3 (zf q3 (zf q3 (zf q3 (zf q8 (zf q8 (zf q8 (zf (zl za 1 mn λjj=>ci (mr jj).f0 zh) zh))))))))))))) (0:Nat) (0:Nat)) zh)))
 let q4:=(ZQ (zf (zl za 4 gu.n0 λj=>Zv za (gu.2 j)) (zf (zl za 4 gu.n1 λj=>Zt za (gu.4 j)) zh)))
 let q5:=(zl za 1 n λjj=>ci (r jj).f0 zh)
 let q6:=(ci (mr (zk (0:Int))).f0 zh)
 let q7:=(ci (r (zk i)).f0 zh)
 zu (((0:Int)<=i/\i<(n:Int))/\(sR (zf q0 q7) (zf q1 q7)/\gu.n0<=(1000:Nat)/\gu.n1<=(1000:Nat))/\((0:Int)<=(0:Int)/\(0:Int)<(mn:Int))/\sR (zf q0 q6) (zf q1 q6)/\gu.n0<=(1000:Nat)/\gu.n1<=(1000:Nat)) (zB (bif bif Zm q4 (r (zk i)).f0 != Zm q4 (mr (zk (0:Int))).f0 then ze else za then ze else za) (zw (Ex.ret,ze,zf q5 (zf q2 (ci i (ci (n:Int) (ci i zh)))),[])) (zw (Ex.normal,ze,zf q5 (zf q2 (zf q3 (ci (n:Int) (ci (zD .i64 (i+(1:Int))) zh)))),[])))
theorem Zm5(n:Nat)(r:Nat->DT3)(d:Za)(gn:Nat)(gr:Nat->DT3)(sa:Int)(p:Zj)(gu:Zf)(ga:Zc)(mn:Nat)(mr:Nat->DT3):Yi P (Zl P [Zax] [] ze) 220 2 0 0 19 [0,1,4,7,8] [] [] (Zb5 n r d gn gr sa p gu ga mn mr) (Zb6 n r d gn gr sa p gu ga mn mr) (λi=>(bif decide (i<(n:Int))then za else ze)) (.exit 0) (LixFh_R n r d gn gr sa p gu ga mn mr):=λB i z=>by kernel_rfl
def UJ(n:Nat)(r:Nat->DT3)(d:Za)(gn:Nat)(gr:Nat->DT3)(sa:Int)(p:Zj)(gu:Zf)(ga:Zc)(mn:Nat)(mr:Nat->DT3)(k:Nat):Bool:=(λ(i:Int)(z:Unit)=>
 let q0:=(ZQ (zf (zl za 4 gu.n0 λj=>Zv za (gu.2 j)) (zf (zl za 4 gu.n1 λj=>Zt za (gu.4 j)) zh)))
 (bif bif bif Zm q0 (r (zk i)).f0 != Zm q0 (mr (zk (0:Int))).f0 then ze else za then ze else za then ze else za)) k ()
abbrev LixFh_ets(n:Nat)(r:Nat->DT3)(d:Za)(gn:Nat)(gr:Nat->DT3)(sa:Int)(p:Zj)(gu:Zf)(ga:Zc)(mn:Nat)(mr:Nat->DT3)(i:Int)(z:Unit):V:=(.cons (zl za 1 n λjj=>zf (zn za .i64 (r jj).f0) zh) (.cons (zcF2 182 d gn gr sa p gu ga mn mr) (.cons (zn za .i64 i) (.cons (zn za .i64 (n:Int)) (.cons .junk .nil)))))
def Zef(n:Nat)(r:Nat->DT3)(d:Za)(gn:Nat)(gr:Nat->DT3)(sa:Int)(p:Zj)(gu:Zf)(ga:Zc)(mn:Nat)(mr:Nat->DT3):Lp:=lpL 220 2 0 0 19 [0,1,4,7,8] [] [] (Zb5 n r d gn gr sa p gu ga mn mr) (Zb6 n r d gn gr sa p gu ga mn mr) (.exit 0) .ret () (λ_=>()) (UJ n r d gn gr sa p gu ga mn mr) (n) (LixFh_ets n r d gn gr sa p gu ga mn mr) (Zb6 n r d gn gr sa p gu ga mn mr)
def ZjC(n:Nat)(r:Nat->DT3)(d:Za)(gn:Nat)(gr:Nat->DT3)(sa:Int)(p:Zj)(gu:Zf)(ga:Zc)(mn:Nat)(mr:Nat->DT3):Prop:=YC 0 [] (Zb5 n r d gn gr sa p gu ga mn mr) (Zb6 n r d gn gr sa p gu ga mn mr) () (Zb5 n r d gn gr sa p gu ga mn mr (0:Nat) ()) (Zb6 n r d gn gr sa p gu ga mn mr (0:Nat) ())
theorem LixFh_fit(n:Nat)(r:Nat->DT3)(d:Za)(gn:Nat)(gr:Nat->DT3)(sa:Int)(p:Zj)(gu:Zf)(ga:Zc)(mn:Nat)(mr:Nat->DT3):ZjC n r d gn gr sa p gu ga mn mr:=⟨rfl,trivial⟩
theorem Zm4(n:Nat)(r:Nat->DT3)(d:Za)(gn:Nat)(gr:Nat->DT3)(sa:Int)(p:Zj)(gu:Zf)(ga:Zc)(mn:Nat)(mr:Nat->DT3)(hl:n<=1000)(h0:gu.n0<=1000)(h1:gu.n1<=1000)(h2:n<=mn):(Zef n r d gn gr sa p gu ga mn mr).Ok P:=by
 refine YR (Zw hm hn (l:=[Zax]) ⟨Zj0,trivial⟩ (ls:=[]) trivial ze) rfl (by kernel_rfl) (Zm5 n r d gn gr sa p gu ga mn mr) exN Yv (λ_=>rfl) (step:=λ_ z=>z) (rd:=(λ_ t y=>())) (λi z=>rfl) (λi=>(cC rfl rfl)) rfl (λi hlt hg=>?_) (λi z hi=>?_)
 ·have hltI:(i:Int)<((n:Nat):Int):=by omega
  refine⟨?_,⟨λhb0=>trivial,λhb0=>trivial⟩⟩
  all_goals(repeat'(first|exact rfl|exact λ_=>⟨rfl,rfl⟩|apply zy|intro _))
  all_goals(try simp only[decide_eq_true_eq,decide_eq_false_iff_not,yg,yw]at*)
  all_goals(try simp(disch:=omega) only[IntWalk.i64_in])
  all_goals(first|omega)
 ·have hw:=(IntWalk.i64_in ((i:Int)+1) ⟨by omega,by omega⟩)
  refine⟨?_,?_⟩
  all_goals(first|exact⟨rfl,Yq (ts:=Zb5 n r d gn gr sa p gu ga mn mr) (a:=()) hw rfl,Z5 _⟩|exact⟨rfl,rfl,(by repeat'(first|exact Le.refl _|exact Le.junk _ rfl|apply Le.cons)),Z5 _⟩)
def ixFh_T(d:Za)(gn:Nat)(gr:Nat->DT3)(sa:Int)(p:Zj)(gu:Zf)(ga:Zc)(mn:Nat)(mr:Nat->DT3)(an:Nat)(a:Nat->DT3):Tree V:=
 zu (ZjC an a d gn gr sa p gu ga mn mr) (zB (bif Zp (UJ an a d gn gr sa p gu ga mn mr) an then ze else za) (zw (vi ((ZN (UJ an a d gn gr sa p gu ga mn mr) an (0:Nat):Nat):Int))) (zw (zn ze .i64 (-1:Int))))
theorem ixFh_tree(d:Za)(gn:Nat)(gr:Nat->DT3)(sa:Int)(p:Zj)(gu:Zf)(ga:Zc)(mn:Nat)(mr:Nat->DT3)(an:Nat)(a:Nat->DT3):ZT (Zl P [Zax] [Zef an a d gn gr sa p gu ga mn mr] ze) 400 220 (.cons (.rsl za 1 an λj=>ZK za (a j)) (.cons (zcF2 182 d gn gr sa p gu ga mn mr) .nil))=ixFh_T d gn gr sa p gu ga mn mr an a:=by kernel_rfl
def Zbi(gu:Zf)(mn:Nat)(mr:Nat->DT3)(an:Nat)(a:Nat->DT3):Int:=(ixFh_T (Yb .nil) 0 (λ_=>Zx .nil) 0 (Ym .nil) gu (ZG .nil) mn mr an a).valOf.toInt
theorem Zqd(d:Za)(gn:Nat)(gr:Nat->DT3)(sa:Int)(p:Zj)(gu:Zf)(ga:Zc)(mn:Nat)(mr:Nat->DT3)(an:Nat)(a:Nat->DT3)(h0:an<=1000)(h1:gu.n0<=1000)(h2:gu.n1<=1000)(h3:an<=mn):Zh P 220 (.cons (.rsl za 1 an λj=>ZK za (a j)) (.cons (zcF2 182 d gn gr sa p gu ga mn mr) .nil)) (.int za .i64 (Zbi gu mn mr an a)):=by
 refine(show Yh (.int za .i64 0) (ixFh_T d gn gr sa p gu ga mn mr an a).valOf=(.int za .i64 (Zbi gu mn mr an a))from by kernel_rfl)▸ ?_
 refine X4 (E:=(Zl P [Zax] [Zef an a d gn gr sa p gu ga mn mr] ze)) (Zw hm hn (l:=[Zax]) ⟨Zj0,trivial⟩ (ls:=[Zef an a d gn gr sa p gu ga mn mr]) ⟨Zm4 an a d gn gr sa p gu ga mn mr h0 h1 h2 h3,trivial⟩ ze) (.int za .i64 0) (Has.of hn Tryz.func220 rfl) (ixFh_tree d gn gr sa p gu ga mn mr an a) ?_ ?_
 ·refine⟨?_,⟨λhb0=>trivial,λhb0=>trivial⟩⟩
  all_goals(first|exact LixFh_fit an a d gn gr sa p gu ga mn mr|((repeat'(first|exact rfl|exact WG _|exact λ_=>⟨rfl,rfl⟩|apply zy|intro _));all_goals(try simp only[decide_eq_true_eq,decide_eq_false_iff_not]at*);all_goals(first|omega|(simp at*;omega))))
 ·refine⟨⟨rfl,?_⟩,⟨rfl,?_⟩⟩
  all_goals((repeat'(first|exact rfl|exact trivial|apply zy|intro _|(refine cP (p:=λv=>z8 v=Yh _ v) (λhc=>?_) (λhc=>?_))));all_goals(exfalso;simp only[YS,XO,XW,X7,XV,X6,zL,yE]at*;omega))
def c_ixFhA(r0:Zf->Nat->(Nat->DT3)->Nat->(Nat->DT3)->Int):Con:=conS 220 (λx=>(.cons (.rsl za 1 x.hd.Zi λj=>ZK za ((λj=>Zx (x.hd.Zn j)) j)) (.cons (zcR2 182 ((x.tl.hd.Ye.hd.Zz 0).hd.Zz 0) (((x.tl.hd.Ye.tl.hd.Zz 0).nth 12).Zi) (λj=>Zx (((x.tl.hd.Ye.tl.hd.Zz 0).nth 12).Zn j))) .nil))) (λx=>(.int za .i64 (r0 (ZQ (.cons ((x.tl.hd.Ye.hd.Zz 0).hd.Zz 0).tl.tl.tl.hd (.cons ((x.tl.hd.Ye.hd.Zz 0).hd.Zz 0).tl.tl.tl.tl.hd .nil))) (((x.tl.hd.Ye.tl.hd.Zz 0).nth 12).Zi) (λj=>Zx (((x.tl.hd.Ye.tl.hd.Zz 0).nth 12).Zn j)) x.hd.Zi (λj=>Zx (x.hd.Zn j))))) (λx=>(λ(gu:Zf)(mn:Nat)(mr:Nat->DT3)(an:Nat)(a:Nat->DT3)=>an<=1000/\gu.n0<=1000/\gu.n1<=1000/\an<=mn) (ZQ (.cons ((x.tl.hd.Ye.hd.Zz 0).hd.Zz 0).tl.tl.tl.hd (.cons ((x.tl.hd.Ye.hd.Zz 0).hd.Zz 0).tl.tl.tl.tl.hd .nil))) (((x.tl.hd.Ye.tl.hd.Zz 0).nth 12).Zi) (λj=>Zx (((x.tl.hd.Ye.tl.hd.Zz 0).nth 12).Zn j)) x.hd.Zi (λj=>Zx (x.hd.Zn j)))
abbrev Zff:Con:=c_ixFhA Zbi
theorem c_ixFh_ok:Zff.Ok P:=Vm (λx h=>Zqd _ _ _ _ _ _ _ _ _ _ _ h.1 h.2.1 h.2.2.1 h.2.2.2)
def cfFh_T(d:Za)(gn:Nat)(gr:Nat->DT3)(sa:Int)(p:Zj)(gu:Zf)(ga:Zc)(mn:Nat)(mr:Nat->DT3)(an:Nat)(a:Nat->DT3):Tree V:=
 let q0:=(zn ze .i64 (0:Int))
 let q1:=(zf (zn za .u64 d.f13) (zf (zl za 1 gn λj=>ci (gr j).f0 zh) (ci sa zh)))
 let q2:=(zn ze .u32 (0:Int))
 let q3:=(zl za 4 gu.n0 λj=>Zv za (gu.2 j))
 let q4:=(zl za 4 gu.n1 λj=>Zt za (gu.4 j))
 zu (sR (zf (zl za 1 an λjj=>ci (a jj).f0 zh) (zf (V.fn (Fn.func (182:FuncId)) zh (zf (V.rptr za (1:Nat) (1:Nat) (λjj=>zf (V.rptr za (16:Nat) (1:Nat) (λjj=>ci d.f0 (zf (zl za 2 d.n1 λj=>Z9 za (d.3 j)) (zf (zl za 1 p.n0 λj=>zf (zn za .u32 (p.2 j).f0) zh) (zf q3 (zf q4 (zf (zl za 2 ga.n0 λj=>ci (ga.2 j).f0 (zf (zl za 1 (ga.2 j).n1 λj_1=>ci ((ga.2 j).r1 j_1).f0 zh) zh)) (zf (zl za 11 d.n6 λj=>Zy za (d.13 j)) (zf (zl za 2 d.n7 λj=>Z0 za (d.15 j)) (zf (zl za 5 d.n8 λj=>ZP za (d.17 j)) (ci d.f9 (zf (zl za 2 d.n10 λj=>ZC za (d.20 j)) (zf (zl za 3 d.n11 λj=>ZF za (d.22 j)) (zf (zl za 2 d.n12 λj=>ZB za (d.24 j)) q1))))))))))))) (0:Nat) (0:Nat)) zh) (0:Nat) (0:Nat)) (zf (V.rptr za (13:Nat) (1:Nat) (λjj=>zf (zn ze .i64 (5:Int)) (zf q0 (zf q0 (zf q0 (zf q0 (zf q0 (zf q0 (zf q0 (zf q0 (zf q2 (zf q2 (zf q2 (zf (zl za 1 mn λjj=>ci (mr jj).f0 zh) zh))))))))))))) (0:Nat) (0:Nat)) zh))) zh)) (zf (zl za 1 an λj=>ci (a j).f0 zh) (zf (V.fn (Fn.func (182:FuncId)) zh (zf (V.rptr za (1:Nat) (1:Nat) (λjj=>zf (V.rptr za (16:Nat) (1:Nat) (λjj=>ci d.f0 (zf (zl za 2 d.n1 λj=>Z9 za (d.3 j)) (zf (zl za 1 p.n0 λj=>zf (zn za .u32 (p.2 j).f0) zh) (zf (zl za 4 gu.n0 λj=>Zv za (gu.2 j)) (zf (zl za 4 gu.n1 λj=>Zt za (gu.4 j)) (zf (zl za 2 ga.n0 λj=>ci (ga.2 j).f0 (zf (zl za 1 (ga.2 j).n1 λj_1=>ci ((ga.2 j).r1 j_1).f0 zh) zh)) (zf (zl za 11 d.n6 λj=>Zy za (d.13 j)) (zf (zl za 2 d.n7 λj=>Z0 za (d.15 j)) (zf (zl za 5 d.n8 λj=>ZP za (d.17 j)) (ci d.f9 (zf (zl za 2 d.n10 λj=>ZC za (d.20 j)) (zf (zl za 3 d.n11 λj=>ZF za (d.22 j)) (zf (zl za 2 d.n12 λj=>ZB za (d.24 j)) q1))))))))))))) (0:Nat) (0:Nat)) zh) (0:Nat) (0:Nat)) (zf (V.rptr za (13:Nat) (1:Nat) (λjj=>zf (zn ze .i64 (5:Int)) (zf q0 (zf q0 (zf q0 (zf q0 (zf q0 (zf q0 (zf q0 (zf q0 (zf q2 (zf q2 (zf q2 (zf (zl za 1 mn λj=>ci (mr j).f0 zh) zh))))))))))))) (0:Nat) (0:Nat)) zh))) zh))/\an<=(1000:Nat)/\gu.n0<=(1000:Nat)/\gu.n1<=(1000:Nat)/\an<=mn) (zw (zC za (decide ((Zbi (ZQ (zf q3 (zf q4 zh))) mn (λj=>(mr j)) an λj=>(a j))>=(0:Int)))))
theorem cfFh_tree(d:Za)(gn:Nat)(gr:Nat->DT3)(sa:Int)(p:Zj)(gu:Zf)(ga:Zc)(mn:Nat)(mr:Nat->DT3)(an:Nat)(a:Nat->DT3):ZT (Zl P [Zff] [] ze) 400 180 (.cons (.rsl za 1 an λj=>ZK za (a j)) (.cons (zcF2 182 d gn gr sa p gu ga mn mr) .nil))=cfFh_T d gn gr sa p gu ga mn mr an a:=by kernel_rfl
def XP(gu:Zf)(mn:Nat)(mr:Nat->DT3)(an:Nat)(a:Nat->DT3):Bool:=(cfFh_T (Yb .nil) 0 (λ_=>Zx .nil) 0 (Ym .nil) gu (ZG .nil) mn mr an a).valOf.toBool
theorem Zoe(d:Za)(gn:Nat)(gr:Nat->DT3)(sa:Int)(p:Zj)(gu:Zf)(ga:Zc)(mn:Nat)(mr:Nat->DT3)(an:Nat)(a:Nat->DT3)(h0:an<=1000)(h1:gu.n0<=1000)(h2:gu.n1<=1000)(h3:an<=mn):Zh P 180 (.cons (.rsl za 1 an λj=>ZK za (a j)) (.cons (zcF2 182 d gn gr sa p gu ga mn mr) .nil)) (.bool za (XP gu mn mr an a)):=by
 refine(show Yh (.bool za za) (cfFh_T d gn gr sa p gu ga mn mr an a).valOf=(.bool za (XP gu mn mr an a))from by kernel_rfl)▸ ?_
 refine X4 (E:=(Zl P [Zff] [] ze)) (Zw hm hn (l:=[Zff]) ⟨c_ixFh_ok,trivial⟩ (ls:=[]) trivial ze) (.bool za za) (Has.of hn Tryz.func180 rfl) (cfFh_tree d gn gr sa p gu ga mn mr an a) ?_ ?_
 ·refine⟨?_,trivial⟩
  all_goals((repeat'(first|exact rfl|exact WG _|exact λ_=>⟨rfl,rfl⟩|apply zy|intro _));all_goals(try simp only[decide_eq_true_eq,decide_eq_false_iff_not]at*);all_goals(first|omega|(simp at*;omega)))
 ·refine⟨rfl,?_⟩
  all_goals((repeat'(first|exact rfl|exact trivial|apply zy|intro _|(refine cP (p:=λv=>z8 v=Yh _ v) (λhc=>?_) (λhc=>?_))));all_goals(exfalso;simp only[YS,XO,XW,X7,XV,X6,zL,yE]at*;omega))
def Zhv(r0:Zf->Nat->(Nat->DT3)->Nat->(Nat->DT3)->Bool):Con:=conS 180 (λx=>(.cons (.rsl za 1 x.hd.Zi λj=>ZK za ((λj=>Zx (x.hd.Zn j)) j)) (.cons (zcR2 182 ((x.tl.hd.Ye.hd.Zz 0).hd.Zz 0) (((x.tl.hd.Ye.tl.hd.Zz 0).nth 12).Zi) (λj=>Zx (((x.tl.hd.Ye.tl.hd.Zz 0).nth 12).Zn j))) .nil))) (λx=>(.bool za (r0 (ZQ (.cons ((x.tl.hd.Ye.hd.Zz 0).hd.Zz 0).tl.tl.tl.hd (.cons ((x.tl.hd.Ye.hd.Zz 0).hd.Zz 0).tl.tl.tl.tl.hd .nil))) (((x.tl.hd.Ye.tl.hd.Zz 0).nth 12).Zi) (λj=>Zx (((x.tl.hd.Ye.tl.hd.Zz 0).nth 12).Zn j)) x.hd.Zi (λj=>Zx (x.hd.Zn j))))) (λx=>(λ(gu:Zf)(mn:Nat)(mr:Nat->DT3)(an:Nat)(a:Nat->DT3)=>an<=1000/\gu.n0<=1000/\gu.n1<=1000/\an<=mn) (ZQ (.cons ((x.tl.hd.Ye.hd.Zz 0).hd.Zz 0).tl.tl.tl.hd (.cons ((x.tl.hd.Ye.hd.Zz 0).hd.Zz 0).tl.tl.tl.tl.hd .nil))) (((x.tl.hd.Ye.tl.hd.Zz 0).nth 12).Zi) (λj=>Zx (((x.tl.hd.Ye.tl.hd.Zz 0).nth 12).Zn j)) x.hd.Zi (λj=>Zx (x.hd.Zn j)))
abbrev c_cfFh:Con:=Zhv XP
theorem c_cfFh_ok:c_cfFh.Ok P:=Vm (λx h=>Zoe _ _ _ _ _ _ _ _ _ _ _ h.1 h.2.1 h.2.2.1 h.2.2.2)
abbrev Zcd(n:Nat)(r:Nat->Zq)(y:Int)(i:Int)(z:Unit):V:=(.cons (.rsl za 11 n (λjj=>zf (zn za zA (Zq.f0 (r jj))) (zf (zn za zA (Zq.f1 (r jj))) (zf (zn za zA (Zq.f2 (r jj))) (zf (zn za yD (Zq.f3 (r jj))) (zf (zn za zA (Zq.f4 (r jj))) (zf (zn za yH (Zq.f5 (r jj))) (zf (zn za yH (Zq.f6 (r jj))) (zf (zn za yH (Zq.f7 (r jj))) (zf (zn za yH (Zq.f8 (r jj))) (zf (zn za zA (Zq.f9 (r jj))) (zf (zn za zA (Zq.f10 (r jj))) zh)))))))))))) (.cons (.fn (Fn.func (212:FuncId)) .nil (.cons (.rptr za (1:Nat) (1:Nat) (λjj=>.cons (.int za zA y) .nil) (0:Nat) (0:Nat)) .nil)) (.cons (.int ze .i64 0) (.cons (.int za .i64 ((n:Nat):Int)) (.cons (.int za .i64 i) .nil)))))
abbrev Zce(n:Nat)(r:Nat->Zq)(y:Int)(i:Int)(z:Unit):List Blk:=[]
def LixOwn_R(n:Nat)(r:Nat->Zq)(y:Int)(i:Int)(z:Unit):Tree Rd:=
 let q0:=(V.fn (Fn.func (212:FuncId)) zh (zf (V.rptr za (1:Nat) (1:Nat) (λjj=>ci y zh) (0:Nat) (0:Nat)) zh))
 let q1:=(zl za 11 n λjj=>Zy za (r jj))
 zu ((0:Int)<=i/\i<(n:Int)) (zB (bif bif (r (zk i)).f0==y then ze else za then ze else za) (zw (Ex.ret,ze,zf q1 (zf q0 (ci i (ci (n:Int) (ci i zh)))),[])) (zw (Ex.normal,ze,zf q1 (zf q0 (zf (zn ze .i64 (0:Int)) (ci (n:Int) (ci (zD .i64 (i+(1:Int))) zh)))),[])))
theorem Znj(n:Nat)(r:Nat->Zq)(y:Int):Yi P (Zl P [] [] ze) 211 2 0 0 19 [0,1,4,7,8] [] [] (Zcd n r y) (Zce n r y) (λi=>(bif decide (i<(n:Int))then za else ze)) (.exit 0) (LixOwn_R n r y):=λB i z=>by kernel_rfl
def K8(n:Nat)(r:Nat->Zq)(y:Int)(k:Nat):Bool:=(λ(i:Int)(z:Unit)=>(bif bif bif (r (zk i)).f0==y then ze else za then ze else za then ze else za)) k ()
abbrev Zng(n:Nat)(r:Nat->Zq)(y:Int)(i:Int)(z:Unit):V:=(.cons (zl za 11 n λjj=>Zy za (r jj)) (.cons (V.fn (Fn.func (212:FuncId)) zh (zf (V.rptr za (1:Nat) (1:Nat) (λjj=>zf (zn za .i64 y) zh) (0:Nat) (0:Nat)) zh)) (.cons (zn za .i64 i) (.cons (zn za .i64 (n:Int)) (.cons .junk .nil)))))
def Zek(n:Nat)(r:Nat->Zq)(y:Int):Lp:=lpL 211 2 0 0 19 [0,1,4,7,8] [] [] (Zcd n r y) (Zce n r y) (.exit 0) .ret () (λ_=>()) (K8 n r y) (n) (Zng n r y) (Zce n r y)
def ZjG(n:Nat)(r:Nat->Zq)(y:Int):Prop:=YC 0 [] (Zcd n r y) (Zce n r y) () (Zcd n r y (0:Nat) ()) (Zce n r y (0:Nat) ())
theorem Znh(n:Nat)(r:Nat->Zq)(y:Int):ZjG n r y:=⟨rfl,trivial⟩
theorem Zni(n:Nat)(r:Nat->Zq)(y:Int)(hl:n<=1000):(Zek n r y).Ok P:=by
 refine YR (Zw hm hn (l:=[]) trivial (ls:=[]) trivial ze) rfl (by kernel_rfl) (Znj n r y) exN Yv (λ_=>rfl) (step:=λ_ z=>z) (rd:=(λ_ t y=>())) (λi z=>rfl) (λi=>(cC rfl rfl)) rfl (λi hlt hg=>?_) (λi z hi=>?_)
 ·have hltI:(i:Int)<((n:Nat):Int):=by omega
  refine⟨?_,⟨λhb0=>trivial,λhb0=>trivial⟩⟩
  all_goals(repeat'(first|exact rfl|exact λ_=>⟨rfl,rfl⟩|apply zy|intro _))
  all_goals(try simp only[decide_eq_true_eq,decide_eq_false_iff_not,yg,yw]at*)
  all_goals(try simp(disch:=omega) only[IntWalk.i64_in])
  all_goals(first|omega)
 ·have hw:=(IntWalk.i64_in ((i:Int)+1) ⟨by omega,by omega⟩)
  refine⟨?_,?_⟩
  all_goals(first|exact⟨rfl,Yq (ts:=Zcd n r y) (a:=()) hw rfl,Z5 _⟩|exact⟨rfl,rfl,(by repeat'(first|exact Le.refl _|exact Le.junk _ rfl|apply Le.cons)),Z5 _⟩)
def ZiG(y:Int)(an:Nat)(a:Nat->Zq):Tree V:=
 zu (ZjG an a y) (zB (bif Zp (K8 an a y) an then ze else za) (zw (vi ((ZN (K8 an a y) an (0:Nat):Nat):Int))) (zw (zn ze .i64 (-1:Int))))
theorem Zqk(y:Int)(an:Nat)(a:Nat->Zq):ZT (Zl P [] [Zek an a y] ze) 400 211 (.cons (.rsl za 11 an λj=>Zy za (a j)) (.cons (.fn (.func 212) .nil (.cons (.rptr za 1 1 (λ_=>(.cons (.int za .i64 y) .nil)) 0 0) .nil)) .nil))=ZiG y an a:=by kernel_rfl
def QC(y:Int)(an:Nat)(a:Nat->Zq):Int:=(ZiG y an a).valOf.toInt
theorem Zqj(y:Int)(an:Nat)(a:Nat->Zq)(h0:an<=1000):Zh P 211 (.cons (.rsl za 11 an λj=>Zy za (a j)) (.cons (.fn (.func 212) .nil (.cons (.rptr za 1 1 (λ_=>(.cons (.int za .i64 y) .nil)) 0 0) .nil)) .nil)) (.int za .i64 (QC y an a)):=by
 refine X4 (E:=(Zl P [] [Zek an a y] ze)) (Zw hm hn (l:=[]) trivial (ls:=[Zek an a y]) ⟨Zni an a y h0,trivial⟩ ze) (.int za .i64 0) (Has.of hn Tryz.func211 rfl) (Zqk y an a) ?_ ?_
 ·refine⟨?_,⟨λhb0=>trivial,λhb0=>trivial⟩⟩
  all_goals(first|exact Znh an a y|((repeat'(first|exact rfl|exact WG _|exact λ_=>⟨rfl,rfl⟩|apply zy|intro _));all_goals(try simp only[decide_eq_true_eq,decide_eq_false_iff_not]at*);all_goals(first|omega|(simp at*;omega))))
 ·refine⟨⟨rfl,?_⟩,⟨rfl,?_⟩⟩
  all_goals((repeat'(first|exact rfl|exact trivial|apply zy|intro _|(refine cP (p:=λv=>z8 v=Yh _ v) (λhc=>?_) (λhc=>?_))));all_goals(exfalso;simp only[YS,XO,XW,X7,XV,X6,zL,yE]at*;omega))
def c_ixOwnA(r0:Int->Nat->(Nat->Zq)->Int):Con:=Yd 211 (λx=>(.cons (.rsl za 11 x.hd.Zi λj=>Zy za ((λj=>Xx (x.hd.Zn j)) j)) (.cons (.fn (.func 212) .nil (.cons (.rptr za 1 1 (λ_=>(.cons (.int za .i64 ((x.tl.hd.Ye.hd.Zz 0).hd.toInt)) .nil)) 0 0) .nil)) .nil))) (λx=>(.int za .i64 (r0 ((x.tl.hd.Ye.hd.Zz 0).hd.toInt) x.hd.Zi (λj=>Xx (x.hd.Zn j))))) (λx=>(λ(y:Int)(an:Nat)(a:Nat->Zq)=>an<=1000) ((x.tl.hd.Ye.hd.Zz 0).hd.toInt) x.hd.Zi (λj=>Xx (x.hd.Zn j)))
abbrev ZaD:Con:=c_ixOwnA QC
theorem Zj7:ZaD.Ok P:=Yf (λx h=>Zqj _ _ _ h)
theorem Zlo(y:Int)(an:Nat)(a:Nat->Zq):QC y an a=bif Zp (K8 an a y) an then((ZN (K8 an a y) an 0:Nat):Int)else -1:=by
 unfold QC ZiG
 show V.toInt (bif (bif Zp (K8 an a y) an then ze else za)then _ else _)=_
 cases Zp (K8 an a y) an<;>rfl
theorem ixOwn_rng(y:Int)(an:Nat)(a:Nat->Zq):-1<=QC y an a/\QC y an a<((an:Nat):Int):=by
 rw[Zlo]
 cases h:Zp (K8 an a y) an with
 |true=>have:=ZfK h;show -1<=((ZN _ an 0:Nat):Int)/\((ZN _ an 0:Nat):Int)<an;omega
 |false=>show -1<=(-1:Int)/\(-1:Int)<an;omega
theorem ixO_ok{y:Int}{n:Nat}{r:Nat->Zq}(h:(bif decide (QC y n r<0)then ze else za)=za):0<=QC y n r/\QC y n r<((n:Nat):Int):=by
 have h1:¬QC y n r<0:=by
  intro h2
  rw[decide_eq_true h2]at h
  cases h
 exact⟨by omega,(ixOwn_rng y n r).2⟩
abbrev Zb7(n:Nat)(r:Nat->DT3)(d:Za)(gn:Nat)(gr:Nat->DT3)(sa:Int)(p:Zj)(gu:Zf)(ga:Zc)(i:Int)(z:Unit):V:=(.cons (.rsl za 1 n (λjj=>zf (zn za zA (DT3.f0 (r jj))) zh)) (.cons (zcF1 181 d gn gr sa p gu ga) (.cons (.int ze .i64 0) (.cons (.int za .i64 ((n:Nat):Int)) (.cons (.int za .i64 i) .nil)))))
abbrev Zb8(n:Nat)(r:Nat->DT3)(d:Za)(gn:Nat)(gr:Nat->DT3)(sa:Int)(p:Zj)(gu:Zf)(ga:Zc)(i:Int)(z:Unit):List Blk:=[]
def LixFo_R(n:Nat)(r:Nat->DT3)(d:Za)(gn:Nat)(gr:Nat->DT3)(sa:Int)(p:Zj)(gu:Zf)(ga:Zc)(i:Int)(z:Unit):Tree Rd:=
 let q0:=(zcF1 181 d gn gr sa p gu ga)
 let q1:=(r (Int.rec (λa=>a) (λa=>(0:Nat)) i))
 let q2:=(zl za 1 n λjj=>ci (r jj).f0 zh)
 let q3:=(zl za 11 d.n6 λj=>Zy za (d.13 j))
 zu (((0:Int)<=i/\i<(n:Int))/\(zf q3 (zf (V.fn (Fn.func (212:Nat)) zh (zf (V.rptr za (1:Nat) (1:Nat) (λj=>ci (r (zk i)).f0 zh) (0:Nat) (0:Nat)) zh)) zh)=zf q3 (zf (V.fn (Fn.func (212:FuncId)) zh (zf (V.rptr za (1:Nat) (1:Nat) (λjj=>ci (r (zk i)).f0 zh) (0:Nat) (0:Nat)) zh)) zh)/\d.12<=(1000:Nat))/\((bif decide ((QC q1.1 d.12 λj=>d.13 j)<(0:Int))then ze else za)=za->((0:Int)<=QC q1.1 d.12 λj=>d.13 j)/\(QC q1.1 d.12 λj=>d.13 j)<((d.n6:Nat):Int))) (zB (bif bif decide ((QC (r (zk i)).f0 d.n6 λj=>(d.13 j))<(0:Int))then ze else za then ze else za) (zw (Ex.ret,ze,zf q2 (zf q0 (ci i (ci (n:Int) (ci i zh)))),[])) (zw (Ex.normal,ze,zf q2 (zf q0 (zf (zn ze .i64 (0:Int)) (ci (n:Int) (ci (zD .i64 (i+(1:Int))) zh)))),[])))
theorem Zm7(n:Nat)(r:Nat->DT3)(d:Za)(gn:Nat)(gr:Nat->DT3)(sa:Int)(p:Zj)(gu:Zf)(ga:Zc):Yi P (Zl P [ZaD] [] ze) 220 2 0 0 19 [0,1,4,7,8] [] [] (Zb7 n r d gn gr sa p gu ga) (Zb8 n r d gn gr sa p gu ga) (λi=>(bif decide (i<(n:Int))then za else ze)) (.exit 0) (LixFo_R n r d gn gr sa p gu ga):=λB i z=>by kernel_rfl
def UK(n:Nat)(r:Nat->DT3)(d:Za)(gn:Nat)(gr:Nat->DT3)(sa:Int)(p:Zj)(gu:Zf)(ga:Zc)(k:Nat):Bool:=(λ(i:Int)(z:Unit)=>(bif bif bif decide ((QC (r (zk i)).f0 d.n6 λj=>Xx (Zy za (d.13 j)))<(0:Int))then ze else za then ze else za then ze else za)) k ()
abbrev LixFo_ets(n:Nat)(r:Nat->DT3)(d:Za)(gn:Nat)(gr:Nat->DT3)(sa:Int)(p:Zj)(gu:Zf)(ga:Zc)(i:Int)(z:Unit):V:=(.cons (zl za 1 n λjj=>zf (zn za .i64 (r jj).f0) zh) (.cons (zcF1 181 d gn gr sa p gu ga) (.cons (zn za .i64 i) (.cons (zn za .i64 (n:Int)) (.cons .junk .nil)))))
def Zeg(n:Nat)(r:Nat->DT3)(d:Za)(gn:Nat)(gr:Nat->DT3)(sa:Int)(p:Zj)(gu:Zf)(ga:Zc):Lp:=lpL 220 2 0 0 19 [0,1,4,7,8] [] [] (Zb7 n r d gn gr sa p gu ga) (Zb8 n r d gn gr sa p gu ga) (.exit 0) .ret () (λ_=>()) (UK n r d gn gr sa p gu ga) (n) (LixFo_ets n r d gn gr sa p gu ga) (Zb8 n r d gn gr sa p gu ga)
def ZjD(n:Nat)(r:Nat->DT3)(d:Za)(gn:Nat)(gr:Nat->DT3)(sa:Int)(p:Zj)(gu:Zf)(ga:Zc):Prop:=YC 0 [] (Zb7 n r d gn gr sa p gu ga) (Zb8 n r d gn gr sa p gu ga) () (Zb7 n r d gn gr sa p gu ga (0:Nat) ()) (Zb8 n r d gn gr sa p gu ga (0:Nat) ())
theorem LixFo_fit(n:Nat)(r:Nat->DT3)(d:Za)(gn:Nat)(gr:Nat->DT3)(sa:Int)(p:Zj)(gu:Zf)(ga:Zc):ZjD n r d gn gr sa p gu ga:=⟨rfl,trivial⟩
theorem Zm6(n:Nat)(r:Nat->DT3)(d:Za)(gn:Nat)(gr:Nat->DT3)(sa:Int)(p:Zj)(gu:Zf)(ga:Zc)(hl:n<=1000)(h0:d.n6<=1000):(Zeg n r d gn gr sa p gu ga).Ok P:=by
 refine YR (Zw hm hn (l:=[ZaD]) ⟨Zj7,trivial⟩ (ls:=[]) trivial ze) rfl (by kernel_rfl) (Zm7 n r d gn gr sa p gu ga) exN Yv (λ_=>rfl) (step:=λ_ z=>z) (rd:=(λ_ t y=>())) (λi z=>rfl) (λi=>(cC rfl rfl)) rfl (λi hlt hg=>?_) (λi z hi=>?_)
 ·have hltI:(i:Int)<((n:Nat):Int):=by omega
  refine⟨?_,⟨λhb0=>trivial,λhb0=>trivial⟩⟩
  all_goals(repeat'(first|exact rfl|exact λ_=>⟨rfl,rfl⟩|apply zy|intro _))
  all_goals(try simp only[decide_eq_true_eq,decide_eq_false_iff_not,yg,yw]at*)
  all_goals(try simp(disch:=omega) only[IntWalk.i64_in])
  all_goals(first|omega|exact(ixO_ok ‹_›).1|exact(ixO_ok ‹_›).2)
 ·have hw:=(IntWalk.i64_in ((i:Int)+1) ⟨by omega,by omega⟩)
  refine⟨?_,?_⟩
  all_goals(first|exact⟨rfl,Yq (ts:=Zb7 n r d gn gr sa p gu ga) (a:=()) hw rfl,Z5 _⟩|exact⟨rfl,rfl,(by repeat'(first|exact Le.refl _|exact Le.junk _ rfl|apply Le.cons)),Z5 _⟩)
def ixFo_T(d:Za)(gn:Nat)(gr:Nat->DT3)(sa:Int)(p:Zj)(gu:Zf)(ga:Zc)(an:Nat)(a:Nat->DT3):Tree V:=
 zu (ZjD an a d gn gr sa p gu ga) (zB (bif Zp (UK an a d gn gr sa p gu ga) an then ze else za) (zw (vi ((ZN (UK an a d gn gr sa p gu ga) an (0:Nat):Nat):Int))) (zw (zn ze .i64 (-1:Int))))
theorem ixFo_tree(d:Za)(gn:Nat)(gr:Nat->DT3)(sa:Int)(p:Zj)(gu:Zf)(ga:Zc)(an:Nat)(a:Nat->DT3):ZT (Zl P [ZaD] [Zeg an a d gn gr sa p gu ga] ze) 400 220 (.cons (.rsl za 1 an λj=>ZK za (a j)) (.cons (zcF1 181 d gn gr sa p gu ga) .nil))=ixFo_T d gn gr sa p gu ga an a:=by kernel_rfl
def Zbj(d:Za)(an:Nat)(a:Nat->DT3):Int:=(ixFo_T d 0 (λ_=>Zx .nil) 0 (Ym .nil) (ZQ .nil) (ZG .nil) an a).valOf.toInt
theorem Zqe(d:Za)(gn:Nat)(gr:Nat->DT3)(sa:Int)(p:Zj)(gu:Zf)(ga:Zc)(an:Nat)(a:Nat->DT3)(h0:an<=1000)(h1:d.n6<=1000):Zh P 220 (.cons (.rsl za 1 an λj=>ZK za (a j)) (.cons (zcF1 181 d gn gr sa p gu ga) .nil)) (.int za .i64 (Zbj d an a)):=by
 refine(show Yh (.int za .i64 0) (ixFo_T d gn gr sa p gu ga an a).valOf=(.int za .i64 (Zbj d an a))from by kernel_rfl)▸ ?_
 refine X4 (E:=(Zl P [ZaD] [Zeg an a d gn gr sa p gu ga] ze)) (Zw hm hn (l:=[ZaD]) ⟨Zj7,trivial⟩ (ls:=[Zeg an a d gn gr sa p gu ga]) ⟨Zm6 an a d gn gr sa p gu ga h0 h1,trivial⟩ ze) (.int za .i64 0) (Has.of hn Tryz.func220 rfl) (ixFo_tree d gn gr sa p gu ga an a) ?_ ?_
 ·refine⟨?_,⟨λhb0=>trivial,λhb0=>trivial⟩⟩
  all_goals(first|exact LixFo_fit an a d gn gr sa p gu ga|((repeat'(first|exact rfl|exact WG _|exact λ_=>⟨rfl,rfl⟩|apply zy|intro _));all_goals(try simp only[decide_eq_true_eq,decide_eq_false_iff_not]at*);all_goals(first|omega|(simp at*;omega))))
 ·refine⟨⟨rfl,?_⟩,⟨rfl,?_⟩⟩
  all_goals((repeat'(first|exact rfl|exact trivial|apply zy|intro _|(refine cP (p:=λv=>z8 v=Yh _ v) (λhc=>?_) (λhc=>?_))));all_goals(exfalso;simp only[YS,XO,XW,X7,XV,X6,zL,yE]at*;omega))
def c_ixFoA(r0:Za->Nat->(Nat->DT3)->Int):Con:=conS 220 (λx=>(.cons (.rsl za 1 x.hd.Zi λj=>ZK za ((λj=>Zx (x.hd.Zn j)) j)) (.cons (zcR1 181 ((x.tl.hd.Ye.hd.Zz 0).hd.Zz 0)) .nil))) (λx=>(.int za .i64 (r0 (Yb ((x.tl.hd.Ye.hd.Zz 0).hd.Zz 0)) x.hd.Zi (λj=>Zx (x.hd.Zn j))))) (λx=>(λ(d:Za)(an:Nat)(a:Nat->DT3)=>an<=1000/\d.n6<=1000) (Yb ((x.tl.hd.Ye.hd.Zz 0).hd.Zz 0)) x.hd.Zi (λj=>Zx (x.hd.Zn j)))
abbrev Zfg:Con:=c_ixFoA Zbj
theorem c_ixFo_ok:Zfg.Ok P:=Vm (λx h=>Zqe _ _ _ _ _ _ _ _ _ h.1 h.2)
def cfFo_T(d:Za)(gn:Nat)(gr:Nat->DT3)(sa:Int)(p:Zj)(gu:Zf)(ga:Zc)(an:Nat)(a:Nat->DT3):Tree V:=
 let q0:=(zf (zn za .u64 d.f13) (zf (zl za 1 gn λj=>ci (gr j).f0 zh) (ci sa zh)))
 zu (sR (zf (zl za 1 an λjj=>ci (a jj).f0 zh) (zf (V.fn (Fn.func (181:FuncId)) zh (zf (V.rptr za (1:Nat) (1:Nat) (λjj=>zf (V.rptr za (16:Nat) (1:Nat) (λjj=>ci d.f0 (zf (zl za 2 d.n1 λj=>Z9 za (d.3 j)) (zf (zl za 1 p.n0 λj=>zf (zn za .u32 (p.2 j).f0) zh) (zf (zl za 4 gu.n0 λj=>Zv za (gu.2 j)) (zf (zl za 4 gu.n1 λj=>Zt za (gu.4 j)) (zf (zl za 2 ga.n0 λj=>ci (ga.2 j).f0 (zf (zl za 1 (ga.2 j).n1 λj_1=>ci ((ga.2 j).r1 j_1).f0 zh) zh)) (zf (zl za 11 d.n6 λj=>Zy za (d.13 j)) (zf (zl za 2 d.n7 λj=>Z0 za (d.15 j)) (zf (zl za 5 d.n8 λj=>ZP za (d.17 j)) (ci d.f9 (zf (zl za 2 d.n10 λj=>ZC za (d.20 j)) (zf (zl za 3 d.n11 λj=>ZF za (d.22 j)) (zf (zl za 2 d.n12 λj=>ZB za (d.24 j)) q0))))))))))))) (0:Nat) (0:Nat)) zh) (0:Nat) (0:Nat)) zh)) zh)) (zf (zl za 1 an λj=>ci (a j).f0 zh) (zf (V.fn (Fn.func (181:FuncId)) zh (zf (V.rptr za (1:Nat) (1:Nat) (λjj=>zf (V.rptr za (16:Nat) (1:Nat) (λjj=>ci d.f0 (zf (zl za 2 d.n1 λj=>Z9 za (d.3 j)) (zf (zl za 1 p.n0 λj=>zf (zn za .u32 (p.2 j).f0) zh) (zf (zl za 4 gu.n0 λj=>Zv za (gu.2 j)) (zf (zl za 4 gu.n1 λj=>Zt za (gu.4 j)) (zf (zl za 2 ga.n0 λj=>ci (ga.2 j).f0 (zf (zl za 1 (ga.2 j).n1 λj_1=>ci ((ga.2 j).r1 j_1).f0 zh) zh)) (zf (zl za 11 d.n6 λj=>Zy za (d.13 j)) (zf (zl za 2 d.n7 λj=>Z0 za (d.15 j)) (zf (zl za 5 d.n8 λj=>ZP za (d.17 j)) (ci d.f9 (zf (zl za 2 d.n10 λj=>ZC za (d.20 j)) (zf (zl za 3 d.n11 λj=>ZF za (d.22 j)) (zf (zl za 2 d.n12 λj=>ZB za (d.24 j)) q0))))))))))))) (0:Nat) (0:Nat)) zh) (0:Nat) (0:Nat)) zh)) zh))/\an<=(1000:Nat)/\d.12<=(1000:Nat)) (zw (zC za (decide ((Zbj (Yb (chV d gn gr sa p gu ga)) an λj=>(a j))>=(0:Int)))))
theorem cfFo_tree(d:Za)(gn:Nat)(gr:Nat->DT3)(sa:Int)(p:Zj)(gu:Zf)(ga:Zc)(an:Nat)(a:Nat->DT3):ZT (Zl P [Zfg] [] ze) 400 180 (.cons (.rsl za 1 an λj=>ZK za (a j)) (.cons (zcF1 181 d gn gr sa p gu ga) .nil))=cfFo_T d gn gr sa p gu ga an a:=by kernel_rfl
def Xu(d:Za)(an:Nat)(a:Nat->DT3):Bool:=(cfFo_T d 0 (λ_=>Zx .nil) 0 (Ym .nil) (ZQ .nil) (ZG .nil) an a).valOf.toBool
theorem Zof(d:Za)(gn:Nat)(gr:Nat->DT3)(sa:Int)(p:Zj)(gu:Zf)(ga:Zc)(an:Nat)(a:Nat->DT3)(h0:an<=1000)(h1:d.n6<=1000):Zh P 180 (.cons (.rsl za 1 an λj=>ZK za (a j)) (.cons (zcF1 181 d gn gr sa p gu ga) .nil)) (.bool za (Xu d an a)):=by
 refine(show Yh (.bool za za) (cfFo_T d gn gr sa p gu ga an a).valOf=(.bool za (Xu d an a))from by kernel_rfl)▸ ?_
 refine X4 (E:=(Zl P [Zfg] [] ze)) (Zw hm hn (l:=[Zfg]) ⟨c_ixFo_ok,trivial⟩ (ls:=[]) trivial ze) (.bool za za) (Has.of hn Tryz.func180 rfl) (cfFo_tree d gn gr sa p gu ga an a) ?_ ?_
 ·refine⟨?_,trivial⟩
  all_goals((repeat'(first|exact rfl|exact WG _|exact λ_=>⟨rfl,rfl⟩|apply zy|intro _));all_goals(try simp only[decide_eq_true_eq,decide_eq_false_iff_not]at*);all_goals(first|omega|(simp at*;omega)))
 ·refine⟨rfl,?_⟩
  all_goals((repeat'(first|exact rfl|exact trivial|apply zy|intro _|(refine cP (p:=λv=>z8 v=Yh _ v) (λhc=>?_) (λhc=>?_))));all_goals(exfalso;simp only[YS,XO,XW,X7,XV,X6,zL,yE]at*;omega))
def Zhw(r0:Za->Nat->(Nat->DT3)->Bool):Con:=conS 180 (λx=>(.cons (.rsl za 1 x.hd.Zi λj=>ZK za ((λj=>Zx (x.hd.Zn j)) j)) (.cons (zcR1 181 ((x.tl.hd.Ye.hd.Zz 0).hd.Zz 0)) .nil))) (λx=>(.bool za (r0 (Yb ((x.tl.hd.Ye.hd.Zz 0).hd.Zz 0)) x.hd.Zi (λj=>Zx (x.hd.Zn j))))) (λx=>(λ(d:Za)(an:Nat)(a:Nat->DT3)=>an<=1000/\d.n6<=1000) (Yb ((x.tl.hd.Ye.hd.Zz 0).hd.Zz 0)) x.hd.Zi (λj=>Zx (x.hd.Zn j)))
abbrev c_cfFo:Con:=Zhw Xu
theorem c_cfFo_ok:c_cfFo.Ok P:=Vm (λx h=>Zof _ _ _ _ _ _ _ _ _ h.1 h.2)
def ZhZ(d:Za)(gn:Nat)(gr:Nat->DT3)(sa:Int)(p:Zj)(gu:Zf)(ga:Zc)(b:Int):Tree V:=
 let q5:=(zl za 4 gu.n0 λj=>Zv za (gu.2 j))
 let q0:=(zf q5 (zf (zl za 4 gu.n1 λj=>Zt za (gu.4 j)) zh))
 let q1:=(ci (Ga (ZQ q0) b) (zf (zn za .u32 (Wu (ZQ q0) b)) (zf (zn za .u32 (ZcA (ZQ q0) b)) zh)))
 let q4:=(vi (ZaT (ZQ q0) b))
 let q2:=(VA (YK (zf q4 q1)) gu.n0 λj=>(gu.2 j))
 let q3:=(zf (zJ q0) (ci b zh)=zf (zJ q0) (ci b zh)/\gu.n0<=(1000:Nat)/\gu.n1<=(1000:Nat))
 zu q3 (zu q3 (zu (zf q5 (zf (V.fn (Fn.func (221:Nat)) zh (zf (V.rptr za (4:Nat) (1:Nat) (λj=>zf q4 q1) (0:Nat) (0:Nat)) zh)) zh)=zf q5 (zf (V.fn (Fn.func (221:FuncId)) zh (zf (V.rptr za (4:Nat) (1:Nat) (λjj=>zf q4 q1) (0:Nat) (0:Nat)) zh)) zh)/\gu.n0<=(1000:Nat)) (zu (((0:Int)<=VA (YK (zf q4 q1)) gu.n0 λj=>(gu.2 j))/\q2<((gu.n0:Nat):Int)) (zu ((0:Int)<=(gu.2 (zk q2)).f3/\(gu.2 (zk q2)).f3<((p.n0:Nat):Int)) (zw (zn za .u32 (zD .u32 ((BitVec.toNat (BitVec.ofInt (zY .u32) (Wu (ZQ q0) b)&&& BitVec.ofInt (zY .u32) (p.2 (zk (gu.2 (zk q2)).f3)).f0):Nat):Int))))))))
theorem Zoj(d:Za)(gn:Nat)(gr:Nat->DT3)(sa:Int)(p:Zj)(gu:Zf)(ga:Zc)(b:Int):ZT (Zl P [X8,U2] [] ze) 400 143 (.cons (zcPt d gn gr sa p gu ga) (.cons (.int za .i64 b) .nil))=ZhZ d gn gr sa p gu ga b:=by kernel_rfl
def YF(p:Zj)(gu:Zf)(b:Int):Int:=(ZhZ (Yb .nil) 0 (λ_=>Zx .nil) 0 p gu (ZG .nil) b).valOf.toInt
theorem Zoi(d:Za)(gn:Nat)(gr:Nat->DT3)(sa:Int)(p:Zj)(gu:Zf)(ga:Zc)(b:Int)(h0:gu.n0<=1000)(h1:gu.n1<=1000)(h2:0<=Zm gu b/\Zm gu b<gu.n0)(h3:0<=(gu.r0 (Zm gu b).toNat).f3/\(gu.r0 (Zm gu b).toNat).f3<p.n0):Zh P 143 (.cons (zcPt d gn gr sa p gu ga) (.cons (.int za .i64 b) .nil)) (.int za .u32 (YF p gu b)):=by
 refine(show Yh (.int za .u32 0) (ZhZ d gn gr sa p gu ga b).valOf=(.int za .u32 (YF p gu b))from by kernel_rfl)▸ ?_
 refine X4 (E:=(Zl P [X8,U2] [] ze)) (Zw hm hn (l:=[X8,U2]) ⟨Ve,Zj5,trivial⟩ (ls:=[]) trivial ze) (.int za .u32 0) (Has.of hn Tryz.func143 rfl) (Zoj d gn gr sa p gu ga b) ?_ ?_
 ·refine⟨?_,⟨?_,⟨?_,⟨?_,⟨?_,trivial⟩⟩⟩⟩⟩
  all_goals((repeat'(first|exact rfl|exact WG _|exact λ_=>⟨rfl,rfl⟩|apply zy|intro _));all_goals(try simp only[decide_eq_true_eq,decide_eq_false_iff_not]at*);all_goals(first|exact h2.1|exact h2.2|exact h3.1|exact h3.2|omega|(simp at*;omega)))
 ·refine⟨rfl,?_⟩
  all_goals((repeat'(first|exact rfl|exact trivial|apply zy|intro _|(refine cP (p:=λv=>z8 v=Yh _ v) (λhc=>?_) (λhc=>?_))));all_goals(exfalso;simp only[YS,XO,XW,X7,XV,X6,zL,yE]at*;omega))
def c_chMayA(r0:Zj->Zf->Int->Int):Con:=conS 143 (λx=>(.cons (zcPr (x.hd.Zz 0)) (.cons (.int za .i64 x.tl.hd.toInt) .nil))) (λx=>(.int za .u32 (r0 (Ym (.cons (x.hd.Zz 0).tl.tl.hd .nil)) (ZQ (.cons (x.hd.Zz 0).tl.tl.tl.hd (.cons (x.hd.Zz 0).tl.tl.tl.tl.hd .nil))) x.tl.hd.toInt))) (λx=>(λ(p:Zj)(gu:Zf)(b:Int)=>gu.n0<=1000/\gu.n1<=1000/\(0<=Zm gu b/\Zm gu b<gu.n0)/\0<=(gu.r0 (Zm gu b).toNat).f3/\(gu.r0 (Zm gu b).toNat).f3<p.n0) (Ym (.cons (x.hd.Zz 0).tl.tl.hd .nil)) (ZQ (.cons (x.hd.Zz 0).tl.tl.tl.hd (.cons (x.hd.Zz 0).tl.tl.tl.tl.hd .nil))) x.tl.hd.toInt)
abbrev KI:Con:=c_chMayA YF
theorem ZeZ:KI.Ok P:=Vm (λx h=>Zoi _ _ _ _ _ _ _ _ h.1 h.2.1 h.2.2.1 h.2.2.2)
structure Ze where mk::
 (a:Za) (oh:Int->Bool) (og:Int->Int) (nh:Int->Bool) (ng:Int->Int) (hh:Int->Bool) (hg:Int->Int)
abbrev mapI(h:Int->Bool)(g:Int->Int):Blk:=.Zk (.int .i64) za (λx=>(h (Zd x),.int za .i64 (g (Zd x)))) zm
abbrev Yu(a:Za):V:=V.app (Z7 za a) (.cons (.mp 1) (.cons (.mp 2) (.cons (.mp 3) .nil)))
abbrev Yt(d:Ze):List Blk:=[.var (Yu d.a),mapI d.oh d.og,mapI d.nh d.ng,mapI d.hh d.hg]
abbrev Xr(c:V)(fo fn fh:Value->Bool×V):Ze:=⟨Yb c,λj=>(fo (.int .i64 j)).1,λj=>(fo (.int .i64 j)).2.toInt,λj=>(fn (.int .i64 j)).1,λj=>(fn (.int .i64 j)).2.toInt,λj=>(fh (.int .i64 j)).1,λj=>(fh (.int .i64 j)).2.toInt⟩
abbrev mapFit(f:Value->Bool×V):Prop:=YD .i64 (λx=>((f (.int .i64 (Zd x))).1,.int za .i64 (f (.int .i64 (Zd x))).2.toInt)) f
def UD(c:V)(fo fn fh:Value->Bool×V):Prop:=c.soft=Yu (Yb c)/\mapFit fo/\mapFit fn/\mapFit fh
theorem RLsoft{F:Nat->Prop}{w:World}{n:Nat}{m:Nat->Option Nat}{a b:V}{xs:List Value}(h:a.soft=b.soft)(hx:RL F w a n m xs):RL F w b n m xs:=by
 have h1:=((YM a n m).2 xs).2 hx
 rw[h]at h1
 exact((YM b n m).2 xs).1 h1
abbrev mO(d:Ze):Blk:=.Zk (.int .i64) za (λ(x:Value)=>(d.oh (Zd x),zn za .i64 (d.og (Zd x)))) zm
abbrev mN(d:Ze):Blk:=.Zk (.int .i64) za (λ(x:Value)=>(d.nh (Zd x),zn za .i64 (d.ng (Zd x)))) zm
abbrev mH(d:Ze):Blk:=.Zk (.int .i64) za (λ(x:Value)=>(d.hh (Zd x),zn za .i64 (d.hg (Zd x)))) zm
theorem Zak{c:V}{fo fn fh:Value->Bool×V}{q1 q3 q5:Bool}{q2 q4 q6:Ks}(h:UD c fo fn fh)(b:Nat) :
  LeK (Yt (Xr c fo fn fh)).length ([zN c,.Zk (.int .i64) q1 fo q2,.Zk (.int .i64) q3 fn q4,.Zk (.int .i64) q5 fh q6].getD b .none) ((Yt (Xr c fo fn fh)).getD b .none):=by
 match b with
 |0=>exact LeK.var (Le.soft (h.1.trans (show Yu (Yb c)=(Yu (Yb c)).soft by kernel_rfl)))
 |1=>exact Wd λa=>⟨rfl,Le.soft (h.2.1 a).2.symm⟩
 |2=>exact Wd λa=>⟨rfl,Le.soft (h.2.2.1 a).2.symm⟩
 |3=>exact Wd λa=>⟨rfl,Le.soft (h.2.2.2 a).2.symm⟩
 |_+4=>exact LeK.refl _
abbrev Zdi(a:Za)(i:Int)(z:(Int->Bool)×(Int->Int)):V:=(.cons (.ptr ze 0 0 0 0) (.cons .nilptr (.cons (.ptr ze 4 0 0 0) (.cons (.rsl za 11 (Za.n6 a) (λj=>Zy za (a.r6 j))) (.cons (.int za .i64 (((Za.n6 a):Nat):Int)) (.cons (.int za .i64 i) .nil))))))
abbrev Zf6(a:Za)(i:Int)(z:(Int->Bool)×(Int->Int)):List Blk:=[.var (.cons (.int za .i64 (Za.f0 a)) (.cons (.rsl za 2 (Za.n1 a) (λj=>Z9 za (a.r1 j))) (.cons (.rsl za 1 (Za.n2 a) (λj=>Z8 za (a.r2 j))) (.cons (.rsl za 4 (Za.n3 a) (λj=>Zv za (a.r3 j))) (.cons (.rsl za 4 (Za.n4 a) (λj=>Zt za (a.r4 j))) (.cons (.rsl za 2 (Za.n5 a) (λj=>Zu za (a.r5 j))) (.cons (.rsl za 11 (Za.n6 a) (λj=>Zy za (a.r6 j))) (.cons (.rsl za 2 (Za.n7 a) (λj=>Z0 za (a.r7 j))) (.cons (.rsl za 5 (Za.n8 a) (λj=>ZP za (a.r8 j))) (.cons (.int za .i64 (Za.f9 a)) (.cons (.rsl za 2 (Za.n10 a) (λj=>ZC za (a.r10 j))) (.cons (.rsl za 3 (Za.n11 a) (λj=>ZF za (a.r11 j))) (.cons (.rsl za 2 (Za.n12 a) (λj=>ZB za (a.r12 j))) (.cons (.int za .u64 (Za.f13 a)) .nil)))))))))))))),.Zk (.int .i64) za (λx=>(z.1 (Zd x),.int za .i64 (z.2 (Zd x)))) zm,.Zk (.int .i64) za (λ(x:Value)=>(za,zn ze zA (0:Int))) zm,.Zk (.int .i64) za (λ(x:Value)=>(za,zn ze zA (0:Int))) zm,.var (.cons (.int za .i64 (Za.f0 a)) (.cons (.rsl za 2 (Za.n1 a) (λj=>Z9 za (a.r1 j))) (.cons (.rsl za 1 (Za.n2 a) (λj=>Z8 za (a.r2 j))) (.cons (.rsl za 4 (Za.n3 a) (λj=>Zv za (a.r3 j))) (.cons (.rsl za 4 (Za.n4 a) (λj=>Zt za (a.r4 j))) (.cons (.rsl za 2 (Za.n5 a) (λj=>Zu za (a.r5 j))) (.cons (.rsl za 11 (Za.n6 a) (λj=>Zy za (a.r6 j))) (.cons (.rsl za 2 (Za.n7 a) (λj=>Z0 za (a.r7 j))) (.cons (.rsl za 5 (Za.n8 a) (λj=>ZP za (a.r8 j))) (.cons (.int za .i64 (Za.f9 a)) (.cons (.rsl za 2 (Za.n10 a) (λj=>ZC za (a.r10 j))) (.cons (.rsl za 3 (Za.n11 a) (λj=>ZF za (a.r11 j))) (.cons (.rsl za 2 (Za.n12 a) (λj=>ZB za (a.r12 j))) (.cons (.int za .u64 (Za.f13 a)) (.cons (.mp 1) (.cons (.mp 2) (.cons (.mp 3) .nil)))))))))))))))))]
def lk1_R(a:Za)(i:Int)(z:(Int->Bool)×(Int->Int)):Tree Rd:=
 let q0:=(zl za 11 a.n6 λjj=>Zy za (a.13 jj))
 let q1:=(zl za 1 a.n2 λjj=>zf (zn za .u32 (a.5 jj).f0) zh)
 let q2:=(zl za 2 a.n7 λjj=>Z0 za (a.15 jj))
 let q3:=(zl za 2 a.n10 λjj=>ZC za (a.20 jj))
 let q4:=(zl za 3 a.n11 λjj=>ZF za (a.22 jj))
 let q5:=(zl za 4 a.n3 λjj=>Zv za (a.7 jj))
 let q6:=(zl za 2 a.n5 λjj=>Zu za (a.11 jj))
 let q7:=(zl za 5 a.n8 λjj=>ZP za (a.17 jj))
 let q8:=(zl za 2 a.n12 λjj=>ZB za (a.24 jj))
 let q9:=(zl za 2 a.n1 λjj=>Z9 za (a.3 jj))
 let q10:=(zl za 4 a.n4 λjj=>Zt za (a.9 jj))
 zu ((0:Int)<=i/\i<((a.n6:Nat):Int)) (zw (Ex.normal,ze,zf (pt 0) (zf V.nilptr (zf (pt 4) (zf q0 (ci ((a.n6:Nat):Int) (ci (zD .i64 (i+(1:Int))) zh))))),[zN (ci a.f0 (zf q9 (zf q1 (zf q5 (zf q10 (zf q6 (zf q0 (zf q2 (zf q7 (ci a.f9 (zf q3 (zf q4 (zf q8 (zf (zn za .u64 a.f13) zh)))))))))))))),Blk.Zk (MK.int .i64) za (λk=>(bif ZO k (zW .i64 (a.13 (zk i)).f0)then ze else z.1 (Zd k),vi (bif ZO k (zW .i64 (a.13 (zk i)).f0)then i else z.2 (Zd k)))) zm,Blk.Zk (MK.int .i64) za (λk=>(za,zn ze .i64 (0:Int))) zm,Blk.Zk (MK.int .i64) za (λk=>(za,zn ze .i64 (0:Int))) zm,zN (ci a.f0 (zf q9 (zf q1 (zf q5 (zf q10 (zf q6 (zf q0 (zf q2 (zf q7 (ci a.f9 (zf q3 (zf q4 (zf q8 (zf (zn za .u64 a.f13) (zf (zZ 1) (zf (zZ 2) (zf (zZ 3) zh)))))))))))))))))]))
theorem lk1_round(a:Za):Yi P (Zl P [] [] ze) 34 3 5 5 86 [1,2,3,20,21,22] [(0,.own),(1,.own),(2,.own),(3,.own),(4,.own)] [] (Zdi a) (Zf6 a) (λi=>(bif decide (i<((a.n6:Nat):Int))then za else ze)) (.exit 0) (lk1_R a):=λB i z=>by kernel_rfl
def GQ(a:Za)(k:Nat)(z:(Int->Bool)×(Int->Int)):(Int->Bool)×(Int->Int):=(λ(i:Int)(z:(Int->Bool)×(Int->Int))=>(((λ(j_:Int)=>bif j_==(a.13 (zk i)).f0 then ze else z.1 (j_)),(λ(j_:Int)=>bif j_==(a.13 (zk i)).f0 then i else z.2 (j_))))) k z
def X3(a:Za)(k:Nat):(Int->Bool)×(Int->Int):=ZJ ((λ(j_:Int)=>(za)),(λ(j_:Int)=>(0:Int))) (GQ a) k
def lk1_lp(a:Za):Lp:=Js 34 3 5 5 86 [1,2,3,20,21,22] [(0,.own),(1,.own),(2,.own),(3,.own),(4,.own)] [] (Zdi a) (Zf6 a) (.exit 0) ((λ(j_:Int)=>(za)),(λ(j_:Int)=>(0:Int))) (X3 a) (Za.n6 a)
def Zlw(a:Za):Prop:=YC 5 [] (Zdi a) (Zf6 a) ((λ(j_:Int)=>(za)),(λ(j_:Int)=>(0:Int))) (Zdi a (0:Nat) ((λ(j_:Int)=>(za)),(λ(j_:Int)=>(0:Int)))) (Zf6 a (0:Nat) ((λ(j_:Int)=>(za)),(λ(j_:Int)=>(0:Int))))
theorem lk1_fit(a:Za):Zlw a:=⟨rfl,⟨rfl,⟨rfl,λ_=>⟨rfl,rfl⟩⟩,⟨rfl,λ_=>⟨rfl,rfl⟩⟩,⟨rfl,λ_=>⟨rfl,rfl⟩⟩,rfl,trivial⟩⟩
theorem lk1_lp_ok(a:Za)(hl:(Za.n6 a)<=1000):(lk1_lp a).Ok P:=by
 refine JZ (Zw hm hn (l:=[]) trivial (ls:=[]) trivial ze) rfl (by kernel_rfl) (lk1_round a) exN Yv (λ_=>rfl) (rd:=(λ_ t y=>((λj=>(y.getD 1 .none).hasK .i64 j),(λj=>(y.getD 1 .none).getI .i64 j)))) (λi z=>rfl) (λi=>rfl) rfl (λi hlt hg=>?_) (λi z hi=>?_)
 ·have hltI:(i:Int)<(((Za.n6 a):Nat):Int):=by omega
  refine⟨?_,trivial⟩
  all_goals(repeat'(first|exact rfl|exact λ_=>⟨rfl,rfl⟩|apply zy|intro _))
  all_goals(try simp only[decide_eq_true_eq,decide_eq_false_iff_not,yg,yw]at*)
  all_goals(try simp(disch:=omega) only[IntWalk.i64_in])
  all_goals(first|omega)
 ·have hw:=(IntWalk.i64_in ((i:Int)+1) ⟨by omega,by omega⟩)
  all_goals exact⟨rfl,Yq (ts:=Zdi a) hw rfl,⟨LeK.refl _,Wd λa=>⟨rfl,Le.soft rfl⟩,LeK.refl _,LeK.refl _,LeK.refl _,trivial⟩⟩
abbrev Zdj(a:Za)(i:Int)(z:(Int->Bool)×(Int->Int)):V:=(.cons (.ptr ze 0 0 0 0) (.cons .nilptr (.cons (.ptr ze 4 0 0 0) (.cons (.rsl za 2 (Za.n12 a) (λj=>ZB za (a.r12 j))) (.cons (.int za .i64 (((Za.n12 a):Nat):Int)) (.cons (.int za .i64 i) .nil))))))
abbrev Zf7(a:Za)(i:Int)(z:(Int->Bool)×(Int->Int)):List Blk:=[.var (.cons (.int za .i64 (Za.f0 a)) (.cons (.rsl za 2 (Za.n1 a) (λj=>Z9 za (a.r1 j))) (.cons (.rsl za 1 (Za.n2 a) (λj=>Z8 za (a.r2 j))) (.cons (.rsl za 4 (Za.n3 a) (λj=>Zv za (a.r3 j))) (.cons (.rsl za 4 (Za.n4 a) (λj=>Zt za (a.r4 j))) (.cons (.rsl za 2 (Za.n5 a) (λj=>Zu za (a.r5 j))) (.cons (.rsl za 11 (Za.n6 a) (λj=>Zy za (a.r6 j))) (.cons (.rsl za 2 (Za.n7 a) (λj=>Z0 za (a.r7 j))) (.cons (.rsl za 5 (Za.n8 a) (λj=>ZP za (a.r8 j))) (.cons (.int za .i64 (Za.f9 a)) (.cons (.rsl za 2 (Za.n10 a) (λj=>ZC za (a.r10 j))) (.cons (.rsl za 3 (Za.n11 a) (λj=>ZF za (a.r11 j))) (.cons (.rsl za 2 (Za.n12 a) (λj=>ZB za (a.r12 j))) (.cons (.int za .u64 (Za.f13 a)) .nil)))))))))))))),.Zk (.int .i64) za (λ(x:Value)=>((X3 a (Za.n6 a)).1 (Zd x),zn za zA ((X3 a (Za.n6 a)).2 (Zd x)))) zm,.Zk (.int .i64) za (λx=>(z.1 (Zd x),.int za .i64 (z.2 (Zd x)))) zm,.Zk (.int .i64) za (λ(x:Value)=>(za,zn ze zA (0:Int))) zm,.var (.cons (.int za .i64 (Za.f0 a)) (.cons (.rsl za 2 (Za.n1 a) (λj=>Z9 za (a.r1 j))) (.cons (.rsl za 1 (Za.n2 a) (λj=>Z8 za (a.r2 j))) (.cons (.rsl za 4 (Za.n3 a) (λj=>Zv za (a.r3 j))) (.cons (.rsl za 4 (Za.n4 a) (λj=>Zt za (a.r4 j))) (.cons (.rsl za 2 (Za.n5 a) (λj=>Zu za (a.r5 j))) (.cons (.rsl za 11 (Za.n6 a) (λj=>Zy za (a.r6 j))) (.cons (.rsl za 2 (Za.n7 a) (λj=>Z0 za (a.r7 j))) (.cons (.rsl za 5 (Za.n8 a) (λj=>ZP za (a.r8 j))) (.cons (.int za .i64 (Za.f9 a)) (.cons (.rsl za 2 (Za.n10 a) (λj=>ZC za (a.r10 j))) (.cons (.rsl za 3 (Za.n11 a) (λj=>ZF za (a.r11 j))) (.cons (.rsl za 2 (Za.n12 a) (λj=>ZB za (a.r12 j))) (.cons (.int za .u64 (Za.f13 a)) (.cons (.mp 1) (.cons (.mp 2) (.cons (.mp 3) .nil)))))))))))))))))]
def lk2_R(a:Za)(i:Int)(z:(Int->Bool)×(Int->Int)):Tree Rd:=
 let q0:=(zl za 2 a.n12 λjj=>ZB za (a.24 jj))
 let q1:=(zl za 1 a.n2 λjj=>zf (zn za .u32 (a.5 jj).f0) zh)
 let q2:=(zl za 2 a.n7 λjj=>Z0 za (a.15 jj))
 let q3:=(zl za 2 a.n10 λjj=>ZC za (a.20 jj))
 let q4:=(zl za 3 a.n11 λjj=>ZF za (a.22 jj))
 let q5:=(zl za 4 a.n3 λjj=>Zv za (a.7 jj))
 let q6:=(zl za 2 a.n5 λjj=>Zu za (a.11 jj))
 let q7:=(zl za 11 a.n6 λjj=>Zy za (a.13 jj))
 let q8:=(zl za 5 a.n8 λjj=>ZP za (a.17 jj))
 let q9:=(zl za 2 a.n1 λjj=>Z9 za (a.3 jj))
 let q10:=(zl za 4 a.n4 λjj=>Zt za (a.9 jj))
 zu ((0:Int)<=i/\i<((a.n12:Nat):Int)) (zw (Ex.normal,ze,zf (pt 0) (zf V.nilptr (zf (pt 4) (zf q0 (ci ((a.n12:Nat):Int) (ci (zD .i64 (i+(1:Int))) zh))))),[zN (ci a.f0 (zf q9 (zf q1 (zf q5 (zf q10 (zf q6 (zf q7 (zf q2 (zf q8 (ci a.f9 (zf q3 (zf q4 (zf q0 (zf (zn za .u64 a.f13) zh)))))))))))))),Blk.Zk (MK.int .i64) za (λk=>((X3 a a.n6).1 (Zd k),vi ((X3 a a.n6).2 (Zd k)))) zm,Blk.Zk (MK.int .i64) za (λk=>(bif ZO k (zW .i64 (a.24 (zk i)).f0)then ze else z.1 (Zd k),vi (bif ZO k (zW .i64 (a.24 (zk i)).f0)then(a.24 (zk i)).f1 else z.2 (Zd k)))) zm,Blk.Zk (MK.int .i64) za (λk=>(za,zn ze .i64 (0:Int))) zm,zN (ci a.f0 (zf q9 (zf q1 (zf q5 (zf q10 (zf q6 (zf q7 (zf q2 (zf q8 (ci a.f9 (zf q3 (zf q4 (zf q0 (zf (zn za .u64 a.f13) (zf (zZ 1) (zf (zZ 2) (zf (zZ 3) zh)))))))))))))))))]))
theorem lk2_round(a:Za):Yi P (Zl P [] [] ze) 34 8 5 5 86 [1,2,3,36,37,38] [(0,.own),(1,.own),(2,.own),(3,.own),(4,.own)] [] (Zdj a) (Zf7 a) (λi=>(bif decide (i<((a.n12:Nat):Int))then za else ze)) (.exit 2) (lk2_R a):=λB i z=>by kernel_rfl
def Zly(a:Za)(k:Nat)(z:(Int->Bool)×(Int->Int)):(Int->Bool)×(Int->Int):=(λ(i:Int)(z:(Int->Bool)×(Int->Int))=>(((λ(j_:Int)=>bif j_==(a.24 (zk i)).f0 then ze else z.1 (j_)),(λ(j_:Int)=>bif j_==(a.24 (zk i)).f0 then(a.24 (zk i)).f1 else z.2 (j_))))) k z
def Ko(a:Za)(k:Nat):(Int->Bool)×(Int->Int):=ZJ ((λ(j_:Int)=>(za)),(λ(j_:Int)=>(0:Int))) (Zly a) k
def lk2_lp(a:Za):Lp:=Js 34 8 5 5 86 [1,2,3,36,37,38] [(0,.own),(1,.own),(2,.own),(3,.own),(4,.own)] [] (Zdj a) (Zf7 a) (.exit 2) ((λ(j_:Int)=>(za)),(λ(j_:Int)=>(0:Int))) (Ko a) (Za.n12 a)
def Zlx(a:Za):Prop:=YC 5 [] (Zdj a) (Zf7 a) ((λ(j_:Int)=>(za)),(λ(j_:Int)=>(0:Int))) (Zdj a (0:Nat) ((λ(j_:Int)=>(za)),(λ(j_:Int)=>(0:Int)))) (Zf7 a (0:Nat) ((λ(j_:Int)=>(za)),(λ(j_:Int)=>(0:Int))))
theorem lk2_fit(a:Za):Zlx a:=⟨rfl,⟨rfl,⟨rfl,λ_=>⟨rfl,rfl⟩⟩,⟨rfl,λ_=>⟨rfl,rfl⟩⟩,⟨rfl,λ_=>⟨rfl,rfl⟩⟩,rfl,trivial⟩⟩
theorem lk2_lp_ok(a:Za)(hl:(Za.n12 a)<=1000):(lk2_lp a).Ok P:=by
 refine JZ (Zw hm hn (l:=[]) trivial (ls:=[]) trivial ze) rfl (by kernel_rfl) (lk2_round a) exN Yv (λ_=>rfl) (rd:=(λ_ t y=>((λj=>(y.getD 2 .none).hasK .i64 j),(λj=>(y.getD 2 .none).getI .i64 j)))) (λi z=>rfl) (λi=>rfl) rfl (λi hlt hg=>?_) (λi z hi=>?_)
 ·have hltI:(i:Int)<(((Za.n12 a):Nat):Int):=by omega
  refine⟨?_,trivial⟩
  all_goals(repeat'(first|exact rfl|exact λ_=>⟨rfl,rfl⟩|apply zy|intro _))
  all_goals(try simp only[decide_eq_true_eq,decide_eq_false_iff_not,yg,yw]at*)
  all_goals(try simp(disch:=omega) only[IntWalk.i64_in])
  all_goals(first|omega)
 ·have hw:=(IntWalk.i64_in ((i:Int)+1) ⟨by omega,by omega⟩)
  all_goals exact⟨rfl,Yq (ts:=Zdj a) hw rfl,⟨LeK.refl _,LeK.refl _,Wd λa=>⟨rfl,Le.soft rfl⟩,LeK.refl _,LeK.refl _,trivial⟩⟩
abbrev Zdl(a:Za)(i:Int)(z:(Int->Bool)×(Int->Int)):V:=(.cons (.ptr ze 0 0 0 0) (.cons .nilptr (.cons (.ptr ze 4 0 0 0) (.cons (.mp 5) (.cons (.rsl za 4 (Za.n3 a) (λj=>Zv za (a.r3 j))) (.cons (.int za .i64 (((Za.n3 a):Nat):Int)) (.cons (.int za .i64 i) .nil)))))))
abbrev Zf8(a:Za)(i:Int)(z:(Int->Bool)×(Int->Int)):List Blk:=[.var (.cons (.int za .i64 (Za.f0 a)) (.cons (.rsl za 2 (Za.n1 a) (λj=>Z9 za (a.r1 j))) (.cons (.rsl za 1 (Za.n2 a) (λj=>Z8 za (a.r2 j))) (.cons (.rsl za 4 (Za.n3 a) (λj=>Zv za (a.r3 j))) (.cons (.rsl za 4 (Za.n4 a) (λj=>Zt za (a.r4 j))) (.cons (.rsl za 2 (Za.n5 a) (λj=>Zu za (a.r5 j))) (.cons (.rsl za 11 (Za.n6 a) (λj=>Zy za (a.r6 j))) (.cons (.rsl za 2 (Za.n7 a) (λj=>Z0 za (a.r7 j))) (.cons (.rsl za 5 (Za.n8 a) (λj=>ZP za (a.r8 j))) (.cons (.int za .i64 (Za.f9 a)) (.cons (.rsl za 2 (Za.n10 a) (λj=>ZC za (a.r10 j))) (.cons (.rsl za 3 (Za.n11 a) (λj=>ZF za (a.r11 j))) (.cons (.rsl za 2 (Za.n12 a) (λj=>ZB za (a.r12 j))) (.cons (.int za .u64 (Za.f13 a)) .nil)))))))))))))),.Zk (.int .i64) za (λ(x:Value)=>((X3 a (Za.n6 a)).1 (Zd x),zn za zA ((X3 a (Za.n6 a)).2 (Zd x)))) zm,.Zk (.int .i64) za (λ(x:Value)=>((Ko a (Za.n12 a)).1 (Zd x),zn za zA ((Ko a (Za.n12 a)).2 (Zd x)))) zm,.Zk (.int .i64) za (λ(x:Value)=>(za,zn ze zA (0:Int))) zm,.var (.cons (.int za .i64 (Za.f0 a)) (.cons (.rsl za 2 (Za.n1 a) (λj=>Z9 za (a.r1 j))) (.cons (.rsl za 1 (Za.n2 a) (λj=>Z8 za (a.r2 j))) (.cons (.rsl za 4 (Za.n3 a) (λj=>Zv za (a.r3 j))) (.cons (.rsl za 4 (Za.n4 a) (λj=>Zt za (a.r4 j))) (.cons (.rsl za 2 (Za.n5 a) (λj=>Zu za (a.r5 j))) (.cons (.rsl za 11 (Za.n6 a) (λj=>Zy za (a.r6 j))) (.cons (.rsl za 2 (Za.n7 a) (λj=>Z0 za (a.r7 j))) (.cons (.rsl za 5 (Za.n8 a) (λj=>ZP za (a.r8 j))) (.cons (.int za .i64 (Za.f9 a)) (.cons (.rsl za 2 (Za.n10 a) (λj=>ZC za (a.r10 j))) (.cons (.rsl za 3 (Za.n11 a) (λj=>ZF za (a.r11 j))) (.cons (.rsl za 2 (Za.n12 a) (λj=>ZB za (a.r12 j))) (.cons (.int za .u64 (Za.f13 a)) (.cons (.mp 1) (.cons (.mp 2) (.cons (.mp 3) .nil))))))))))))))))),.Zk (.int .i64) za (λx=>(z.1 (Zd x),.int za .i64 (z.2 (Zd x)))) zm]
def lk3_R(a:Za)(i:Int)(z:(Int->Bool)×(Int->Int)):Tree Rd:=
 let q0:=(zl za 4 a.n3 λjj=>Zv za (a.7 jj))
 let q1:=(zl za 1 a.n2 λjj=>zf (zn za .u32 (a.5 jj).f0) zh)
 let q2:=(zl za 2 a.n7 λjj=>Z0 za (a.15 jj))
 let q3:=(zl za 2 a.n10 λjj=>ZC za (a.20 jj))
 let q4:=(zl za 3 a.n11 λjj=>ZF za (a.22 jj))
 let q5:=(zl za 2 a.n5 λjj=>Zu za (a.11 jj))
 let q6:=(zl za 11 a.n6 λjj=>Zy za (a.13 jj))
 let q7:=(zl za 5 a.n8 λjj=>ZP za (a.17 jj))
 let q8:=(zl za 2 a.n12 λjj=>ZB za (a.24 jj))
 let q9:=(zl za 2 a.n1 λjj=>Z9 za (a.3 jj))
 let q10:=(zl za 4 a.n4 λjj=>Zt za (a.9 jj))
 zu ((0:Int)<=i/\i<((a.n3:Nat):Int)) (zw (Ex.normal,ze,zf (pt 0) (zf V.nilptr (zf (pt 4) (zf (zZ 5) (zf q0 (ci ((a.n3:Nat):Int) (ci (zD .i64 (i+(1:Int))) zh)))))),[zN (ci a.f0 (zf q9 (zf q1 (zf q0 (zf q10 (zf q5 (zf q6 (zf q2 (zf q7 (ci a.f9 (zf q3 (zf q4 (zf q8 (zf (zn za .u64 a.f13) zh)))))))))))))),Blk.Zk (MK.int .i64) za (λk=>((X3 a a.n6).1 (Zd k),vi ((X3 a a.n6).2 (Zd k)))) zm,Blk.Zk (MK.int .i64) za (λk=>((Ko a a.n12).1 (Zd k),vi ((Ko a a.n12).2 (Zd k)))) zm,Blk.Zk (MK.int .i64) za (λk=>(za,zn ze .i64 (0:Int))) zm,zN (ci a.f0 (zf q9 (zf q1 (zf q0 (zf q10 (zf q5 (zf q6 (zf q2 (zf q7 (ci a.f9 (zf q3 (zf q4 (zf q8 (zf (zn za .u64 a.f13) (zf (zZ 1) (zf (zZ 2) (zf (zZ 3) zh))))))))))))))))),Blk.Zk (MK.int .i64) za (λk=>(bif ZO k (zW .i64 (a.7 (zk i)).f0)then ze else z.1 (Zd k),vi (bif ZO k (zW .i64 (a.7 (zk i)).f0)then i else z.2 (Zd k)))) zm]))
theorem lk3_round(a:Za):Yi P (Zl P [] [] ze) 34 14 6 6 86 [1,2,3,8,54,55,56] [(0,.own),(1,.own),(2,.own),(3,.own),(4,.own),(5,.own)] [] (Zdl a) (Zf8 a) (λi=>(bif decide (i<((a.n3:Nat):Int))then za else ze)) (.exit 4) (lk3_R a):=λB i z=>by kernel_rfl
def Zdk(a:Za)(k:Nat)(z:(Int->Bool)×(Int->Int)):(Int->Bool)×(Int->Int):=(λ(i:Int)(z:(Int->Bool)×(Int->Int))=>(((λ(j_:Int)=>bif j_==(a.7 (zk i)).f0 then ze else z.1 (j_)),(λ(j_:Int)=>bif j_==(a.7 (zk i)).f0 then i else z.2 (j_))))) k z
def Xe(a:Za)(k:Nat):(Int->Bool)×(Int->Int):=ZJ ((λ(j_:Int)=>(za)),(λ(j_:Int)=>(0:Int))) (Zdk a) k
def lk3_lp(a:Za):Lp:=Js 34 14 6 6 86 [1,2,3,8,54,55,56] [(0,.own),(1,.own),(2,.own),(3,.own),(4,.own),(5,.own)] [] (Zdl a) (Zf8 a) (.exit 4) ((λ(j_:Int)=>(za)),(λ(j_:Int)=>(0:Int))) (Xe a) (Za.n3 a)
def Zlz(a:Za):Prop:=YC 6 [] (Zdl a) (Zf8 a) ((λ(j_:Int)=>(za)),(λ(j_:Int)=>(0:Int))) (Zdl a (0:Nat) ((λ(j_:Int)=>(za)),(λ(j_:Int)=>(0:Int)))) (Zf8 a (0:Nat) ((λ(j_:Int)=>(za)),(λ(j_:Int)=>(0:Int))))
theorem lk3_fit(a:Za):Zlz a:=⟨rfl,⟨rfl,⟨rfl,λ_=>⟨rfl,rfl⟩⟩,⟨rfl,λ_=>⟨rfl,rfl⟩⟩,⟨rfl,λ_=>⟨rfl,rfl⟩⟩,rfl,⟨rfl,λ_=>⟨rfl,rfl⟩⟩,trivial⟩⟩
theorem lk3_lp_ok(a:Za)(hl:(Za.n3 a)<=1000):(lk3_lp a).Ok P:=by
 refine JZ (Zw hm hn (l:=[]) trivial (ls:=[]) trivial ze) rfl (by kernel_rfl) (lk3_round a) exN Yv (λ_=>rfl) (rd:=(λ_ t y=>((λj=>(y.getD 5 .none).hasK .i64 j),(λj=>(y.getD 5 .none).getI .i64 j)))) (λi z=>rfl) (λi=>rfl) rfl (λi hlt hg=>?_) (λi z hi=>?_)
 ·have hltI:(i:Int)<(((Za.n3 a):Nat):Int):=by omega
  refine⟨?_,trivial⟩
  all_goals(repeat'(first|exact rfl|exact λ_=>⟨rfl,rfl⟩|apply zy|intro _))
  all_goals(try simp only[decide_eq_true_eq,decide_eq_false_iff_not,yg,yw]at*)
  all_goals(try simp(disch:=omega) only[IntWalk.i64_in])
  all_goals(first|omega)
 ·have hw:=(IntWalk.i64_in ((i:Int)+1) ⟨by omega,by omega⟩)
  all_goals exact⟨rfl,Yq (ts:=Zdl a) hw rfl,⟨LeK.refl _,LeK.refl _,LeK.refl _,LeK.refl _,LeK.refl _,Wd λa=>⟨rfl,Le.soft rfl⟩,trivial⟩⟩
abbrev Zdn(a:Za)(i:Int)(z:(Int->Bool)×(Int->Int)):V:=(.cons .nilptr (.cons (.ptr ze 4 0 0 0) (.cons (.mp 5) (.cons (.rsl za 4 (Za.n4 a) (λj=>Zt za (a.r4 j))) (.cons (.int za .i64 (((Za.n4 a):Nat):Int)) (.cons (.int za .i64 i) .nil))))))
abbrev Zf9(a:Za)(i:Int)(z:(Int->Bool)×(Int->Int)):List Blk:=[.var (.cons (.int za .i64 (Za.f0 a)) (.cons (.rsl za 2 (Za.n1 a) (λj=>Z9 za (a.r1 j))) (.cons (.rsl za 1 (Za.n2 a) (λj=>Z8 za (a.r2 j))) (.cons (.rsl za 4 (Za.n3 a) (λj=>Zv za (a.r3 j))) (.cons (.rsl za 4 (Za.n4 a) (λj=>Zt za (a.r4 j))) (.cons (.rsl za 2 (Za.n5 a) (λj=>Zu za (a.r5 j))) (.cons (.rsl za 11 (Za.n6 a) (λj=>Zy za (a.r6 j))) (.cons (.rsl za 2 (Za.n7 a) (λj=>Z0 za (a.r7 j))) (.cons (.rsl za 5 (Za.n8 a) (λj=>ZP za (a.r8 j))) (.cons (.int za .i64 (Za.f9 a)) (.cons (.rsl za 2 (Za.n10 a) (λj=>ZC za (a.r10 j))) (.cons (.rsl za 3 (Za.n11 a) (λj=>ZF za (a.r11 j))) (.cons (.rsl za 2 (Za.n12 a) (λj=>ZB za (a.r12 j))) (.cons (.int za .u64 (Za.f13 a)) .nil)))))))))))))),.Zk (.int .i64) za (λ(x:Value)=>((X3 a (Za.n6 a)).1 (Zd x),zn za zA ((X3 a (Za.n6 a)).2 (Zd x)))) zm,.Zk (.int .i64) za (λ(x:Value)=>((Ko a (Za.n12 a)).1 (Zd x),zn za zA ((Ko a (Za.n12 a)).2 (Zd x)))) zm,.Zk (.int .i64) za (λx=>(z.1 (Zd x),.int za .i64 (z.2 (Zd x)))) zm,.var (.cons (.int za .i64 (Za.f0 a)) (.cons (.rsl za 2 (Za.n1 a) (λj=>Z9 za (a.r1 j))) (.cons (.rsl za 1 (Za.n2 a) (λj=>Z8 za (a.r2 j))) (.cons (.rsl za 4 (Za.n3 a) (λj=>Zv za (a.r3 j))) (.cons (.rsl za 4 (Za.n4 a) (λj=>Zt za (a.r4 j))) (.cons (.rsl za 2 (Za.n5 a) (λj=>Zu za (a.r5 j))) (.cons (.rsl za 11 (Za.n6 a) (λj=>Zy za (a.r6 j))) (.cons (.rsl za 2 (Za.n7 a) (λj=>Z0 za (a.r7 j))) (.cons (.rsl za 5 (Za.n8 a) (λj=>ZP za (a.r8 j))) (.cons (.int za .i64 (Za.f9 a)) (.cons (.rsl za 2 (Za.n10 a) (λj=>ZC za (a.r10 j))) (.cons (.rsl za 3 (Za.n11 a) (λj=>ZF za (a.r11 j))) (.cons (.rsl za 2 (Za.n12 a) (λj=>ZB za (a.r12 j))) (.cons (.int za .u64 (Za.f13 a)) (.cons (.mp 1) (.cons (.mp 2) (.cons (.mp 3) .nil))))))))))))))))),.Zk (.int .i64) za (λ(x:Value)=>((Xe a (Za.n3 a)).1 (Zd x),zn za zA ((Xe a (Za.n3 a)).2 (Zd x)))) zm]
def lk4_R(a:Za)(i:Int)(z:(Int->Bool)×(Int->Int)):Tree Rd:=
 let q0:=(zl za 4 a.n4 λjj=>Zt za (a.9 jj))
 let q1:=(zl za 1 a.n2 λjj=>zf (zn za .u32 (a.5 jj).f0) zh)
 let q2:=(zl za 2 a.n7 λjj=>Z0 za (a.15 jj))
 let q3:=(zl za 2 a.n10 λjj=>ZC za (a.20 jj))
 let q4:=(zl za 3 a.n11 λjj=>ZF za (a.22 jj))
 let q5:=(zl za 4 a.n3 λjj=>Zv za (a.7 jj))
 let q6:=(zl za 2 a.n5 λjj=>Zu za (a.11 jj))
 let q7:=(zl za 11 a.n6 λjj=>Zy za (a.13 jj))
 let q8:=(zl za 5 a.n8 λjj=>ZP za (a.17 jj))
 let q9:=(zl za 2 a.n12 λjj=>ZB za (a.24 jj))
 let q10:=(zl za 2 a.n1 λjj=>Z9 za (a.3 jj))
 zu ((0:Int)<=i/\i<((a.n4:Nat):Int)) (zw (Ex.normal,ze,zf V.nilptr (zf (pt 4) (zf (zZ 5) (zf q0 (ci ((a.n4:Nat):Int) (ci (zD .i64 (i+(1:Int))) zh))))),[zN (ci a.f0 (zf q10 (zf q1 (zf q5 (zf q0 (zf q6 (zf q7 (zf q2 (zf q8 (ci a.f9 (zf q3 (zf q4 (zf q9 (zf (zn za .u64 a.f13) zh)))))))))))))),Blk.Zk (MK.int .i64) za (λk=>((X3 a a.n6).1 (Zd k),vi ((X3 a a.n6).2 (Zd k)))) zm,Blk.Zk (MK.int .i64) za (λk=>((Ko a a.n12).1 (Zd k),vi ((Ko a a.n12).2 (Zd k)))) zm,Blk.Zk (MK.int .i64) za (λk=>(bif ZO k (zW .i64 (a.9 (zk i)).f0)then ze else z.1 (Zd k),vi (bif ZO k (zW .i64 (a.9 (zk i)).f0)then bif (Xe a a.n3).1 (a.9 (zk i)).f1 then(Xe a a.n3).2 (a.9 (zk i)).f1 else(0:Int)else z.2 (Zd k)))) zm,zN (ci a.f0 (zf q10 (zf q1 (zf q5 (zf q0 (zf q6 (zf q7 (zf q2 (zf q8 (ci a.f9 (zf q3 (zf q4 (zf q9 (zf (zn za .u64 a.f13) (zf (zZ 1) (zf (zZ 2) (zf (zZ 3) zh))))))))))))))))),Blk.Zk (MK.int .i64) za (λk=>((Xe a a.n3).1 (Zd k),vi ((Xe a a.n3).2 (Zd k)))) zm]))
theorem lk4_round(a:Za):Yi P (Zl P [] [] ze) 34 19 6 6 86 [2,3,8,68,69,70] [(0,.own),(1,.own),(2,.own),(3,.own),(4,.own),(5,.own)] [] (Zdn a) (Zf9 a) (λi=>(bif decide (i<((a.n4:Nat):Int))then za else ze)) (.exit 6) (lk4_R a):=λB i z=>by kernel_rfl
def Zdm(a:Za)(k:Nat)(z:(Int->Bool)×(Int->Int)):(Int->Bool)×(Int->Int):=(λ(i:Int)(z:(Int->Bool)×(Int->Int))=>(((λ(j_:Int)=>bif j_==(a.9 (zk i)).f0 then ze else z.1 (j_)),(λ(j_:Int)=>bif j_==(a.9 (zk i)).f0 then bif (Xe a a.n3).1 (a.9 (zk i)).f1 then(Xe a a.n3).2 (a.9 (zk i)).f1 else(0:Int)else z.2 (j_))))) k z
def QY(a:Za)(k:Nat):(Int->Bool)×(Int->Int):=ZJ ((λ(j_:Int)=>(za)),(λ(j_:Int)=>(0:Int))) (Zdm a) k
def lk4_lp(a:Za):Lp:=Js 34 19 6 6 86 [2,3,8,68,69,70] [(0,.own),(1,.own),(2,.own),(3,.own),(4,.own),(5,.own)] [] (Zdn a) (Zf9 a) (.exit 6) ((λ(j_:Int)=>(za)),(λ(j_:Int)=>(0:Int))) (QY a) (Za.n4 a)
def ZlA(a:Za):Prop:=YC 6 [] (Zdn a) (Zf9 a) ((λ(j_:Int)=>(za)),(λ(j_:Int)=>(0:Int))) (Zdn a (0:Nat) ((λ(j_:Int)=>(za)),(λ(j_:Int)=>(0:Int)))) (Zf9 a (0:Nat) ((λ(j_:Int)=>(za)),(λ(j_:Int)=>(0:Int))))
theorem lk4_fit(a:Za):ZlA a:=⟨rfl,⟨rfl,⟨rfl,λ_=>⟨rfl,rfl⟩⟩,⟨rfl,λ_=>⟨rfl,rfl⟩⟩,⟨rfl,λ_=>⟨rfl,rfl⟩⟩,rfl,⟨rfl,λ_=>⟨rfl,rfl⟩⟩,trivial⟩⟩
theorem lk4_lp_ok(a:Za)(hl:(Za.n4 a)<=1000):(lk4_lp a).Ok P:=by
 refine JZ (Zw hm hn (l:=[]) trivial (ls:=[]) trivial ze) rfl (by kernel_rfl) (lk4_round a) exN Yv (λ_=>rfl) (rd:=(λ_ t y=>((λj=>(y.getD 3 .none).hasK .i64 j),(λj=>(y.getD 3 .none).getI .i64 j)))) (λi z=>rfl) (λi=>rfl) rfl (λi hlt hg=>?_) (λi z hi=>?_)
 ·have hltI:(i:Int)<(((Za.n4 a):Nat):Int):=by omega
  refine⟨?_,trivial⟩
  all_goals(repeat'(first|exact rfl|exact λ_=>⟨rfl,rfl⟩|apply zy|intro _))
  all_goals(try simp only[decide_eq_true_eq,decide_eq_false_iff_not,yg,yw]at*)
  all_goals(try simp(disch:=omega) only[IntWalk.i64_in])
  all_goals(first|omega)
 ·have hw:=(IntWalk.i64_in ((i:Int)+1) ⟨by omega,by omega⟩)
  all_goals exact⟨rfl,Yq (ts:=Zdn a) hw rfl,⟨LeK.refl _,LeK.refl _,LeK.refl _,Wd λa=>⟨rfl,Le.soft rfl⟩,LeK.refl _,LeK.refl _,trivial⟩⟩
def Zg(a:Za):Ze:=⟨a,(X3 a a.n6).1,(X3 a a.n6).2,(Ko a a.n12).1,(Ko a a.n12).2,(QY a a.n4).1,(QY a a.n4).2⟩
theorem look_tree(a:Za):evH (Zl P [] [lk1_lp a,lk2_lp a,lk3_lp a,lk4_lp a] ze) 400 34 (.cons (.agg (Z7 za a)) .nil) []=
  .need (Zlw a) (.need (Zlx a) (.need (Zlz a) (.need (ZlA a) (.leaf (.ptr ze 0 0 0 0,Yt (Zg a)))))):=by kernel_rfl
theorem look_at(a:Za)(h3:a.n3<=1000)(h4:a.n4<=1000)(h6:a.n6<=1000)(h12:a.n12<=1000):YG P 34 (.cons (.agg (Z7 za a)) .nil) [] (.leaf (.ptr ze 0 0 0 0,Yt (Zg a))):=by
 refine hk_at (Zw hm hn (l:=[]) trivial (ls:=[lk1_lp a,lk2_lp a,lk3_lp a,lk4_lp a]) ⟨lk1_lp_ok a h6,lk2_lp_ok a h12,lk3_lp_ok a h3,lk4_lp_ok a h4,trivial⟩ ze) 400 λQ hQ=>?_
 rw[look_tree]
 exact⟨lk1_fit a,lk2_fit a,lk3_fit a,lk4_fit a,_,hQ,rfl,rfl⟩
def Zbk:HK:=λargs bl=>match args,bl with
 | .cons (.agg c) .nil,[]=>some (.need (c.soft=Z7 za (Yb c)/\(Yb c).n3<=1000/\(Yb c).n4<=1000/\(Yb c).n6<=1000/\(Yb c).n12<=1000) (.leaf (.ptr ze 0 0 0 0,Yt (Zg (Yb c)))))
 |_,_=>zm
theorem look_ok:Xo P 34 Zbk:=by
 intro args bl T hT
 unfold Zbk at hT
 split at hT
 ·rename_i c
  injection hT with hT
  subst hT
  intro base mm F w xs Q KK h1 h2 hq hk
  obtain⟨⟨hc,h3,h4,h6,h12⟩,hq⟩:=hq
  have h2':=((YM (.cons (.agg c) .nil) 0 mm).2 xs.toList).2 h2
  rw[show z8 (.cons (.agg c) .nil)=.cons (.agg c.soft) .nil from rfl,hc]at h2'
  exact look_at _ h3 h4 h6 h12 base mm F w xs Q KK h1 h2' hq hk
 ·cases hT
abbrev Zc6(n:Nat)(r:Nat->DT3)(i:Int)(z:Int):V:=(.cons (.rsl za 1 n (λj=>ZK za (r j))) (.cons (.bool ze za) (.cons (.int za .i64 (z)) (.cons (.rsl za 1 n (λj=>ZK za (r j))) (.cons (.int za .i64 ((n:Nat):Int)) (.cons (.int za .i64 i) .nil))))))
abbrev Zc7(n:Nat)(r:Nat->DT3)(i:Int)(z:Int):List Blk:=[]
def gmy_R(n:Nat)(r:Nat->DT3)(i:Int)(z:Int):Tree Rd:=
 let q0:=(zl za 1 n λjj=>ci (r jj).f0 zh)
 zu ((0:Int)<=i/\i<(n:Int)) (zB (bif bif bif decide ((r (zk i)).f0<=z)then ze else decide ((r (zk i)).f0>(16:Int))then ze else za then ze else za) (zw (Ex.ret,ze,zf q0 (zf (zC ze za) (ci z (zf q0 (ci (n:Int) (ci i zh))))),[])) (zw (Ex.normal,ze,zf q0 (zf (zC ze za) (ci (r (zk i)).f0 (zf q0 (ci (n:Int) (ci (zD .i64 (i+(1:Int))) zh))))),[])))
theorem gmy_round(n:Nat)(r:Nat->DT3):Yi P (Zl P [] [] ze) 98 3 0 0 29 [0,2,3,6,7,8] [] [] (Zc6 n r) (Zc7 n r) (λi=>(bif decide (i<(n:Int))then za else ze)) (.exit 0) (gmy_R n r):=λB i z=>by kernel_rfl
def gmy_step(n:Nat)(r:Nat->DT3)(k:Nat)(z:Int):Int:=(gmy_R n r k z).carry ((λt y=>(t.nth 2).toInt)) z
def Vz(n:Nat)(r:Nat->DT3)(k:Nat):Int:=ZJ 0 (gmy_step n r) k
def ZfT(n:Nat)(r:Nat->DT3)(k:Nat):Bool:=(gmy_R n r k (Vz n r k)).early
abbrev gmy_ets(n:Nat)(r:Nat->DT3)(i:Int)(z:Int):V:=(.cons (zl za 1 n λjj=>zf (zn za .i64 (r jj).f0) zh) (.cons (zC ze za) (.cons .junk (.cons (zl za 1 n λjj=>zf (zn za .i64 (r jj).f0) zh) (.cons (zn za .i64 (n:Int)) (.cons .junk .nil))))))
def gmy_lp(n:Nat)(r:Nat->DT3):Lp:=lpL 98 3 0 0 29 [0,2,3,6,7,8] [] [] (Zc6 n r) (Zc7 n r) (.exit 0) .ret 0 (Vz n r) (ZfT n r) (n) (gmy_ets n r) (Zc7 n r)
def Zlg(n:Nat)(r:Nat->DT3):Prop:=YC 0 [] (Zc6 n r) (Zc7 n r) 0 (Zc6 n r (0:Nat) 0) (Zc7 n r (0:Nat) 0)
theorem gmy_fit(n:Nat)(r:Nat->DT3):Zlg n r:=⟨rfl,trivial⟩
theorem gmy_lp_ok(n:Nat)(r:Nat->DT3)(hl:n<=1000):(gmy_lp n r).Ok P:=by
 refine YR (Zw hm hn (l:=[]) trivial (ls:=[]) trivial ze) rfl (by kernel_rfl) (gmy_round n r) exN Yv (λ_=>rfl) (rd:=(λ_ t y=>(t.nth 2).toInt)) (λi z=>rfl) (λi=>rfl) rfl (λi hlt hg=>?_) (λi z hi=>?_)
 ·have hltI:(i:Int)<((n:Nat):Int):=by omega
  refine⟨?_,⟨λhb0=>trivial,λhb0=>trivial⟩⟩
  all_goals(repeat'(first|exact rfl|exact λ_=>⟨rfl,rfl⟩|apply zy|intro _))
  all_goals(try simp only[decide_eq_true_eq,decide_eq_false_iff_not,yg,yw]at*)
  all_goals(try simp(disch:=omega) only[IntWalk.i64_in])
  all_goals(first|omega)
 ·have hw:=(IntWalk.i64_in ((i:Int)+1) ⟨by omega,by omega⟩)
  refine⟨?_,?_⟩
  all_goals(first|exact⟨rfl,Yq (ts:=Zc6 n r) hw rfl,Z5 _⟩|exact⟨rfl,rfl,(by repeat'(first|exact Le.refl _|exact Le.junk _ rfl|apply Le.cons)),Z5 _⟩)
def gMay_T(an:Nat)(a:Nat->DT3):Tree V:=
 zu (Zlg an a) (zB (bif Zp (ZfT an a) an then ze else za) (zw (zC ze za)) (zw (zC za (bif decide ((an:Int)>=(2:Int))then decide ((an:Int)<=(8:Int))else za))))
theorem gMay_tree(an:Nat)(a:Nat->DT3):ZT (Zl P [] [gmy_lp an a] ze) 400 98 (.cons (.rsl za 1 an λj=>ZK za (a j)) .nil)=gMay_T an a:=by kernel_rfl
def QX(an:Nat)(a:Nat->DT3):Bool:=
  (bif bif Zp (ZfT an a) an then ze else za then za else bif decide ((an:Int)>=(2:Int))then decide ((an:Int)<=(8:Int))else za)
theorem ZpS(an:Nat)(a:Nat->DT3)(h0:an<=1000):Zh P 98 (.cons (.rsl za 1 an λj=>ZK za (a j)) .nil) (.bool za (QX an a)):=
 Xn (Zw hm hn (l:=[]) trivial (ls:=[gmy_lp an a]) ⟨gmy_lp_ok an a h0,trivial⟩ ze) 400 (Has.of hn Tryz.func98 rfl) (gMay_tree an a) (Tree.Pre.mk (by refine⟨?_,⟨λ_=>trivial,λ_=>trivial⟩⟩;all_goals(first|exact gmy_fit an a|(repeat'(first|exact rfl|apply zy))))) (by kernel_rfl) (by kernel_rfl)
def V8:Con:=Yd 98 (λx=>(.cons (.rsl za 1 x.hd.Zi λj=>ZK za ((λj=>Zx (x.hd.Zn j)) j)) .nil)) (λx=>(.bool za (QX x.hd.Zi (λj=>Zx (x.hd.Zn j))))) (λx=>x.hd.Zi<=1000)
theorem ZhQ:V8.Ok P:=Yf (λx h=>ZpS _ _ h)
abbrev gc2_ts(d:Zc)(w lst:Int)(m:Nat)(r:Nat->DT3)(h g:Int->Bool)(x0:Int)(i:Int)(z:(Int->Bool)×(Int->Bool)):V:=(.cons (.int ze .i64 0) (.cons (.mp 1) (.cons (.int za .i64 lst) (.cons (.rsl za 2 d.n0 (λj=>Zu za (d.r0 j))) (.cons (.int za .i64 ((d.n0:Nat):Int)) (.cons (.int za .i64 w) (.cons (.rsl za 1 m (λj=>ZK za (r j))) (.cons (.int za .i64 ((m:Nat):Int)) (.cons (.int za .i64 i) .nil)))))))))
abbrev gc2_ys(d:Zc)(w lst:Int)(m:Nat)(r:Nat->DT3)(h g:Int->Bool)(x0:Int)(i:Int)(z:(Int->Bool)×(Int->Bool)):List Blk:=[.var (.cons (.rsl za 2 d.n0 (λj=>Zu za (d.r0 j))) .nil),.Zk (.int .i64) za (λx=>(z.1 (Zd x),.bool za (z.2 (Zd x)))) zm,.var (.cons (.int za .i64 x0) (.cons (.rsl za 1 m (λj=>ZK za (r j))) .nil))]
def gc2_R(d:Zc)(w lst:Int)(m:Nat)(r:Nat->DT3)(h g:Int->Bool)(x0:Int)(i:Int)(z:(Int->Bool)×(Int->Bool)):Tree Rd:=
 let q0:=(zl za 1 m λjj=>ci (r jj).f0 zh)
 let q1:=(zl za 2 d.n0 λjj=>Zu za (d.2 jj))
 zu ((0:Int)<=i/\i<(m:Int)) (zB (bif bif bif z.1 (r (zk i)).f0 then z.2 (r (zk i)).f0 else za then ze else za then ze else za) (zw (Ex.ret,ze,zf (zn ze .i64 (240:Int)) (zf (zZ 1) (ci lst (zf q1 (ci ((d.n0:Nat):Int) (ci w (zf q0 (ci (m:Int) (ci i zh)))))))),[zN (zf q1 zh),Blk.Zk (MK.int .i64) za (λk=>(z.1 (Zd k),zC za (z.2 (Zd k)))) zm,zN (ci x0 (zf q0 zh))])) (zw (Ex.normal,ze,zf (zn ze .i64 (0:Int)) (zf (zZ 1) (ci lst (zf q1 (ci ((d.n0:Nat):Int) (ci w (zf q0 (ci (m:Int) (ci (zD .i64 (i+(1:Int))) zh)))))))),[zN (zf q1 zh),Blk.Zk (MK.int .i64) za (λk=>(bif ZO k (zW .i64 (r (zk i)).f0)then ze else z.1 (Zd k),zC za (bif ZO k (zW .i64 (r (zk i)).f0)then ze else z.2 (Zd k)))) zm,zN (ci x0 (zf q0 zh))])))
theorem gc2_round(d:Zc)(w lst:Int)(m:Nat)(r:Nat->DT3)(h g:Int->Bool)(x0:Int):Yi P (Zl P [] [] ze) 58 10 3 3 48 [2,3,4,11,12,13,35,36,37] [(0,.own),(1,.own),(2,.own)] [] (gc2_ts d w lst m r h g x0) (gc2_ys d w lst m r h g x0) (λi=>(bif decide (i<(m:Int))then za else ze)) (.exit 2) (gc2_R d w lst m r h g x0):=λB i z=>by kernel_rfl
def Uh(m:Nat)(r:Nat->DT3)(h g:Int->Bool)(k:Nat)(z:(Int->Bool)×(Int->Bool)):(Int->Bool)×(Int->Bool):=(λ(i:Int)(z:(Int->Bool)×(Int->Bool))=>(bif bif bif bif z.1 (r (zk i)).f0 then z.2 (r (zk i)).f0 else za then ze else za then ze else za then((z.1,z.2))else(((λ(j_:Int)=>bif j_==(r (zk i)).f0 then ze else z.1 (j_)),(λ(j_:Int)=>bif j_==(r (zk i)).f0 then ze else z.2 (j_)))))) k z
def XG(m:Nat)(r:Nat->DT3)(h g:Int->Bool)(k:Nat):(Int->Bool)×(Int->Bool):=ZJ (h,g) (Uh m r h g) k
def KP(m:Nat)(r:Nat->DT3)(h g:Int->Bool)(k:Nat):Bool:=(λ(i:Int)(z:(Int->Bool)×(Int->Bool))=>(bif bif bif bif z.1 (r (zk i)).f0 then z.2 (r (zk i)).f0 else za then ze else za then ze else za then ze else za)) k (XG m r h g k)
abbrev gc2_ets(d:Zc)(w lst:Int)(m:Nat)(r:Nat->DT3)(h g:Int->Bool)(x0:Int)(i:Int)(z:(Int->Bool)×(Int->Bool)):V:=(.cons (zn ze .i64 (240:Int)) (.cons (zZ 1) (.cons (zn za .i64 lst) (.cons (zl za 2 d.n0 λjj=>Zu za (d.2 jj)) (.cons (zn za .i64 ((d.n0:Nat):Int)) (.cons (zn za .i64 w) (.cons (zl za 1 m λjj=>zf (zn za .i64 (r jj).f0) zh) (.cons (zn za .i64 (m:Int)) (.cons .junk .nil)))))))))
abbrev gc2_eys(d:Zc)(w lst:Int)(m:Nat)(r:Nat->DT3)(h g:Int->Bool)(x0:Int)(i:Int)(z:(Int->Bool)×(Int->Bool)):List Blk:=[.var (.cons (.rsl za 2 d.n0 (λj=>Zu za (d.r0 j))) .nil),.any,.var (.cons (.int za .i64 x0) (.cons (.rsl za 1 m (λj=>ZK za (r j))) .nil))]
def gc2_lp(d:Zc)(w lst:Int)(m:Nat)(r:Nat->DT3)(h g:Int->Bool)(x0:Int):Lp:=lpL 58 10 3 3 48 [2,3,4,11,12,13,35,36,37] [(0,.own),(1,.own),(2,.own)] [] (gc2_ts d w lst m r h g x0) (gc2_ys d w lst m r h g x0) (.exit 2) .ret (h,g) (XG m r h g) (KP m r h g) (m) (gc2_ets d w lst m r h g x0) (gc2_eys d w lst m r h g x0)
theorem gc2_lp_ok(d:Zc)(w lst:Int)(m:Nat)(r:Nat->DT3)(h g:Int->Bool)(x0:Int)(hl:m<=1000):(gc2_lp d w lst m r h g x0).Ok P:=by
 refine YR (Zw hm hn (l:=[]) trivial (ls:=[]) trivial ze) rfl (by kernel_rfl) (gc2_round d w lst m r h g x0) exN Yv (λ_=>rfl) (rd:=(λ_ t y=>((λj=>(y.getD 1 .none).hasK .i64 j),(λj=>(y.getD 1 .none).getB .i64 j)))) (λi z=>(cC rfl rfl)) (λi=>(cC rfl rfl)) rfl (λi hlt hg=>?_) (λi z hi=>?_)
 ·have hltI:(i:Int)<((m:Nat):Int):=by omega
  refine⟨?_,⟨λhb0=>trivial,λhb0=>trivial⟩⟩
  all_goals(repeat'(first|exact rfl|exact λ_=>⟨rfl,rfl⟩|apply zy|intro _))
  all_goals(try simp only[decide_eq_true_eq,decide_eq_false_iff_not,yg,yw]at*)
  all_goals(try simp(disch:=omega) only[IntWalk.i64_in])
  all_goals(first|omega)
 ·have hw:=(IntWalk.i64_in ((i:Int)+1) ⟨by omega,by omega⟩)
  refine⟨?_,?_⟩
  all_goals(first|exact⟨rfl,Yq (ts:=gc2_ts d w lst m r h g x0) hw rfl,⟨LeK.refl _,Wd λa=>⟨rfl,Le.soft rfl⟩,LeK.refl _,trivial⟩⟩|exact⟨rfl,rfl,(by repeat'(first|exact Le.refl _|exact Le.junk _ rfl|apply Le.cons)),⟨LeK.refl _,LeK.any _,LeK.refl _,trivial⟩⟩)
def gc2_in : Lp:=⟨58,10,λ_ s=>(s.tmp 11).G7 .stuck λn11 r11=>(s.tmp 13).VH .stuck λw=>(s.tmp 4).VH .stuck λlst=>(s.tmp 35).G7 .stuck λm r35=>(s.blk 1).onMap .stuck λfm=>(s.blk 2).onVar .stuck λc2=>(c2.hd).VH .stuck λx0=>.need ((λ(d:Zc)(w lst:Int)(m:Nat)(r:Nat->DT3)(h g:Int->Bool)(x0:Int)=>m<=1000) ⟨n11,λj=>XC (r11 j)⟩ w lst m (λj=>Zx (r35 j)) (λj=>(fm (.int .i64 j)).1) (λj=>(fm (.int .i64 j)).2.toBool) x0) ((gc2_lp ⟨n11,λj=>XC (r11 j)⟩ w lst m (λj=>Zx (r35 j)) (λj=>(fm (.int .i64 j)).1) (λj=>(fm (.int .i64 j)).2.toBool) x0).g _ s)⟩
theorem gc2_in_ok : (gc2_in ).Ok P:=by
 intro body hin hfr B s Q hq
 obtain⟨n11,r11,hq⟩:=Zbu hq
 obtain⟨w,hq⟩:=Uu hq
 obtain⟨lst,hq⟩:=Uu hq
 obtain⟨m,r35,hq⟩:=Zbu hq
 obtain⟨fm,hq⟩:=Zi4 hq
 obtain⟨c2,hq⟩:=onVar_h hq
 obtain⟨x0,hq⟩:=Uu hq
 exact gc2_lp_ok _ _ _ _ _ _ _ _ hq.1 body hin hfr B s Q hq.2
abbrev Zc4(a:Zc)(i:Int)(z:Int×(Int->Bool)×(Int->Bool)):V:=(.cons (.int ze .i64 0) (.cons (.mp 1) (.cons (.int za .i64 (z.1)) (.cons (.rsl za 2 (Zc.n0 a) (λj=>Zu za (a.r0 j))) (.cons (.int za .i64 (((Zc.n0 a):Nat):Int)) (.cons (.int za .i64 i) .nil))))))
abbrev ZfS(a:Zc)(i:Int)(z:Int×(Int->Bool)×(Int->Bool)):List Blk:=[.var (.cons (.rsl za 2 (Zc.n0 a) (λj=>Zu za (a.r0 j))) .nil),.Zk (.int .i64) za (λx=>(z.2.1 (Zd x),.bool za (z.2.2 (Zd x)))) zm]
def gc1_R(a:Zc)(i:Int)(z:Int×(Int->Bool)×(Int->Bool)):Tree Rd:=
 let q5:=(vi (a.2 (zk i)).f0)
 let q1:=(zl za 2 a.n0 λj=>Zu za (a.2 j))
 let q6:=(vi ((a.n0:Nat):Int))
 let q2:=(zl za 1 (a.2 (zk i)).n1 λj=>ci ((a.2 (zk i)).3 j).f0 zh)
 let q8:=(vi (0:Int))
 let q0:=(zf (zZ 1) (zf q5 (zf q1 (zf q6 (ci i (zf q2 (ci (((a.2 (zk i)).n1:Nat):Int) (zf q8 zh))))))))
 let q3:=(XG (a.2 (zk i)).n1 (λj=>((a.2 (zk i)).3 j)) (λj=>(zx z).1 j) (λj=>(zx z).2 j) (a.2 (zk i)).n1)
 let q7:=(zl za 2 a.n0 λjj=>Zu za (a.2 jj))
 let q4:=(zf q7 (zf q6 (ci i zh)))
 zu ((0:Int)<=i/\i<((a.n0:Nat):Int)) (zu (decide ((a.2 (zk i)).f0<=zR z)=za->decide ((a.2 (zk i)).f0>(8:Int))=za->zf q2 zh=zf q2 zh/\(a.2 (zk i)).n1<=(1000:Nat)) (zB (bif bif decide ((a.2 (zk i)).f0<=zR z)then ze else bif decide ((a.2 (zk i)).f0>(8:Int))then ze else !QX (a.2 (zk i)).n1 λj=>((a.2 (zk i)).3 j)then ze else za) (zw (Ex.ret,ze,zf (zn ze .i64 (240:Int)) (zf (zZ 1) (ci (zR z) q4)),[zN (zf q7 zh),Blk.Zk (MK.int .i64) za (λk=>((zx z).1 (Zd k),zC za ((zx z).2 (Zd k)))) zm])) (zu ((a.2 (zk i)).n1<=(1000:Nat)/\zf q8 q0=zf q8 q0/\zf q1 zh=zf q1 zh/\(zA=zA/\YD .i64 (λx=>((zx z).1 (Zd x),zC za ((zx z).2 (Zd x)))) λk=>((zx z).1 (Zd k),zC za ((zx z).2 (Zd k))))/\Zu za (a.2 (zk i))=Zu za (a.2 (zk i))/\True) (zB (bif Zp (KP (a.2 (zk i)).n1 (λj=>((a.2 (zk i)).3 j)) (λj=>(zx z).1 j) λj=>(zx z).2 j) (a.2 (zk i)).n1 then ze else za) (zw (Ex.ret,ze,zf (zn ze .i64 (240:Int)) (zf (zZ 1) (zf q5 q4)),[zN (zf q1 zh),Blk.any])) (zw (Ex.normal,ze,zf (zn ze .i64 (0:Int)) (zf (zZ 1) (zf q5 (zf q1 (zf q6 (ci (zD .i64 (i+(1:Int))) zh))))),[zN (zf q1 zh),Blk.Zk (MK.int .i64) za (λk=>(q3.1 (Zd k),zC za (q3.2 (Zd k)))) zm]))))))
theorem gc1_round(a:Zc):Yi P (Zl P [V8] [gc2_in ] ze) 58 4 2 2 48 [2,3,4,11,12,13] [(0,.own),(1,.own)] [] (Zc4 a) (ZfS a) (λi=>(bif decide (i<((a.n0:Nat):Int))then za else ze)) (.exit 0) (gc1_R a):=λB i z=>by kernel_rfl
def gc1_step(a:Zc)(k:Nat)(z:Int×(Int->Bool)×(Int->Bool)):Int×(Int->Bool)×(Int->Bool):=(λ(i:Int)(z:Int×(Int->Bool)×(Int->Bool))=>
 let q0:=(XG (a.2 (zk i)).n1 (λj=>Zx (ZK za ((a.2 (zk i)).3 j))) (λj=>(zx z).1 j) (λj=>(zx z).2 j) (a.2 (zk i)).n1)
 (bif bif bif decide ((a.2 (zk i)).f0<=zR z)then ze else bif decide ((a.2 (zk i)).f0>(8:Int))then ze else !QX (a.2 (zk i)).n1 λj=>Zx (ZK za ((a.2 (zk i)).3 j))then ze else za then((z.1,z.2.1,z.2.2))else(bif bif Zp (KP (a.2 (zk i)).n1 (λj=>Zx (ZK za ((a.2 (zk i)).3 j))) (λj=>(zx z).1 j) λj=>(zx z).2 j) (a.2 (zk i)).n1 then ze else za then((z.1,z.2.1,z.2.2))else(((a.2 (zk i)).f0,(λ(j_:Int)=>q0.1 (j_)),(λ(j_:Int)=>q0.2 (j_))))))) k z
def YW(a:Zc)(k:Nat):Int×(Int->Bool)×(Int->Bool):=ZJ (0,(λ(j_:Int)=>(za)),(λ(j_:Int)=>(za))) (gc1_step a) k
def Gz(a:Zc)(k:Nat):Bool:=(λ(i:Int)(z:Int×(Int->Bool)×(Int->Bool))=>(bif bif bif decide ((a.2 (zk i)).f0<=zR z)then ze else bif decide ((a.2 (zk i)).f0>(8:Int))then ze else !QX (a.2 (zk i)).n1 λj=>Zx (ZK za ((a.2 (zk i)).3 j))then ze else za then ze else(bif bif Zp (KP (a.2 (zk i)).n1 (λj=>Zx (ZK za ((a.2 (zk i)).3 j))) (λj=>(zx z).1 j) λj=>(zx z).2 j) (a.2 (zk i)).n1 then ze else za then ze else za))) k (YW a k)
abbrev gc1_ets(a:Zc)(i:Int)(z:Int×(Int->Bool)×(Int->Bool)):V:=(.cons (zn ze .i64 (240:Int)) (.cons (zZ 1) (.cons .junk (.cons (zl za 2 a.n0 λjj=>Zu za (a.2 jj)) (.cons (zn za .i64 ((a.n0:Nat):Int)) (.cons .junk .nil))))))
abbrev gc1_eys(a:Zc)(i:Int)(z:Int×(Int->Bool)×(Int->Bool)):List Blk:=[.var (.cons (.rsl za 2 (Zc.n0 a) (λj=>Zu za (a.r0 j))) .nil),.any]
def gc1_lp(a:Zc):Lp:=lpL 58 4 2 2 48 [2,3,4,11,12,13] [(0,.own),(1,.own)] [] (Zc4 a) (ZfS a) (.exit 0) .ret (0,(λ(j_:Int)=>(za)),(λ(j_:Int)=>(za))) (YW a) (Gz a) (Zc.n0 a) (gc1_ets a) (gc1_eys a)
def gc1_need(a:Zc):Prop:=YC 2 [] (Zc4 a) (ZfS a) (0,(λ(j_:Int)=>(za)),(λ(j_:Int)=>(za))) (Zc4 a (0:Nat) (0,(λ(j_:Int)=>(za)),(λ(j_:Int)=>(za)))) (ZfS a (0:Nat) (0,(λ(j_:Int)=>(za)),(λ(j_:Int)=>(za))))
theorem gc1_fit(a:Zc):gc1_need a:=⟨rfl,⟨rfl,⟨rfl,λ_=>⟨rfl,rfl⟩⟩,trivial⟩⟩
theorem gc1_lp_ok(a:Zc)(hl:a.n0<=1000)(hl2:∀j,(a.r0 j).n1<=1000):(gc1_lp a).Ok P:=by
 refine YR (Zw hm hn (l:=[V8]) ⟨ZhQ,trivial⟩ (ls:=[gc2_in ]) ⟨gc2_in_ok,trivial⟩ ze) rfl (by kernel_rfl) (gc1_round a) exN Yv (λ_=>rfl) (rd:=(λ_ t y=>((t.nth 2).toInt,(λj=>(y.getD 1 .none).hasK .i64 j),(λj=>(y.getD 1 .none).getB .i64 j)))) (λi z=>(cC rfl (cC rfl rfl))) (λi=>(cC rfl (cC rfl rfl))) rfl (λi hlt hg=>?_) (λi z hi=>?_)
 ·have hltI:(i:Int)<(((Zc.n0 a):Nat):Int):=by omega
  refine⟨?_,⟨?_,⟨λhb0=>trivial,λhb0=>⟨?_,⟨λhb1=>trivial,λhb1=>trivial⟩⟩⟩⟩⟩
  all_goals(repeat'(first|exact rfl|exact λ_=>⟨rfl,rfl⟩|apply zy|intro _))
  all_goals(try simp only[decide_eq_true_eq,decide_eq_false_iff_not,yg,yw]at*)
  all_goals(try simp(disch:=omega) only[IntWalk.i64_in])
  all_goals(first|omega|exact hl2 _)
 ·have hw:=(IntWalk.i64_in ((i:Int)+1) ⟨by omega,by omega⟩)
  refine⟨?_,⟨?_,?_⟩⟩
  all_goals(first|exact⟨rfl,Yq (ts:=Zc4 a) hw rfl,⟨LeK.refl _,Wd λa=>⟨rfl,Le.soft rfl⟩,trivial⟩⟩|exact⟨rfl,rfl,(by repeat'(first|exact Le.refl _|exact Le.junk _ rfl|apply Le.cons)),⟨LeK.refl _,LeK.any _,trivial⟩⟩)
def gCheck_T(a:Zc):Tree V:=
 let q2:=(vi (0:Int))
 let q1:=(zl za 2 a.n0 λj=>Zu za (a.2 j))
 let q0:=(zf (zZ 1) (zf q2 (zf q1 (ci ((a.n0:Nat):Int) (zf q2 zh)))))
 zu (zf q2 q0=zf q2 q0/\zf q1 zh=zf q1 zh/\(zA=zA/\YD .i64 (λx=>(za,zC za za)) λk=>(za,zC ze za))/\True) (zB (bif Zp (Gz a) a.n0 then ze else za) (zw (zn ze .i64 (240:Int))) (zw (zn ze .i64 (0:Int))))
theorem ZpN(a:Zc):ZT (Zl P [V8] [gc1_lp a] ze) 400 58 (.cons (.agg (Y5 za a)) .nil)=gCheck_T a:=by kernel_rfl
def YH(a:Zc):Int:=
  (bif bif Zp (Gz a) a.n0 then ze else za then(240:Int)else(0:Int))
theorem ZpL(a:Zc)(h0:a.n0<=1000)(h1:∀j,(a.r0 j).n1<=1000):Zh P 58 (.cons (.agg (Y5 za a)) .nil) (.int za zA (YH a)):=
 Xn (Zw hm hn (l:=[V8]) ⟨ZhQ,trivial⟩ (ls:=[gc1_lp a]) ⟨gc1_lp_ok a h0 h1,trivial⟩ ze) 400 (Has.of hn Tryz.func58 rfl) (ZpN a) (Tree.Pre.mk (by refine⟨?_,⟨λ_=>trivial,λ_=>trivial⟩⟩;all_goals(first|exact gc1_fit a|(((repeat'(first|exact rfl|exact λ_=>⟨rfl,rfl⟩|apply zy|intro _));all_goals(try simp only[decide_eq_true_eq,decide_eq_false_iff_not]at*);all_goals omega))))) (by kernel_rfl) (by kernel_rfl)
def QK:Con:=Yd 58 (λx=>(.cons (.agg (Y5 za (ZG x.hd.inner))) .nil)) (λx=>(.int za zA (YH (ZG x.hd.inner)))) (λx=>(ZG x.hd.inner).n0<=1000/\(λ(a:Zc)=>∀j,(a.r0 j).n1<=1000) (ZG x.hd.inner))
theorem Zcq:QK.Ok P:=Yf (λx h=>ZpL _ h.1 h.2)
def eVcpu_T(a:Int):Tree V:=
 zw (zC za (bif decide (a>=(1:Int))then decide (a<=(16:Int))else za))
theorem Zo1(a:Int):ZT (Zl P [] [] ze) 400 99 (.cons (.int za .i64 a) .nil)=eVcpu_T a:=by kernel_rfl
def ZcH(a:Int):Bool:=
  (bif decide (a>=(1:Int))then decide (a<=(16:Int))else za)
theorem Zo0(a:Int) : Zh P 99 (.cons (.int za .i64 a) .nil) (.bool za (ZcH a)):=
 Xn (Zw hm hn (l:=[]) trivial (ls:=[]) trivial ze) 400 (Has.of hn Tryz.func99 rfl) (Zo1 a) (Tree.Pre.mk yj) (by kernel_rfl) (by kernel_rfl)
def U1:Con:=Qy 99 (.cons (.int za .i64 0) .nil) (λx=>ze) (λx=>(.bool za (ZcH x.hd.toInt))) (λx=>(.cons (.int za .i64 x.hd.toInt) .nil)) (λx=>True)
theorem ZhO:U1.Ok P:=QO (λ_=>rfl) (λx h=>yj) (λx h=>Zo0 _)
abbrev ZcI(a:YE)(i:Int)(z:Int):V:=(.cons (.ptr ze 0 0 0 0) (.cons (.int ze .i64 0) (.cons (.int za .i64 (z)) (.cons (.rsl za 5 (YE.n0 a) (λj=>ZP za (a.r0 j))) (.cons (.int za .i64 (((YE.n0 a):Nat):Int)) (.cons (.int za .i64 i) .nil))))))
abbrev ZcJ(a:YE)(i:Int)(z:Int):List Blk:=[.var (.cons (.rsl za 5 (YE.n0 a) (λj=>ZP za (a.r0 j))) .nil)]
def ec1_R(a:YE)(i:Int)(z:Int):Tree Rd:=
 let q0:=(zl za 5 a.n0 λjj=>ZP za (a.2 jj))
 zu ((0:Int)<=i/\i<((a.n0:Nat):Int)) (zB (bif bif bif decide ((a.2 (zk i)).f0<=z)then ze else bif decide ((a.2 (zk i)).f0>(32:Int))then ze else !ZcH (a.2 (zk i)).f1 then ze else za then ze else za) (zw (Ex.ret,ze,zf (pt 0) (zf (zn ze .i64 (260:Int)) (ci z (zf q0 (ci ((a.n0:Nat):Int) (ci i zh))))),[zN (zf q0 zh)])) (zw (Ex.normal,ze,zf (pt 0) (zf (zn ze .i64 (0:Int)) (ci (a.2 (zk i)).f0 (zf q0 (ci ((a.n0:Nat):Int) (ci (zD .i64 (i+(1:Int))) zh))))),[zN (zf q0 zh)])))
theorem ec1_round(a:YE):Yi P (Zl P [U1] [] ze) 59 3 1 1 70 [1,2,3,10,11,12] [(0,.own)] [] (ZcI a) (ZcJ a) (λi=>(bif decide (i<((a.n0:Nat):Int))then za else ze)) (.exit 0) (ec1_R a):=λB i z=>by kernel_rfl
def ZkA(a:YE)(k:Nat)(z:Int):Int:=(λ(i:Int)(z:Int)=>(bif bif bif bif decide ((a.2 (zk i)).f0<=z)then ze else bif decide ((a.2 (zk i)).f0>(32:Int))then ze else !ZcH (a.2 (zk i)).f1 then ze else za then ze else za then(z)else((a.2 (zk i)).f0))) k z
def ZaW(a:YE)(k:Nat):Int:=ZJ 0 (ZkA a) k
def Zh6(a:YE)(k:Nat):Bool:=(λ(i:Int)(z:Int)=>(bif bif bif bif decide ((a.2 (zk i)).f0<=z)then ze else bif decide ((a.2 (zk i)).f0>(32:Int))then ze else !ZcH (a.2 (zk i)).f1 then ze else za then ze else za then ze else za)) k (ZaW a k)
abbrev ec1_ets(a:YE)(i:Int)(z:Int):V:=(.cons (zQ ze 0 0 0 0) (.cons (zn ze .i64 (260:Int)) (.cons .junk (.cons (zl za 5 a.n0 λjj=>ZP za (a.2 jj)) (.cons (zn za .i64 ((a.n0:Nat):Int)) (.cons .junk .nil))))))
def ec1_lp(a:YE):Lp:=lpL 59 3 1 1 70 [1,2,3,10,11,12] [(0,.own)] [] (ZcI a) (ZcJ a) (.exit 0) .ret 0 (ZaW a) (Zh6 a) (YE.n0 a) (ec1_ets a) (ZcJ a)
def Zkz(a:YE):Prop:=YC 1 [] (ZcI a) (ZcJ a) 0 (ZcI a (0:Nat) 0) (ZcJ a (0:Nat) 0)
theorem ec1_fit(a:YE):Zkz a:=⟨rfl,⟨rfl,trivial⟩⟩
theorem ec1_lp_ok(a:YE)(hl:(YE.n0 a)<=1000):(ec1_lp a).Ok P:=by
 refine YR (Zw hm hn (l:=[U1]) ⟨ZhO,trivial⟩ (ls:=[]) trivial ze) rfl (by kernel_rfl) (ec1_round a) exN Yv (λ_=>rfl) (rd:=(λ_ t y=>(t.nth 2).toInt)) (λi z=>(cC rfl rfl)) (λi=>(cC rfl rfl)) rfl (λi hlt hg=>?_) (λi z hi=>?_)
 ·have hltI:(i:Int)<(((YE.n0 a):Nat):Int):=by omega
  refine⟨?_,⟨λhb0=>trivial,λhb0=>trivial⟩⟩
  all_goals(repeat'(first|exact rfl|exact λ_=>⟨rfl,rfl⟩|apply zy|intro _))
  all_goals(try simp only[decide_eq_true_eq,decide_eq_false_iff_not,yg,yw]at*)
  all_goals(try simp(disch:=omega) only[IntWalk.i64_in])
  all_goals(first|omega)
 ·have hw:=(IntWalk.i64_in ((i:Int)+1) ⟨by omega,by omega⟩)
  refine⟨?_,?_⟩
  all_goals(first|exact⟨rfl,Yq (ts:=ZcI a) hw rfl,Z5 _⟩|exact⟨rfl,rfl,(by repeat'(first|exact Le.refl _|exact Le.junk _ rfl|apply Le.cons)),Z5 _⟩)
abbrev ZeN(n:Nat)(r:Nat->XE)(x:Int)(i j:Int):V:=(.cons (.rsl za 5 n (λj=>ZP za (r j))) (.cons (.int za .i64 x) (.cons (.fn (.func 200) .nil .nil) (.cons (.int ze .i64 0) (.cons (.bool ze za) (.cons (.int za .i64 ((n:Nat):Int)) (.cons (.int za .i64 i) (.cons (.int za .i64 j) .nil))))))))
abbrev ZeO(n:Nat)(r:Nat->XE)(x:Int):List Blk:=[]
def bPort_T(n:Nat)(r:Nat->XE)(x:Int)(i j:Int):Tree (Ex×Bool×V×List Blk):=
 let q0:=zl za 5 n λj=>ZP za (r j)
 let q8:=V.fn (Fn.func (200:FuncId)) zh zh
 let q9:=vi (n:Int)
 let q10:=zn ze .i64 (0:Int)
 let q11:=vi x
 zB (decide (i<j)) (zu ((0:Int)<=half i j/\half i j<(n:Int)) (zB (decide (zD .i64 ((r (zk (half i j))).f0-x)<(0:Int))) (zw (Ex.normal,ze,zf q0 (zf q11 (zf q8 (zf q10 (zf (zC ze za) (zf q9 (ci (zD .i64 (half i j+(1:Int))) (ci j zh))))))),[])) (zw (Ex.normal,ze,zf q0 (zf q11 (zf q8 (zf q10 (zf (zC ze za) (zf q9 (ci i (ci (half i j) zh))))))),[])))) (zw (Ex.exit 0,ze,zf q0 (zf q11 (zf q8 (zf q10 (zf (zC ze za) (zf q9 (ci i (ci j zh))))))),[]))
theorem ZnB(B:Base)(n:Nat)(r:Nat->XE)(x:Int)(i j:Int):((ev (ZM P [] [199]) 400 199 (QZ P 199 3) B (Yl 0 49 [0,1,2,6,7,8,9,10] [] (ZeN n r x i j) (ZeO n r x))).bind λx=>zw (x.1,vwN 0 0 49 [0,1,2,6,7,8,9,10] [] x.2))=bPort_T n r x i j:=by kernel_rfl
def ZeM(n:Nat)(r:Nat->XE)(x:Int)(k:Nat):Bool:=(λ(h:Int)=>decide (zD zA (XE.f0 (r (zk (h)))-x)<(0:Int))) k
def JG(n:Nat)(r:Nat->XE)(x:Int):Nat:=Xp (ZeM n r x) n 0 n
def ZeL(n:Nat)(r:Nat->XE)(x:Int):Lp:=⟨199,3,λ_ s=>match vwN 0 0 49 [0,1,2,6,7,8,9,10] [] s with
 |(ze,(.cons (.rsl _ 5 nt0 ft0) (.cons (.int _ .i64 tx) (.cons (.fn (.func 200) .nil .nil) (.cons (.int _ .i64 t3) (.cons (.bool _ t4) (.cons (.int _ .i64 t5) (.cons (.int _ .i64 t6) (.cons (.int _ .i64 t7) .nil)))))))),[])=>bif zq s.n 0 then .need (n=nt0/\(λj=>ZP za (r j))=ft0/\x=tx/\0=t3/\za=t4/\((n:Nat):Int)=t5/\0=t6/\((n:Nat):Int)=t7)
  (.leaf (.exit 0,Yl 0 49 [0,1,2,6,7,8,9,10] [] (ZeN n r x ((JG n r x:Nat):Int) ((JG n r x:Nat):Int)) (ZeO n r x)))else .stuck
 |_=>.stuck⟩
theorem ZnA(n:Nat)(r:Nat->XE)(x:Int)(hl:n<=1000):(ZeL n r x).Ok P:=by
 refine KW (by kernel_rfl) λhin B s Q hq=>?_
 simp only[ZeL]at hq hin⊢
 split at hq
 ·rename_i q1 nt0 ft0 q2 tx q3 t3 q4 t4 q5 t5 q6 t6 q7 t7 heq
  cases hsn:zq s.n 0
  ·rw[hsn]at hq;exact hq.elim
  ·rw[hsn]at hq
   obtain⟨⟨rfl,rfl,rfl,rfl,rfl,rfl,rfl,rfl⟩,hq⟩:=hq
   have hsame:WT 0 0 49 [0,1,2,6,7,8,9,10] [] s (ZeN n r x 0 ((n:Nat):Int)) (ZeO n r x):=by
    refine⟨by rw[heq],by rw[heq];exact Le.soft rfl,by rw[heq];exact trivial⟩
   refine Zbl (k:=400) (f:=199) (Yz hm hn (l:=[]) trivial) rfl hin (ZeM n r x) n (λi j=>ZeN n r x i j) (ZeO n r x) Q (λi j=>ZnB B n r x i j) (λi j hij hjn=>?_) hq (zO hsn) hsame
   refine⟨λhc=>?_,λhc=>?_⟩
   ·have hlt:i<j:=by have:=of_decide_eq_true hc;omega
    have hh:=Zbe (i:=i) (j:=j) (by omega)
    refine⟨by rw[hh];omega,λhb=>?_,λhb=>?_⟩
    ·rw[hh]at hb⊢
     rw[IntWalk.i64_in ((((i+j)/2:Nat):Int)+1) ⟨by omega,by omega⟩]
     exact⟨rfl,hlt,trivial,λ_=>Le.soft rfl,λhl=>Bool.noConfusion ((show ZeM n r x ((i+j)/2)=ze from hb).symm.trans hl)⟩
    ·rw[hh]at hb⊢
     exact⟨rfl,hlt,trivial,λhl=>Bool.noConfusion ((show ZeM n r x ((i+j)/2)=za from hb).symm.trans hl),λ_=>Le.soft rfl⟩
   ·have hge:¬(i:Int)<(j:Int):=λh=>by rw[decide_eq_true h]at hc;cases hc
    have e:i=j:=by omega
    subst e
    exact⟨rfl,rfl,trivial,Le.soft rfl,rfl⟩
 ·exact hq.elim
def eAt_T(an:Nat)(a:Nat->XE)(b:Int):Tree V:=
 let q0:=((JG an a b:Nat):Int)
 zu (an=an/\((λj=>ZP za (a j))=λj=>ZP za (a j))/\b=b/\(0:Int)=(0:Int)/\za=za/\(an:Int)=(an:Int)/\(0:Int)=(0:Int)/\(an:Int)=(an:Int)) (zu (decide (q0<(an:Int))=ze->(0:Int)<=q0/\q0<(an:Int)) (zw (V.tup (ci (bif decide (q0<(an:Int))then q0 else q0) (zf (zC za (bif decide (q0<(an:Int))then zD .i64 ((a (zk q0)).f0-b)==(0:Int)else za)) zh)))))
theorem eAt_tree(an:Nat)(a:Nat->XE)(b:Int):ZT (Zl P [] [ZeL an a b] ze) 400 160 (.cons (.rsl za 5 an λj=>ZP za (a j)) (.cons (.int za .i64 b) .nil))=eAt_T an a b:=by kernel_rfl
def KM(an:Nat)(a:Nat->XE)(b:Int):Int:=
  (bif decide (((JG an a b:Nat):Int)<(an:Int))then((JG an a b:Nat):Int)else((JG an a b:Nat):Int))
def ZcG(an:Nat)(a:Nat->XE)(b:Int):Bool:=
  (bif decide (((JG an a b:Nat):Int)<(an:Int))then zD zA (XE.f0 (a (zk ((JG an a b:Nat):Int)))-b)==(0:Int)else za)
theorem eAt_meets(an:Nat)(a:Nat->XE)(b:Int)(h0:an<=1000):Zh P 160 (.cons (.rsl za 5 an λj=>ZP za (a j)) (.cons (.int za .i64 b) .nil)) (.tup (.cons (.int za zA (KM an a b)) (.cons (.bool za (ZcG an a b)) .nil))):=
 Xn (Zw hm hn (l:=[]) trivial (ls:=[ZeL an a b]) ⟨ZnA an a b h0,trivial⟩ ze) 400 (Has.of hn Tryz.func160 rfl) (eAt_tree an a b) (Tree.Pre.mk (zy (by first|exact bPort_fit an a b|(((repeat'(first|exact rfl|exact λ_=>⟨rfl,rfl⟩|apply zy|intro _));all_goals(try simp only[decide_eq_true_eq,decide_eq_false_iff_not]at*);all_goals omega))) (zy (by first|exact bPort_fit an a b|(((repeat'(first|exact rfl|exact λ_=>⟨rfl,rfl⟩|apply zy|intro _));all_goals(try simp only[decide_eq_true_eq,decide_eq_false_iff_not]at*);all_goals omega))) yj))) (by kernel_rfl) (by kernel_rfl)
def c_eAt:Con:=Yd 160 (λx=>(.cons (.rsl za 5 x.hd.Zi λj=>ZP za ((λj=>Vx (x.hd.Zn j)) j)) (.cons (.int za .i64 x.tl.hd.toInt) .nil))) (λx=>(.tup (.cons (.int za zA (KM x.hd.Zi (λj=>Vx (x.hd.Zn j)) x.tl.hd.toInt)) (.cons (.bool za (ZcG x.hd.Zi (λj=>Vx (x.hd.Zn j)) x.tl.hd.toInt)) .nil)))) (λx=>x.hd.Zi<=1000)
theorem Zj2:c_eAt.Ok P:=Yf (λx h=>eAt_meets _ _ _ h)
theorem Zky(n:Nat)(r:Nat->XE)(b:Int):0<=KM n r b/\KM n r b<=n/\(ZcG n r b=ze->KM n r b<n):=by
 have h:JG n r b<=n:=Zcp _ _ _ (Nat.zero_le _)
 have e:KM n r b=(JG n r b:Int):=by
  unfold KM;cases decide (((JG n r b:Nat):Int)<(n:Int))<;>rfl
 rw[e]
 refine⟨by omega,by omega,λh1=>?_⟩
 unfold ZcG at h1
 cases hc:decide (((JG n r b:Nat):Int)<(n:Int))with
 |true=>exact of_decide_eq_true hc
 |false=>rw[hc]at h1;cases h1
abbrev ZcK(a:YE)(i:Int)(z:Unit):V:=(.cons (.ptr ze 0 0 0 0) (.cons (.int ze .i64 0) (.cons (.rsl za 5 (YE.n0 a) (λj=>ZP za (a.r0 j))) (.cons (.int za .i64 (((YE.n0 a):Nat):Int)) (.cons (.int za .i64 i) .nil)))))
abbrev ZcL(a:YE)(i:Int)(z:Unit):List Blk:=[.var (.cons (.rsl za 5 (YE.n0 a) (λj=>ZP za (a.r0 j))) .nil)]
def ec2_R(a:YE)(i:Int)(z:Unit):Tree Rd:=
 let q2:=(zl za 5 a.n0 λjj=>ZP za (a.2 jj))
 let q0:=(zw (Ex.ret,ze,zf (pt 0) (zf (zn ze .i64 (260:Int)) (zf q2 (ci ((a.n0:Nat):Int) (ci i zh)))),[zN (zf q2 zh)]))
 let q1:=(zw (Ex.normal,ze,zf (pt 0) (zf (zn ze .i64 (0:Int)) (zf q2 (ci ((a.n0:Nat):Int) (ci (zD .i64 (i+(1:Int))) zh)))),[zN (zf q2 zh)]))
 let q3:=(a.2 (zk (KM a.n0 (λj=>(a.2 j)) (a.2 (zk i)).f2)))
 let q4:=(ci (a.2 (zk i)).f2 zh)
 let q5:=(zl za 5 a.n0 λj=>ZP za (a.2 j))
 zu ((0:Int)<=i/\i<((a.n0:Nat):Int)) (zB (bif (a.2 (zk i)).f2==(0:Int)then ze else za) q1 (zB (bif bif decide ((a.2 (zk i)).f2<(1:Int))then ze else decide ((a.2 (zk i)).f2>(32:Int))then ze else za) q0 (zu (zf q5 q4=zf q5 q4/\a.n0<=(1000:Nat)) (zB (bif !ZcG a.n0 (λj=>(a.2 j)) (a.2 (zk i)).f2 then ze else za) q0 (zu ((0:Int)<=KM a.n0 (λj=>(a.2 j)) (a.2 (zk i)).f2/\KM a.n0 (λj=>(a.2 j)) (a.2 (zk i)).f2<((a.n0:Nat):Int)) (zB (q3.f2 != (a.2 (zk i)).f0) q0 (zB (bif q3.f0==(a.2 (zk i)).f0 then ze else za) q0 q1)))))))
theorem ec2_round(a:YE):Yi P (Zl P [U1,c_eAt] [] ze) 59 10 1 1 70 [1,2,35,36,37] [(0,.own)] [] (ZcK a) (ZcL a) (λi=>(bif decide (i<((a.n0:Nat):Int))then za else ze)) (.exit 2) (ec2_R a):=λB i z=>by kernel_rfl
def Zh7(a:YE)(k:Nat):Bool:=(ec2_R a k ()).early
abbrev ec2_ets(a:YE)(i:Int)(z:Unit):V:=(.cons (zQ ze 0 0 0 0) (.cons (zn ze .i64 (260:Int)) (.cons (zl za 5 a.n0 λjj=>ZP za (a.2 jj)) (.cons (zn za .i64 ((a.n0:Nat):Int)) (.cons .junk .nil)))))
def ec2_lp(a:YE):Lp:=lpL 59 10 1 1 70 [1,2,35,36,37] [(0,.own)] [] (ZcK a) (ZcL a) (.exit 2) .ret () (λ_=>()) (Zh7 a) (YE.n0 a) (ec2_ets a) (ZcL a)
def ZkB(a:YE):Prop:=YC 1 [] (ZcK a) (ZcL a) () (ZcK a (0:Nat) ()) (ZcL a (0:Nat) ())
theorem ec2_fit(a:YE):ZkB a:=⟨rfl,⟨rfl,trivial⟩⟩
theorem ec2_lp_ok(a:YE)(hl:(YE.n0 a)<=1000):(ec2_lp a).Ok P:=by
 refine YR (Zw hm hn (l:=[U1,c_eAt]) ⟨ZhO,Zj2,trivial⟩ (ls:=[]) trivial ze) rfl (by kernel_rfl) (ec2_round a) exN Yv (λ_=>rfl) (step:=λ_ z=>z) (rd:=(λ_ t y=>())) (λi z=>rfl) (λi=>rfl) rfl (λi hlt hg=>?_) (λi z hi=>?_)
 ·have hltI:(i:Int)<(((YE.n0 a):Nat):Int):=by omega
  refine⟨?_,⟨λhb0=>trivial,λhb0=>⟨λhb1=>trivial,λhb1=>⟨?_,⟨λhb2=>trivial,λhb2=>⟨?_,⟨λhb3=>trivial,λhb3=>⟨λhb4=>trivial,λhb4=>trivial⟩⟩⟩⟩⟩⟩⟩⟩
  all_goals(repeat'(first|exact rfl|exact λ_=>⟨rfl,rfl⟩|apply zy|intro _))
  all_goals(try simp only[decide_eq_true_eq,decide_eq_false_iff_not,yg,yw]at*)
  all_goals(try simp(disch:=omega) only[IntWalk.i64_in])
  all_goals(first|omega|exact(Zky _ _ _).1|exact(Zky _ _ _).2.2 (nf ‹_›))
 ·have hw:=(IntWalk.i64_in ((i:Int)+1) ⟨by omega,by omega⟩)
  refine⟨?_,⟨?_,⟨?_,⟨?_,⟨?_,?_⟩⟩⟩⟩⟩
  all_goals(first|exact⟨rfl,Yq (ts:=ZcK a) (a:=()) hw rfl,Z5 _⟩|exact⟨rfl,rfl,(by repeat'(first|exact Le.refl _|exact Le.junk _ rfl|apply Le.cons)),Z5 _⟩)
def eCheck_T(a:YE):Tree V:=
 zu (Zkz a) (zB (bif Zp (Zh6 a) a.n0 then ze else za) (zw (zn ze .i64 (260:Int))) (zu (ZkB a) (zB (bif Zp (Zh7 a) a.n0 then ze else za) (zw (zn ze .i64 (260:Int))) (zw (zn ze .i64 (0:Int))))))
theorem ZoZ(a:YE):ZT (Zl P [U1,c_eAt] [ec1_lp a,ec2_lp a] ze) 400 59 (.cons (.agg (ZhW za a)) .nil)=eCheck_T a:=by kernel_rfl
def Gd(a:YE):Int:=
  (bif bif Zp (Zh6 a) a.n0 then ze else za then(260:Int)else bif bif Zp (Zh7 a) a.n0 then ze else za then(260:Int)else(0:Int))
theorem ZoX(a:YE)(h0:a.n0<=1000):Zh P 59 (.cons (.agg (ZhW za a)) .nil) (.int za zA (Gd a)):=
 Xn (Zw hm hn (l:=[U1,c_eAt]) ⟨ZhO,Zj2,trivial⟩ (ls:=[ec1_lp a,ec2_lp a]) ⟨ec1_lp_ok a h0,ec2_lp_ok a h0,trivial⟩ ze) 400 (Has.of hn Tryz.func59 rfl) (ZoZ a) (Tree.Pre.mk (by refine⟨?_,⟨λ_=>trivial,λ_=>⟨?_,⟨λ_=>trivial,λ_=>trivial⟩⟩⟩⟩;all_goals(first|exact ec1_fit a|exact ec2_fit a|(((repeat'(first|exact rfl|exact λ_=>⟨rfl,rfl⟩|apply zy|intro _));all_goals(try simp only[decide_eq_true_eq,decide_eq_false_iff_not]at*);all_goals omega))))) (by kernel_rfl) (by kernel_rfl)
def Ze9:Con:=Yd 59 (λx=>(.cons (.agg (ZhW za (Za9 x.hd.inner))) .nil)) (λx=>(.int za zA (Gd (Za9 x.hd.inner)))) (λx=>(Za9 x.hd.inner).n0<=1000)
theorem Zn3:Ze9.Ok P:=Yf (λx h=>ZoX _ h)
def vAlarm_T(a:Y0):Tree V:=
 zw (zC za (bif bif decide (a.f0>=(1:Int))then decide (a.f0<=(16:Int))else za then bif decide (a.f1>=(1:Int))then bif decide (a.f1<=(32:Int))then bif a.f2==(0:Int)then ze else bif decide (a.f2>=(1000:Int))then decide (a.f2<=(1125899906842624:Int))else za else za else za else za))
theorem ZrE(a:Y0):ZT (Zl P [] [] ze) 400 101 (.cons (.agg (ZF za a)) .nil)=vAlarm_T a:=by kernel_rfl
def Zjn(a:Y0):Bool:=
  (bif bif decide (Y0.f0 a>=(1:Int))then decide (Y0.f0 a<=(16:Int))else za then bif decide (Y0.f1 a>=(1:Int))then bif decide (Y0.f1 a<=(32:Int))
  then bif Y0.f2 a==(0:Int)then ze else bif decide (Y0.f2 a>=(1000:Int))then decide (Y0.f2 a<=(1125899906842624:Int))else za else za else za
  else za)
theorem ZrD(a:Y0) : Zh P 101 (.cons (.agg (ZF za a)) .nil) (.bool za (Zjn a)):=
 Xn (Zw hm hn (l:=[]) trivial (ls:=[]) trivial ze) 400 (Has.of hn Tryz.func101 rfl) (ZrE a) (Tree.Pre.mk yj) (by kernel_rfl) (by kernel_rfl)
def Zcs:Con:=Qy 101 (.cons (.agg Zl5) .nil) (λx=>ze) (λx=>(.bool za (Zjn (XH x.hd.inner)))) (λx=>(.cons (.agg (ZF za (XH x.hd.inner))) .nil)) (λx=>True)
theorem Zkf:Zcs.Ok P:=QO (λ_=>rfl) (λx h=>yj) (λx h=>ZrD _)
abbrev ZdW(a:Xi)(i:Int)(z:Int):V:=(.cons (.ptr ze 0 0 0 0) (.cons (.int ze .i64 0) (.cons (.int za .i64 (z)) (.cons (.rsl za 3 (Xi.n2 a) (λj=>ZF za (a.r2 j))) (.cons (.int za .i64 (((Xi.n2 a):Nat):Int)) (.cons (.int za .i64 i) .nil))))))
abbrev ZdX(a:Xi)(i:Int)(z:Int):List Blk:=[.var (.cons (.int za .i64 (Xi.f0 a)) (.cons (.rsl za 2 (Xi.n1 a) (λj=>ZC za (a.r1 j))) (.cons (.rsl za 3 (Xi.n2 a) (λj=>ZF za (a.r2 j))) .nil)))]
def vc1_R(a:Xi)(i:Int)(z:Int):Tree Rd:=
 let q1:=(zl za 3 a.n2 λjj=>ZF za (a.5 jj))
 let q0:=[zN (ci a.f0 (zf (zl za 2 a.n1 λjj=>ZC za (a.3 jj)) (zf q1 zh)))]
 zu ((0:Int)<=i/\i<((a.n2:Nat):Int)) (zB (bif bif bif !Zjn (a.5 (zk i))then ze else decide ((a.5 (zk i)).f0<=z)then ze else za then ze else za) (zw (Ex.ret,ze,zf (pt 0) (zf (zn ze .i64 (280:Int)) (ci z (zf q1 (ci ((a.n2:Nat):Int) (ci i zh))))),q0)) (zw (Ex.normal,ze,zf (pt 0) (zf (zn ze .i64 (0:Int)) (ci (a.5 (zk i)).f0 (zf q1 (ci ((a.n2:Nat):Int) (ci (zD .i64 (i+(1:Int))) zh))))),q0)))
theorem vc1_round(a:Xi):Yi P (Zl P [Zcs] [] ze) 60 3 1 1 56 [1,2,3,12,13,14] [(0,.own)] [] (ZdW a) (ZdX a) (λi=>(bif decide (i<((a.n2:Nat):Int))then za else ze)) (.exit 0) (vc1_R a):=λB i z=>by kernel_rfl
def vc1_step(a:Xi)(k:Nat)(z:Int):Int:=(vc1_R a k z).carry ((λt y=>(t.nth 2).toInt)) z
def vc1_acc(a:Xi)(k:Nat):Int:=ZJ 0 (vc1_step a) k
def Zjo(a:Xi)(k:Nat):Bool:=(vc1_R a k (vc1_acc a k)).early
abbrev vc1_ets(a:Xi)(i:Int)(z:Int):V:=(.cons (zQ ze 0 0 0 0) (.cons (zn ze .i64 (280:Int)) (.cons .junk (.cons (zl za 3 a.n2 λjj=>ZF za (a.5 jj)) (.cons (zn za .i64 ((a.n2:Nat):Int)) (.cons .junk .nil))))))
def vc1_lp(a:Xi):Lp:=lpL 60 3 1 1 56 [1,2,3,12,13,14] [(0,.own)] [] (ZdW a) (ZdX a) (.exit 0) .ret 0 (vc1_acc a) (Zjo a) (Xi.n2 a) (vc1_ets a) (ZdX a)
def ZmG(a:Xi):Prop:=YC 1 [] (ZdW a) (ZdX a) 0 (ZdW a (0:Nat) 0) (ZdX a (0:Nat) 0)
theorem vc1_fit(a:Xi):ZmG a:=⟨rfl,⟨rfl,trivial⟩⟩
theorem vc1_lp_ok(a:Xi)(hl:(Xi.n2 a)<=1000):(vc1_lp a).Ok P:=by
 refine YR (Zw hm hn (l:=[Zcs]) ⟨Zkf,trivial⟩ (ls:=[]) trivial ze) rfl (by kernel_rfl) (vc1_round a) exN Yv (λ_=>rfl) (rd:=(λ_ t y=>(t.nth 2).toInt)) (λi z=>rfl) (λi=>rfl) rfl (λi hlt hg=>?_) (λi z hi=>?_)
 ·have hltI:(i:Int)<(((Xi.n2 a):Nat):Int):=by omega
  refine⟨?_,⟨λhb0=>trivial,λhb0=>trivial⟩⟩
  all_goals(repeat'(first|exact rfl|exact λ_=>⟨rfl,rfl⟩|apply zy|intro _))
  all_goals(try simp only[decide_eq_true_eq,decide_eq_false_iff_not,yg,yw]at*)
  all_goals(try simp(disch:=omega) only[IntWalk.i64_in])
  all_goals(first|omega)
 ·have hw:=(IntWalk.i64_in ((i:Int)+1) ⟨by omega,by omega⟩)
  refine⟨?_,?_⟩
  all_goals(first|exact⟨rfl,Yq (ts:=ZdW a) hw rfl,Z5 _⟩|exact⟨rfl,rfl,(by repeat'(first|exact Le.refl _|exact Le.junk _ rfl|apply Le.cons)),Z5 _⟩)
abbrev wl_ts(a:Yx)(i:Int)(z:Unit):V:=(.cons (.ptr ze 0 0 0 0) (.cons (.int ze .i64 0) (.cons (.rsl za 2 (Yx.n1 a) (λj=>ZC za (a.r1 j))) (.cons (.int za .i64 (((Yx.n1 a):Nat):Int)) (.cons (.int za .i64 i) .nil)))))
abbrev wl_ys(a:Yx)(i:Int)(z:Unit):List Blk:=[.var (.cons (.int za .i64 (Yx.f0 a)) (.cons (.rsl za 2 (Yx.n1 a) (λj=>ZC za (a.r1 j))) .nil))]
def wl_R(a:Yx)(i:Int)(z:Unit):Tree Rd:=
 let q0:=(zl za 2 a.n1 λjj=>ZC za (a.3 jj))
 let q1:=[zN (ci a.f0 (zf q0 zh))]
 let q2:=((a.3 (zk i)).f1>(1125899906842624:Int))
 zu (((0:Int)<=i/\i<((a.n1:Nat):Int))/\((!bif decide ((a.3 (zk i)).f0>=(0:Int))then decide ((a.3 (zk i)).f0<(32:Int))else za)=za->decide ((a.3 (zk i)).f1<=a.f0)=za->decide q2=za->decide (i>(0:Int))=ze->(0:Int)<=zD .i64 (i-(1:Int))/\zD .i64 (i-(1:Int))<((a.n1:Nat):Int))) (zB (bif bif bif !bif decide ((a.3 (zk i)).f0>=(0:Int))then decide ((a.3 (zk i)).f0<(32:Int))else za then ze else bif decide ((a.3 (zk i)).f1<=a.f0)then ze else bif decide q2 then ze else bif decide (i>(0:Int))then decide ((a.3 (zk (zD .i64 (i-(1:Int))))).f0>=(a.3 (zk i)).f0)else za then ze else za then ze else za) (zw (Ex.ret,ze,zf (pt 0) (zf (zn ze .i64 (250:Int)) (zf q0 (ci ((a.n1:Nat):Int) (ci i zh)))),q1)) (zw (Ex.normal,ze,zf (pt 0) (zf (zn ze .i64 (0:Int)) (zf q0 (ci ((a.n1:Nat):Int) (ci (zD .i64 (i+(1:Int))) zh)))),q1)))
theorem wl_round(a:Yx):Yi P (Zl P [] [] ze) 102 4 1 1 54 [1,2,14,15,16] [(0,.own)] [] (wl_ts a) (wl_ys a) (λi=>(bif decide (i<((a.n1:Nat):Int))then za else ze)) (.exit 0) (wl_R a):=λB i z=>by kernel_rfl
def wl_bad(a:Yx)(k:Nat):Bool:=(wl_R a k ()).early
abbrev wl_ets(a:Yx)(i:Int)(z:Unit):V:=(.cons (zQ ze 0 0 0 0) (.cons (zn ze .i64 (250:Int)) (.cons (zl za 2 a.n1 λjj=>ZC za (a.3 jj)) (.cons (zn za .i64 ((a.n1:Nat):Int)) (.cons .junk .nil)))))
def wl_lp(a:Yx):Lp:=lpL 102 4 1 1 54 [1,2,14,15,16] [(0,.own)] [] (wl_ts a) (wl_ys a) (.exit 0) .ret () (λ_=>()) (wl_bad a) (Yx.n1 a) (wl_ets a) (wl_ys a)
def wl_need(a:Yx):Prop:=YC 1 [] (wl_ts a) (wl_ys a) () (wl_ts a (0:Nat) ()) (wl_ys a (0:Nat) ())
theorem wl_fit(a:Yx):wl_need a:=⟨rfl,⟨rfl,trivial⟩⟩
theorem wl_lp_ok(a:Yx)(hl:(Yx.n1 a)<=1000):(wl_lp a).Ok P:=by
 refine YR (Zw hm hn (l:=[]) trivial (ls:=[]) trivial ze) rfl (by kernel_rfl) (wl_round a) exN Yv (λ_=>rfl) (step:=λ_ z=>z) (rd:=(λ_ t y=>())) (λi z=>rfl) (λi=>rfl) rfl (λi hlt hg=>?_) (λi z hi=>?_)
 ·have hltI:(i:Int)<(((Yx.n1 a):Nat):Int):=by omega
  refine⟨?_,⟨λhb0=>trivial,λhb0=>trivial⟩⟩
  all_goals(repeat'(first|exact rfl|exact λ_=>⟨rfl,rfl⟩|apply zy|intro _))
  all_goals(try simp only[decide_eq_true_eq,decide_eq_false_iff_not,yg,yw]at*)
  all_goals(try simp(disch:=omega) only[IntWalk.i64_in])
  all_goals(first|omega)
 ·have hw:=(IntWalk.i64_in ((i:Int)+1) ⟨by omega,by omega⟩)
  refine⟨?_,?_⟩
  all_goals(first|exact⟨rfl,Yq (ts:=wl_ts a) (a:=()) hw rfl,Z5 _⟩|exact⟨rfl,rfl,(by repeat'(first|exact Le.refl _|exact Le.junk _ rfl|apply Le.cons)),Z5 _⟩)
def wlCheck_T(a:Yx):Tree V:=
 zB (bif bif decide (a.f0<(0:Int))then ze else decide (a.f0>(1125899906842624:Int))then ze else za) (zw (zn ze .i64 (250:Int))) (zu (wl_need a) (zB (bif Zp (wl_bad a) a.n1 then ze else za) (zw (zn ze .i64 (250:Int))) (zw (zn ze .i64 (0:Int)))))
theorem Zsb(a:Yx):ZT (Zl P [] [wl_lp a] ze) 400 102 (.cons (.agg (Vk za a)) .nil)=wlCheck_T a:=by kernel_rfl
def ZbT(a:Yx):Int:=
  (bif bif bif decide (a.f0<(0:Int))then ze else decide (a.f0>(1125899906842624:Int))then ze else za then(250:Int)else bif bif Zp (wl_bad a) a.n1 then
  ze else za then(250:Int)else(0:Int))
theorem Zsa(a:Yx)(h0:a.n1<=1000):Zh P 102 (.cons (.agg (Vk za a)) .nil) (.int za zA (ZbT a)):=
 Xn (Zw hm hn (l:=[]) trivial (ls:=[wl_lp a]) ⟨wl_lp_ok a h0,trivial⟩ ze) 400 (Has.of hn Tryz.func102 rfl) (Zsb a) (Tree.Pre.mk (by refine⟨λ_=>trivial,λ_=>⟨?_,⟨λ_=>trivial,λ_=>trivial⟩⟩⟩;all_goals(first|exact wl_fit a|(repeat'(first|exact rfl|apply zy))))) (by kernel_rfl) (by kernel_rfl)
def Zcv:Con:=Yd 102 (λx=>(.cons (.agg (Vk za (ZY x.hd.inner))) .nil)) (λx=>(.int za zA (ZbT (ZY x.hd.inner)))) (λx=>(ZY x.hd.inner).n1<=1000)
theorem Zkl:Zcv.Ok P:=Yf (λx h=>Zsa _ h)
abbrev ZeR(d:Yx)(x:Int)(i j:Int):V:=(.cons (.rsl za 2 d.n1 (λj=>ZC za (d.r1 j))) (.cons (.int za .i64 x) (.cons (.fn (.func 243) .nil (.cons (.ptr ze 1 0 0 0) .nil)) (.cons (.int ze .i64 0) (.cons (.bool ze za) (.cons (.int za .i64 ((d.n1:Nat):Int)) (.cons (.int za .i64 i) (.cons (.int za .i64 j) .nil))))))))
abbrev ZeS(d:Yx)(x:Int):List Blk:=[.var (.cons (.int za .i64 d.f0) (.cons (.rsl za 2 d.n1 (λj=>ZC za (d.r1 j))) .nil)),.var (.cons (.fn (.func 202) .nil .nil) .nil)]
def bTimer_T(d:Yx)(x:Int)(i j:Int):Tree (Ex×Bool×V×List Blk):=
 let q0:=zl za 2 d.n1 λj=>ZC za (d.r1 j)
 let q10:=[zN (ci d.f0 (zf q0 zh)),zN (zf (V.fn (Fn.func (202:FuncId)) zh zh) zh)]
 let q11:=V.fn (Fn.func (243:FuncId)) zh (zf (pt 1) zh)
 let q12:=vi ((d.n1:Nat):Int)
 let q13:=zn ze .i64 (0:Int)
 let q14:=vi x
 zB (decide (i<j)) (zu ((0:Int)<=half i j/\half i j<((d.n1:Nat):Int)) (zB (decide (XY (d.r1 (zk (half i j))).f0 x<(0:Int))) (zw (Ex.normal,ze,zf q0 (zf q14 (zf q11 (zf q13 (zf (zC ze za) (zf q12 (ci (zD .i64 (half i j+(1:Int))) (ci j zh))))))),q10)) (zw (Ex.normal,ze,zf q0 (zf q14 (zf q11 (zf q13 (zf (zC ze za) (zf q12 (ci i (ci (half i j) zh))))))),q10)))) (zw (Ex.exit 0,ze,zf q0 (zf q14 (zf q11 (zf q13 (zf (zC ze za) (zf q12 (ci i (ci j zh))))))),q10))
theorem ZnD(B:Base)(d:Yx)(x:Int)(i j:Int):((ev (ZM P [Jm] [242]) 400 242 (QZ P 242 3) B (Yl 2 49 [0,1,2,6,7,8,9,10] [(0,.own),(1,.own)] (ZeR d x i j) (ZeS d x))).bind λx=>zw (x.1,vwN 2 2 49 [0,1,2,6,7,8,9,10] [(0,.own),(1,.own)] x.2))=bTimer_T d x i j:=by kernel_rfl
def ZeQ(d:Yx)(x:Int)(k:Nat):Bool:=(λ(h:Int)=>decide (XY (J9.f0 (d.r1 (zk (h)))) x<(0:Int))) k
def WK(d:Yx)(x:Int):Nat:=Xp (ZeQ d x) d.n1 0 d.n1
def ZeP(d:Yx)(x:Int):Lp:=⟨242,3,λ_ s=>match vwN 2 2 49 [0,1,2,6,7,8,9,10] [(0,.own),(1,.own)] s with
 |(ze,(.cons (.rsl _ 2 nt0 ft0) (.cons (.int _ .i64 tx) (.cons (.fn (.func 243) .nil (.cons (.ptr ze 1 0 0 0) .nil)) (.cons (.int _ .i64 t3) (.cons (.bool _ t4) (.cons (.int _ .i64 t5) (.cons (.int _ .i64 t6) (.cons (.int _ .i64 t7) .nil)))))))),[.var (.cons (.int _ .i64 w0) (.cons (.rsl _ 2 nu01 fu01) .nil)),.var (.cons (.fn (.func 202) .nil .nil) .nil)])=>bif zq s.n 2 then .need (d.n1=nt0/\(λj=>ZC za (d.r1 j))=ft0/\x=tx/\0=t3/\za=t4/\((d.n1:Nat):Int)=t5/\0=t6/\((d.n1:Nat):Int)=t7/\d.f0=w0/\d.n1=nu01/\(λj=>ZC za (d.r1 j))=fu01)
  (.leaf (.exit 0,Yl 2 49 [0,1,2,6,7,8,9,10] [(0,.own),(1,.own)] (ZeR d x ((WK d x:Nat):Int) ((WK d x:Nat):Int)) (ZeS d x)))else .stuck
 |_=>.stuck⟩
theorem ZnC(d:Yx)(x:Int)(hl:d.n1<=1000):(ZeP d x).Ok P:=by
 refine KW (by kernel_rfl) λhin B s Q hq=>?_
 simp only[ZeP]at hq hin⊢
 split at hq
 ·rename_i q1 nt0 ft0 q2 tx q3 t3 q4 t4 q5 t5 q6 t6 q7 t7 q8 w0 q9 nu01 fu01 heq
  cases hsn:zq s.n 2
  ·rw[hsn]at hq;exact hq.elim
  ·rw[hsn]at hq
   obtain⟨⟨rfl,rfl,rfl,rfl,rfl,rfl,rfl,rfl,rfl,rfl,rfl⟩,hq⟩:=hq
   have hsame:WT 2 2 49 [0,1,2,6,7,8,9,10] [(0,.own),(1,.own)] s (ZeR d x 0 ((d.n1:Nat):Int)) (ZeS d x):=by
    refine⟨by rw[heq],by rw[heq];exact Le.soft rfl,by rw[heq];exact⟨LeK.var (Le.soft rfl),LeK.var (Le.soft rfl),trivial⟩⟩
   refine Zbl (k:=400) (f:=242) (Yz hm hn (l:=[Jm]) ⟨Zay,trivial⟩) rfl hin (ZeQ d x) d.n1 (λi j=>ZeR d x i j) (ZeS d x) Q (λi j=>ZnD B d x i j) (λi j hij hjn=>?_) hq (zO hsn) hsame
   refine⟨λhc=>?_,λhc=>?_⟩
   ·have hlt:i<j:=by have:=of_decide_eq_true hc;omega
    have hh:=Zbe (i:=i) (j:=j) (by omega)
    refine⟨by rw[hh];omega,λhb=>?_,λhb=>?_⟩
    ·rw[hh]at hb⊢
     rw[IntWalk.i64_in ((((i+j)/2:Nat):Int)+1) ⟨by omega,by omega⟩]
     exact⟨rfl,hlt,⟨LeK.refl _,LeK.refl _,trivial⟩,λ_=>Le.soft rfl,λhl=>Bool.noConfusion ((show ZeQ d x ((i+j)/2)=ze from hb).symm.trans hl)⟩
    ·rw[hh]at hb⊢
     exact⟨rfl,hlt,⟨LeK.refl _,LeK.refl _,trivial⟩,λhl=>Bool.noConfusion ((show ZeQ d x ((i+j)/2)=za from hb).symm.trans hl),λ_=>Le.soft rfl⟩
   ·have hge:¬(i:Int)<(j:Int):=λh=>by rw[decide_eq_true h]at hc;cases hc
    have e:i=j:=by omega
    subst e
    exact⟨rfl,rfl,⟨LeK.refl _,LeK.refl _,trivial⟩,Le.soft rfl,rfl⟩
 ·exact hq.elim
def wlFind_T(a:Yx)(b:Int):Tree V:=
 let q0:=((WK a b:Nat):Int)
 let q1:=(ci a.f0 (zf (zl za 2 a.n1 λj=>ZC za (a.3 j)) zh))
 let q2:=(q0<((a.n1:Nat):Int))
 zu (a.n1=a.n1/\((λj=>ZC za (a.3 j))=λj=>ZC za (a.3 j))/\b=b/\(0:Int)=(0:Int)/\za=za/\((a.n1:Nat):Int)=((a.n1:Nat):Int)/\(0:Int)=(0:Int)/\((a.n1:Nat):Int)=((a.n1:Nat):Int)/\a.f0=a.f0/\a.n1=a.n1/\(λj=>ZC za (a.3 j))=λj=>ZC za (a.3 j)) (zu (decide q2=ze->(0:Int)<=q0/\q0<((a.n1:Nat):Int)) (zu ((bif decide q2 then XY (a.3 (zk q0)).f0 b==(0:Int)else za)=ze->zf (zJ q1) zh=zf (zJ q1) zh/\a.n1<=(1000:Nat)) (zw (V.tup (ci (bif bif decide q2 then XY (a.3 (zk q0)).f0 b==(0:Int)else za then bif decide q2 then q0 else q0 else bif decide q2 then q0 else q0) (zf (zC za (bif bif decide q2 then XY (a.3 (zk q0)).f0 b==(0:Int)else za then ZbT (ZY q1)==(0:Int)else za)) zh))))))
theorem Zsd(a:Yx)(b:Int):ZT (Zl P [Zcv,Jm] [ZeP a b] ze) 400 164 (.cons (.agg (Vk za a)) (.cons (.int za .i64 b) .nil))=wlFind_T a b:=by kernel_rfl
def KE(a:Yx)(b:Int):Int:=
  (bif bif decide (((WK a b:Nat):Int)<((a.n1:Nat):Int))then XY (a.3 (zk ((WK a b:Nat):Int))).f0 b==(0:Int)else za then bif decide
  (((WK a b:Nat):Int)<((a.n1:Nat):Int))then((WK a b:Nat):Int)else((WK a b:Nat):Int)else bif decide (((WK a b:Nat):Int)<
  ((a.n1:Nat):Int))then((WK a b:Nat):Int)else((WK a b:Nat):Int))
def Zam(a:Yx)(b:Int):Bool:=
  (bif bif decide (((WK a b:Nat):Int)<((a.n1:Nat):Int))then XY (a.3 (zk ((WK a b:Nat):Int))).f0 b==(0:Int)else za then ZbT
  (ZY (zf (zn za .i64 a.f0) (zf (zl za 2 a.n1 λj=>ZC za (a.3 j)) zh)))==(0:Int)else za)
theorem Zsc(a:Yx)(b:Int)(h0:a.n1<=1000):Zh P 164 (.cons (.agg (Vk za a)) (.cons (.int za .i64 b) .nil)) (.tup (.cons (.int za zA (KE a b)) (.cons (.bool za (Zam a b)) .nil))):=
 Xn (Zw hm hn (l:=[Zcv,Jm]) ⟨Zkl,Zay,trivial⟩ (ls:=[ZeP a b]) ⟨ZnC a b h0,trivial⟩ ze) 400 (Has.of hn Tryz.func164 rfl) (Zsd a b) (Tree.Pre.mk (by refine⟨?_,⟨?_,⟨?_,trivial⟩⟩⟩;all_goals(first|exact bTimer_fit a b|(((repeat'(first|exact rfl|exact λ_=>⟨rfl,rfl⟩|apply zy|intro _));all_goals(try simp only[decide_eq_true_eq,decide_eq_false_iff_not]at*);all_goals omega))))) (by kernel_rfl) (by kernel_rfl)
def ZhT:Con:=Yd 164 (λx=>(.cons (.agg (Vk za (ZY x.hd.inner))) (.cons (.int za .i64 x.tl.hd.toInt) .nil))) (λx=>(.tup (.cons (.int za zA (KE (ZY x.hd.inner) x.tl.hd.toInt)) (.cons (.bool za (Zam (ZY x.hd.inner) x.tl.hd.toInt)) .nil)))) (λx=>(ZY x.hd.inner).n1<=1000)
theorem Zoa:ZhT.Ok P:=Yf (λx h=>Zsc _ _ h)
end Go.Proofs.YthhbdbeglmkijaaGreatDoor
end
