/- live's room: its inner loop -/
import Derived.Test.YthhbdbeglmkijaaGreatDoorMAk
import Derived.Test.YthhbdbeglmkijaaGreatDoorMAp
import Derived.Test.YthhbdbeglmkijaaGreatDoorMAg
import Derived.Test.YthhbdbeglmkijaaGreatDoorMAm
import Derived.Test.YthhbdbeglmkijaaGreatDoorMAj
import Derived.Test.YthhbdbeglmkijaaGreatDoorMAo
import Derived.Test.YthhbdbeglmkijaaGreatDoorMAf
set_option maxRecDepth 100000
set_option linter.unusedVariables false
set_option linter.unusedSimpArgs false
noncomputable section
open Bool renaming true→ze,false→za,not_eq_true'→yj,not_eq_false'→yu,and_eq_true→zM,and_eq_false_iff→yF
open Go.Fw.V renaming rsl→zl,cons→zf,int→zn,nil→zh,bool→zC,soft→yg,ptr→zV,agg→zH
open Int renaming toNat→zi
open Go.Fw.Tree renaming need→zw,leaf→zx,node→zD
open Prod renaming fst→zL,snd→zu
open Go.IntKind renaming wrap→zy,i64→zq,u32→yC,u64→yG,bits→zR
open Go.Fw.Blk renaming var→zN
open Nat renaming beq→zo,le_refl→zJ,zero_add→z8,blt→zG,ble→zK
open And renaming intro→zB
open PUnit renaming unit→zY
namespace Go.Proofs.YthhbdbeglmkijaaGreatDoor
open Go.Fw
abbrev rm2_ts(d:Za)(gn:Nat)(gr:Nat->DT3)(sa:Int)(p:Zg)(gu:Ze)(ga:Zd)(rn:Nat)(rr:Nat->Zc)(w:Int)(m:Nat)(r:Nat->DT3)(i:Int)(z:Nat×(Nat->Zq)):V:=(.cons (.ptr ze 0 0 0 0) (.cons (.bool ze za) (.cons (.osl za 1 1 0 z.1) (.cons (.rsl za 1 rn (λj=>Qz za (rr j))) (.cons (.int za .i64 ((rn:Nat):Int)) (.cons (.int za .i64 w) (.cons (.rsl za 1 m (λj=>ZP za (r j))) (.cons (.int za .i64 ((m:Nat):Int)) (.cons (.int za .i64 i) .nil)))))))))
abbrev rm2_ys(d:Za)(gn:Nat)(gr:Nat->DT3)(sa:Int)(p:Zg)(gu:Ze)(ga:Zd)(rn:Nat)(rr:Nat->Zc)(w:Int)(m:Nat)(r:Nat->DT3)(i:Int)(z:Nat×(Nat->Zq)):List Blk:=[.var (.cons (.rptr za 16 1 (λ_=>chV d gn gr sa p gu ga) 0 0) .nil),.arr 1 z.1 (λj=>ZL za (z.2 j))]
def rm2_R(d:Za)(gn:Nat)(gr:Nat->DT3)(sa:Int)(p:Zg)(gu:Ze)(ga:Zd)(rn:Nat)(rr:Nat->Zc)(w:Int)(m:Nat)(r:Nat->DT3)(i:Int)(z:Nat×(Nat->Zq)):Tree Rd:=
 let q3:=(zl za 4 gu.n0 λj=>Zr za (gu.2 j))
 let q4:=(zl za 4 gu.n1 λj=>Zn za (gu.4 j))
 let q0:=(V.rptr za (16:Nat) (1:Nat) (λjj=>ci d.f0 (zf (zl za 2 d.n1 λj=>ZR za (d.3 j)) (zf (zl za 1 p.n0 λj=>zf (zn za .u32 (p.2 j).f0) zh) (zf q3 (zf q4 (zf (zl za 2 ga.n0 λj=>Zw za (ga.2 j)) (zf (zl za 11 d.n6 λj=>Zo za (d.13 j)) (zf (zl za 2 d.n7 λj=>ZO za (d.15 j)) (zf (zl za 5 d.n8 λj=>ZI za (d.17 j)) (ci d.f9 (zf (zl za 2 d.n10 λj=>ZE za (d.20 j)) (zf (zl za 3 d.n11 λj=>Zx za (d.22 j)) (zf (zl za 2 d.n12 λj=>Zt za (d.24 j)) (zf (zn za .u64 d.f13) (zf (zl za 1 gn λj=>ci (gr j).f0 zh) (ci sa zh)))))))))))))))) (0:Nat) (0:Nat))
 let q1:=(ZH (zf q3 (zf q4 zh)))
 let q2:=(zf q0 (ci (r (zi i)).f0 zh))
 let q5:=(gu.2 (zi (Zk q1 (r (zi i)).f0)))
 zw (((0:Int)<=i/\i<(m:Int))/\(sR q2 q2/\gu.n0<=(1000:Nat)/\gu.n1<=(1000:Nat)/\((0:Int)<=Zk q1 (r (zi i)).f0/\Zk q1 (r (zi i)).f0<((gu.n0:Nat):Int))/\(0:Int)<=q5.f3/\q5.f3<((p.n0:Nat):Int))/\zL z<=zL z/\fits (zL z+(1:Nat)) (4:Nat)) (zx (Ex.normal,ze,zf (pt 0) (zf (zC ze za) (zf (V.osl za 1 1 0 (zL z+(1:Nat))) (zf (zl za 1 rn λjj=>zf (zl za 1 (Zc.n0 (rr jj)) λj=>ci ((rr jj).2 j).f0 zh) zh) (ci (rn:Int) (ci w (zf (zl za 1 m λjj=>ci (r jj).f0 zh) (ci (m:Int) (ci (zy .i64 (i+(1:Int))) zh)))))))),[zN (zf q0 zh),Blk.arr 1 (zL z+(1:Nat)) λjj=>bif zo jj (zL z+nat_lit 0)then zf (zn za .u32 (Yb (Z0 (zf (zl za 1 p.n0 λj=>ZL za (p.2 j)) zh)) q1 (r (zi i)).f0)) zh else zf (zn za .u32 (z.2 jj).f0) zh]))
theorem rm2_round(d:Za)(gn:Nat)(gr:Nat->DT3)(sa:Int)(p:Zg)(gu:Ze)(ga:Zd)(rn:Nat)(rr:Nat->Zc)(w:Int)(m:Nat)(r:Nat->DT3):Yo P (Zp P [Uk] [] ze) 78 8 1 2 44 [1,2,5,21,22,23,27,28,29] [(0,.own),(1,.tmp 5)] [] (rm2_ts d gn gr sa p gu ga rn rr w m r) (rm2_ys d gn gr sa p gu ga rn rr w m r) (λi=>(bif decide (i<(m:Int))then za else ze)) (.exit 2) (rm2_R d gn gr sa p gu ga rn rr w m r):=λB i z=>by kernel_rfl
def Zap(d:Za)(gn:Nat)(gr:Nat->DT3)(sa:Int)(p:Zg)(gu:Ze)(ga:Zd)(rn:Nat)(rr:Nat->Zc)(w:Int)(m:Nat)(r:Nat->DT3)(k:Nat)(z:Nat×(Nat->Zq)):Nat×(Nat->Zq):=(λ(i:Int)(z:Nat×(Nat->Zq))=>((((zL z+(1:Nat)):Nat),(λ(jj:Nat)=>Yq (bif zo jj (zL z+nat_lit 0)then zf (zn za .u32 (Yb (Z0 (zf (zl za 1 p.n0 λj=>ZL za (p.2 j)) zh)) (ZH (zf (zl za 4 gu.n0 λj=>Zr za (gu.2 j)) (zf (zl za 4 gu.n1 λj=>Zn za (gu.4 j)) zh))) (r (zi i)).f0)) zh else zf (zn za .u32 (z.2 jj).f0) zh))))) k z
def QY(d:Za)(gn:Nat)(gr:Nat->DT3)(sa:Int)(p:Zg)(gu:Ze)(ga:Zd)(rn:Nat)(rr:Nat->Zc)(w:Int)(m:Nat)(r:Nat->DT3)(k:Nat):Nat×(Nat->Zq):=ZQ (0,(λ_=>Yq .nil)) (Zap d gn gr sa p gu ga rn rr w m r) k
theorem rm2_cnt(d:Za)(gn:Nat)(gr:Nat->DT3)(sa:Int)(p:Zg)(gu:Ze)(ga:Zd)(rn:Nat)(rr:Nat->Zc)(w:Int)(m:Nat)(r:Nat->DT3)(k:Nat):(QY d gn gr sa p gu ga rn rr w m r k).1<=k:=Zeq (m:=λz:Nat×(Nat->Zq)=>z.1) (zJ _) (λk z=>((by show _<=_+1;first|omega|exact Nat.le_succ _|exact zJ _):(λy:Nat×(Nat->Zq)=>y.1<=z.1+1) (Zap d gn gr sa p gu ga rn rr w m r k z))) k
def rm2_lp(d:Za)(gn:Nat)(gr:Nat->DT3)(sa:Int)(p:Zg)(gu:Ze)(ga:Zd)(rn:Nat)(rr:Nat->Zc)(w:Int)(m:Nat)(r:Nat->DT3):Lp:=JE 78 8 1 2 44 [1,2,5,21,22,23,27,28,29] [(0,.own),(1,.tmp 5)] [] (rm2_ts d gn gr sa p gu ga rn rr w m r) (rm2_ys d gn gr sa p gu ga rn rr w m r) (.exit 2) (0,(λ_=>Yq .nil)) (QY d gn gr sa p gu ga rn rr w m r) (m)
theorem rm2_lp_ok(d:Za)(gn:Nat)(gr:Nat->DT3)(sa:Int)(p:Zg)(gu:Ze)(ga:Zd)(rn:Nat)(rr:Nat->Zc)(w:Int)(m:Nat)(r:Nat->DT3)(hl:m<=1000)(hM:∀j,j<m->(0<=Zk gu (r j).f0/\Zk gu (r j).f0<gu.n0)/\0<=(gu.r0 (Zk gu (r j).f0).toNat).f3/\(gu.r0 (Zk gu (r j).f0).toNat).f3<p.n0)(hg0:gu.n0<=1000)(hg1:gu.n1<=1000):(rm2_lp d gn gr sa p gu ga rn rr w m r).Ok P:=by
 refine JY (ZC hm hn (l:=[Uk]) ⟨Ze7,trivial⟩ (ls:=[]) trivial ze) rfl (by kernel_rfl) (rm2_round d gn gr sa p gu ga rn rr w m r) exN YK (λ_=>rfl) (rd:=(λ_ t y=>((t.nth 2).oslN,(λj=>Yq ((y.getD 1 .none).Kg j))))) (λi z=>rfl) (λi=>rfl) rfl (λi hlt hg=>?_) (λi z hi=>?_)
 ·have hltI:(i:Int)<((m:Nat):Int):=by omega
  refine⟨?_,trivial⟩
  all_goals(have hf0:=rm2_cnt d gn gr sa p gu ga rn rr w m r i)
  all_goals(repeat'(first|exact rfl|exact λ_=>⟨rfl,rfl⟩|apply zB|intro _))
  all_goals(try simp only[decide_eq_true_eq,decide_eq_false_iff_not,yj,yu]at*)
  all_goals(try simp(disch:=omega) only[IntWalk.i64_in])
  all_goals(first|omega|exact(hM _ (by omega)).1.1|exact(hM _ (by omega)).1.2|exact(hM _ (by omega)).2.1|exact(hM _ (by omega)).2.2)
 ·have hw:=(IntWalk.i64_in ((i:Int)+1) ⟨by omega,by omega⟩)
  all_goals exact⟨rfl,YL (ts:=rm2_ts d gn gr sa p gu ga rn rr w m r) hw rfl,⟨LeK.refl _,LeK.QL rfl (λj hj=>by first|rfl|exact ZbN (g:=λv=>(ZL za (Yq v)).soft) rfl rfl),trivial⟩⟩
def rm2_in(d:Za)(gn:Nat)(gr:Nat->DT3)(sa:Int)(p:Zg)(gu:Ze)(ga:Zd)(rn:Nat)(rr:Nat->Zc):Lp:=⟨78,8,λ_ s=>(s.tmp 23).VZ .stuck λw=>(s.tmp 27).Zam .stuck λm r27=>.need ((λ(d:Za)(gn:Nat)(gr:Nat->DT3)(sa:Int)(p:Zg)(gu:Ze)(ga:Zd)(rn:Nat)(rr:Nat->Zc)(w:Int)(m:Nat)(r:Nat->DT3)=>m<=1000/\(∀j,j<m->(0<=Zk gu (r j).f0/\Zk gu (r j).f0<gu.n0)/\0<=(gu.r0 (Zk gu (r j).f0).toNat).f3/\(gu.r0 (Zk gu (r j).f0).toNat).f3<p.n0)) d gn gr sa p gu ga rn rr w m (λj=>ZM (r27 j))) ((rm2_lp d gn gr sa p gu ga rn rr w m (λj=>ZM (r27 j))).g _ s)⟩
theorem rm2_in_ok(d:Za)(gn:Nat)(gr:Nat->DT3)(sa:Int)(p:Zg)(gu:Ze)(ga:Zd)(rn:Nat)(rr:Nat->Zc)(hg0:gu.n0<=1000)(hg1:gu.n1<=1000):(rm2_in d gn gr sa p gu ga rn rr).Ok P:=by
 intro body hin hfr B s Q hq
 obtain⟨w,hq⟩:=UL hq
 obtain⟨m,r27,hq⟩:=Zby hq
 exact rm2_lp_ok d gn gr sa p gu ga rn rr w m (λj=>ZM (r27 j)) hq.1.1 hq.1.2 hg0 hg1 body hin hfr B s Q hq.2
theorem chMay_rng(p:Zg)(gu:Ze)(b:Int):0<=Yb p gu b/\Yb p gu b<4294967296:=u32_rng _
section
variable(d:Za)(gn:Nat)(gr:Nat->DT3)(sa:Int)(p:Zg)(gu:Ze)(ga:Zd)(rn:Nat)(rr:Nat->Zc)(w:Int)(m:Nat)(r:Nat->DT3)
theorem Zg5:∀k j,j<(QY d gn gr sa p gu ga rn rr w m r k).1->0<=((QY d gn gr sa p gu ga rn rr w m r k).2 j).f0/\((QY d gn gr sa p gu ga rn rr w m r k).2 j).f0<4294967296:=by
 intro k
 induction k with
 |zero=>intro j hj;exact absurd hj (Nat.not_lt_zero j)
 |succ k ih=>
  show ∀j,j<(Zap d gn gr sa p gu ga rn rr w m r k (QY d gn gr sa p gu ga rn rr w m r k)).1->0<=((Zap d gn gr sa p gu ga rn rr w m r k (QY d gn gr sa p gu ga rn rr w m r k)).2 j).f0/\((Zap d gn gr sa p gu ga rn rr w m r k (QY d gn gr sa p gu ga rn rr w m r k)).2 j).f0<4294967296
  generalize QY d gn gr sa p gu ga rn rr w m r k=z at ih⊢
  intro j hj
  have hj':j<z.1+1:=hj
  unfold Zap
  dsimp only
  cases h:zo j (z.1+0)with
  |true=>exact chMay_rng _ _ _
  |false=>
   have hne:j≠z.1:=λe=>by subst e;rw[Nat.add_zero,Nat.beq_refl]at h;cases h
   exact ih j (by omega)
end
abbrev Zb8(n:Nat)(r:Nat->ZJ)(d:Za)(gn:Nat)(gr:Nat->DT3)(sa:Int)(p:Zg)(gu:Ze)(ga:Zd)(i:Int)(z:Unit):V:=(.cons (.rsl za 4 n (λjj=>zf (zn za zq (ZJ.f0 (r jj))) (zf (zn za zq (ZJ.f1 (r jj))) (zf (zn za yC (ZJ.f2 (r jj))) (zf (zn za yC (ZJ.f3 (r jj))) zh))))) (.cons (.fn (Fn.func (142:FuncId)) .nil (.cons (.rptr za (1:Nat) (1:Nat) (λjj=>.cons (.rptr za (16:Nat) (1:Nat) (λjj=>.cons (.int za zq (Za.f0 d)) (.cons (.rsl za (2:Nat) (Za.n1 d) λj=>.cons (.int za zq (K9.f0 (d.3 j))) (.cons (.int za zq (K9.f1 (d.3 j))) .nil)) (.cons (.rsl za (1:Nat) (Zg.n0 p) λj=>.cons (.int za yC (Zq.f0 (p.2 j))) .nil) (.cons (.rsl za (4:Nat) (Ze.n0 gu) λj=>.cons (.int za zq (Z6.f0 (gu.2 j))) (.cons (.int za zq (Z6.f1 (gu.2 j))) (.cons (.int za zq (Z6.f2 (gu.2 j))) (.cons (.int za zq (Z6.f3 (gu.2 j))) .nil)))) (.cons (.rsl za (4:Nat) (Ze.n1 gu) λj=>.cons (.int za zq (ZJ.f0 (gu.4 j))) (.cons (.int za zq (ZJ.f1 (gu.4 j))) (.cons (.int za yC (ZJ.f2 (gu.4 j))) (.cons (.int za yC (ZJ.f3 (gu.4 j))) .nil)))) (.cons (.rsl za (2:Nat) (Zd.n0 ga) λj=>.cons (.int za zq (Yn.f0 (ga.2 j))) (.cons (.rsl za (1:Nat) (Yn.n1 (ga.2 j)) λj_1=>.cons (.int za zq (DT3.f0 ((ga.2 j).3 j_1))) .nil) .nil)) (.cons (.rsl za (11:Nat) (Za.n6 d) λj=>.cons (.int za zq (Zj.f0 (d.13 j))) (.cons (.int za zq (Zj.f1 (d.13 j))) (.cons (.int za zq (Zj.f2 (d.13 j))) (.cons (.int za yC (Zj.f3 (d.13 j))) (.cons (.int za zq (Zj.f4 (d.13 j))) (.cons (.int za yG (Zj.f5 (d.13 j))) (.cons (.int za yG (Zj.f6 (d.13 j))) (.cons (.int za yG (Zj.f7 (d.13 j))) (.cons (.int za yG (Zj.f8 (d.13 j))) (.cons (.int za zq (Zj.f9 (d.13 j))) (.cons (.int za zq (Zj.f10 (d.13 j))) .nil))))))))))) (.cons (.rsl za (2:Nat) (Za.n7 d) λj=>.cons (.int za zq (QK.f0 (d.15 j))) (.cons (.int za zq (QK.f1 (d.15 j))) .nil)) (.cons (.rsl za (5:Nat) (Za.n8 d) λj=>.cons (.int za zq (Xi.f0 (d.17 j))) (.cons (.int za zq (Xi.f1 (d.17 j))) (.cons (.int za zq (Xi.f2 (d.17 j))) (.cons (.bool za (Xi.b3 (d.17 j))) (.cons (.bool za (Xi.b4 (d.17 j))) .nil))))) (.cons (.int za zq (Za.f9 d)) (.cons (.rsl za (2:Nat) (Za.n10 d) λj=>.cons (.int za zq (JK.f0 (d.20 j))) (.cons (.int za zq (JK.f1 (d.20 j))) .nil)) (.cons (.rsl za (3:Nat) (Za.n11 d) λj=>.cons (.int za zq (YZ.f0 (d.22 j))) (.cons (.int za zq (YZ.f1 (d.22 j))) (.cons (.int za zq (YZ.f2 (d.22 j))) .nil))) (.cons (.rsl za (2:Nat) (Za.n12 d) λj=>.cons (.int za zq (ZA.f0 (d.24 j))) (.cons (.int za zq (ZA.f1 (d.24 j))) .nil)) (.cons (.int za yG (Za.f13 d)) (.cons (.rsl za (1:Nat) gn λj=>.cons (.int za zq (DT3.f0 (gr j))) .nil) (.cons (.int za zq sa) .nil)))))))))))))))) (0:Nat) (0:Nat)) .nil) (0:Nat) (0:Nat)) .nil)) (.cons (.int ze .i64 0) (.cons (.int za .i64 ((n:Nat):Int)) (.cons (.int za .i64 i) .nil)))))
abbrev Zb9(n:Nat)(r:Nat->ZJ)(d:Za)(gn:Nat)(gr:Nat->DT3)(sa:Int)(p:Zg)(gu:Ze)(ga:Zd)(i:Int)(z:Unit):List Blk:=[]
def LixMay_R(n:Nat)(r:Nat->ZJ)(d:Za)(gn:Nat)(gr:Nat->DT3)(sa:Int)(p:Zg)(gu:Ze)(ga:Zd)(i:Int)(z:Unit):Tree Rd:=
 let q0:=(V.rptr za (16:Nat) (1:Nat) (λjj=>ci d.f0 (zf (zl za 2 d.n1 λjj=>ZR za (d.3 jj)) (zf (zl za 1 p.n0 λjj=>zf (zn za .u32 (p.2 jj).f0) zh) (zf (zl za 4 gu.n0 λjj=>Zr za (gu.2 jj)) (zf (zl za 4 gu.n1 λjj=>Zn za (gu.4 jj)) (zf (zl za 2 ga.n0 λjj=>Zw za (ga.2 jj)) (zf (zl za 11 d.n6 λjj=>Zo za (d.13 jj)) (zf (zl za 2 d.n7 λjj=>ZO za (d.15 jj)) (zf (zl za 5 d.n8 λjj=>ZI za (d.17 jj)) (ci d.f9 (zf (zl za 2 d.n10 λjj=>ZE za (d.20 jj)) (zf (zl za 3 d.n11 λjj=>Zx za (d.22 jj)) (zf (zl za 2 d.n12 λjj=>Zt za (d.24 jj)) (zf (zn za .u64 d.f13) (zf (zl za 1 gn λjj=>ci (gr jj).f0 zh) (ci sa zh)))))))))))))))) (0:Nat) (0:Nat))
 let q4:=(zl za 4 gu.n0 λj=>Zr za (gu.2 j))
 let q5:=(zl za 4 gu.n1 λj=>Zn za (gu.4 j))
 let q1:=(ZH (zf q4 (zf q5 zh)))
 let q2:=(V.fn (Fn.func (142:FuncId)) zh (zf (V.rptr za (1:Nat) (1:Nat) (λjj=>zf q0 zh) (0:Nat) (0:Nat)) zh))
 let q3:=(zl za 1 p.n0 λj=>zf (zn za .u32 (p.2 j).f0) zh)
 let q6:=(ci (r (zi i)).f0 zh)
 let q7:=(gu.2 (zi (Zk q1 (r (zi i)).f0)))
 let q8:=(zl za 4 n λjj=>Zn za (r jj))
 zw (((0:Int)<=i/\i<(n:Int))/\sR (zf q0 q6) (zf (V.rptr za (16:Nat) (1:Nat) (λjj=>ci d.f0 (zf (zl za 2 d.n1 λj=>ZR za (d.3 j)) (zf q3 (zf q4 (zf q5 (zf (zl za 2 ga.n0 λj=>Zw za (ga.2 j)) (zf (zl za 11 d.n6 λj=>Zo za (d.13 j)) (zf (zl za 2 d.n7 λj=>ZO za (d.15 j)) (zf (zl za 5 d.n8 λj=>ZI za (d.17 j)) (ci d.f9 (zf (zl za 2 d.n10 λj=>ZE za (d.20 j)) (zf (zl za 3 d.n11 λj=>Zx za (d.22 j)) (zf (zl za 2 d.n12 λj=>Zt za (d.24 j)) (zf (zn za .u64 d.f13) (zf (zl za 1 gn λj=>ci (gr j).f0 zh) (ci sa zh)))))))))))))))) (0:Nat) (0:Nat)) q6)/\gu.n0<=(1000:Nat)/\gu.n1<=(1000:Nat)/\((0:Int)<=Zk q1 (r (zi i)).f0/\Zk q1 (r (zi i)).f0<((gu.n0:Nat):Int))/\(0:Int)<=q7.f3/\q7.f3<((p.n0:Nat):Int)) (zD (bif bif Yb (Z0 (zf q3 zh)) q1 (r (zi i)).f0==(0:Int)then ze else za then ze else za) (zx (Ex.ret,ze,zf q8 (zf q2 (ci i (ci (n:Int) (ci i zh)))),[])) (zx (Ex.normal,ze,zf q8 (zf q2 (zf (zn ze .i64 (0:Int)) (ci (n:Int) (ci (zy .i64 (i+(1:Int))) zh)))),[])))
theorem Zng(n:Nat)(r:Nat->ZJ)(d:Za)(gn:Nat)(gr:Nat->DT3)(sa:Int)(p:Zg)(gu:Ze)(ga:Zd):Yo P (Zp P [Uk] [] ze) 109 2 0 0 19 [0,1,4,7,8] [] [] (Zb8 n r d gn gr sa p gu ga) (Zb9 n r d gn gr sa p gu ga) (λi=>(bif decide (i<(n:Int))then za else ze)) (.exit 0) (LixMay_R n r d gn gr sa p gu ga):=λB i z=>by kernel_rfl
def Zef(n:Nat)(r:Nat->ZJ)(d:Za)(gn:Nat)(gr:Nat->DT3)(sa:Int)(p:Zg)(gu:Ze)(ga:Zd)(k:Nat):Bool:=(λ(i:Int)(z:Unit)=>(bif bif bif Yb (Z0 (zf (zl za 1 p.n0 λj=>zf (zn za .u32 (p.2 j).f0) zh) zh)) (ZH (zf (zl za 4 gu.n0 λj=>Zr za (gu.2 j)) (zf (zl za 4 gu.n1 λj=>Zn za (gu.4 j)) zh))) (r (zi i)).f0==(0:Int)then ze else za then ze else za then ze else za)) k ()
abbrev Znd(n:Nat)(r:Nat->ZJ)(d:Za)(gn:Nat)(gr:Nat->DT3)(sa:Int)(p:Zg)(gu:Ze)(ga:Zd)(i:Int)(z:Unit):V:=(.cons (zl za 4 n λjj=>Zn za (r jj)) (.cons (V.fn (Fn.func (142:FuncId)) zh (zf (V.rptr za (1:Nat) (1:Nat) (λjj=>zf (V.rptr za (16:Nat) (1:Nat) (λjj=>zf (zn za .i64 d.f0) (zf (zl za 2 d.n1 λjj=>ZR za (d.3 jj)) (zf (zl za 1 p.n0 λjj=>zf (zn za .u32 (p.2 jj).f0) zh) (zf (zl za 4 gu.n0 λjj=>Zr za (gu.2 jj)) (zf (zl za 4 gu.n1 λjj=>Zn za (gu.4 jj)) (zf (zl za 2 ga.n0 λjj=>Zw za (ga.2 jj)) (zf (zl za 11 d.n6 λjj=>Zo za (d.13 jj)) (zf (zl za 2 d.n7 λjj=>ZO za (d.15 jj)) (zf (zl za 5 d.n8 λjj=>ZI za (d.17 jj)) (zf (zn za .i64 d.f9) (zf (zl za 2 d.n10 λjj=>ZE za (d.20 jj)) (zf (zl za 3 d.n11 λjj=>Zx za (d.22 jj)) (zf (zl za 2 d.n12 λjj=>Zt za (d.24 jj)) (zf (zn za .u64 d.f13) (zf (zl za 1 gn λjj=>zf (zn za .i64 (gr jj).f0) zh) (zf (zn za .i64 sa) zh)))))))))))))))) (0:Nat) (0:Nat)) zh) (0:Nat) (0:Nat)) zh)) (.cons (zn za .i64 i) (.cons (zn za .i64 (n:Int)) (.cons .junk .nil)))))
def Zeg(n:Nat)(r:Nat->ZJ)(d:Za)(gn:Nat)(gr:Nat->DT3)(sa:Int)(p:Zg)(gu:Ze)(ga:Zd):Lp:=lpL 109 2 0 0 19 [0,1,4,7,8] [] [] (Zb8 n r d gn gr sa p gu ga) (Zb9 n r d gn gr sa p gu ga) (.exit 0) .ret () (λ_=>()) (Zef n r d gn gr sa p gu ga) (n) (Znd n r d gn gr sa p gu ga) (Zb9 n r d gn gr sa p gu ga)
def ZjS(n:Nat)(r:Nat->ZJ)(d:Za)(gn:Nat)(gr:Nat->DT3)(sa:Int)(p:Zg)(gu:Ze)(ga:Zd):Prop:=YW 0 [] (Zb8 n r d gn gr sa p gu ga) (Zb9 n r d gn gr sa p gu ga) () (Zb8 n r d gn gr sa p gu ga (0:Nat) ()) (Zb9 n r d gn gr sa p gu ga (0:Nat) ())
theorem Zne(n:Nat)(r:Nat->ZJ)(d:Za)(gn:Nat)(gr:Nat->DT3)(sa:Int)(p:Zg)(gu:Ze)(ga:Zd):ZjS n r d gn gr sa p gu ga:=⟨rfl,trivial⟩
theorem Znf(n:Nat)(r:Nat->ZJ)(d:Za)(gn:Nat)(gr:Nat->DT3)(sa:Int)(p:Zg)(gu:Ze)(ga:Zd)(hl:n<=1000)(h0:gu.n0<=1000)(h1:gu.n1<=1000)(h2:∀j,j<n->(0<=Zk gu (r j).f0/\Zk gu (r j).f0<gu.n0)/\0<=(gu.r0 (Zk gu (r j).f0).toNat).f3/\(gu.r0 (Zk gu (r j).f0).toNat).f3<p.n0):(Zeg n r d gn gr sa p gu ga).Ok P:=by
 refine Xg (ZC hm hn (l:=[Uk]) ⟨Ze7,trivial⟩ (ls:=[]) trivial ze) rfl (by kernel_rfl) (Zng n r d gn gr sa p gu ga) exN YK (λ_=>rfl) (step:=λ_ z=>z) (rd:=(λ_ t y=>())) (λi z=>rfl) (λi=>(cC rfl rfl)) rfl (λi hlt hg=>?_) (λi z hi=>?_)
 ·have hltI:(i:Int)<((n:Nat):Int):=by omega
  refine⟨?_,⟨λhb0=>trivial,λhb0=>trivial⟩⟩
  all_goals(repeat'(first|exact rfl|exact λ_=>⟨rfl,rfl⟩|apply zB|intro _))
  all_goals(try simp only[decide_eq_true_eq,decide_eq_false_iff_not,yj,yu]at*)
  all_goals(try simp(disch:=omega) only[IntWalk.i64_in])
  all_goals(first|omega|exact(h2 _ (by omega)).1.1|exact(h2 _ (by omega)).1.2|exact(h2 _ (by omega)).2.1|exact(h2 _ (by omega)).2.2)
 ·have hw:=(IntWalk.i64_in ((i:Int)+1) ⟨by omega,by omega⟩)
  refine⟨?_,?_⟩
  all_goals(first|exact⟨rfl,YL (ts:=Zb8 n r d gn gr sa p gu ga) (a:=()) hw rfl,Yg _⟩|exact⟨rfl,rfl,(by repeat'(first|exact Le.refl _|exact Le.junk _ rfl|apply Le.cons)),Yg _⟩)
def Zgf(d:Za)(gn:Nat)(gr:Nat->DT3)(sa:Int)(p:Zg)(gu:Ze)(ga:Zd)(an:Nat)(a:Nat->ZJ):Tree V:=
 zw (ZjS an a d gn gr sa p gu ga) (zD (bif Zv (Zef an a d gn gr sa p gu ga) an then ze else za) (zx (vi ((Yc (Zef an a d gn gr sa p gu ga) an (0:Nat):Nat):Int))) (zx (zn ze .i64 (-1:Int))))
theorem Zqa(d:Za)(gn:Nat)(gr:Nat->DT3)(sa:Int)(p:Zg)(gu:Ze)(ga:Zd)(an:Nat)(a:Nat->ZJ):ZU (Zp P [Uk] [Zeg an a d gn gr sa p gu ga] ze) 400 109 (.cons (.rsl za 4 an λj=>Zn za (a j)) (.cons (.fn (.func 142) .nil (.cons (.rptr za 1 1 (λ_=>(.cons (.rptr za 16 1 (λ_=>chV d gn gr sa p gu ga) 0 0) .nil)) 0 0) .nil)) .nil))=Zgf d gn gr sa p gu ga an a:=by kernel_rfl
def VR(p:Zg)(gu:Ze)(an:Nat)(a:Nat->ZJ):Int:=(Zgf (Z4 .nil) 0 (λ_=>ZM .nil) 0 p gu (ZT .nil) an a).valOf.toInt
theorem Zp9(d:Za)(gn:Nat)(gr:Nat->DT3)(sa:Int)(p:Zg)(gu:Ze)(ga:Zd)(an:Nat)(a:Nat->ZJ)(h0:an<=1000)(h1:gu.n0<=1000)(h2:gu.n1<=1000)(h3:∀j,j<an->(0<=Zk gu (a j).f0/\Zk gu (a j).f0<gu.n0)/\0<=(gu.r0 (Zk gu (a j).f0).toNat).f3/\(gu.r0 (Zk gu (a j).f0).toNat).f3<p.n0):Zi P 109 (.cons (.rsl za 4 an λj=>Zn za (a j)) (.cons (.fn (.func 142) .nil (.cons (.rptr za 1 1 (λ_=>(.cons (.rptr za 16 1 (λ_=>chV d gn gr sa p gu ga) 0 0) .nil)) 0 0) .nil)) .nil)) (.int za .i64 (VR p gu an a)):=by
 refine(show Yr (.int za .i64 0) (Zgf d gn gr sa p gu ga an a).valOf=(.int za .i64 (VR p gu an a))from by kernel_rfl)▸ ?_
 refine Wy (E:=(Zp P [Uk] [Zeg an a d gn gr sa p gu ga] ze)) (ZC hm hn (l:=[Uk]) ⟨Ze7,trivial⟩ (ls:=[Zeg an a d gn gr sa p gu ga]) ⟨Znf an a d gn gr sa p gu ga h0 h1 h2 h3,trivial⟩ ze) (.int za .i64 0) (Has.of hn Tryz.func109 rfl) (Zqa d gn gr sa p gu ga an a) ?_ ?_
 ·refine⟨?_,⟨λhb0=>trivial,λhb0=>trivial⟩⟩
  all_goals(first|exact Zne an a d gn gr sa p gu ga|((repeat'(first|exact rfl|exact QZ _|exact λ_=>⟨rfl,rfl⟩|apply zB|intro _));all_goals(try simp only[decide_eq_true_eq,decide_eq_false_iff_not]at*);all_goals(first|omega|(simp at*;omega))))
 ·refine⟨⟨rfl,?_⟩,⟨rfl,?_⟩⟩
  all_goals((repeat'(first|exact rfl|exact trivial|apply zB|intro _|(refine cP (p:=λv=>yg v=Yr _ v) (λhc=>?_) (λhc=>?_))));all_goals(exfalso;simp only[XQ,Wj,Ws,WE,Wq,WC,zM,yF]at*;omega))
def c_ixMayA(r0:Zg->Ze->Nat->(Nat->ZJ)->Int):Con:=conS 109 (λx=>(.cons (.rsl za 4 x.hd.Zy λj=>Zn za ((λj=>Yk (x.hd.ZB j)) j)) (.cons (.fn (.func 142) .nil (.cons (.rptr za 1 1 (λ_=>(.cons (.rptr za 16 1 (λ_=>chV (Z4 ((x.tl.hd.Xk.hd.ZF 0).hd.ZF 0)) (((x.tl.hd.Xk.hd.ZF 0).hd.ZF 0).tl.tl.tl.tl.tl.tl.tl.tl.tl.tl.tl.tl.tl.tl.hd.Zy) (λj=>ZM (((x.tl.hd.Xk.hd.ZF 0).hd.ZF 0).tl.tl.tl.tl.tl.tl.tl.tl.tl.tl.tl.tl.tl.tl.hd.ZB j)) (((x.tl.hd.Xk.hd.ZF 0).hd.ZF 0).tl.tl.tl.tl.tl.tl.tl.tl.tl.tl.tl.tl.tl.tl.tl.hd.toInt) (Z0 (.cons ((x.tl.hd.Xk.hd.ZF 0).hd.ZF 0).tl.tl.hd .nil)) (ZH (.cons ((x.tl.hd.Xk.hd.ZF 0).hd.ZF 0).tl.tl.tl.hd (.cons ((x.tl.hd.Xk.hd.ZF 0).hd.ZF 0).tl.tl.tl.tl.hd .nil))) (ZT (.cons ((x.tl.hd.Xk.hd.ZF 0).hd.ZF 0).tl.tl.tl.tl.tl.hd .nil))) 0 0) .nil)) 0 0) .nil)) .nil))) (λx=>(.int za .i64 (r0 (Z0 (.cons ((x.tl.hd.Xk.hd.ZF 0).hd.ZF 0).tl.tl.hd .nil)) (ZH (.cons ((x.tl.hd.Xk.hd.ZF 0).hd.ZF 0).tl.tl.tl.hd (.cons ((x.tl.hd.Xk.hd.ZF 0).hd.ZF 0).tl.tl.tl.tl.hd .nil))) x.hd.Zy (λj=>Yk (x.hd.ZB j))))) (λx=>(λ(p:Zg)(gu:Ze)(an:Nat)(a:Nat->ZJ)=>an<=1000/\gu.n0<=1000/\gu.n1<=1000/\(∀j,j<an->(0<=Zk gu (a j).f0/\Zk gu (a j).f0<gu.n0)/\0<=(gu.r0 (Zk gu (a j).f0).toNat).f3/\(gu.r0 (Zk gu (a j).f0).toNat).f3<p.n0)) (Z0 (.cons ((x.tl.hd.Xk.hd.ZF 0).hd.ZF 0).tl.tl.hd .nil)) (ZH (.cons ((x.tl.hd.Xk.hd.ZF 0).hd.ZF 0).tl.tl.tl.hd (.cons ((x.tl.hd.Xk.hd.ZF 0).hd.ZF 0).tl.tl.tl.tl.hd .nil))) x.hd.Zy (λj=>Yk (x.hd.ZB j)))
abbrev Zfo:Con:=c_ixMayA VR
theorem Zn9:Zfo.Ok P:=Gv (λx h=>Zp9 _ _ _ _ _ _ _ _ _ h.1 h.2.1 h.2.2.1 h.2.2.2)
abbrev ZdK(d:Za)(gn:Nat)(gr:Nat->DT3)(sa:Int)(p:Zg)(gu:Ze)(ga:Zd)(rn:Nat)(rr:Nat->Zc)(i:Int)(z:Unit):V:=(.cons (.ptr ze 0 0 0 0) (.cons (.bool ze za) (.cons (.rsl za 1 rn (λj=>zf (zl za (1:Nat) (Zc.n0 (rr j)) λj_1=>zf (zn za zq (DT3.f0 ((rr j).2 j_1))) zh) zh)) (.cons (.int za .i64 ((rn:Nat):Int)) (.cons (.int za .i64 i) .nil)))))
abbrev ZdL(d:Za)(gn:Nat)(gr:Nat->DT3)(sa:Int)(p:Zg)(gu:Ze)(ga:Zd)(rn:Nat)(rr:Nat->Zc)(i:Int)(z:Unit):List Blk:=[.var (.cons (.rptr za (16:Nat) (1:Nat) (λjj=>.cons (.int za zq (Za.f0 d)) (.cons (.rsl za (2:Nat) (Za.n1 d) λj=>.cons (.int za zq (K9.f0 (d.3 j))) (.cons (.int za zq (K9.f1 (d.3 j))) .nil)) (.cons (.rsl za (1:Nat) (Zg.n0 p) λj=>.cons (.int za yC (Zq.f0 (p.2 j))) .nil) (.cons (.rsl za (4:Nat) (Ze.n0 gu) λj=>.cons (.int za zq (Z6.f0 (gu.2 j))) (.cons (.int za zq (Z6.f1 (gu.2 j))) (.cons (.int za zq (Z6.f2 (gu.2 j))) (.cons (.int za zq (Z6.f3 (gu.2 j))) .nil)))) (.cons (.rsl za (4:Nat) (Ze.n1 gu) λj=>.cons (.int za zq (ZJ.f0 (gu.4 j))) (.cons (.int za zq (ZJ.f1 (gu.4 j))) (.cons (.int za yC (ZJ.f2 (gu.4 j))) (.cons (.int za yC (ZJ.f3 (gu.4 j))) .nil)))) (.cons (.rsl za (2:Nat) (Zd.n0 ga) λj=>.cons (.int za zq (Yn.f0 (ga.2 j))) (.cons (.rsl za (1:Nat) (Yn.n1 (ga.2 j)) λj_1=>.cons (.int za zq (DT3.f0 ((ga.2 j).3 j_1))) .nil) .nil)) (.cons (.rsl za (11:Nat) (Za.n6 d) λj=>.cons (.int za zq (Zj.f0 (d.13 j))) (.cons (.int za zq (Zj.f1 (d.13 j))) (.cons (.int za zq (Zj.f2 (d.13 j))) (.cons (.int za yC (Zj.f3 (d.13 j))) (.cons (.int za zq (Zj.f4 (d.13 j))) (.cons (.int za yG (Zj.f5 (d.13 j))) (.cons (.int za yG (Zj.f6 (d.13 j))) (.cons (.int za yG (Zj.f7 (d.13 j))) (.cons (.int za yG (Zj.f8 (d.13 j))) (.cons (.int za zq (Zj.f9 (d.13 j))) (.cons (.int za zq (Zj.f10 (d.13 j))) .nil))))))))))) (.cons (.rsl za (2:Nat) (Za.n7 d) λj=>.cons (.int za zq (QK.f0 (d.15 j))) (.cons (.int za zq (QK.f1 (d.15 j))) .nil)) (.cons (.rsl za (5:Nat) (Za.n8 d) λj=>.cons (.int za zq (Xi.f0 (d.17 j))) (.cons (.int za zq (Xi.f1 (d.17 j))) (.cons (.int za zq (Xi.f2 (d.17 j))) (.cons (.bool za (Xi.b3 (d.17 j))) (.cons (.bool za (Xi.b4 (d.17 j))) .nil))))) (.cons (.int za zq (Za.f9 d)) (.cons (.rsl za (2:Nat) (Za.n10 d) λj=>.cons (.int za zq (JK.f0 (d.20 j))) (.cons (.int za zq (JK.f1 (d.20 j))) .nil)) (.cons (.rsl za (3:Nat) (Za.n11 d) λj=>.cons (.int za zq (YZ.f0 (d.22 j))) (.cons (.int za zq (YZ.f1 (d.22 j))) (.cons (.int za zq (YZ.f2 (d.22 j))) .nil))) (.cons (.rsl za (2:Nat) (Za.n12 d) λj=>.cons (.int za zq (ZA.f0 (d.24 j))) (.cons (.int za zq (ZA.f1 (d.24 j))) .nil)) (.cons (.int za yG (Za.f13 d)) (.cons (.rsl za (1:Nat) gn λj=>.cons (.int za zq (DT3.f0 (gr j))) .nil) (.cons (.int za zq sa) .nil)))))))))))))))) (0:Nat) (0:Nat)) .nil)]
def rm1_R(d:Za)(gn:Nat)(gr:Nat->DT3)(sa:Int)(p:Zg)(gu:Ze)(ga:Zd)(rn:Nat)(rr:Nat->Zc)(i:Int)(z:Unit):Tree Rd:=
 let q0:=(zf (zl za 2 d.n1 λj=>ZR za (d.3 j)) (zf (zl za 1 p.n0 λj=>zf (zn za .u32 (p.2 j).f0) zh) (zf (zl za 4 gu.n0 λj=>Zr za (gu.2 j)) (zf (zl za 4 gu.n1 λj=>Zn za (gu.4 j)) (zf (zl za 2 ga.n0 λj=>Zw za (ga.2 j)) (zf (zl za 11 d.n6 λj=>Zo za (d.13 j)) (zf (zl za 2 d.n7 λj=>ZO za (d.15 j)) (zf (zl za 5 d.n8 λj=>ZI za (d.17 j)) (ci d.f9 (zf (zl za 2 d.n10 λj=>ZE za (d.20 j)) (zf (zl za 3 d.n11 λj=>Zx za (d.22 j)) (zf (zl za 2 d.n12 λj=>Zt za (d.24 j)) (zf (zn za .u64 d.f13) (zf (zl za 1 gn λj=>ci (gr j).f0 zh) (ci sa zh)))))))))))))))
 let q5:=(Zc.n0 (rr (zi i)))
 let q1:=(QY d gn gr sa p gu ga rn rr i q5 (λj=>ZM (ci ((rr (zi i)).2 j).f0 zh)) q5)
 let q2:=(zl za 1 rn λj=>zf (zl za 1 (Zc.n0 (rr j)) λj_1=>ci ((rr j).2 j_1).f0 zh) zh)
 let q3:=[zN (zf (V.rptr za (16:Nat) (1:Nat) (λjj=>ci d.f0 q0) (0:Nat) (0:Nat)) zh)]
 let q4:=(V.rptr za (16:Nat) (1:Nat) (λj=>ci d.f0 q0) (0:Nat) (0:Nat))
 zw (((0:Int)<=i/\i<(rn:Int))/\((Zc.n0 (rr (zi i))<=(1000:Nat)/\∀(j:Nat),j<Zc.n0 (rr (zi i))->((0:Int)<=Zk gu ((rr (zi i)).2 j).f0/\Zk gu ((rr (zi i)).2 j).f0<((gu.n0:Nat):Int))/\(0:Int)<=(gu.2 (zi (Zk gu ((rr (zi i)).2 j).f0))).f3/\(gu.2 (zi (Zk gu ((rr (zi i)).2 j).f0))).f3<((p.n0:Nat):Int))/\(zV za 0 0 0 0=zV za 0 0 0 0/\zC za za=zC za za/\((0:Nat)=(0:Nat)/\(1:Nat)<(2:Nat))/\(q2=zl za 1 rn λj=>zf (zl za 1 (Zc.n0 (rr j)) λj_1=>ci ((rr j).2 j_1).f0 zh) zh)/\vi (rn:Int)=vi (rn:Int)/\vi i=vi i/\((zl za 1 q5 λj=>ci ((rr (zi i)).2 j).f0 zh)=zl za 1 q5 λj=>ci ((rr (zi i)).2 j).f0 zh)/\vi ((Zc.n0 (rr (zi i)):Nat):Int)=vi ((Zc.n0 (rr (zi i)):Nat):Int)/\vi (0:Int)=vi (0:Int)/\zh=zh)/\zf q4 zh=zf q4 zh/\(0:Nat)=(0:Nat)/\True)/\(0:Nat)+zL q1<=zL q1/\zL q1<=(8:Nat)/\∀(j:Nat),j<zL q1->zf (zn za .u32 (q1.2 ((0:Nat)+j)).f0) zh=zf (zn za .u32 (q1.2 ((0:Nat)+j)).f0) zh/\(0:Int)<=(q1.2 ((0:Nat)+j)).f0/\(q1.2 ((0:Nat)+j)).f0<(4294967296:Int)) (zD (bif bif !Ql (zL q1) λj=>Yq (ZL za (q1.2 ((0:Nat)+j)))then ze else za then ze else za) (zx (Ex.ret,ze,zf (pt 0) (zf (zC ze za) (zf q2 (ci (rn:Int) (ci i zh)))),q3)) (zx (Ex.normal,ze,zf (pt 0) (zf (zC ze za) (zf q2 (ci (rn:Int) (ci (zy .i64 (i+(1:Int))) zh)))),q3)))
theorem rm1_round(d:Za)(gn:Nat)(gr:Nat->DT3)(sa:Int)(p:Zg)(gu:Ze)(ga:Zd)(rn:Nat)(rr:Nat->Zc):Yo P (Zp P [Vz] [rm2_in d gn gr sa p gu ga rn rr] ze) 78 4 1 1 44 [1,2,21,22,23] [(0,.own)] [] (ZdK d gn gr sa p gu ga rn rr) (ZdL d gn gr sa p gu ga rn rr) (λi=>(bif decide (i<(rn:Int))then za else ze)) (.exit 0) (rm1_R d gn gr sa p gu ga rn rr):=λB i z=>by kernel_rfl
def Zjt(d:Za)(gn:Nat)(gr:Nat->DT3)(sa:Int)(p:Zg)(gu:Ze)(ga:Zd)(rn:Nat)(rr:Nat->Zc)(k:Nat):Bool:=(λ(i:Int)(z:Unit)=>(bif bif bif !Ql (zL (QY d gn gr sa p gu ga rn rr i (Zc.n0 (rr (zi i))) (λj=>ZM (zf (zn za .i64 ((rr (zi i)).2 j).f0) zh)) (Zc.n0 (rr (zi i))))) λj=>Yq (ZL za ((QY d gn gr sa p gu ga rn rr i (Zc.n0 (rr (zi i))) (λj=>ZM (zf (zn za .i64 ((rr (zi i)).2 j).f0) zh)) (Zc.n0 (rr (zi i)))).2 ((0:Nat)+j)))then ze else za then ze else za then ze else za)) k ()
abbrev rm1_ets(d:Za)(gn:Nat)(gr:Nat->DT3)(sa:Int)(p:Zg)(gu:Ze)(ga:Zd)(rn:Nat)(rr:Nat->Zc)(i:Int)(z:Unit):V:=(.cons (zV ze 0 0 0 0) (.cons (zC ze za) (.cons (zl za 1 rn λj=>zf (zl za 1 (Zc.n0 (rr j)) λj_1=>zf (zn za .i64 ((rr j).2 j_1).f0) zh) zh) (.cons (zn za .i64 (rn:Int)) (.cons .junk .nil)))))
def Zg4(d:Za)(gn:Nat)(gr:Nat->DT3)(sa:Int)(p:Zg)(gu:Ze)(ga:Zd)(rn:Nat)(rr:Nat->Zc):Lp:=lpL 78 4 1 1 44 [1,2,21,22,23] [(0,.own)] [] (ZdK d gn gr sa p gu ga rn rr) (ZdL d gn gr sa p gu ga rn rr) (.exit 0) .ret () (λ_=>()) (Zjt d gn gr sa p gu ga rn rr) (rn) (rm1_ets d gn gr sa p gu ga rn rr) (ZdL d gn gr sa p gu ga rn rr)
def rm1_need(d:Za)(gn:Nat)(gr:Nat->DT3)(sa:Int)(p:Zg)(gu:Ze)(ga:Zd)(rn:Nat)(rr:Nat->Zc):Prop:=YW 1 [] (ZdK d gn gr sa p gu ga rn rr) (ZdL d gn gr sa p gu ga rn rr) () (ZdK d gn gr sa p gu ga rn rr (0:Nat) ()) (ZdL d gn gr sa p gu ga rn rr (0:Nat) ())
theorem rm1_fit(d:Za)(gn:Nat)(gr:Nat->DT3)(sa:Int)(p:Zg)(gu:Ze)(ga:Zd)(rn:Nat)(rr:Nat->Zc):rm1_need d gn gr sa p gu ga rn rr:=⟨rfl,⟨rfl,trivial⟩⟩
theorem rm1_lp_ok(d:Za)(gn:Nat)(gr:Nat->DT3)(sa:Int)(p:Zg)(gu:Ze)(ga:Zd)(rn:Nat)(rr:Nat->Zc)(hl:rn<=1000)(hM:∀j,j<rn->0<(rr j).n0/\(rr j).n0<=8/\∀q,q<(rr j).n0->(0<=Zk gu ((rr j).r0 q).f0/\Zk gu ((rr j).r0 q).f0<gu.n0)/\0<=(gu.r0 (Zk gu ((rr j).r0 q).f0).toNat).f3/\(gu.r0 (Zk gu ((rr j).r0 q).f0).toNat).f3<p.n0)(hg0:gu.n0<=1000)(hg1:gu.n1<=1000):(Zg4 d gn gr sa p gu ga rn rr).Ok P:=by
 refine Xg (ZC hm hn (l:=[Vz]) ⟨Zh4,trivial⟩ (ls:=[rm2_in d gn gr sa p gu ga rn rr]) ⟨rm2_in_ok d gn gr sa p gu ga rn rr hg0 hg1,trivial⟩ ze) rfl (by kernel_rfl) (rm1_round d gn gr sa p gu ga rn rr) exN YK (λ_=>rfl) (step:=λ_ z=>z) (rd:=(λ_ t y=>())) (λi z=>rfl) (λi=>(cC rfl rfl)) rfl (λi hlt hg=>?_) (λi z hi=>?_)
 ·have hltI:(i:Int)<((rn:Nat):Int):=by omega
  refine⟨?_,⟨λhb0=>trivial,λhb0=>trivial⟩⟩
  all_goals(have hf0:=hM ((i:Int).toNat) (by omega))
  all_goals(repeat'(first|exact rfl|exact λ_=>⟨rfl,rfl⟩|apply zB|intro _))
  all_goals(try simp only[decide_eq_true_eq,decide_eq_false_iff_not,yj,yu]at*)
  all_goals(try simp(disch:=omega) only[IntWalk.i64_in])
  all_goals(first|omega|exact(Nat.le_trans (rm2_cnt _ _ _ _ _ _ _ _ _ _ _ _ _) (hM _ (by omega)).2.1)|exact(Zg5 _ _ _ _ _ _ _ _ _ _ _ _ _ _ (by assumption)).1|exact(Zg5 _ _ _ _ _ _ _ _ _ _ _ _ _ _ (by assumption)).2|exact(by rw[z8];exact(Zg5 _ _ _ _ _ _ _ _ _ _ _ _ _ _ (by assumption)).1)|exact(by rw[z8];exact(Zg5 _ _ _ _ _ _ _ _ _ _ _ _ _ _ (by assumption)).2)|exact((hM _ (by omega)).2.2 _ (by assumption)).1.1|exact((hM _ (by omega)).2.2 _ (by assumption)).1.2|exact((hM _ (by omega)).2.2 _ (by assumption)).2.1|exact((hM _ (by omega)).2.2 _ (by assumption)).2.2)
 ·have hw:=(IntWalk.i64_in ((i:Int)+1) ⟨by omega,by omega⟩)
  refine⟨?_,?_⟩
  all_goals(first|exact⟨rfl,YL (ts:=ZdK d gn gr sa p gu ga rn rr) (a:=()) hw rfl,Yg _⟩|exact⟨rfl,rfl,(by repeat'(first|exact Le.refl _|exact Le.junk _ rfl|apply Le.cons)),Yg _⟩)
def room_T(d:Za)(gn:Nat)(gr:Nat->DT3)(sa:Int)(p:Zg)(gu:Ze)(ga:Zd)(Rn:Zd->Nat)(Rr:Zd->Nat->Zc):Tree V:=
 let q6:=(zl za 4 gu.n0 λj=>Zr za (gu.2 j))
 let q3:=(zl za 4 gu.n1 λj=>Zn za (gu.4 j))
 let q7:=(zl za 2 ga.n0 λj=>Zw za (ga.2 j))
 let q0:=(zf (zl za 2 d.n1 λj=>ZR za (d.3 j)) (zf (zl za 1 p.n0 λj=>zf (zn za .u32 (p.2 j).f0) zh) (zf q6 (zf q3 (zf q7 (zf (zl za 11 d.n6 λj=>Zo za (d.13 j)) (zf (zl za 2 d.n7 λj=>ZO za (d.15 j)) (zf (zl za 5 d.n8 λj=>ZI za (d.17 j)) (ci d.f9 (zf (zl za 2 d.n10 λj=>ZE za (d.20 j)) (zf (zl za 3 d.n11 λj=>Zx za (d.22 j)) (zf (zl za 2 d.n12 λj=>Zt za (d.24 j)) (zf (zn za .u64 d.f13) (zf (zl za 1 gn λj=>ci (gr j).f0 zh) (ci sa zh)))))))))))))))
 let q1:=(ZH (zf q6 (zf q3 zh)))
 let q2:=(zf q7 zh)
 let q4:=(V.rptr za (16:Nat) (1:Nat) (λjj=>ci d.f0 q0) (0:Nat) (0:Nat))
 let q5:=(V.rptr za (16:Nat) (1:Nat) (λj=>ci d.f0 q0) (0:Nat) (0:Nat))
 zw (sR (zf q3 (zf (V.fn (Fn.func (142:Nat)) zh (zf (V.rptr ze (1:Nat) (1:Nat) (λjj=>zf q4 zh) (0:Nat) (0:Nat)) zh)) zh)) (zf q3 (zf (V.fn (Fn.func (142:FuncId)) zh (zf (V.rptr za (1:Nat) (1:Nat) (λjj=>zf q4 zh) (0:Nat) (0:Nat)) zh)) zh))/\gu.n1<=(1000:Nat)/\gu.n0<=(1000:Nat)/\gu.n1<=(1000:Nat)/\∀(j:Nat),j<gu.n1->((0:Int)<=Zk q1 (gu.4 j).f0/\Zk q1 (gu.4 j).f0<((gu.n0:Nat):Int))/\(0:Int)<=(gu.2 (zi (Zk q1 (gu.4 j).f0))).f3/\(gu.2 (zi (Zk q1 (gu.4 j).f0))).f3<((p.n0:Nat):Int)) (zD (bif decide ((VR (Z0 (zf (zl za 1 p.n0 λj=>ZL za (p.2 j)) zh)) q1 gu.n1 λj=>Yk (Zn za (gu.4 j)))>=(0:Int))then ze else za) (zx (zC ze za)) (zw (zf (zH q2) zh=zf (zH q2) zh/\ga.n0<=(1000:Nat)/\∀(j:Nat),(ga.2 j).n1<=(1000:Nat)) (zw (zf (zV za 0 0 0 0) (zf (zC za za) (zf (zl za 1 (Rn (ZT q2)) λj=>zf (zl za 1 (Zc.n0 (Rr (ZT q2) j)) λj_1=>ci ((Rr (ZT q2) j).2 j_1).f0 zh) zh) (ci ((Rn (ZT q2):Nat):Int) (ci (0:Int) zh))))=zf (zV za 0 0 0 0) (zf (zC za za) (zf (zl za 1 (Rn ga) λj=>zf (zl za 1 (Zc.n0 (Rr ga j)) λj_1=>ci ((Rr ga j).2 j_1).f0 zh) zh) (ci ((Rn ga:Nat):Int) (ci (0:Int) zh))))/\zf q5 zh=zf q5 zh/\True) (zD (bif Zv (Zjt d gn gr sa p gu ga (Rn ga) (Rr ga)) (Rn ga)then ze else za) (zx (zC ze za)) (zx (zC ze ze))))))
theorem room_tree(d:Za)(gn:Nat)(gr:Nat->DT3)(sa:Int)(p:Zg)(gu:Ze)(ga:Zd)(Rn:Zd->Nat)(Rr:Zd->Nat->Zc):ZU (Zp P [Zfo,Zfm Rn Rr] [Zg4 d gn gr sa p gu ga (Rn ga) (Rr ga)] ze) 400 78 (.cons (.rptr za 16 1 (λ_=>chV d gn gr sa p gu ga) 0 0) .nil)=room_T d gn gr sa p gu ga Rn Rr:=by kernel_rfl
def YH(p:Zg)(gu:Ze)(ga:Zd):Bool:=(room_T (Z4 .nil) 0 (λ_=>ZM .nil) 0 p gu ga Xa Z7).valOf.toBool
theorem Zrj(d:Za)(gn:Nat)(gr:Nat->DT3)(sa:Int)(p:Zg)(gu:Ze)(ga:Zd)(h0:ga.n0<=1000)(h1:∀j,(ga.r0 j).n1<=1000)(h2:gu.n1<=1000)(h3:gu.n0<=1000)(h4:gu.n1<=1000)(h5:Xa ga<=1000)(h6:∀j,j<Xa ga->0<(Z7 ga j).n0/\(Z7 ga j).n0<=8/\∀q,q<(Z7 ga j).n0->(0<=Zk gu ((Z7 ga j).r0 q).f0/\Zk gu ((Z7 ga j).r0 q).f0<gu.n0)/\0<=(gu.r0 (Zk gu ((Z7 ga j).r0 q).f0).toNat).f3/\(gu.r0 (Zk gu ((Z7 ga j).r0 q).f0).toNat).f3<p.n0)(h7:∀j,j<gu.n1->(0<=Zk gu (gu.r1 j).f0/\Zk gu (gu.r1 j).f0<gu.n0)/\0<=(gu.r0 (Zk gu (gu.r1 j).f0).toNat).f3/\(gu.r0 (Zk gu (gu.r1 j).f0).toNat).f3<p.n0):Zi P 78 (.cons (.rptr za 16 1 (λ_=>chV d gn gr sa p gu ga) 0 0) .nil) (.bool za (YH p gu ga)):=by
 refine(show Yr (.bool za za) (room_T d gn gr sa p gu ga Xa Z7).valOf=(.bool za (YH p gu ga))from by kernel_rfl)▸ ?_
 refine Wy (E:=(Zp P [Zfo,Zfm Xa Z7] [Zg4 d gn gr sa p gu ga (Xa ga) (Z7 ga)] ze)) (ZC hm hn (l:=[Zfo,Zfm Xa Z7]) ⟨Zn9,Zn7,trivial⟩ (ls:=[Zg4 d gn gr sa p gu ga (Xa ga) (Z7 ga)]) ⟨rm1_lp_ok d gn gr sa p gu ga (Xa ga) (Z7 ga) h5 h6 h3 h4,trivial⟩ ze) (.bool za za) (Has.of hn Tryz.func78 rfl) (room_tree d gn gr sa p gu ga Xa Z7) ?_ ?_
 ·refine⟨?_,⟨λhb0=>trivial,λhb0=>⟨?_,⟨?_,⟨λhb1=>trivial,λhb1=>trivial⟩⟩⟩⟩⟩
  all_goals(first|exact rm1_fit d gn gr sa p gu ga (Xa ga) (Z7 ga)|((repeat'(first|exact rfl|exact QZ _|exact λ_=>⟨rfl,rfl⟩|apply zB|intro _));all_goals(try simp only[decide_eq_true_eq,decide_eq_false_iff_not]at*);all_goals(first|exact h1 _|exact(h7 _ ‹_›).1.1|exact(h7 _ ‹_›).1.2|exact(h7 _ ‹_›).2.1|exact(h7 _ ‹_›).2.2|omega|(simp at*;omega))))
 ·refine⟨⟨rfl,?_⟩,⟨⟨rfl,?_⟩,⟨rfl,?_⟩⟩⟩
  all_goals((repeat'(first|exact rfl|exact trivial|apply zB|intro _|(refine cP (p:=λv=>yg v=Yr _ v) (λhc=>?_) (λhc=>?_))));all_goals(exfalso;simp only[XQ,Wj,Ws,WE,Wq,WC,zM,yF]at*;omega))
def Gm(r0:Zg->Ze->Zd->Bool):Con:=conS 78 (λx=>(.cons (.rptr za 16 1 (λ_=>chV (Z4 (x.hd.ZF 0)) ((x.hd.ZF 0).tl.tl.tl.tl.tl.tl.tl.tl.tl.tl.tl.tl.tl.tl.hd.Zy) (λj=>ZM ((x.hd.ZF 0).tl.tl.tl.tl.tl.tl.tl.tl.tl.tl.tl.tl.tl.tl.hd.ZB j)) ((x.hd.ZF 0).tl.tl.tl.tl.tl.tl.tl.tl.tl.tl.tl.tl.tl.tl.tl.hd.toInt) (Z0 (.cons (x.hd.ZF 0).tl.tl.hd .nil)) (ZH (.cons (x.hd.ZF 0).tl.tl.tl.hd (.cons (x.hd.ZF 0).tl.tl.tl.tl.hd .nil))) (ZT (.cons (x.hd.ZF 0).tl.tl.tl.tl.tl.hd .nil))) 0 0) .nil)) (λx=>(.bool za (r0 (Z0 (.cons (x.hd.ZF 0).tl.tl.hd .nil)) (ZH (.cons (x.hd.ZF 0).tl.tl.tl.hd (.cons (x.hd.ZF 0).tl.tl.tl.tl.hd .nil))) (ZT (.cons (x.hd.ZF 0).tl.tl.tl.tl.tl.hd .nil))))) (λx=>(λ(p:Zg)(gu:Ze)(ga:Zd)=>ga.n0<=1000/\(∀j,(ga.r0 j).n1<=1000)/\gu.n1<=1000/\gu.n0<=1000/\gu.n1<=1000/\Xa ga<=1000/\(∀j,j<Xa ga->0<(Z7 ga j).n0/\(Z7 ga j).n0<=8/\∀q,q<(Z7 ga j).n0->(0<=Zk gu ((Z7 ga j).r0 q).f0/\Zk gu ((Z7 ga j).r0 q).f0<gu.n0)/\0<=(gu.r0 (Zk gu ((Z7 ga j).r0 q).f0).toNat).f3/\(gu.r0 (Zk gu ((Z7 ga j).r0 q).f0).toNat).f3<p.n0)/\(∀j,j<gu.n1->(0<=Zk gu (gu.r1 j).f0/\Zk gu (gu.r1 j).f0<gu.n0)/\0<=(gu.r0 (Zk gu (gu.r1 j).f0).toNat).f3/\(gu.r0 (Zk gu (gu.r1 j).f0).toNat).f3<p.n0)) (Z0 (.cons (x.hd.ZF 0).tl.tl.hd .nil)) (ZH (.cons (x.hd.ZF 0).tl.tl.tl.hd (.cons (x.hd.ZF 0).tl.tl.tl.tl.hd .nil))) (ZT (.cons (x.hd.ZF 0).tl.tl.tl.tl.tl.hd .nil)))
abbrev c_room:Con:=Gm YH
theorem Zkn:c_room.Ok P:=Gv (λx h=>Zrj _ _ _ _ _ _ _ h.1 h.2.1 h.2.2.1 h.2.2.2.1 h.2.2.2.2.1 h.2.2.2.2.2.1 h.2.2.2.2.2.2.1 h.2.2.2.2.2.2.2)
end Go.Proofs.YthhbdbeglmkijaaGreatDoor
namespace Go.Fw
theorem Env.Ok.withNm{E:Env}(hE:E.Ok)(nm:FuncId->Bool):Env.Ok { E with nm:=nm }:=⟨hE.mixed,hE.named,hE.sure,hE.where_,hE.fork,hE.lp,hE.hk⟩
end Go.Fw
namespace Go.Proofs.YthhbdbeglmkijaaGreatDoor
open Go.Fw
def VH(f:Int)(s:Int)(a:Za)(Sp:Zg->Int->Int->Zg)(Sk:Zg->Int->Int->Int)(Se:Zg->Int->Int->Int)(Rm:Zg->Ze->Zd->Bool)(Bb:Zg->Ze->Zd->Nat->(Nat->Zj)->Nat->(Nat->ZA)->Int->Bool)(Bz:Zg->Ze->Zd->Nat->(Nat->Zj)->Nat->(Nat->ZA)->Int->Int×(Nat->Zj)×Nat×(Nat->ZA))(Bg:Zg->Ze->Zd->Nat->(Nat->Zj)->Nat->(Nat->ZA)->Int->Nat×(Nat->DT3)):Tree V:=
 let q0:=(Z0 (zf (zl za 1 a.n2 λj=>ZL za (Yq (ZL za (a.5 j)))) zh))
 let q22:=(Z0 (zf (zl za 1 (Sp q0 f s).n0 λj=>ZL za ((Sp q0 f s).2 j)) zh))
 let q5:=(zl za 4 a.n3 λj=>Zr za (YT (Zr za (a.7 j))))
 let q6:=(zl za 4 a.n4 λj=>Zn za (Yk (Zn za (a.9 j))))
 let q33:=(ZH (zf q5 (zf q6 zh)))
 let q21:=(ZT (zf (zl za 2 a.n5 λj=>Zw za (YV (Zw za (a.11 j)))) zh))
 let q1:=(Bz q22 q33 q21 a.n6 (λj=>ZV (Zo za (ZV (Zo za (a.13 j))))) a.n12 (λj=>Ye (Zt za (Ye (Zt za (a.24 j))))) a.f13)
 let q2:=(zl za 2 a.n5 λj=>ci (YV (Zw za (a.11 j))).f0 (zf (zl za 1 (YV (Zw za (a.11 j))).n1 λj_1=>ci ((YV (Zw za (a.11 j))).r1 j_1).f0 zh) zh))
 let q3:=(zl za 2 a.n5 λj=>ci (YV (Zw za (YV (Zw za (a.11 j))))).f0 (zf (zl za 1 (YV (Zw za (YV (Zw za (a.11 j))))).n1 λj_1=>ci ((YV (Zw za (YV (Zw za (a.11 j))))).r1 j_1).f0 zh) zh))
 let q25:=(zn ze .i64 (0:Int))
 let q4:=(zH (zf q25 (zf V.Zl (zf V.Zl (zf V.Zl (zf V.Zl (zf V.Zl (zf V.Zl (zf V.Zl (zf V.Zl (zf q25 (zf V.Zl (zf V.Zl (zf V.Zl (zf (zn ze .u64 (0:Int)) zh)))))))))))))))
 let q7:=(Ze.mk a.6 a.r3 a.8 a.r4)
 let q8:=(zl za 2 a.n7 λj=>ZO za (Qn (ZO za (a.15 j))))
 let q9:=(zl za 2 a.n10 λj=>ZE za (QS (ZE za (a.20 j))))
 let q10:=(zl za 3 a.n11 λj=>Zx za (Ya (Zx za (a.22 j))))
 let q11:=(zl za 5 a.n8 λj=>ZI za (Ww (ZI za (a.17 j))))
 let q12:=(zl za 2 a.n7 λj=>ZO za (Qn (ZO za (Qn (ZO za (a.15 j))))))
 let q13:=(zl za 2 a.n1 λj=>ZR za (Jl (ZR za (a.3 j))))
 let q14:=(zl za 4 a.n3 λj=>Zr za (YT (Zr za (YT (Zr za (a.7 j))))))
 let q15:=(zl za 1 (Sp q0 f s).n0 λj=>zf (zn za .u32 (Yq (ZL za ((Sp q0 f s).2 j))).f0) zh)
 let q16:=(zl za 2 a.n10 λj=>ZE za (QS (ZE za (QS (ZE za (a.20 j))))))
 let q17:=(zl za 3 a.n11 λj=>Zx za (Ya (Zx za (Ya (Zx za (a.22 j))))))
 let q18:=(zl za 5 a.n8 λj=>ZI za (Ww (ZI za (Ww (ZI za (a.17 j))))))
 let q19:=(zl za 2 a.n1 λj=>ZR za (Jl (ZR za (Jl (ZR za (a.3 j))))))
 let q20:=(zl za 4 a.n4 λj=>Zn za (Yk (Zn za (Yk (Zn za (a.9 j))))))
 let q31:=(zn za .u64 a.f13)
 let q32:=(vi (Sk q0 f s))
 let q23:=(zf q31 (zf V.Zl (zf q32 zh)))
 let q24:=(zl za 1 (Sp q0 f s).n0 λj=>zf (zn za .u32 ((Sp q0 f s).2 j).f0) zh)
 let q26:=(zu (zu (Bz (Sp (Zg.mk a.4 a.r2) f s) q7 (Zd.mk a.10 a.r5) a.n6 (λj=>a.13 j) a.n12 (λj=>a.24 j) a.25)))
 let q27:=(zl za 1 a.n2 λj=>zf (zn za .u32 (Yq (ZL za (a.5 j))).f0) zh)
 let q28:=(zl za 11 a.n6 λj=>Zo za (ZV (Zo za (a.13 ((0:Nat)+j)))))
 let q29:=(zl za 2 a.n12 λj=>Zt za (Ye (Zt za (a.24 ((0:Nat)+j)))))
 let q30:=(((Sp (Zg.mk a.4 a.r2) f s).n0:Nat):Int)
 let q34:=(ci f (zf (zn za .u32 s) zh))
 zw (hkEq (zf (zH (ci a.f0 (zf (zl za 2 a.n1 λj=>ZR za (a.3 j)) (zf (zl za 1 a.n2 λj=>zf (zn za .u32 (a.5 j).f0) zh) (zf (zl za 4 a.n3 λj=>Zr za (a.7 j)) (zf (zl za 4 a.n4 λj=>Zn za (a.9 j)) (zf (zl za 2 a.n5 λj=>ci (a.11 j).f0 (zf (zl za 1 (a.11 j).n1 λj_1=>ci ((a.11 j).r1 j_1).f0 zh) zh)) (zf (zl za 11 a.n6 λj=>Zo za (a.13 j)) (zf (zl za 2 a.n7 λj=>ZO za (a.15 j)) (zf (zl za 5 a.n8 λj=>ZI za (a.17 j)) (ci a.f9 (zf (zl za 2 a.n10 λj=>ZE za (a.20 j)) (zf (zl za 3 a.n11 λj=>Zx za (a.22 j)) (zf (zl za 2 a.n12 λj=>Zt za (a.24 j)) (zf q31 zh))))))))))))))) zh) [] (zf (zH (ci a.f0 (zf q13 (zf q27 (zf q5 (zf q6 (zf q2 (zf (zl za 11 a.n6 λj=>Zo za (ZV (Zo za (a.13 j)))) (zf q8 (zf q11 (ci a.f9 (zf q9 (zf q10 (zf (zl za 2 a.n12 λj=>Zt za (Ye (Zt za (a.24 j)))) (zf q31 zh))))))))))))))) zh) []/\a.n1<=(1000:Nat)/\a.n2<=(1000:Nat)/\a.n3<=(1000:Nat)/\a.n4<=(1000:Nat)/\a.n5<=(1000:Nat)/\a.n6<=(1000:Nat)/\a.n7<=(1000:Nat)/\a.n8<=(1000:Nat)/\a.n10<=(1000:Nat)/\a.n11<=(1000:Nat)/\a.n12<=(1000:Nat)/\∀(j:Nat),(a.11 j).n1<=(1000:Nat)) (zw (zf (zH (zf q27 zh)) q34=zf (zH (zf (zl za 1 a.n2 λj=>zf (zn za .u32 (Yq (ZL za (Yq (ZL za (a.5 j))))).f0) zh) zh)) q34/\a.4<=(5:Nat)) (zw ((Se (Zg.mk a.4 a.r2) f s==(0:Int))=ze->((0:Nat)+a.n6<=a.n6/\(0:Nat)+a.n12<=a.n12)/\sR (zf (V.rptr ze (16:Nat) (1:Nat) (λjj=>ci a.f0 (zf q13 (zf q24 (zf q5 (zf q6 (zf q2 (zf q28 (zf q8 (zf q11 (ci a.f9 (zf q9 (zf q10 (zf q29 q23))))))))))))) (0:Nat) (0:Nat)) zh) (zf (V.rptr za (16:Nat) (1:Nat) (λjj=>ci a.f0 (zf q19 (zf q15 (zf q14 (zf q20 (zf q3 (zf (zl za 11 a.n6 λj=>Zo za (ZV (Zo za (ZV (Zo za (a.13 ((0:Nat)+j))))))) (zf q12 (zf q18 (ci a.f9 (zf q16 (zf q17 (zf (zl za 2 a.n12 λj=>Zt za (Ye (Zt za (Ye (Zt za (a.24 ((0:Nat)+j))))))) (zf q31 (zf (zl za 1 (0:Nat) λj=>ci (0:Int) zh) (zf q32 zh)))))))))))))))) (0:Nat) (0:Nat)) zh)/\a.10<=(1000:Nat)/\(∀(j:Nat),(a.11 j).n1<=(1000:Nat))/\a.8<=(1000:Nat)/\a.6<=(1000:Nat)/\a.8<=(1000:Nat)/\Xa (Zd.mk a.10 a.r5)<=(1000:Nat)/\(∀(j:Nat),j<Xa (Zd.mk a.10 a.r5)->(0:Nat)<Zc.n0 (Z7 (Zd.mk a.10 a.r5) j)/\Zc.n0 (Z7 (Zd.mk a.10 a.r5) j)<=(8:Nat)/\∀(q:Nat),q<Zc.n0 (Z7 (Zd.mk a.10 a.r5) j)->((0:Int)<=Zk q7 (Zc.r0 (Z7 (Zd.mk a.10 a.r5) j) q).f0/\Zk q7 (Zc.r0 (Z7 (Zd.mk a.10 a.r5) j) q).f0<(a.6:Int))/\(0:Int)<=(a.7 (zi (Zk q7 (Zc.r0 (Z7 (Zd.mk a.10 a.r5) j) q).f0))).f3/\(a.7 (zi (Zk q7 (Zc.r0 (Z7 (Zd.mk a.10 a.r5) j) q).f0))).f3<q30)/\∀(j:Nat),j<a.8->((0:Int)<=Zk q7 (a.9 j).f0/\Zk q7 (a.9 j).f0<(a.6:Int))/\(0:Int)<=(a.7 (zi (Zk q7 (a.9 j).f0))).f3/\(a.7 (zi (Zk q7 (a.9 j).f0))).f3<q30) (zD (bif Se q0 f s==(0:Int)then !Rm q22 q33 q21 else za) (zx (V.tup (zf q4 (zf q25 (zf (zn ze .i64 (8:Int)) zh))))) (zD (Se q0 f s==(0:Int)) (zw (hkEq (zf (pt 0) zh) [zN (ci a.f0 (zf q13 (zf q24 (zf q5 (zf q6 (zf q2 (zf (V.osl za 1 11 0 a.n6) (zf q8 (zf q11 (ci a.f9 (zf q9 (zf q10 (zf (V.osl za 2 2 0 a.n12) q23))))))))))))),Blk.arr 11 a.n6 λj=>Zo za (ZV (Zo za (a.13 j))),Blk.arr 2 a.n12 λj=>Zt za (Ye (Zt za (a.24 j)))] (zf (pt 0) zh) [zN (ci a.f0 (zf q19 (zf q15 (zf q14 (zf q20 (zf q3 (zf (V.osl za 1 11 0 a.n6) (zf q12 (zf q18 (ci a.f9 (zf q16 (zf q17 (zf (V.osl za 2 2 0 a.n12) q23))))))))))))),Blk.arr 11 a.n6 λj=>Zo za (ZV (Zo za (a.13 j))),Blk.arr 2 a.n12 λj=>Zt za (Ye (Zt za (a.24 j)))]/\a.n6<=(1000:Nat)/\a.n12<=(100:Nat)/\a.6<=(1000:Nat)/\a.8<=(1000:Nat)/\a.10<=(1000:Nat)/\(∀(j:Nat),(a.11 j).n1<=(1000:Nat))/\(∀(o:Int),YO (Zd.mk a.10 a.r5) o<=(8:Nat))/\∀(j:Nat),j<a.n12->((0:Int)<=Zk q7 (a.24 j).f0/\Zk q7 (a.24 j).f0<(a.6:Int))/\(0:Int)<=(a.7 (zi (Zk q7 (a.24 j).f0))).f3/\(a.7 (zi (Zk q7 (a.24 j).f0))).f3<q30) (zD (bif Bb q22 q33 q21 a.n6 (λj=>ZV (Zo za (ZV (Zo za (a.13 j))))) a.n12 (λj=>Ye (Zt za (Ye (Zt za (a.24 j))))) a.f13 then ze else za) (zx (V.tup (zf q4 (zf q25 (zf (zn ze .i64 (6:Int)) zh))))) (zw ((0:Nat)+a.n6<=a.n6) (zw ((0:Nat)+zL q26<=zL q26) (zx (V.tup (zf (zH (ci a.f0 (zf q19 (zf q15 (zf q14 (zf q20 (zf q3 (zf (zl za 11 a.n6 λj=>Zo za ((zu q1).1 ((0:Nat)+j))) (zf q12 (zf q18 (ci a.f9 (zf q16 (zf q17 (zf (zl za 2 (zL (zu (zu q1))) λj=>Zt za ((zu (zu q1)).2 ((0:Nat)+j))) (zf (zn za .u64 (zL q1)) zh))))))))))))))) (zf q32 (zf q25 zh))))))))) (zD (Se q0 f s != (0:Int)) (zx (V.tup (zf q4 (zf q25 (ci (Se q0 f s) zh))))) (zw ((0:Nat)+a.n6<=a.n6) (zw ((0:Nat)+a.n12<=a.n12) (zx (V.tup (zf (zH (ci a.f0 (zf q13 (zf q24 (zf q5 (zf q6 (zf q2 (zf q28 (zf q8 (zf q11 (ci a.f9 (zf q9 (zf q10 (zf q29 (zf q31 zh))))))))))))))) (zf q32 (zf q25 zh))))))))))))
theorem doS_tree(f:Int)(s:Int)(a:Za)(Sp:Zg->Int->Int->Zg)(Sk:Zg->Int->Int->Int)(Se:Zg->Int->Int->Int)(Rm:Zg->Ze->Zd->Bool)(Bb:Zg->Ze->Zd->Nat->(Nat->Zj)->Nat->(Nat->ZA)->Int->Bool)(Bz:Zg->Ze->Zd->Nat->(Nat->Zj)->Nat->(Nat->ZA)->Int->Int×(Nat->Zj)×Nat×(Nat->ZA))(Bg:Zg->Ze->Zd->Nat->(Nat->Zj)->Nat->(Nat->ZA)->Int->Nat×(Nat->DT3)):ZU { (Zp P [Zft Sp Sk Se,Gm Rm] [] ze)with nm:=λg=>Kw g [41],hk:=Wx [⟨77,Um⟩,⟨79,UK Bb Bz Bg⟩] } 400 41 (.cons (.agg (Z9 za a)) (.cons (.agg (.cons (.int ze .i64 8) (.cons (.int ze .i64 0) (.cons (.int ze .i64 0) (.cons (.int ze .i64 0) (.cons (.int ze .i64 0) (.cons (.int za .i64 f) (.cons (.int ze .i64 0) (.cons (.int ze .i64 0) (.cons (.int ze .i64 0) (.cons (.int ze .u32 0) (.cons (.int ze .u32 0) (.cons (.int za .u32 s) (.cons .Zl .nil)))))))))))))) .nil))=VH f s a Sp Sk Se Rm Bb Bz Bg:=by kernel_rfl
def GA(f:Int)(s:Int)(a:Za):Za:=Z4 (VH f s a Zz QW XE YH Wn Xz XV).valOf.inner.hd.inner
def Vg(f:Int)(s:Int)(a:Za):Int:=(VH f s a Zz QW XE YH Wn Xz XV).valOf.inner.tl.hd.toInt
def Vh(f:Int)(s:Int)(a:Za):Int:=(VH f s a Zz QW XE YH Wn Xz XV).valOf.inner.tl.tl.hd.toInt
theorem doS_meets(f:Int)(s:Int)(a:Za)(h0:a.n1<=1000)(h1:a.n2<=1000)(h2:a.n3<=1000)(h3:a.n4<=1000)(h4:a.n5<=1000)(h5:a.n6<=1000)(h6:a.n7<=1000)(h7:a.n8<=1000)(h8:a.n10<=1000)(h9:a.n11<=1000)(h10:a.n12<=1000)(h11:∀j,(a.r5 j).n1<=1000)(h12:a.n2<=5)(h13:a.n12<=100)(h14:Xa (⟨a.n5,a.r5⟩:Zd)<=1000)(h15:∀o,YO (⟨a.n5,a.r5⟩:Zd) o<=8)(h16:XE (⟨a.n2,a.r2⟩:Zg) f s=0->(λ(p:Zg)(gu:Ze)(ga:Zd)=>(∀j,j<Xa ga->0<(Z7 ga j).n0/\(Z7 ga j).n0<=8/\∀q,q<(Z7 ga j).n0->(0<=Zk gu ((Z7 ga j).r0 q).f0/\Zk gu ((Z7 ga j).r0 q).f0<gu.n0)/\0<=(gu.r0 (Zk gu ((Z7 ga j).r0 q).f0).toNat).f3/\(gu.r0 (Zk gu ((Z7 ga j).r0 q).f0).toNat).f3<p.n0)/\(∀j,j<gu.n1->(0<=Zk gu (gu.r1 j).f0/\Zk gu (gu.r1 j).f0<gu.n0)/\0<=(gu.r0 (Zk gu (gu.r1 j).f0).toNat).f3/\(gu.r0 (Zk gu (gu.r1 j).f0).toNat).f3<p.n0)/\∀j,j<a.n12->(0<=Zk gu (a.r12 j).f0/\Zk gu (a.r12 j).f0<gu.n0)/\0<=(gu.r0 (Zk gu (a.r12 j).f0).toNat).f3/\(gu.r0 (Zk gu (a.r12 j).f0).toNat).f3<p.n0) (Zz (⟨a.n2,a.r2⟩:Zg) f s) (⟨a.n3,a.r3,a.n4,a.r4⟩:Ze) (⟨a.n5,a.r5⟩:Zd)):Zi P 41 (.cons (.agg (Z9 za a)) (.cons (.agg (.cons (.int ze .i64 8) (.cons (.int ze .i64 0) (.cons (.int ze .i64 0) (.cons (.int ze .i64 0) (.cons (.int ze .i64 0) (.cons (.int za .i64 f) (.cons (.int ze .i64 0) (.cons (.int ze .i64 0) (.cons (.int ze .i64 0) (.cons (.int ze .u32 0) (.cons (.int ze .u32 0) (.cons (.int za .u32 s) (.cons .Zl .nil)))))))))))))) .nil)) (.tup (.cons (.agg (Z9 za (GA f s a))) (.cons (.int za .i64 (Vg f s a)) (.cons (.int za .i64 (Vh f s a)) .nil)))):=by
 refine(show Yr (.tup (.cons (.agg ZbC) (.cons (.int za .i64 0) (.cons (.int za .i64 0) .nil)))) (VH f s a Zz QW XE YH Wn Xz XV).valOf=(.tup (.cons (.agg (Z9 za (GA f s a))) (.cons (.int za .i64 (Vg f s a)) (.cons (.int za .i64 (Vh f s a)) .nil))))from by kernel_rfl)▸ ?_
 refine Wy (E:={ (Zp P [Zft Zz QW XE,Gm YH] [] ze)with nm:=λg=>Kw g [41],hk:=Wx [⟨77,Um⟩,⟨79,UK Wn Xz XV⟩] }) ((Env.Ok.withNm (ZC hm hn (l:=[Zft Zz QW XE,Gm YH]) ⟨Zod,Zkn,trivial⟩ (ls:=[]) trivial ze) (λg=>Kw g [41])).KJ (l:=[⟨77,Um⟩,⟨79,UK Wn Xz XV⟩]) ⟨cpq_ok,off_ok,trivial⟩) (.tup (.cons (.agg ZbC) (.cons (.int za .i64 0) (.cons (.int za .i64 0) .nil)))) (Has.of hn Tryz.func41 rfl) (doS_tree f s a Zz QW XE YH Wn Xz XV) ?_ ?_
 ·refine⟨?_,⟨?_,⟨?_,⟨λhb0=>trivial,λhb0=>⟨λhb1=>⟨?_,⟨λhb2=>trivial,λhb2=>⟨?_,⟨?_,trivial⟩⟩⟩⟩,λhb1=>⟨λhb2=>trivial,λhb2=>⟨?_,⟨?_,trivial⟩⟩⟩⟩⟩⟩⟩⟩
  all_goals(first|exact⟨⟨QZ _,trivial⟩,h0,h1,h2,h3,h4,h5,h6,h7,h8,h9,h10,h11⟩|exact⟨rfl,h12⟩|exact Nat.le_of_eq (z8 _)|(refine λhs=>⟨⟨Nat.le_of_eq (z8 _),Nat.le_of_eq (z8 _)⟩,?_,h4,h11,h3,h2,h3,h14,(h16 (LawfulBEq.eq_of_beq hs)).1,(h16 (LawfulBEq.eq_of_beq hs)).2.1⟩;(repeat'(first|exact rfl|apply zB|intro _)))|(refine⟨?_,h5,h13,h2,h3,h4,h11,h15,(h16 (LawfulBEq.eq_of_beq hb1)).2.2⟩;(repeat'(first|exact rfl|exact trivial|exact λ_=>rfl|apply zB|intro _))))
 ·refine⟨⟨rfl,?_⟩,⟨⟨⟨rfl,?_⟩,⟨rfl,?_⟩⟩,⟨⟨rfl,?_⟩,⟨rfl,?_⟩⟩⟩⟩
  all_goals((repeat'(first|exact rfl|exact trivial|apply zB|intro _|(refine cP (p:=λv=>yg v=Yr _ v) (λhc=>?_) (λhc=>?_))));all_goals(exfalso;simp only[XQ,Wj,Ws,WE,Wq,WC,zM,yF]at*;omega))
abbrev en_ts(d:Za)(gn:Nat)(gr:Nat->DT3)(sa:Int)(p:Zg)(gu:Ze)(ga:Zd)(b:Int)(Ru:Za->Ze->Int->XZ)(Wr:YD->Bool)(i:Int)(z:Nat×(Nat->XZ)):V:=(.cons (.rptr za 16 1 (λ_=>chV d gn gr sa p gu ga) 0 0) (.cons (.int za .i64 b) (.cons .Zl (.cons (.int ze .i64 0) (.cons (.ptr ze 0 0 0 0) (.cons .Zl (.cons (.rsl za 11 d.n6 (λj=>Zo za (d.r6 j))) (.cons (.int za .i64 ((d.n6:Nat):Int)) (.cons (.int za .i64 i) .nil)))))))))
abbrev en_ys(d:Za)(gn:Nat)(gr:Nat->DT3)(sa:Int)(p:Zg)(gu:Ze)(ga:Zd)(b:Int)(Ru:Za->Ze->Int->XZ)(Wr:YD->Bool)(i:Int)(z:Nat×(Nat->XZ)):List Blk:=[.var (.cons (.osl za 1 5 0 z.1) .nil),.arr 5 z.1 (λj=>Ul za (z.2 j))]
def en_R(d:Za)(gn:Nat)(gr:Nat->DT3)(sa:Int)(p:Zg)(gu:Ze)(ga:Zd)(b:Int)(Ru:Za->Ze->Int->XZ)(Wr:YD->Bool)(i:Int)(z:Nat×(Nat->XZ)):Tree Rd:=
 let q5:=(zl za 4 gu.n0 λj=>Zr za (gu.2 j))
 let q6:=(zl za 4 gu.n1 λj=>Zn za (gu.4 j))
 let q0:=(V.rptr za (16:Nat) (1:Nat) (λjj=>ci d.f0 (zf (zl za 2 d.n1 λj=>ZR za (d.3 j)) (zf (zl za 1 p.n0 λj=>zf (zn za .u32 (p.2 j).f0) zh) (zf q5 (zf q6 (zf (zl za 2 ga.n0 λj=>Zw za (ga.2 j)) (zf (zl za 11 d.n6 λj=>Zo za (d.13 j)) (zf (zl za 2 d.n7 λj=>ZO za (d.15 j)) (zf (zl za 5 d.n8 λj=>ZI za (d.17 j)) (ci d.f9 (zf (zl za 2 d.n10 λj=>ZE za (d.20 j)) (zf (zl za 3 d.n11 λj=>Zx za (d.22 j)) (zf (zl za 2 d.n12 λj=>Zt za (d.24 j)) (zf (zn za .u64 d.f13) (zf (zl za 1 gn λj=>ci (gr j).f0 zh) (ci sa zh)))))))))))))))) (0:Nat) (0:Nat))
 let q1:=(ZH (zf q5 (zf q6 zh)))
 let q2:=(ci b (zf V.Zl (zf (zn ze .i64 (0:Int)) (zf (pt 0) (zf V.Zl (zf (zl za 11 d.n6 λjj=>Zo za (d.13 jj)) (ci ((d.n6:Nat):Int) (ci (zy .i64 (i+(1:Int))) zh))))))))
 let q3:=(QB (ci (d.13 (zi i)).f1 (ci (d.13 (zi i)).f2 (zf (zn za .u32 (d.13 (zi i)).f3) (ci (d.13 (zi i)).f4 zh)))))
 let q4:=(zf q0 (ci (d.13 (zi i)).f0 zh))
 zw ((0:Int)<=i/\i<((d.n6:Nat):Int)) (zw ((!Wr q3)=za->(sR q4 q4/\gu.n0<=(1000:Nat)/\gu.n1<=(1000:Nat))/\(0:Int)<=Zk q1 (d.13 (zi i)).f0/\Zk q1 (d.13 (zi i)).f0<((gu.n0:Nat):Int)) (zD (bif !Wr q3 then ze else(gu.2 (zi (Zk q1 (d.13 (zi i)).f0))).f3 != b) (zx (Ex.normal,ze,zf q0 q2,[zN (zf (V.osl za 1 5 0 (zL z)) zh),Blk.arr 5 (zL z) λjj=>Ul za (z.2 jj)])) (zw (sR q4 q4/\gu.n0<=(1000:Nat)/\gu.n1<=(1000:Nat)/\d.n6<=(1000:Nat)/\((0:Int)<=Zk q1 (d.13 (zi i)).f0/\Zk q1 (d.13 (zi i)).f0<((gu.n0:Nat):Int))/\((0:Int)<=Xm (d.13 (zi i)).f0 d.n6 λj=>ZV (Zo za (d.13 j)))/\(Xm (d.13 (zi i)).f0 d.n6 λj=>ZV (Zo za (d.13 j)))<((d.n6:Nat):Int)) (zw (zL z<=zL z/\fits (zL z+(1:Nat)) (40:Nat)) (zx (Ex.normal,ze,zf q0 q2,[zN (zf (V.osl za 1 5 0 (zL z+(1:Nat))) zh),Blk.arr 5 (zL z+(1:Nat)) λjj=>bif zo jj (zL z+nat_lit 0)then Ul za (Ru (Z4 (chV d gn gr sa p gu ga)) q1 (d.13 (zi i)).f0)else Ul za (z.2 jj)]))))))
theorem en_round(d:Za)(gn:Nat)(gr:Nat->DT3)(sa:Int)(p:Zg)(gu:Ze)(ga:Zd)(b:Int)(Ru:Za->Ze->Int->XZ)(Wr:YD->Bool):Yo P (Zp P [Vx,U8 Ru,Gp Wr] [] ze) 178 4 1 2 101 [0,1,2,6,7,8,21,22,23] [(0,.own),(1,.cell 0 0)] [] (en_ts d gn gr sa p gu ga b Ru Wr) (en_ys d gn gr sa p gu ga b Ru Wr) (λi=>(bif decide (i<((d.n6:Nat):Int))then za else ze)) (.exit 0) (en_R d gn gr sa p gu ga b Ru Wr):=λB i z=>by kernel_rfl
def Zio(d:Za)(gn:Nat)(gr:Nat->DT3)(sa:Int)(p:Zg)(gu:Ze)(ga:Zd)(b:Int)(Ru:Za->Ze->Int->XZ)(Wr:YD->Bool)(k:Nat)(z:Nat×(Nat->XZ)):Nat×(Nat->XZ):=(en_R d gn gr sa p gu ga b Ru Wr k z).carry ((λt y=>(((y.getD 0 .none).cells.nth 0).oslN,(λj=>Zbh ((y.getD 1 .none).Kg j))))) z
def ZfI(d:Za)(gn:Nat)(gr:Nat->DT3)(sa:Int)(p:Zg)(gu:Ze)(ga:Zd)(b:Int)(Ru:Za->Ze->Int->XZ)(Wr:YD->Bool)(k:Nat):Nat×(Nat->XZ):=ZQ ((0,(λ_=>Zbh .nil)):Nat×(Nat->XZ)) (Zio d gn gr sa p gu ga b Ru Wr) k
theorem en_cnt(d:Za)(gn:Nat)(gr:Nat->DT3)(sa:Int)(p:Zg)(gu:Ze)(ga:Zd)(b:Int)(Ru:Za->Ze->Int->XZ)(Wr:YD->Bool)(k:Nat):(ZfI d gn gr sa p gu ga b Ru Wr k).1<=k:=by
 induction k with
 |zero=>exact zJ _
 |succ k ih=>
  show(ZQ _ (Zio d gn gr sa p gu ga b Ru Wr) (k+1)).1<=_
  rw[ZaC]
  have h2:(ZQ _ (Zio d gn gr sa p gu ga b Ru Wr) k)=ZfI d gn gr sa p gu ga b Ru Wr k:=rfl
  rw[h2]
  generalize ZfI d gn gr sa p gu ga b Ru Wr k=z at ih
  have hA:z.1<=k+1:=by omega
  have hB:z.1+1<=k+1:=by omega
  exact WI (p:=λy:Nat×(Nat->XZ)=>y.1<=k+1) hA hB
def en_lp(d:Za)(gn:Nat)(gr:Nat->DT3)(sa:Int)(p:Zg)(gu:Ze)(ga:Zd)(b:Int)(Ru:Za->Ze->Int->XZ)(Wr:YD->Bool):Lp:=JE 178 4 1 2 101 [0,1,2,6,7,8,21,22,23] [(0,.own),(1,.cell 0 0)] [] (en_ts d gn gr sa p gu ga b Ru Wr) (en_ys d gn gr sa p gu ga b Ru Wr) (.exit 0) ((0,(λ_=>Zbh .nil)):Nat×(Nat->XZ)) (ZfI d gn gr sa p gu ga b Ru Wr) (d.n6)
theorem en_lp_ok(d:Za)(gn:Nat)(gr:Nat->DT3)(sa:Int)(p:Zg)(gu:Ze)(ga:Zd)(b:Int)(Ru:Za->Ze->Int->XZ)(Wr:YD->Bool)(hru:(U8 Ru).Ok P)(hwr:(Gp Wr).Ok P)(hl:d.n6<=1000)(hg0:gu.n0<=1000)(hg1:gu.n1<=1000)(hM:∀j,j<d.n6->(0<=Zk gu (d.r6 j).f0/\Zk gu (d.r6 j).f0<gu.n0)/\0<=Xm (d.r6 j).f0 d.n6 d.r6/\Xm (d.r6 j).f0 d.n6 d.r6<((d.n6:Nat):Int)):(en_lp d gn gr sa p gu ga b Ru Wr).Ok P:=by
 refine JY ((ZC hm hn (l:=[Vx,U8 Ru,Gp Wr]) ⟨ZhM,hru,hwr,trivial⟩ (ls:=[]) trivial ze)) rfl (by kernel_rfl) (en_round d gn gr sa p gu ga b Ru Wr) exN YK (λ_=>rfl) (rd:=(λ_ t y=>(((y.getD 0 .none).cells.nth 0).oslN,(λj=>Zbh ((y.getD 1 .none).Kg j))))) (λi z=>rfl) (λi=>(cS rfl rfl)) rfl (λi hlt hg=>?_) (λi z hi=>?_)
 ·have hltI:(i:Int)<((d.n6:Nat):Int):=by omega
  refine⟨?_,⟨?_,⟨λhb0=>trivial,λhb0=>⟨?_,⟨?_,trivial⟩⟩⟩⟩⟩
  all_goals(have hf0:=en_cnt d gn gr sa p gu ga b Ru Wr i)
  all_goals(first|omega|exact⟨by omega,by omega⟩|exact λ_=>⟨⟨QZ _,hg0,hg1⟩,(hM (zi (i:Int)) (by omega)).1⟩|exact⟨QZ _,hg0,hg1,hl,hM (zi (i:Int)) (by omega)⟩|exact⟨zJ _,by unfold fits;omega⟩)
 ·have hw:=(IntWalk.i64_in ((i:Int)+1) ⟨by omega,by omega⟩)
  refine⟨?_,?_⟩
  all_goals exact⟨rfl,YL (ts:=en_ts d gn gr sa p gu ga b Ru Wr) hw rfl,⟨LeK.var (Le.soft rfl),LeK.QL rfl (λj hj=>by first|rfl|exact ZbN (g:=λv=>(Ul za (Zbh v)).soft) rfl rfl),trivial⟩⟩
def Ziq(d:Za)(gn:Nat)(gr:Nat->DT3)(sa:Int)(p:Zg)(gu:Ze)(ga:Zd)(b:Int)(Ru:Za->Ze->Int->XZ)(Wr:YD->Bool):Tree V:=
 let q2:=(zl za 11 d.n6 λj=>Zo za (d.13 j))
 let q0:=(V.rptr za (16:Nat) (1:Nat) (λj=>ci d.f0 (zf (zl za 2 d.n1 λj=>ZR za (d.3 j)) (zf (zl za 1 p.n0 λj=>zf (zn za .u32 (p.2 j).f0) zh) (zf (zl za 4 gu.n0 λj=>Zr za (gu.2 j)) (zf (zl za 4 gu.n1 λj=>Zn za (gu.4 j)) (zf (zl za 2 ga.n0 λj=>Zw za (ga.2 j)) (zf q2 (zf (zl za 2 d.n7 λj=>ZO za (d.15 j)) (zf (zl za 5 d.n8 λj=>ZI za (d.17 j)) (ci d.f9 (zf (zl za 2 d.n10 λj=>ZE za (d.20 j)) (zf (zl za 3 d.n11 λj=>Zx za (d.22 j)) (zf (zl za 2 d.n12 λj=>Zt za (d.24 j)) (zf (zn za .u64 d.f13) (zf (zl za 1 gn λj=>ci (gr j).f0 zh) (ci sa zh)))))))))))))))) (0:Nat) (0:Nat))
 let q1:=(ci b (zf V.Zl (ci (0:Int) (zf (zV za 0 0 0 0) (zf V.Zl (zf q2 (ci ((d.n6:Nat):Int) (ci (0:Int) zh))))))))
 zw (zf q0 q1=zf q0 q1/\(((0:Nat)=(0:Nat)/\(1:Nat)<(2:Nat))/\zh=zh)/\(0:Nat)=(0:Nat)/\True) (zx (zn ze .i64 (0:Int)))
theorem Zo7(d:Za)(gn:Nat)(gr:Nat->DT3)(sa:Int)(p:Zg)(gu:Ze)(ga:Zd)(b:Int)(Ru:Za->Ze->Int->XZ)(Wr:YD->Bool):ZU (Zp P [Vx,U8 Ru,Gp Wr] [en_lp d gn gr sa p gu ga b Ru Wr] ze) 400 178 (.cons (.rptr za 16 1 (λ_=>chV d gn gr sa p gu ga) 0 0) (.cons (.int za .i64 b) (.cons .Zl .nil)))=Ziq d gn gr sa p gu ga b Ru Wr:=by kernel_rfl
def ZkU(d:Za)(gu:Ze)(b:Int):Int:=(Ziq d 0 (λ_=>ZM .nil) 0 (Z0 .nil) gu (ZT .nil) b Kk Q5).valOf.toInt
theorem Zo6(d:Za)(gn:Nat)(gr:Nat->DT3)(sa:Int)(p:Zg)(gu:Ze)(ga:Zd)(b:Int)(h0:d.n6<=1000)(h1:gu.n0<=1000)(h2:gu.n1<=1000)(h3:∀j,j<d.n6->(0<=Zk gu (d.r6 j).f0/\Zk gu (d.r6 j).f0<gu.n0)/\0<=Xm (d.r6 j).f0 d.n6 d.r6/\Xm (d.r6 j).f0 d.n6 d.r6<((d.n6:Nat):Int)):Zi P 178 (.cons (.rptr za 16 1 (λ_=>chV d gn gr sa p gu ga) 0 0) (.cons (.int za .i64 b) (.cons .Zl .nil))) (.int za .i64 (ZkU d gu b)):=by
 refine(show Yr (.int za .i64 0) (Ziq d gn gr sa p gu ga b Kk Q5).valOf=(.int za .i64 (ZkU d gu b))from by kernel_rfl)▸ ?_
 refine Wy (E:=(Zp P [Vx,U8 Kk,Gp Q5] [en_lp d gn gr sa p gu ga b Kk Q5] ze)) (ZC hm hn (l:=[Vx,U8 Kk,Gp Q5]) ⟨ZhM,Zkd,Zkv,trivial⟩ (ls:=[en_lp d gn gr sa p gu ga b Kk Q5]) ⟨en_lp_ok d gn gr sa p gu ga b Kk Q5 Zkd Zkv h0 h1 h2 h3,trivial⟩ ze) (.int za .i64 0) (Has.of hn Tryz.func178 rfl) (Zo7 d gn gr sa p gu ga b Kk Q5) ?_ ?_
 ·refine⟨?_,trivial⟩
  all_goals(first|exact en_fit d gn gr sa p gu ga b Kk Q5|((repeat'(first|exact rfl|exact QZ _|exact λ_=>⟨rfl,rfl⟩|apply zB|intro _));all_goals(try simp only[decide_eq_true_eq,decide_eq_false_iff_not]at*);all_goals(first|omega|(simp at*;omega))))
 ·refine⟨rfl,?_⟩
  all_goals((repeat'(first|exact rfl|exact trivial|apply zB|intro _|(refine cP (p:=λv=>yg v=Yr _ v) (λhc=>?_) (λhc=>?_))));all_goals(exfalso;simp only[XQ,Wj,Ws,WE,Wq,WC,zM,yF]at*;omega))
theorem meets_int{g:FuncId}{args:V}{x y:Int}{s t:Bool}(h:Zi P g args (.int s .i64 x))(e:x=y):Zi P g args (.int t .i64 y):=by
 subst e
 exact⟨h.1,h.2⟩
def Zfj:Con:=conS 178 (λx=>(.cons (.rptr za 16 1 (λ_=>chV (Z4 (x.hd.ZF 0)) ((x.hd.ZF 0).tl.tl.tl.tl.tl.tl.tl.tl.tl.tl.tl.tl.tl.tl.hd.Zy) (λj=>ZM ((x.hd.ZF 0).tl.tl.tl.tl.tl.tl.tl.tl.tl.tl.tl.tl.tl.tl.hd.ZB j)) ((x.hd.ZF 0).tl.tl.tl.tl.tl.tl.tl.tl.tl.tl.tl.tl.tl.tl.tl.hd.toInt) (Z0 (.cons (x.hd.ZF 0).tl.tl.hd .nil)) (ZH (.cons (x.hd.ZF 0).tl.tl.tl.hd (.cons (x.hd.ZF 0).tl.tl.tl.tl.hd .nil))) (ZT (.cons (x.hd.ZF 0).tl.tl.tl.tl.tl.hd .nil))) 0 0) (.cons (.int za .i64 x.tl.hd.toInt) (.cons .Zl .nil)))) (λx=>.int ze .i64 0) (λx=>(λ(d:Za)(gu:Ze)(b:Int)=>d.n6<=1000/\gu.n0<=1000/\gu.n1<=1000/\(∀j,j<d.n6->(0<=Zk gu (d.r6 j).f0/\Zk gu (d.r6 j).f0<gu.n0)/\0<=Xm (d.r6 j).f0 d.n6 d.r6/\Xm (d.r6 j).f0 d.n6 d.r6<((d.n6:Nat):Int))) (Z4 (x.hd.ZF 0)) (ZH (.cons (x.hd.ZF 0).tl.tl.tl.hd (.cons (x.hd.ZF 0).tl.tl.tl.tl.hd .nil))) x.tl.hd.toInt)
theorem c_ent0_ok:Zfj.Ok P:=Gv (λx h=>meets_int (Zo6 _ _ _ _ _ _ _ _ h.1 h.2.1 h.2.2.1 h.2.2.2) (by kernel_rfl))
def ZgU(a:Zg)(b:Int)(c:Int):Tree V:=
 let q0:=(zy .i64 (b+(1:Int)))
 let q1:=(zn za .u32 (zy .u32 ((BitVec.toNat (BitVec.ofInt (zR .u32) (a.2 ((0:Nat)+zi c)).f0|||BitVec.ofInt (zR .u32) (a.2 ((0:Nat)+zi b)).f0):Nat):Int)))
 let q2:=((zi b+(a.n0-zi q0):Nat):Int)
 let q3:=(Wo (Z0 (zf (zl za 1 a.n0 λj=>V.soft._f (zf (zn za .u32 (a.2 j).f0) zh) ⟨⟨V.soft._f (zn za .u32 (a.2 j).f0) zY,zY⟩,V.soft._f zh zY,zY⟩) zh)))
 let q6:=(zH (zf V.Zl zh))
 let q4:=(zx (V.tup (zf q6 (zf (zn ze .i64 (4:Int)) zh))))
 let q5:=(zH (zf (zl za 1 a.n0 λj=>zf (zn za .u32 (a.2 j).f0) zh) zh))
 let q7:=(zn ze .u32 (0:Int))
 zw (zf q5 zh=zf q5 zh/\a.n0<=(5:Nat)) (zD (bif V.toInt q3 != (0:Int)then ze else za) (zx (V.tup (zf q6 (ci (V.toInt q3) zh)))) (zD (bif bif bif decide (b<(0:Int))then ze else decide (b>=((a.n0:Nat):Int))then ze else za then ze else za) q4 (zD (bif bif bif decide (c<(0:Int))then ze else decide (c>=((a.n0:Nat):Int))then ze else za then ze else za) q4 (zw (a.n0<=(1000:Nat)/\∀(j:Nat),zf (zn za .u32 (a.2 j).f0) zh=zf (zn za .u32 (a.2 j).f0) zh) (zD (bif b==c then ze else za) (zx (V.tup (zf q6 (zf (zn ze .i64 (2:Int)) zh)))) (zw ((0:Int)<=c/\c<((a.n0:Nat):Int)) (zw ((0:Nat)+zi c<a.n0) (zw ((0:Int)<=b/\b<((a.n0:Nat):Int)) (zw ((0:Nat)+zi b<a.n0) (zw ((0:Int)<=c/\c<((a.n0:Nat):Int)) (zw ((0:Nat)+zi c<a.n0) (zw ((0:Int)<=((a.n0:Nat):Int)/\((a.n0:Nat):Int)<=((a.n0:Nat):Int)) (zw ((0:Int)<=zy .i64 (b+(1:Int))/\zy .i64 (b+(1:Int))<=((zi ((a.n0:Nat):Int):Nat):Int)) (zw ((0:Int)<=b/\b<=((zi q0:Nat):Int)) (zw ((b==zy .i64 (b+(1:Int)))=za) (zw ((0:Int)<=b/\b<=((a.n0:Nat):Int)) (zw ((0:Int)<=zy .i64 (b+(1:Int))/\zy .i64 (b+(1:Int))<=((a.n0:Nat):Int)) (zw (zi b+(a.n0-zi q0)<=a.n0) (zw ((0:Nat)+zi b+(a.n0-zi q0)<=a.n0/\∀(j:Nat),j<a.n0-zi q0->V.Y6 (bif zG ((0:Nat)+zi q0+j) a.n0 then bif zo ((0:Nat)+zi q0+j) ((0:Nat)+zi c)then zf q1 zh else zf (zn za .u32 (a.2 ((0:Nat)+zi q0+j)).f0) zh else zf V.junk zh)=ze/\V.clean (bif zG ((0:Nat)+zi q0+j) a.n0 then bif zo ((0:Nat)+zi q0+j) ((0:Nat)+zi c)then zf q1 zh else zf (zn za .u32 (a.2 ((0:Nat)+zi q0+j)).f0) zh else zf V.junk zh)=ze) (zw ((0:Int)<=((a.n0:Nat):Int)/\((a.n0:Nat):Int)<=((a.n0:Nat):Int)) (zw ((0:Int)<=q2/\q2<=((zi ((a.n0:Nat):Int):Nat):Int)) (zw ((0:Nat)+zi q2+(zi ((a.n0:Nat):Int)-zi q2)<=a.n0/\∀(j:Nat),j<zi ((a.n0:Nat):Int)-zi q2->V.Y6 (zf q7 zh)=ze/\V.clean (zf q7 zh)=ze) (zw ((0:Nat)+(zi b+(a.n0-zi q0))<=a.n0) (zx (V.tup (zf (zH (zf (zl za 1 (zi b+(a.n0-zi q0)) λj=>bif zK ((0:Nat)+zi q2) ((0:Nat)+j)&&zG ((0:Nat)+j) ((0:Nat)+zi q2+(zi ((a.n0:Nat):Int)-zi q2))then zf q7 zh else bif zK ((0:Nat)+zi b) ((0:Nat)+j)&&zG ((0:Nat)+j) ((0:Nat)+zi b+(a.n0-zi q0))then bif zG ((0:Nat)+zi q0+((0:Nat)+j-((0:Nat)+zi b))) a.n0 then bif zo ((0:Nat)+zi q0+((0:Nat)+j-((0:Nat)+zi b))) ((0:Nat)+zi c)then zf q1 zh else zf (zn za .u32 (a.2 ((0:Nat)+zi q0+((0:Nat)+j-((0:Nat)+zi b)))).f0) zh else zf V.junk zh else bif zo ((0:Nat)+j) ((0:Nat)+zi c)then zf q1 zh else zf (zn za .u32 (a.2 ((0:Nat)+j)).f0) zh) zh)) (zf (zn ze .i64 (0:Int)) zh)))))))))))))))))))))))))))
theorem ZqY(a:Zg)(b:Int)(c:Int):ZU { (Zp P [WG] [] ze)with way:=WV [(237,16,za)],hk:=Wx [⟨131,Gt⟩] } 400 188 (.cons (.agg (Y7 za a)) (.cons (.int za .i64 b) (.cons (.int za .i64 c) .nil)))=ZgU a b c:=by kernel_rfl
def Yu(a:Zg)(b:Int)(c:Int):Zg:=Z0 (ZgU a b c).valOf.inner.hd.inner
def Jt(a:Zg)(b:Int)(c:Int):Int:=(ZgU a b c).valOf.inner.tl.hd.toInt
theorem ZqX(a:Zg)(b:Int)(c:Int)(h0:a.n0<=5):Zi P 188 (.cons (.agg (Y7 za a)) (.cons (.int za .i64 b) (.cons (.int za .i64 c) .nil))) (.tup (.cons (.agg (Y7 za (Yu a b c))) (.cons (.int za .i64 (Jt a b c)) .nil))):=by
 refine Wy (E:={ (Zp P [WG] [] ze)with way:=WV [(237,16,za)],hk:=Wx [⟨131,Gt⟩] }) ((Env.Ok.ZbY (ZC hm hn (l:=[WG]) ⟨Zfr,trivial⟩ (ls:=[]) trivial ze) (WV [(237,16,za)])).KJ (l:=[⟨131,Gt⟩]) ⟨ZkB,trivial⟩) (.tup (.cons (.agg ZgV) (.cons (.int za .i64 0) .nil))) (Has.of hn Tryz.func188 rfl) (ZqY a b c) ?_ ?_
 ·refine⟨?_,⟨λhb0=>trivial,λhb0=>⟨λhb1=>trivial,λhb1=>⟨λhb2=>trivial,λhb2=>⟨?_,⟨λhb3=>trivial,λhb3=>⟨?_,⟨?_,⟨?_,⟨?_,⟨?_,⟨?_,⟨?_,⟨?_,⟨?_,⟨?_,⟨?_,⟨?_,⟨?_,⟨?_,⟨?_,⟨?_,⟨?_,⟨?_,trivial⟩⟩⟩⟩⟩⟩⟩⟩⟩⟩⟩⟩⟩⟩⟩⟩⟩⟩⟩⟩⟩⟩⟩⟩
  all_goals((repeat'(first|exact rfl|apply zB|intro _|(refine cP (p:=λv=>V.Y6 v=ze) (λhc=>?_) (λhc=>?_))|(refine cP (p:=λv=>V.clean v=ze) (λhc=>?_) (λhc=>?_))));all_goals(first|(exfalso;simp only[XQ,Wj,Ws,WE,Wq,WC,zM,yF]at*;omega)|(repeat'(first|exact rfl|exact λ_=>⟨rfl,rfl⟩|apply zB|intro _));all_goals(try simp only[decide_eq_true_eq,decide_eq_false_iff_not]at*);all_goals(first|omega|(simp at*;first|omega|(have hw:=IntWalk.i64_in (b+1) ⟨by omega,by omega⟩;first|omega|(simp at*;omega)|(rw[hw]at*;first|omega|(simp at*;omega)))))))
 ·refine⟨⟨rfl,?_⟩,⟨⟨rfl,?_⟩,⟨⟨rfl,?_⟩,⟨⟨rfl,?_⟩,⟨rfl,?_⟩⟩⟩⟩⟩
  all_goals((repeat'(first|exact rfl|exact trivial|apply zB|intro _|(refine cP (p:=λv=>yg v=Yr _ v) (λhc=>?_) (λhc=>?_))));all_goals(exfalso;simp only[XQ,Wj,Ws,WE,Wq,WC,zM,yF]at*;omega))
def Zfs(r0:Zg->Int->Int->Zg)(r1:Zg->Int->Int->Int):Con:=Yh 188 (λx=>(.cons (.agg (Y7 za (Z0 x.hd.inner))) (.cons (.int za .i64 x.tl.hd.toInt) (.cons (.int za .i64 x.tl.tl.hd.toInt) .nil)))) (λx=>(.tup (.cons (.agg (Y7 za (r0 (Z0 x.hd.inner) x.tl.hd.toInt x.tl.tl.hd.toInt))) (.cons (.int za .i64 (r1 (Z0 x.hd.inner) x.tl.hd.toInt x.tl.tl.hd.toInt)) .nil)))) (λx=>(λ(a:Zg)(b:Int)(c:Int)=>a.n0<=5) (Z0 x.hd.inner) x.tl.hd.toInt x.tl.tl.hd.toInt)
abbrev c_pJoin:Con:=Zfs Yu Jt
theorem Zob:c_pJoin.Ok P:=Yi (λx h=>ZqX _ _ _ h)
abbrev jn_ts(d:Za)(p:Zg)(gu:Ze)(ga:Zd)(no:Nat)(orr:Nat->Zj)(np:Nat)(pr:Nat->ZA)(sa:Int)(la:Int)(k f:Int)(i:Int)(z:Unit):V:=(.cons (.ptr ze 0 0 0 0) (.cons (.ptr ze 3 0 0 0) (.cons (.int za .i64 f) (.cons .Zl (.cons (.int za .i64 ((gu.n0:Nat):Int)) (.cons (.int za .i64 i) .nil))))))
abbrev jn_ys(d:Za)(p:Zg)(gu:Ze)(ga:Zd)(no:Nat)(orr:Nat->Zj)(np:Nat)(pr:Nat->ZA)(sa:Int)(la:Int)(k f:Int)(i:Int)(z:Unit):List Blk:=[.var (chO d p gu ga no np la .Zl sa),.arr 11 no (λj=>Zo za (orr j)),.arr 2 np (λj=>Zt za (pr j)),.var (.cons (.int ze .i64 9) (.cons (.int ze .i64 0) (.cons (.int ze .i64 0) (.cons (.int ze .i64 0) (.cons (.int ze .i64 0) (.cons (.int za .i64 k) (.cons (.int za .i64 f) (.cons (.int ze .i64 0) (.cons (.int ze .i64 0) (.cons (.int ze .u32 0) (.cons (.int ze .u32 0) (.cons (.int ze .u32 0) (.cons .Zl .nil)))))))))))))]
def jn_R(d:Za)(p:Zg)(gu:Ze)(ga:Zd)(no:Nat)(orr:Nat->Zj)(np:Nat)(pr:Nat->ZA)(sa:Int)(la:Int)(k f:Int)(i:Int)(z:Unit):Tree Rd:=
 let q0:=(zn ze .i64 (0:Int))
 let q1:=(zn ze .u32 (0:Int))
 zw (((0:Int)<=i/\i<((gu.n0:Nat):Int))/\((gu.2 (zi i)).f3==k)=za/\decide ((gu.2 (zi i)).f3>k)=za) (zx (Ex.normal,ze,zf (pt 0) (zf (pt 3) (ci f (zf V.Zl (ci ((gu.n0:Nat):Int) (ci (zy .i64 (i+(1:Int))) zh))))),[zN (ci d.f0 (zf (zl za 2 d.n1 λj=>ZR za (d.3 j)) (zf (zl za 1 p.n0 λj=>zf (zn za .u32 (p.2 j).f0) zh) (zf (zl za 4 gu.n0 λj=>Zr za (gu.2 j)) (zf (zl za 4 gu.n1 λj=>Zn za (gu.4 j)) (zf (zl za 2 ga.n0 λj=>Zw za (ga.2 j)) (zf (V.osl za 1 11 0 no) (zf (zl za 2 d.n7 λj=>ZO za (d.15 j)) (zf (zl za 5 d.n8 λj=>ZI za (d.17 j)) (ci d.f9 (zf (zl za 2 d.n10 λj=>ZE za (d.20 j)) (zf (zl za 3 d.n11 λj=>Zx za (d.22 j)) (zf (V.osl za 2 2 0 np) (zf (zn za .u64 la) (zf V.Zl (ci sa zh)))))))))))))))),Blk.arr 11 no λjj=>Zo za (orr jj),Blk.arr 2 np λjj=>Zt za (pr jj),zN (zf (zn ze .i64 (9:Int)) (zf q0 (zf q0 (zf q0 (zf q0 (ci k (ci f (zf q0 (zf q0 (zf q1 (zf q1 (zf q1 (zf V.Zl zh)))))))))))))]))
theorem jn_round(d:Za)(p:Zg)(gu:Ze)(ga:Zd)(no:Nat)(orr:Nat->Zj)(np:Nat)(pr:Nat->ZA)(sa:Int)(la:Int)(k f:Int):Yo P { (Zp P [] [] ze)with way:=WV [(128,58,za),(128,82,za)] } 128 10 20 20 102 [0,3,7,8,46,47] [(0,.own),(1,.own),(2,.own),(3,.own)] [] (jn_ts d p gu ga no orr np pr sa la k f) (jn_ys d p gu ga no orr np pr sa la k f) (λi=>(bif decide (i<((gu.n0:Nat):Int))then za else ze)) (.exit 0) (jn_R d p gu ga no orr np pr sa la k f):=λB i z=>by kernel_rfl
def jn_lp(d:Za)(p:Zg)(gu:Ze)(ga:Zd)(no:Nat)(orr:Nat->Zj)(np:Nat)(pr:Nat->ZA)(sa:Int)(la:Int)(k f:Int):Lp:=JE 128 10 20 20 102 [0,3,7,8,46,47] [(0,.own),(1,.own),(2,.own),(3,.own)] [] (jn_ts d p gu ga no orr np pr sa la k f) (jn_ys d p gu ga no orr np pr sa la k f) (.exit 0) () (λ_=>()) (gu.n0)
def jn_need(d:Za)(p:Zg)(gu:Ze)(ga:Zd)(no:Nat)(orr:Nat->Zj)(np:Nat)(pr:Nat->ZA)(sa:Int)(la:Int)(k f:Int):Prop:=YW 20 [] (jn_ts d p gu ga no orr np pr sa la k f) (jn_ys d p gu ga no orr np pr sa la k f) () (jn_ts d p gu ga no orr np pr sa la k f (0:Nat) ()) (jn_ys d p gu ga no orr np pr sa la k f (0:Nat) ())
theorem jn_fit(d:Za)(p:Zg)(gu:Ze)(ga:Zd)(no:Nat)(orr:Nat->Zj)(np:Nat)(pr:Nat->ZA)(sa:Int)(la:Int)(k f:Int):jn_need d p gu ga no orr np pr sa la k f:=⟨rfl,⟨Ze0 _,⟨rfl,rfl,λ_=>rfl⟩,⟨rfl,rfl,λ_=>rfl⟩,Ze0 _,trivial⟩⟩
theorem jn_lp_ok(d:Za)(p:Zg)(gu:Ze)(ga:Zd)(no:Nat)(orr:Nat->Zj)(np:Nat)(pr:Nat->ZA)(sa:Int)(la:Int)(k f:Int)(hl:gu.n0<=1000)(hD:∀j,j<gu.n0->(gu.r0 j).f3<k):(jn_lp d p gu ga no orr np pr sa la k f).Ok P:=by
 refine JY ((ZC hm hn (l:=[]) trivial (ls:=[]) trivial ze).ZbY (WV [(128,58,za),(128,82,za)])) rfl (by kernel_rfl) (jn_round d p gu ga no orr np pr sa la k f) exN YK (λ_=>rfl) (step:=λ_ z=>z) (rd:=(λ_ t y=>())) (λi z=>rfl) (λi=>rfl) rfl (λi hlt hg=>?_) (λi z hi=>?_)
 ·have hltI:(i:Int)<((gu.n0:Nat):Int):=by omega
  refine⟨?_,trivial⟩
  all_goals(have hf0:=hD (zi (i:Int)) (by omega))
  all_goals(repeat'(first|exact rfl|exact λ_=>⟨rfl,rfl⟩|apply zB|intro _))
  all_goals(try simp only[decide_eq_true_eq,decide_eq_false_iff_not,yj,yu]at*)
  all_goals(try simp(disch:=omega) only[IntWalk.i64_in])
  all_goals(first|omega|exact(by simp at*;omega))
 ·have hw:=(IntWalk.i64_in ((i:Int)+1) ⟨by omega,by omega⟩)
  all_goals exact⟨rfl,YL (ts:=jn_ts d p gu ga no orr np pr sa la k f) (a:=()) hw rfl,⟨LeK.refl _,LeK.QL rfl (λj hj=>congrArg yg (by first|rfl|exact ZaE (c:=Zo za) (r:=orr) j)),LeK.QL rfl (λj hj=>congrArg yg (by first|rfl|exact ZaE (c:=Zt za) (r:=pr) j)),LeK.refl _,trivial⟩⟩
def join_T(d:Za)(p:Zg)(gu:Ze)(ga:Zd)(no:Nat)(orr:Nat->Zj)(np:Nat)(pr:Nat->ZA)(sa:Int)(la:Int)(k:Int)(f:Int)(Jp:Zg->Int->Int->Zg)(Je:Zg->Int->Int->Int):Tree (V×List Blk):=
 let q3:=(vi (0:Int))
 let q19:=(zn za .u32 (0:Int))
 let q0:=(zf q3 (zf q3 (zf q3 (zf q3 (ci k (ci f (zf q3 (zf q3 (zf q19 (zf q19 (zf q19 (zf V.Zl zh))))))))))))
 let q1:=(zl za 4 gu.n0 λj=>Zr za (gu.2 j))
 let q2:=(zl za 4 gu.n1 λj=>Zn za (gu.4 j))
 let q4:=(zl za 1 (Jp p k f).n0 λj=>zf (zn za .u32 ((Jp p k f).2 j).f0) zh)
 let q5:=(zl za 2 d.n7 λj=>ZO za (d.15 j))
 let q6:=(zl za 2 d.n10 λj=>ZE za (d.20 j))
 let q7:=(zl za 3 d.n11 λj=>Zx za (d.22 j))
 let q8:=(zl za 2 ga.n0 λj=>Zw za (ga.2 j))
 let q9:=(Z0 (zf (zl za 1 p.n0 λj=>ZL za (p.2 j)) zh))
 let q10:=(zl za 5 d.n8 λj=>ZI za (d.17 j))
 let q11:=(zl za 2 d.n1 λj=>ZR za (d.3 j))
 let q12:=(zf (zV za 3 0 0 0) (ci f (zf V.Zl (ci ((gu.n0:Nat):Int) (zf q3 zh)))))
 let q13:=(zH (zf (zl za 1 p.n0 λj=>zf (zn za .u32 (p.2 j).f0) zh) zh))
 let q14:=(zf (zn za .u64 la) (zf V.Zl (ci sa zh)))
 let q15:=(zl za 11 no λj=>Zo za (orr ((0:Nat)+j)))
 let q16:=(ci k (ci f zh))
 let q17:=(zl za 2 np λj=>Zt za (pr ((0:Nat)+j)))
 let q18:=(ci f (zf V.Zl zh))
 zw (zf q13 q16=zf q13 q16/\p.n0<=(5:Nat)) (zw ((Je q9 k f != (0:Int))=za) (zw (decide (f>k)=za) (zw (zf (zV za 0 0 0 0) q12=zf (zV za 0 0 0 0) q12/\(vi d.f0=vi d.f0/\(q11=zl za 2 d.n1 λj=>ZR za (d.3 j))/\((zl za 1 (Jp q9 k f).n0 λj=>zf (zn za .u32 ((Jp q9 k f).2 j).f0) zh)=zl za 1 (Jp p k f).n0 λj=>zf (zn za .u32 ((Jp p k f).2 j).f0) zh)/\(q1=zl za 4 gu.n0 λj=>Zr za (gu.2 j))/\(q2=zl za 4 gu.n1 λj=>Zn za (gu.4 j))/\(q8=zl za 2 ga.n0 λj=>Zw za (ga.2 j))/\V.osl za 1 11 0 no=V.osl za 1 11 0 no/\(q5=zl za 2 d.n7 λj=>ZO za (d.15 j))/\(q10=zl za 5 d.n8 λj=>ZI za (d.17 j))/\vi d.f9=vi d.f9/\(q6=zl za 2 d.n10 λj=>ZE za (d.20 j))/\(q7=zl za 3 d.n11 λj=>Zx za (d.22 j))/\V.osl za 2 2 0 np=V.osl za 2 2 0 np/\zn za .u64 la=zn za .u64 la/\V.Zl=V.Zl/\vi sa=vi sa/\zh=zh)/\((11:Nat)=(11:Nat)/\no=no/\∀(j:Nat),Zo za (orr j)=Zo za (orr j))/\((2:Nat)=(2:Nat)/\np=np/\∀(j:Nat),Zt za (pr j)=Zt za (pr j))/\ci (9:Int) q0=ci (9:Int) q0/\True) (zw ((0:Nat)+no<=no/\(0:Nat)+np<=np) (zw (sR (zf (V.rptr ze (16:Nat) (1:Nat) (λjj=>ci d.f0 (zf q11 (zf q4 (zf q1 (zf q2 (zf q8 (zf q15 (zf q5 (zf q10 (ci d.f9 (zf q6 (zf q7 (zf q17 q14))))))))))))) (0:Nat) (0:Nat)) q18) (zf (V.rptr za (16:Nat) (1:Nat) (λjj=>ci d.f0 (zf q11 (zf q4 (zf q1 (zf q2 (zf q8 (zf q15 (zf q5 (zf q10 (ci d.f9 (zf q6 (zf q7 (zf q17 (zf (zn za .u64 la) (zf (zl za 1 (0:Nat) λj=>zf q3 zh) (ci sa zh)))))))))))))))) (0:Nat) (0:Nat)) q18)/\no<=(1000:Nat)/\gu.n0<=(1000:Nat)/\gu.n1<=(1000:Nat)/\∀(j:Nat),j<no->((0:Int)<=Zk (ZH (zf q1 (zf q2 zh))) (orr ((0:Nat)+j)).f0/\Zk (ZH (zf q1 (zf q2 zh))) (orr ((0:Nat)+j)).f0<((gu.n0:Nat):Int))/\((0:Int)<=Xm (orr ((0:Nat)+j)).f0 no λj=>ZV (Zo za (orr ((0:Nat)+j))))/\(Xm (orr ((0:Nat)+j)).f0 no λj=>ZV (Zo za (orr ((0:Nat)+j))))<(no:Int)) (zx (zn ze .i64 (0:Int),[zN (ci d.f0 (zf q11 (zf q4 (zf q1 (zf q2 (zf q8 (zf (V.osl za 1 11 0 no) (zf q5 (zf q10 (ci d.f9 (zf q6 (zf q7 (zf (V.osl za 2 2 0 np) q14))))))))))))),Blk.arr 11 no λj=>Zo za (orr j),Blk.arr 2 np λj=>Zt za (pr j)])))))))
theorem join_tree(d:Za)(p:Zg)(gu:Ze)(ga:Zd)(no:Nat)(orr:Nat->Zj)(np:Nat)(pr:Nat->ZA)(sa:Int)(la:Int)(k:Int)(f:Int)(Jp:Zg->Int->Int->Zg)(Je:Zg->Int->Int->Int):evH { (Zp P [Zfs Jp Je,Zfj] [jn_lp d (Jp p k f) gu ga no orr np pr sa la k f] ze)with way:=WV [(128,25,za),(128,37,za)] } 400 128 (.cons (.ptr ze 0 0 0 0) (.cons (.agg (.cons (.int ze .i64 9) (.cons (.int ze .i64 0) (.cons (.int ze .i64 0) (.cons (.int ze .i64 0) (.cons (.int ze .i64 0) (.cons (.int za .i64 k) (.cons (.int za .i64 f) (.cons (.int ze .i64 0) (.cons (.int ze .i64 0) (.cons (.int ze .u32 0) (.cons (.int ze .u32 0) (.cons (.int ze .u32 0) (.cons .Zl .nil)))))))))))))) .nil)) [.var (chO d p gu ga no np la .Zl sa),.arr 11 no (λj=>Zo za (orr j)),.arr 2 np (λj=>Zt za (pr j))]=join_T d p gu ga no orr np pr sa la k f Jp Je:=by kernel_rfl
def join_p(p:Zg)(k:Int)(f:Int):Zg:=Yu p k f
theorem join_at(d:Za)(p:Zg)(gu:Ze)(ga:Zd)(no:Nat)(orr:Nat->Zj)(np:Nat)(pr:Nat->ZA)(sa:Int)(la:Int)(k:Int)(f:Int)(h0:p.n0<=5)(h1:Jt p k f=0)(h2:f<=k)(h3:gu.n0<=1000)(h4:gu.n1<=1000)(h5:no<=1000)(h6:∀j,j<gu.n0->(gu.r0 j).f3<k)(h7:∀j,j<no->(0<=Zk gu (orr j).f0/\Zk gu (orr j).f0<gu.n0)/\0<=Xm (orr j).f0 no orr/\Xm (orr j).f0 no orr<((no:Nat):Int)):YG P 128 (.cons (.ptr ze 0 0 0 0) (.cons (.agg (.cons (.int ze .i64 9) (.cons (.int ze .i64 0) (.cons (.int ze .i64 0) (.cons (.int ze .i64 0) (.cons (.int ze .i64 0) (.cons (.int za .i64 k) (.cons (.int za .i64 f) (.cons (.int ze .i64 0) (.cons (.int ze .i64 0) (.cons (.int ze .u32 0) (.cons (.int ze .u32 0) (.cons (.int ze .u32 0) (.cons .Zl .nil)))))))))))))) .nil)) [.var (chO d p gu ga no np la .Zl sa),.arr 11 no (λj=>Zo za (orr j)),.arr 2 np (λj=>Zt za (pr j))] (.leaf (.int ze .i64 0,[.var (chO d ((join_p p k f)) gu ga no np la .Zl sa),.arr 11 no (λj=>Zo za (orr j)),.arr 2 np (λj=>Zt za (pr j))])):=by
 have hfin:(join_T d p gu ga no orr np pr sa la k f Yu Jt).bare=(.leaf (.int ze .i64 0,[.var (chO d ((join_p p k f)) gu ga no np la .Zl sa),.arr 11 no (λj=>Zo za (orr j)),.arr 2 np (λj=>Zt za (pr j))])):=by
  kernel_rfl
 rw[<- hfin]
 refine Zga (E:={ (Zp P [Zfs Yu Jt,Zfj] [jn_lp d (Yu p k f) gu ga no orr np pr sa la k f] ze)with way:=WV [(128,25,za),(128,37,za)] }) (Env.Ok.ZbY (ZC hm hn (l:=[Zfs Yu Jt,Zfj]) ⟨Zob,c_ent0_ok,trivial⟩ (ls:=[jn_lp d (Yu p k f) gu ga no orr np pr sa la k f]) ⟨jn_lp_ok d (Yu p k f) gu ga no orr np pr sa la k f h3 h6,trivial⟩ ze) (WV [(128,25,za),(128,37,za)])) (join_tree d p gu ga no orr np pr sa la k f Yu Jt) ?_
 refine⟨?_,⟨?_,⟨?_,⟨?_,⟨?_,⟨?_,trivial⟩⟩⟩⟩⟩⟩
 all_goals(first|exact jn_fit d (Yu p k f) gu ga no orr np pr sa la k f|(first|exact⟨rfl,h0⟩|exact decide_eq_false (by omega)|(show(Jt p k f != (0:Int))=za;rw[h1];rfl)|(have h8:∀j,j<no->((0:Int)<=Zk gu (orr (0+j)).f0/\Zk gu (orr (0+j)).f0<gu.n0)/\0<=Xm (orr (0+j)).f0 no (λj=>orr (0+j))/\Xm (orr (0+j)).f0 no (λj=>orr (0+j))<((no:Nat):Int):=(by simpa only[z8]using h7);refine⟨?_,h5,h3,h4,λj hj=>⟨⟨(h8 j hj).1.1,(h8 j hj).1.2⟩,(h8 j hj).2.1,(h8 j hj).2.2⟩⟩;(repeat'(first|exact rfl|apply zB|intro _)))|exact⟨by omega,by omega⟩|(repeat'(first|exact rfl|exact λ_=>rfl|apply zB|intro _))))
def Zdg(fp:Zg->Int->Int->Zg):HK:=λargs bl=>match args,bl with
 | .cons _ (.cons (.agg e) .nil),[.var c,.arr _ no g1,.arr _ np g2]=>some (.need (hkEq args bl (.cons (.ptr ze 0 0 0 0) (.cons (.agg (.cons (.int ze .i64 9) (.cons (.int ze .i64 0) (.cons (.int ze .i64 0) (.cons (.int ze .i64 0) (.cons (.int ze .i64 0) (.cons (.int za .i64 ((e.nth 5).toInt)) (.cons (.int za .i64 ((e.nth 6).toInt)) (.cons (.int ze .i64 0) (.cons (.int ze .i64 0) (.cons (.int ze .u32 0) (.cons (.int ze .u32 0) (.cons (.int ze .u32 0) (.cons .Zl .nil)))))))))))))) .nil)) [.var (chO (Z4 c) (Z0 (.cons (c.nth 2) .nil)) (ZH (.cons (c.nth 3) (.cons (c.nth 4) .nil))) (ZT (.cons (c.nth 5) .nil)) (no) (np) ((c.nth 13).toInt) .Zl ((c.nth 15).toInt)),.arr 11 (no) (λj=>Zo za (((λj=>ZV (g1 j))) j)),.arr 2 (np) (λj=>Zt za (((λj=>Ye (g2 j))) j))]/\(λ(d:Za)(p:Zg)(gu:Ze)(ga:Zd)(no:Nat)(orr:Nat->Zj)(np:Nat)(pr:Nat->ZA)(sa:Int)(la:Int)(k:Int)(f:Int)=>p.n0<=5/\Jt p k f=0/\f<=k/\gu.n0<=1000/\gu.n1<=1000/\no<=1000/\(∀j,j<gu.n0->(gu.r0 j).f3<k)/\(∀j,j<no->(0<=Zk gu (orr j).f0/\Zk gu (orr j).f0<gu.n0)/\0<=Xm (orr j).f0 no orr/\Xm (orr j).f0 no orr<((no:Nat):Int))) (Z4 c) (Z0 (.cons (c.nth 2) .nil)) (ZH (.cons (c.nth 3) (.cons (c.nth 4) .nil))) (ZT (.cons (c.nth 5) .nil)) (no) ((λj=>ZV (g1 j))) (np) ((λj=>Ye (g2 j))) ((c.nth 15).toInt) ((c.nth 13).toInt) ((e.nth 5).toInt) ((e.nth 6).toInt)) (.leaf (.int ze .i64 0,[.var (chO (Z4 c) ((fp (Z0 (.cons (c.nth 2) .nil)) ((e.nth 5).toInt) ((e.nth 6).toInt))) (ZH (.cons (c.nth 3) (.cons (c.nth 4) .nil))) (ZT (.cons (c.nth 5) .nil)) (no) (np) ((c.nth 13).toInt) .Zl ((c.nth 15).toInt)),.arr 11 (no) (λj=>Zo za (((λj=>ZV (g1 j))) j)),.arr 2 (np) (λj=>Zt za (((λj=>Ye (g2 j))) j))])))
 |_,_=>none
abbrev join_K:HK:=Zdg join_p
theorem join_ok:Xj P 128 join_K:=by
 intro args bl T hT
 unfold join_K Zdg at hT
 split at hT
 ·rename_i q0 e c q1 no g1 q2 np g2
  injection hT with hT
  subst hT
  exact Zgb λhp=>YG.eq (join_at (Z4 c) (Z0 (.cons (c.nth 2) .nil)) (ZH (.cons (c.nth 3) (.cons (c.nth 4) .nil))) (ZT (.cons (c.nth 5) .nil)) (no) ((λj=>ZV (g1 j))) (np) ((λj=>Ye (g2 j))) ((c.nth 15).toInt) ((c.nth 13).toInt) ((e.nth 5).toInt) ((e.nth 6).toInt) hp.2.1 hp.2.2.1 hp.2.2.2.1 hp.2.2.2.2.1 hp.2.2.2.2.2.1 hp.2.2.2.2.2.2.1 hp.2.2.2.2.2.2.2.1 hp.2.2.2.2.2.2.2.2) hp.1
 ·cases hT
def Za3(k:Int)(f:Int)(a:Za)(Jp:Zg->Int->Int->Zg)(Rm:Zg->Ze->Zd->Bool)(Bb:Zg->Ze->Zd->Nat->(Nat->Zj)->Nat->(Nat->ZA)->Int->Bool)(Bz:Zg->Ze->Zd->Nat->(Nat->Zj)->Nat->(Nat->ZA)->Int->Int×(Nat->Zj)×Nat×(Nat->ZA))(Bg:Zg->Ze->Zd->Nat->(Nat->Zj)->Nat->(Nat->ZA)->Int->Nat×(Nat->DT3)):Tree V:=
 let q1:=(Jp (Z0 (zf (zl za 1 a.n2 λj=>ZL za (Yq (ZL za (a.5 j)))) zh)) k f)
 let q24:=(Z0 (zf (zl za 1 q1.n0 λj=>ZL za (q1.2 j)) zh))
 let q19:=(zl za 4 a.n3 λj=>Zr za (YT (Zr za (YT (Zr za (a.7 j))))))
 let q21:=(zl za 4 a.n4 λj=>Zn za (Yk (Zn za (Yk (Zn za (a.9 j))))))
 let q4:=(ZH (zf q19 (zf q21 zh)))
 let q16:=(ZT (zf (zl za 2 a.n5 λj=>Zw za (YV (Zw za (YV (Zw za (a.11 j)))))) zh))
 let q0:=(Bz q24 q4 q16 a.n6 (λj=>ZV (Zo za (ZV (Zo za (ZV (Zo za (a.13 j))))))) a.n12 (λj=>Ye (Zt za (Ye (Zt za (Ye (Zt za (a.24 j))))))) a.f13)
 let q7:=(zl za 2 a.n5 λj=>ci (YV (Zw za (YV (Zw za (a.11 j))))).f0 (zf (zl za 1 (YV (Zw za (YV (Zw za (a.11 j))))).n1 λj_1=>ci ((YV (Zw za (YV (Zw za (a.11 j))))).r1 j_1).f0 zh) zh))
 let q26:=(zl za 2 a.n7 λj=>ZO za (Qn (ZO za (Qn (ZO za (a.15 j))))))
 let q29:=(zl za 5 a.n8 λj=>ZI za (Ww (ZI za (Ww (ZI za (a.17 j))))))
 let q27:=(zl za 2 a.n10 λj=>ZE za (QS (ZE za (QS (ZE za (a.20 j))))))
 let q28:=(zl za 3 a.n11 λj=>Zx za (Ya (Zx za (Ya (Zx za (a.22 j))))))
 let q37:=(zn za .u64 a.f13)
 let q40:=(vi (0:Int))
 let q23:=(zf q37 (zf V.Zl (zf q40 zh)))
 let q2:=(zf q19 (zf q21 (zf q7 (zf (V.osl za 1 11 0 a.n6) (zf q26 (zf q29 (ci a.f9 (zf q27 (zf q28 (zf (V.osl za 2 2 0 a.n12) q23))))))))))
 let q3:=(zl za 2 a.n5 λj=>ci (YV (Zw za (YV (Zw za (YV (Zw za (a.11 j))))))).f0 (zf (zl za 1 (YV (Zw za (YV (Zw za (YV (Zw za (a.11 j))))))).n1 λj_1=>ci ((YV (Zw za (YV (Zw za (YV (Zw za (a.11 j))))))).r1 j_1).f0 zh) zh))
 let q18:=(zn ze .i64 (0:Int))
 let q42:=(zn ze .u32 (0:Int))
 let q5:=(zf (pt 0) (zf (zH (zf (zn ze .i64 (9:Int)) (zf q18 (zf q18 (zf q18 (zf q18 (ci k (ci f (zf q18 (zf q18 (zf q42 (zf q42 (zf q42 (zf V.Zl zh)))))))))))))) zh))
 let q6:=(Ze.mk a.6 a.r3 a.8 a.r4)
 let q8:=(zl za 2 a.n7 λj=>ZO za (Qn (ZO za (Qn (ZO za (Qn (ZO za (a.15 j))))))))
 let q9:=(zl za 4 a.n3 λj=>Zr za (YT (Zr za (YT (Zr za (YT (Zr za (a.7 j))))))))
 let q10:=(zH (zf q18 (zf V.Zl (zf V.Zl (zf V.Zl (zf V.Zl (zf V.Zl (zf V.Zl (zf V.Zl (zf V.Zl (zf q18 (zf V.Zl (zf V.Zl (zf V.Zl (zf (zn ze .u64 (0:Int)) zh)))))))))))))))
 let q11:=(zl za 2 a.n10 λj=>ZE za (QS (ZE za (QS (ZE za (QS (ZE za (a.20 j))))))))
 let q12:=(zl za 3 a.n11 λj=>Zx za (Ya (Zx za (Ya (Zx za (Ya (Zx za (a.22 j))))))))
 let q13:=(zl za 5 a.n8 λj=>ZI za (Ww (ZI za (Ww (ZI za (Ww (ZI za (a.17 j))))))))
 let q14:=(zl za 2 a.n1 λj=>ZR za (Jl (ZR za (Jl (ZR za (Jl (ZR za (a.3 j))))))))
 let q15:=(zl za 4 a.n4 λj=>Zn za (Yk (Zn za (Yk (Zn za (Yk (Zn za (a.9 j))))))))
 let q17:=(zl za 2 a.n5 λj=>ci (YV (Zw za (a.11 j))).f0 (zf (zl za 1 (YV (Zw za (a.11 j))).n1 λj_1=>ci ((YV (Zw za (a.11 j))).r1 j_1).f0 zh) zh))
 let q20:=(zl za 2 a.n1 λj=>ZR za (Jl (ZR za (Jl (ZR za (a.3 j))))))
 let q22:=(zl za 1 q1.n0 λj=>zf (zn za .u32 (Yq (ZL za (q1.2 j))).f0) zh)
 let q25:=(zu (zu (Bz (Jp (Zg.mk a.4 a.r2) k f) q6 (Zd.mk a.10 a.r5) a.n6 (λj=>a.13 j) a.n12 (λj=>a.24 j) a.25)))
 let q30:=(zl za 1 a.n2 λj=>zf (zn za .u32 (Yq (ZL za (a.5 j))).f0) zh)
 let q31:=(((Jp (Zg.mk a.4 a.r2) k f).n0:Nat):Int)
 let q32:=(zl za 2 a.n7 λj=>ZO za (Qn (ZO za (a.15 j))))
 let q33:=(zl za 4 a.n3 λj=>Zr za (YT (Zr za (a.7 j))))
 let q34:=(zl za 2 a.n10 λj=>ZE za (QS (ZE za (a.20 j))))
 let q35:=(zl za 3 a.n11 λj=>Zx za (Ya (Zx za (a.22 j))))
 let q36:=(zl za 5 a.n8 λj=>ZI za (Ww (ZI za (a.17 j))))
 let q38:=(zl za 2 a.n1 λj=>ZR za (Jl (ZR za (a.3 j))))
 let q39:=(zl za 4 a.n4 λj=>Zn za (Yk (Zn za (a.9 j))))
 let q41:=(zl za 1 q1.n0 λj=>zf (zn za .u32 (q1.2 j).f0) zh)
 zw (hkEq (zf (zH (ci a.f0 (zf (zl za 2 a.n1 λj=>ZR za (a.3 j)) (zf (zl za 1 a.n2 λj=>zf (zn za .u32 (a.5 j).f0) zh) (zf (zl za 4 a.n3 λj=>Zr za (a.7 j)) (zf (zl za 4 a.n4 λj=>Zn za (a.9 j)) (zf (zl za 2 a.n5 λj=>ci (a.11 j).f0 (zf (zl za 1 (a.11 j).n1 λj_1=>ci ((a.11 j).r1 j_1).f0 zh) zh)) (zf (zl za 11 a.n6 λj=>Zo za (a.13 j)) (zf (zl za 2 a.n7 λj=>ZO za (a.15 j)) (zf (zl za 5 a.n8 λj=>ZI za (a.17 j)) (ci a.f9 (zf (zl za 2 a.n10 λj=>ZE za (a.20 j)) (zf (zl za 3 a.n11 λj=>Zx za (a.22 j)) (zf (zl za 2 a.n12 λj=>Zt za (a.24 j)) (zf q37 zh))))))))))))))) zh) [] (zf (zH (ci a.f0 (zf q38 (zf q30 (zf q33 (zf q39 (zf q17 (zf (zl za 11 a.n6 λj=>Zo za (ZV (Zo za (a.13 j)))) (zf q32 (zf q36 (ci a.f9 (zf q34 (zf q35 (zf (zl za 2 a.n12 λj=>Zt za (Ye (Zt za (a.24 j)))) (zf q37 zh))))))))))))))) zh) []/\a.n1<=(1000:Nat)/\a.n2<=(1000:Nat)/\a.n3<=(1000:Nat)/\a.n4<=(1000:Nat)/\a.n5<=(1000:Nat)/\a.n6<=(1000:Nat)/\a.n7<=(1000:Nat)/\a.n8<=(1000:Nat)/\a.n10<=(1000:Nat)/\a.n11<=(1000:Nat)/\a.n12<=(1000:Nat)/\∀(j:Nat),(a.11 j).n1<=(1000:Nat)) (zw (hkEq q5 [zN (ci a.f0 (zf q38 (zf q30 (zf q33 (zf q39 (zf q17 (zf (V.osl za 1 11 0 a.n6) (zf q32 (zf q36 (ci a.f9 (zf q34 (zf q35 (zf (V.osl za 2 2 0 a.n12) (zf q37 (zf V.Zl (zf q18 zh)))))))))))))))),Blk.arr 11 a.n6 λj=>Zo za (ZV (Zo za (a.13 j))),Blk.arr 2 a.n12 λj=>Zt za (Ye (Zt za (a.24 j)))] q5 [zN (ci a.f0 (zf q20 (zf (zl za 1 a.n2 λj=>zf (zn za .u32 (Yq (ZL za (Yq (ZL za (a.5 j))))).f0) zh) q2))),Blk.arr 11 a.n6 λj=>Zo za (ZV (Zo za (a.13 j))),Blk.arr 2 a.n12 λj=>Zt za (Ye (Zt za (a.24 j)))]/\a.4<=(5:Nat)/\Jt (Zg.mk a.4 a.r2) k f=(0:Int)/\f<=k/\a.6<=(1000:Nat)/\a.8<=(1000:Nat)/\a.n6<=(1000:Nat)/\(∀(j:Nat),j<a.6->(a.7 j).f3<k)/\∀(j:Nat),j<a.n6->((0:Int)<=Zk q6 (a.13 j).f0/\Zk q6 (a.13 j).f0<(a.6:Int))/\((0:Int)<=Xm (a.13 j).f0 a.n6 λj=>a.13 j)/\(Xm (a.13 j).f0 a.n6 λj=>a.13 j)<((a.n6:Nat):Int)) (zw (((0:Nat)+a.n6<=a.n6/\(0:Nat)+a.n12<=a.n12)/\sR (zf (V.rptr ze (16:Nat) (1:Nat) (λjj=>ci a.f0 (zf q20 (zf q41 (zf q19 (zf q21 (zf q7 (zf (zl za 11 a.n6 λj=>Zo za (ZV (Zo za (a.13 ((0:Nat)+j))))) (zf q26 (zf q29 (ci a.f9 (zf q27 (zf q28 (zf (zl za 2 a.n12 λj=>Zt za (Ye (Zt za (a.24 ((0:Nat)+j))))) q23))))))))))))) (0:Nat) (0:Nat)) zh) (zf (V.rptr za (16:Nat) (1:Nat) (λjj=>ci a.f0 (zf q14 (zf q22 (zf q9 (zf q15 (zf q3 (zf (zl za 11 a.n6 λj=>Zo za (ZV (Zo za (ZV (Zo za (ZV (Zo za (a.13 ((0:Nat)+j))))))))) (zf q8 (zf q13 (ci a.f9 (zf q11 (zf q12 (zf (zl za 2 a.n12 λj=>Zt za (Ye (Zt za (Ye (Zt za (Ye (Zt za (a.24 ((0:Nat)+j))))))))) (zf q37 (zf (zl za 1 (0:Nat) λj=>zf q40 zh) (zf q40 zh)))))))))))))))) (0:Nat) (0:Nat)) zh)/\a.10<=(1000:Nat)/\(∀(j:Nat),(a.11 j).n1<=(1000:Nat))/\a.8<=(1000:Nat)/\a.6<=(1000:Nat)/\a.8<=(1000:Nat)/\Xa (Zd.mk a.10 a.r5)<=(1000:Nat)/\(∀(j:Nat),j<Xa (Zd.mk a.10 a.r5)->(0:Nat)<Zc.n0 (Z7 (Zd.mk a.10 a.r5) j)/\Zc.n0 (Z7 (Zd.mk a.10 a.r5) j)<=(8:Nat)/\∀(q:Nat),q<Zc.n0 (Z7 (Zd.mk a.10 a.r5) j)->((0:Int)<=Zk q6 (Zc.r0 (Z7 (Zd.mk a.10 a.r5) j) q).f0/\Zk q6 (Zc.r0 (Z7 (Zd.mk a.10 a.r5) j) q).f0<(a.6:Int))/\(0:Int)<=(a.7 (zi (Zk q6 (Zc.r0 (Z7 (Zd.mk a.10 a.r5) j) q).f0))).f3/\(a.7 (zi (Zk q6 (Zc.r0 (Z7 (Zd.mk a.10 a.r5) j) q).f0))).f3<q31)/\∀(j:Nat),j<a.8->((0:Int)<=Zk q6 (a.9 j).f0/\Zk q6 (a.9 j).f0<(a.6:Int))/\(0:Int)<=(a.7 (zi (Zk q6 (a.9 j).f0))).f3/\(a.7 (zi (Zk q6 (a.9 j).f0))).f3<q31) (zD (!Rm q24 q4 q16) (zx (V.tup (zf q10 (zf q18 (zf (zn ze .i64 (8:Int)) zh))))) (zw (hkEq (zf (pt 0) zh) [zN (ci a.f0 (zf q20 (zf q41 q2))),Blk.arr 11 a.n6 λj=>Zo za (ZV (Zo za (a.13 j))),Blk.arr 2 a.n12 λj=>Zt za (Ye (Zt za (a.24 j)))] (zf (pt 0) zh) [zN (ci a.f0 (zf q14 (zf q22 (zf q9 (zf q15 (zf q3 (zf (V.osl za 1 11 0 a.n6) (zf q8 (zf q13 (ci a.f9 (zf q11 (zf q12 (zf (V.osl za 2 2 0 a.n12) q23))))))))))))),Blk.arr 11 a.n6 λj=>Zo za (ZV (Zo za (a.13 j))),Blk.arr 2 a.n12 λj=>Zt za (Ye (Zt za (a.24 j)))]/\a.n6<=(1000:Nat)/\a.n12<=(100:Nat)/\a.6<=(1000:Nat)/\a.8<=(1000:Nat)/\a.10<=(1000:Nat)/\(∀(j:Nat),(a.11 j).n1<=(1000:Nat))/\(∀(o:Int),YO (Zd.mk a.10 a.r5) o<=(8:Nat))/\∀(j:Nat),j<a.n12->((0:Int)<=Zk q6 (a.24 j).f0/\Zk q6 (a.24 j).f0<(a.6:Int))/\(0:Int)<=(a.7 (zi (Zk q6 (a.24 j).f0))).f3/\(a.7 (zi (Zk q6 (a.24 j).f0))).f3<q31) (zD (bif Bb q24 q4 q16 a.n6 (λj=>ZV (Zo za (ZV (Zo za (ZV (Zo za (a.13 j))))))) a.n12 (λj=>Ye (Zt za (Ye (Zt za (Ye (Zt za (a.24 j))))))) a.f13 then ze else za) (zx (V.tup (zf q10 (zf q18 (zf (zn ze .i64 (6:Int)) zh))))) (zw ((0:Nat)+a.n6<=a.n6) (zw ((0:Nat)+zL q25<=zL q25) (zx (V.tup (zf (zH (ci a.f0 (zf q14 (zf q22 (zf q9 (zf q15 (zf q3 (zf (zl za 11 a.n6 λj=>Zo za ((zu q0).1 ((0:Nat)+j))) (zf q8 (zf q13 (ci a.f9 (zf q11 (zf q12 (zf (zl za 2 (zL (zu (zu q0))) λj=>Zt za ((zu (zu q0)).2 ((0:Nat)+j))) (zf (zn za .u64 (zL q0)) zh))))))))))))))) (zf q40 (zf q18 zh))))))))))))
theorem doJ_tree(k:Int)(f:Int)(a:Za)(Jp:Zg->Int->Int->Zg)(Rm:Zg->Ze->Zd->Bool)(Bb:Zg->Ze->Zd->Nat->(Nat->Zj)->Nat->(Nat->ZA)->Int->Bool)(Bz:Zg->Ze->Zd->Nat->(Nat->Zj)->Nat->(Nat->ZA)->Int->Int×(Nat->Zj)×Nat×(Nat->ZA))(Bg:Zg->Ze->Zd->Nat->(Nat->Zj)->Nat->(Nat->ZA)->Int->Nat×(Nat->DT3)):ZU { (Zp P [Gm Rm] [] ze)with nm:=λg=>Kw g [41],hk:=Wx [⟨77,Um⟩,⟨128,Zdg Jp⟩,⟨79,UK Bb Bz Bg⟩] } 400 41 (.cons (.agg (Z9 za a)) (.cons (.agg (.cons (.int ze .i64 9) (.cons (.int ze .i64 0) (.cons (.int ze .i64 0) (.cons (.int ze .i64 0) (.cons (.int ze .i64 0) (.cons (.int za .i64 k) (.cons (.int za .i64 f) (.cons (.int ze .i64 0) (.cons (.int ze .i64 0) (.cons (.int ze .u32 0) (.cons (.int ze .u32 0) (.cons (.int ze .u32 0) (.cons .Zl .nil)))))))))))))) .nil))=Za3 k f a Jp Rm Bb Bz Bg:=by kernel_rfl
def Gy(k:Int)(f:Int)(a:Za):Za:=Z4 (Za3 k f a Yu YH Wn Xz XV).valOf.inner.hd.inner
def ZfH(k:Int)(f:Int)(a:Za):Int:=(Za3 k f a Yu YH Wn Xz XV).valOf.inner.tl.hd.toInt
def Gz(k:Int)(f:Int)(a:Za):Int:=(Za3 k f a Yu YH Wn Xz XV).valOf.inner.tl.tl.hd.toInt
theorem doJ_meets(k:Int)(f:Int)(a:Za)(h0:a.n1<=1000)(h1:a.n2<=1000)(h2:a.n3<=1000)(h3:a.n4<=1000)(h4:a.n5<=1000)(h5:a.n6<=1000)(h6:a.n7<=1000)(h7:a.n8<=1000)(h8:a.n10<=1000)(h9:a.n11<=1000)(h10:a.n12<=1000)(h11:∀j,(a.r5 j).n1<=1000)(h12:a.n2<=5)(h13:a.n12<=100)(h14:Xa (⟨a.n5,a.r5⟩:Zd)<=1000)(h15:∀o,YO (⟨a.n5,a.r5⟩:Zd) o<=8)(h16:Jt (⟨a.n2,a.r2⟩:Zg) k f=0)(h17:f<=k)(h18:∀j,j<a.n3->(a.r3 j).f3<k)(h19:∀j,j<a.n6->(0<=Zk (⟨a.n3,a.r3,a.n4,a.r4⟩:Ze) (a.r6 j).f0/\Zk (⟨a.n3,a.r3,a.n4,a.r4⟩:Ze) (a.r6 j).f0<((a.n3:Nat):Int))/\0<=Xm (a.r6 j).f0 a.n6 a.r6/\Xm (a.r6 j).f0 a.n6 a.r6<((a.n6:Nat):Int))(h20:(λ(p:Zg)(gu:Ze)(ga:Zd)=>(∀j,j<Xa ga->0<(Z7 ga j).n0/\(Z7 ga j).n0<=8/\∀q,q<(Z7 ga j).n0->(0<=Zk gu ((Z7 ga j).r0 q).f0/\Zk gu ((Z7 ga j).r0 q).f0<gu.n0)/\0<=(gu.r0 (Zk gu ((Z7 ga j).r0 q).f0).toNat).f3/\(gu.r0 (Zk gu ((Z7 ga j).r0 q).f0).toNat).f3<p.n0)/\(∀j,j<gu.n1->(0<=Zk gu (gu.r1 j).f0/\Zk gu (gu.r1 j).f0<gu.n0)/\0<=(gu.r0 (Zk gu (gu.r1 j).f0).toNat).f3/\(gu.r0 (Zk gu (gu.r1 j).f0).toNat).f3<p.n0)/\∀j,j<a.n12->(0<=Zk gu (a.r12 j).f0/\Zk gu (a.r12 j).f0<gu.n0)/\0<=(gu.r0 (Zk gu (a.r12 j).f0).toNat).f3/\(gu.r0 (Zk gu (a.r12 j).f0).toNat).f3<p.n0) (Yu (⟨a.n2,a.r2⟩:Zg) k f) (⟨a.n3,a.r3,a.n4,a.r4⟩:Ze) (⟨a.n5,a.r5⟩:Zd)):Zi P 41 (.cons (.agg (Z9 za a)) (.cons (.agg (.cons (.int ze .i64 9) (.cons (.int ze .i64 0) (.cons (.int ze .i64 0) (.cons (.int ze .i64 0) (.cons (.int ze .i64 0) (.cons (.int za .i64 k) (.cons (.int za .i64 f) (.cons (.int ze .i64 0) (.cons (.int ze .i64 0) (.cons (.int ze .u32 0) (.cons (.int ze .u32 0) (.cons (.int ze .u32 0) (.cons .Zl .nil)))))))))))))) .nil)) (.tup (.cons (.agg (Z9 za (Gy k f a))) (.cons (.int za .i64 (ZfH k f a)) (.cons (.int za .i64 (Gz k f a)) .nil)))):=by
 refine(show Yr (.tup (.cons (.agg ZbC) (.cons (.int za .i64 0) (.cons (.int za .i64 0) .nil)))) (Za3 k f a Yu YH Wn Xz XV).valOf=(.tup (.cons (.agg (Z9 za (Gy k f a))) (.cons (.int za .i64 (ZfH k f a)) (.cons (.int za .i64 (Gz k f a)) .nil))))from by kernel_rfl)▸ ?_
 refine Wy (E:={ (Zp P [Gm YH] [] ze)with nm:=λg=>Kw g [41],hk:=Wx [⟨77,Um⟩,⟨128,Zdg Yu⟩,⟨79,UK Wn Xz XV⟩] }) ((Env.Ok.withNm (ZC hm hn (l:=[Gm YH]) ⟨Zkn,trivial⟩ (ls:=[]) trivial ze) (λg=>Kw g [41])).KJ (l:=[⟨77,Um⟩,⟨128,Zdg Yu⟩,⟨79,UK Wn Xz XV⟩]) ⟨cpq_ok,join_ok,off_ok,trivial⟩) (.tup (.cons (.agg ZbC) (.cons (.int za .i64 0) (.cons (.int za .i64 0) .nil)))) (Has.of hn Tryz.func41 rfl) (doJ_tree k f a Yu YH Wn Xz XV) ?_ ?_
 ·refine⟨?_,⟨?_,⟨?_,⟨λhb0=>trivial,λhb0=>⟨?_,⟨λhb1=>trivial,λhb1=>⟨?_,⟨?_,trivial⟩⟩⟩⟩⟩⟩⟩⟩
  all_goals(first|exact⟨⟨QZ _,trivial⟩,h0,h1,h2,h3,h4,h5,h6,h7,h8,h9,h10,h11⟩|exact Nat.le_of_eq (z8 _)|exact decide_eq_false (by omega)|(refine⟨?_,h12,h16,h17,h2,h3,h5,h18,λj hj=>⟨⟨(h19 j hj).1.1,(h19 j hj).1.2⟩,(h19 j hj).2.1,(h19 j hj).2.2⟩⟩;(repeat'(first|exact rfl|exact trivial|exact λ_=>rfl|apply zB|intro _)))|(refine⟨⟨Nat.le_of_eq (z8 _),Nat.le_of_eq (z8 _)⟩,?_,h4,h11,h3,h2,h3,h14,h20.1,h20.2.1⟩;(repeat'(first|exact rfl|apply zB|intro _)))|(refine⟨?_,h4,h11,h3,h2,h3,h14,h20.1,h20.2.1⟩;(repeat'(first|exact rfl|apply zB|intro _)))|(refine⟨?_,h5,h13,h2,h3,h4,h11,h15,h20.2.2⟩;(repeat'(first|exact rfl|exact trivial|exact λ_=>rfl|apply zB|intro _))))
 ·refine⟨⟨rfl,?_⟩,⟨⟨rfl,?_⟩,⟨rfl,?_⟩⟩⟩
  all_goals((repeat'(first|exact rfl|exact trivial|apply zB|intro _|(refine cP (p:=λv=>yg v=Yr _ v) (λhc=>?_) (λhc=>?_))));all_goals(exfalso;simp only[XQ,Wj,Ws,WE,Wq,WC,zM,yF]at*;omega))
variable{a:Za}
theorem WO(h:ZK a=0):Uc (Zh a)=ze/\UW (Zh a)=ze/\UY (Zh a)=ze/\Zat (Zh a)=ze/\Vt (Zh a)=ze/\Zau (Zh a)=ze:=by
 unfold ZK at h
 cases h1:Uc (Zh a)with
 |false=>rw[h1]at h;cases h
 |true=>
 cases h2:UW (Zh a)with
 |false=>rw[h1,h2]at h;cases h
 |true=>
 cases h3:UY (Zh a)with
 |false=>rw[h1,h2,h3]at h;cases h
 |true=>
 cases h4:Zat (Zh a)with
 |false=>rw[h1,h2,h3,h4]at h;cases h
 |true=>
 cases h5:Vt (Zh a)with
 |false=>rw[h1,h2,h3,h4,h5]at h;cases h
 |true=>
 cases h6:Zau (Zh a)with
 |false=>rw[h1,h2,h3,h4,h5,h6]at h;cases h
 |true=>exact⟨rfl,rfl,rfl,rfl,rfl,rfl⟩
def Xy(d:Zf)(b:Int):Int:=bif d.hh b then d.hg b else 0
def Js(d:Zf)(b:Int):Int:=bif d.oh b then d.og b else 0
theorem fine_home(h:ZK a=0)(hn:0<a.n6):∀b:Int,0<=Xy (Zh a) b/\Xy (Zh a) b<a.n3:=by
 obtain⟨h1,h2,h3,_⟩:=WO h
 have h64:a.n6=a.n4:=Zjk h3
 exact look_HH a (ZkH (ZbB h1).1 (by show 0<a.n4;omega))
theorem ZcW(h:ZK a=0):a.n6=a.n4/\a.n7=a.n3:=by
 obtain⟨h1,h2,h3,_⟩:=WO h
 exact⟨Zjk h3,(ZiR h2).1⟩
theorem ZcY(h:ZK a=0):∀j,j<a.n3->0<=(a.r3 j).f3/\(a.r3 j).f3<a.n2:=λj hj=>by
 obtain⟨h1,h2,h3,_⟩:=WO h
 exact⟨ZkG (ZbB h1).1 j hj,(ZiR h2).2 j hj⟩
variable{b:Int}
theorem oh_pos(h:(Zh a).oh b=ze):0<a.n6:=by
 have:=Zdo a b h
 have h2:(Zh a).og b<(a.n6:Int):=this.2
 have h1:=this.1
 omega
def JG(a:Za)(b:Int):Bool:=(Zh a).oh b&&(ZK a==0)
theorem q_is_of(h1:(bif !(Zh a).oh b then ze else za)=za)(h2:(bif ZK a != (0:Int)then ze else za)=za):(Zh a).oh b=ze/\ZK a=0:=by
 have h1:=nT (nf4 h1)
 have h2:=nf4 h2
 rw[bne]at h2
 exact⟨h1,eqT (nT h2)⟩
theorem q_no1(h1:(bif !(Zh a).oh b then ze else za)=ze):JG a b=za:=by
 unfold JG
 cases h:(Zh a).oh b with
 |false=>rfl
 |true=>rw[h]at h1;cases h1
theorem q_no2(h1:(bif ZK a != (0:Int)then ze else za)=ze):JG a b=za:=by
 unfold JG
 cases h:(ZK a==0)with
 |false=>cases(Zh a).oh b<;>rfl
 |true=>rw[bne,h]at h1;cases h1
theorem q_yes(h1:(Zh a).oh b=ze)(h2:ZK a=0):JG a b=ze:=by unfold JG;rw[h1,h2];rfl
theorem own_ix(h:(bif !(Zh a).oh b then ze else za)=za):(0:Int)<=Js (Zh a) b/\Js (Zh a) b<(((Zh a).a.n6:Nat):Int):=by
 have h1:=nT (nf4 h)
 unfold Js
 rw[h1]
 exact Zdo a b h1
def K4(a:Za)(b:Int):Int:=bif JG a b then(a.r3 (Xy (Zh a) b).toNat).f3 else 0
theorem pool_tree(ck:Za->Int)(a:Za)(b:Int)(d:Zf):ZU (askE ck a d) 400 54 (.cons (.agg (Z9 za a)) (.cons (.int za .i64 b) .nil))=
  .need (Z9 za a=Z9 za a) (.node (bif !d.oh b then ze else za) (.leaf (.tup (.cons (.int ze .i64 0) (.cons (.bool ze za) .nil))))
   (.need ((0:Int)<=Js d b/\Js d b<((d.a.n6:Nat):Int)) (.need (zf (zH (Z9 za a)) zh=zf (zH (Z9 za a)) zh/\small a)
    (.node (bif ck a != (0:Int)then ze else za) (.leaf (.tup (.cons (.int ze .i64 0) (.cons (.bool ze za) .nil))))
     (.need ((0:Int)<=Xy d b/\Xy d b<((a.n3:Nat):Int)) (.leaf (.tup (.cons (.int za .i64 (a.r3 (Xy d b).toNat).f3) (.cons (.bool ze ze) .nil))))))))):=by kernel_rfl
theorem Zq7(a:Za)(b:Int)(h:small a):Zi P 54 (.cons (.agg (Z9 za a)) (.cons (.int za .i64 b) .nil)) (.tup (.cons (.int za .i64 (K4 a b)) (.cons (.bool za (JG a b)) .nil))):=by
 refine meets (askE_ok a h) 400 (Has.of hn Tryz.func54 rfl) (pool_tree ZK a b (Zh a)) ?_
 refine⟨rfl,λhb=>?_,λhb=>⟨own_ix hb,⟨rfl,h⟩,λhc=>?_,λhc=>?_⟩⟩
 ·exact⟨rfl,by unfold K4;rw[q_no1 hb];rfl⟩
 ·exact⟨rfl,by unfold K4;rw[q_no2 hc];rfl⟩
 ·have e:=q_is_of hb hc
  exact⟨fine_home e.2 (oh_pos e.1) b,rfl,by unfold K4;rw[q_yes e.1 e.2];rfl⟩
def chgV(k p q s:Int):V:=.agg (.cons (.int ze .i64 k) (.cons (.int ze .i64 0) (.cons (.int ze .i64 0) (.cons (.int ze .i64 0) (.cons (.int ze .i64 0) (.cons (.int za .i64 p) (.cons (.int za .i64 q) (.cons (.int ze .i64 0) (.cons (.int ze .i64 0) (.cons (.int ze .u32 0) (.cons (.int ze .u32 0) (.cons (.int za .u32 s) (.cons .Zl .nil)))))))))))))
def k_do(a:Za)(c:V)(n:Za)(k e:Int)(p:Prop):Con:=conS 41 (λ_=>.cons (.agg (Z9 za a)) (.cons c .nil)) (λ_=>.tup (.cons (.agg (Z9 za n)) (.cons (.int za .i64 k) (.cons (.int za .i64 e) .nil)))) (λ_=>p)
def zS:Za:=Z4 UR
def do_T(ck:Za->Int)(a n:Za)(q f g s k e:Int)(p:Prop):Tree V:=
 let q0:=(zH (Z9 za a))
 .need (zf q0 zh=zf q0 zh/\small a) (.node (bif ck a != (0:Int)then ze else za) (.leaf (.tup (.cons (.agg UR) (.cons (.int ze .i64 0) (.cons (.int za .i64 (ck a)) .nil))))) (.need (sR (zf q0 (zf (chgV q f g s) .nil)) (zf q0 (zf (chgV q f g s) .nil))/\p) (.leaf (.tup (.cons (.agg (Z9 za n)) (.cons (.int za .i64 k) (.cons (.int za .i64 e) .nil)))))))
theorem do_tree(ck:Za->Int)(a n:Za)(q f g s k e:Int)(p:Prop):ZU (Zp P [U9 ck,k_do a (chgV q f g s) n k e p] [] ze) 400 10 (.cons (.agg (Z9 za a)) (.cons (chgV q f g s) .nil))=do_T ck a n q f g s k e p:=by kernel_rfl
theorem nz0{x:Int}(h:(bif x != (0:Int)then ze else za)=za):x=0:=by
 have h:=nf4 h
 rw[bne]at h
 exact eqT (nT h)
def dO_n(a n:Za):Za:=Z4 (do_T ZK a n 0 0 0 0 0 0 True).valOf.inner.hd.inner
def dO_i(a:Za)(x y:Int):Int:=bif ZK a != (0:Int)then x else y
theorem ZkP(a n:Za)(q f g s k e:Int)(h:small a)(hd:ZK a=0->Zi P 41 (.cons (.agg (Z9 za a)) (.cons (chgV q f g s) .nil)) (.tup (.cons (.agg (Z9 za n)) (.cons (.int za .i64 k) (.cons (.int za .i64 e) .nil))))) :
  Zi P 10 (.cons (.agg (Z9 za a)) (.cons (chgV q f g s) .nil)) (.tup (.cons (.agg (Z9 za (dO_n a n))) (.cons (.int za .i64 (dO_i a 0 k)) (.cons (.int za .i64 (dO_i a (ZK a) e)) .nil)))):=by
 have e0:Yr (.tup (.cons (.agg ZbC) (.cons (.int za .i64 0) (.cons (.int za .i64 0) .nil)))) (do_T ZK a n q f g s k e (ZK a=0)).valOf=(.tup (.cons (.agg (Z9 za (dO_n a n))) (.cons (.int za .i64 (dO_i a 0 k)) (.cons (.int za .i64 (dO_i a (ZK a) e)) .nil)))):=by
  unfold dO_n dO_i do_T
  show Yr _ (bif (bif ZK a != (0:Int)then ze else za)then _ else _)=_
  simp only[Tree.valOf]
  cases(ZK a != (0:Int))<;>kernel_rfl
 refine e0▸ ?_
 refine Wy (E:=Zp P [U9 ZK,k_do a (chgV q f g s) n k e (ZK a=0)] [] ze) (ZC hm hn (l:=[U9 ZK,k_do a (chgV q f g s) n k e (ZK a=0)]) ⟨ZhN,Gv λ_ h=>hd h,trivial⟩ (ls:=[]) trivial ze) (.tup (.cons (.agg ZbC) (.cons (.int za .i64 0) (.cons (.int za .i64 0) .nil)))) (Has.of hn Tryz.func10 rfl) (do_tree ZK a n q f g s k e _) ?_ ?_
 ·exact⟨⟨rfl,h⟩,λ_=>trivial,λhc=>⟨⟨QZ _,nz0 hc⟩,trivial⟩⟩
 ·refine⟨⟨rfl,?_⟩,⟨rfl,?_⟩⟩
  all_goals(repeat'(first|exact rfl|exact trivial|apply zB|intro _))
abbrev Zce(an:Nat)(a:Nat->Zq)(bn:Nat)(b:Nat->Zq)(i:Int)(z:Unit):V:=(.cons (.rsl za 1 an (λjj=>zf (zn za yC (Zq.f0 (a jj))) zh)) (.cons (.rsl za 1 bn (λjj=>zf (zn za yC (Zq.f0 (b jj))) zh)) (.cons (.bool ze za) (.cons (.int za .i64 ((an:Nat):Int)) (.cons (.int za .i64 i) .nil)))))
abbrev Zcf(an:Nat)(a:Nat->Zq)(bn:Nat)(b:Nat->Zq)(i:Int)(z:Unit):List Blk:=[]
def Lpeq_R(an:Nat)(a:Nat->Zq)(bn:Nat)(b:Nat->Zq)(i:Int)(z:Unit):Tree Rd:=
 let q0:=(zl za 1 an λjj=>zf (zn za .u32 (a jj).f0) zh)
 let q1:=(zl za 1 bn λjj=>zf (zn za .u32 (b jj).f0) zh)
 zw (((0:Int)<=i/\i<(an:Int))/\(0:Int)<=i/\i<(bn:Int)) (zD (bif bif (a (zi i)).f0 != (b (zi i)).f0 then ze else za then ze else za) (zx (Ex.ret,ze,zf q0 (zf q1 (zf (zC ze za) (ci (an:Int) (ci i zh)))),[])) (zx (Ex.normal,ze,zf q0 (zf q1 (zf (zC ze za) (ci (an:Int) (ci (zy .i64 (i+(1:Int))) zh)))),[])))
theorem Znq(an:Nat)(a:Nat->Zq)(bn:Nat)(b:Nat->Zq):Yo P (Zp P [] [] ze) 55 4 0 0 26 [0,1,4,12,13] [] [] (Zce an a bn b) (Zcf an a bn b) (λi=>(bif decide (i<(an:Int))then za else ze)) (.exit 0) (Lpeq_R an a bn b):=λB i z=>by kernel_rfl
def Zek(an:Nat)(a:Nat->Zq)(bn:Nat)(b:Nat->Zq)(k:Nat):Bool:=(λ(i:Int)(z:Unit)=>(bif bif bif (a (zi i)).f0 != (b (zi i)).f0 then ze else za then ze else za then ze else za)) k ()
abbrev Lpeq_ets(an:Nat)(a:Nat->Zq)(bn:Nat)(b:Nat->Zq)(i:Int)(z:Unit):V:=(.cons (zl za 1 an λjj=>zf (zn za .u32 (a jj).f0) zh) (.cons (zl za 1 bn λjj=>zf (zn za .u32 (b jj).f0) zh) (.cons (zC ze za) (.cons (zn za .i64 (an:Int)) (.cons .junk .nil)))))
def Zel(an:Nat)(a:Nat->Zq)(bn:Nat)(b:Nat->Zq):Lp:=lpL 55 4 0 0 26 [0,1,4,12,13] [] [] (Zce an a bn b) (Zcf an a bn b) (.exit 0) .ret () (λ_=>()) (Zek an a bn b) (an) (Lpeq_ets an a bn b) (Zcf an a bn b)
def Lpeq_need(an:Nat)(a:Nat->Zq)(bn:Nat)(b:Nat->Zq):Prop:=YW 0 [] (Zce an a bn b) (Zcf an a bn b) () (Zce an a bn b (0:Nat) ()) (Zcf an a bn b (0:Nat) ())
theorem ZjV(an:Nat)(a:Nat->Zq)(bn:Nat)(b:Nat->Zq):Lpeq_need an a bn b:=⟨rfl,trivial⟩
theorem Znp(an:Nat)(a:Nat->Zq)(bn:Nat)(b:Nat->Zq)(hl:an<=1000)(he:an=bn):(Zel an a bn b).Ok P:=by
 refine Xg (ZC hm hn (l:=[]) trivial (ls:=[]) trivial ze) rfl (by kernel_rfl) (Znq an a bn b) exN YK (λ_=>rfl) (step:=λ_ z=>z) (rd:=(λ_ t y=>())) (λi z=>rfl) (λi=>(cC rfl rfl)) rfl (λi hlt hg=>?_) (λi z hi=>?_)
 ·have hltI:(i:Int)<((an:Nat):Int):=by omega
  refine⟨?_,⟨λhb0=>trivial,λhb0=>trivial⟩⟩
  all_goals(repeat'(first|exact rfl|exact λ_=>⟨rfl,rfl⟩|apply zB|intro _))
  all_goals(try simp only[decide_eq_true_eq,decide_eq_false_iff_not,yj,yu]at*)
  all_goals(try simp(disch:=omega) only[IntWalk.i64_in])
  all_goals(first|omega)
 ·have hw:=(IntWalk.i64_in ((i:Int)+1) ⟨by omega,by omega⟩)
  refine⟨?_,?_⟩
  all_goals(first|exact⟨rfl,YL (ts:=Zce an a bn b) (a:=()) hw rfl,Yg _⟩|exact⟨rfl,rfl,(by repeat'(first|exact Le.refl _|exact Le.junk _ rfl|apply Le.cons)),Yg _⟩)
def eqC_T(an:Nat)(a:Nat->Zq)(bn:Nat)(b:Nat->Zq):Tree V:=
 let q0:=(zf (zl za 1 bn λj=>zf (zn za .u32 (b j).f0) zh) (zf (zC za za) (ci (an:Int) (ci (0:Int) zh))))
 let q1:=(zl za 1 an λj=>zf (zn za .u32 (a j).f0) zh)
 zD (bif (an:Int) != (bn:Int)then ze else za) (zx (zC ze za)) (zw (an=bn/\zf q1 q0=zf q1 q0/\True) (zD (bif Zv (Zek an a bn b) an then ze else za) (zx (zC ze za)) (zx (zC ze ze))))
theorem eqC_tree(an:Nat)(a:Nat->Zq)(bn:Nat)(b:Nat->Zq):ZU (Zp P [] [Jm (an=bn) (Zel an a bn b)] ze) 400 55 (.cons (.rsl za 1 an λj=>ZL za (a j)) (.cons (.rsl za 1 bn λj=>ZL za (b j)) .nil))=eqC_T an a bn b:=by kernel_rfl
def ZcK(an:Nat)(a:Nat->Zq)(bn:Nat)(b:Nat->Zq):Bool:=(eqC_T an a bn b).valOf.toBool
theorem eqC_meets(an:Nat)(a:Nat->Zq)(bn:Nat)(b:Nat->Zq)(h0:an<=1000):Zi P 55 (.cons (.rsl za 1 an λj=>ZL za (a j)) (.cons (.rsl za 1 bn λj=>ZL za (b j)) .nil)) (.bool za (ZcK an a bn b)):=by
 refine Wy (E:=(Zp P [] [Jm (an=bn) (Zel an a bn b)] ze)) (ZC hm hn (l:=[]) trivial (ls:=[Jm (an=bn) (Zel an a bn b)]) ⟨Zdc λhg=>Znp an a bn b h0 hg,trivial⟩ ze) (.bool za za) (Has.of hn Tryz.func55 rfl) (eqC_tree an a bn b) ?_ ?_
 ·refine⟨λhb0=>trivial,λhb0=>⟨?_,⟨λhb1=>trivial,λhb1=>trivial⟩⟩⟩
  all_goals(first|exact ZjV an a bn b|((repeat'(first|exact ZjV _ _ _ _|exact rfl|exact λ_=>⟨rfl,rfl⟩|apply zB|intro _));all_goals(simp at*;omega)))
 ·refine⟨⟨rfl,?_⟩,⟨⟨rfl,?_⟩,⟨rfl,?_⟩⟩⟩
  all_goals((repeat'(first|exact rfl|exact trivial|apply zB|intro _|(refine cP (p:=λv=>yg v=Yr _ v) (λhc=>?_) (λhc=>?_))));all_goals(exfalso;simp only[XQ,Wj,Ws,WE,Wq,WC,zM,yF]at*;omega))
def c_eqCA(r0:Nat->(Nat->Zq)->Nat->(Nat->Zq)->Bool):Con:=Yh 55 (λx=>(.cons (.rsl za 1 x.hd.Zy λj=>ZL za ((λj=>Yq (x.hd.ZB j)) j)) (.cons (.rsl za 1 x.tl.hd.Zy λj=>ZL za ((λj=>Yq (x.tl.hd.ZB j)) j)) .nil))) (λx=>(.bool za (r0 x.hd.Zy (λj=>Yq (x.hd.ZB j)) x.tl.hd.Zy (λj=>Yq (x.tl.hd.ZB j))))) (λx=>(λ(an:Nat)(a:Nat->Zq)(bn:Nat)(b:Nat->Zq)=>an<=1000) x.hd.Zy (λj=>Yq (x.hd.ZB j)) x.tl.hd.Zy (λj=>Yq (x.tl.hd.ZB j)))
abbrev c_eqC:Con:=c_eqCA ZcK
theorem c_eqC_ok:c_eqC.Ok P:=Yi (λx h=>eqC_meets _ _ _ _ h)
def pSame_T(a:Zg)(b:Zg):Tree V:=
 let q0:=(zf (zl za 1 b.n0 λj=>zf (zn za .u32 (b.2 j).f0) zh) zh)
 let q1:=(zl za 1 a.n0 λj=>zf (zn za .u32 (a.2 j).f0) zh)
 zw (zf q1 q0=zf q1 q0/\a.1<=(1000:Nat)) (zx (zC za (ZcK a.n0 (λj=>Yq (ZL za (a.2 j))) b.n0 λj=>Yq (ZL za (b.2 j)))))
theorem Zq0(a:Zg)(b:Zg):ZU (Zp P [c_eqC] [] ze) 400 20 (.cons (.agg (Y7 za a)) (.cons (.agg (Y7 za b)) .nil))=pSame_T a b:=by kernel_rfl
def ZbA(a:Zg)(b:Zg):Bool:=(pSame_T a b).valOf.toBool
theorem ZqZ(a:Zg)(b:Zg)(h0:a.n0<=1000):Zi P 20 (.cons (.agg (Y7 za a)) (.cons (.agg (Y7 za b)) .nil)) (.bool za (ZbA a b)):=by
 refine Wy (E:=(Zp P [c_eqC] [] ze)) (ZC hm hn (l:=[c_eqC]) ⟨c_eqC_ok,trivial⟩ (ls:=[]) trivial ze) (.bool za za) (Has.of hn Tryz.func20 rfl) (Zq0 a b) ?_ ?_
 ·refine⟨?_,trivial⟩
  all_goals((repeat'(first|exact rfl|exact QZ _|exact λ_=>⟨rfl,rfl⟩|apply zB|intro _));all_goals(try simp only[decide_eq_true_eq,decide_eq_false_iff_not]at*);all_goals(first|omega|(simp at*;omega)))
 ·refine⟨rfl,?_⟩
  all_goals((repeat'(first|exact rfl|exact trivial|apply zB|intro _|(refine cP (p:=λv=>yg v=Yr _ v) (λhc=>?_) (λhc=>?_))));all_goals(exfalso;simp only[XQ,Wj,Ws,WE,Wq,WC,zM,yF]at*;omega))
def Zkm(r0:Zg->Zg->Bool):Con:=Yh 20 (λx=>(.cons (.agg (Y7 za (Z0 x.hd.inner))) (.cons (.agg (Y7 za (Z0 x.tl.hd.inner))) .nil))) (λx=>(.bool za (r0 (Z0 x.hd.inner) (Z0 x.tl.hd.inner)))) (λx=>(λ(a:Zg)(b:Zg)=>a.n0<=1000) (Z0 x.hd.inner) (Z0 x.tl.hd.inner))
abbrev c_pSame:Con:=Zkm ZbA
theorem Zoc:c_pSame.Ok P:=Yi (λx h=>ZqZ _ _ h)
end Go.Proofs.YthhbdbeglmkijaaGreatDoor
namespace Go.Fw
def J6(l:List V):Nat->V:=λj=>l.getD j .junk
def findL:List (V×V)->V->Option Ans
 |[],_=>none
 |c::l,x=>bif YU x c.1 then some (.sure c.2)else findL l x
def Zgh(g:FuncId)(cs:List (V×V)):Con:={ g,al:=ze,ans:=findL cs }
def ZjN(P:Program)(g:FuncId):List (V×V)->Prop
 |[]=>True
 |c::l=>Zi P g c.1 c.2/\ZjN P g l
variable{g:FuncId}
theorem Zi.sameArgs{P:Program}{a x v:V}(h:Zi P g a v)(hs:YU x a=ze):Zi P g x v:=
 ⟨h.1,λF w xs h1 h2 h3=>h.2 F w xs h1 h2 ((sameV_R _ _ hs 0 _).2 _ h3)⟩
theorem Zi5{P:Program}:∀{cs:List (V×V)},ZjN P g cs->(Zgh g cs).Ok P:=by
 intro cs
 induction cs with
 |nil=>intro _ x;exact trivial
 |cons c l ih=>
  intro h x
  have h2:=ih h.2 x
  show match findL (c::l) x with
   |some (.sure v)=>Zi P g x v
   |some (.where_ p v)=>p->Zi P g x v
   |some (.fork b v v')=>(b=ze->Zi P g x v)/\(b=za->Zi P g x v')
   |none=>True
  unfold findL
  cases hs:YU x c.1
  ·exact h2
  ·exact h.1.sameArgs hs
theorem ZgA{E:Env}{gs:List FuncId}(hΓ:Among E gs)(hE:E.Ok)(k:Nat){args v:V}(hhas:Has E.P g)(h:Yd E gs k g args=.leaf v)(hc:v.soft.clean=ze):Zi E.P g args v:=by
 rw[ZcO hΓ]at h
 exact meets hE k hhas h ⟨hc,rfl⟩
end Go.Fw
end
