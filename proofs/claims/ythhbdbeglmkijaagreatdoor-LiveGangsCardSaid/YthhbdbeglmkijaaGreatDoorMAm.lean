/- wheel.find: its bounds -/
import Derived.Test.YthhbdbeglmkijaaGreatDoorMAl
import Derived.Test.YthhbdbeglmkijaaGreatDoorMAg
import Derived.Test.YthhbdbeglmkijaaGreatDoorMAj
import Derived.Test.YthhbdbeglmkijaaGreatDoorMAk
import Derived.Test.YthhbdbeglmkijaaGreatDoorMAf
set_option maxRecDepth 100000
set_option linter.unusedVariables false
set_option linter.unusedSimpArgs false
noncomputable section
open Bool renaming true→ze,false→za,and_eq_true→zL,not_eq_true'→yg,not_eq_false'→yw
open Int renaming toNat→zk,ofNat→zT
open Go.Fw.V renaming cons→zf,rsl→zl,nil→zh,agg→zJ,int→zn,bool→zC,ptr→zQ,mp→zZ
open Go.Fw.Tree renaming need→zu,node→zB,leaf→zw
open Go.IntKind renaming i64→zA,wrap→zD,bits→zY,u64→yH
open And renaming intro→zy
open Nat renaming beq→zq,eq_of_beq_eq_true→zO,ble→zK,le_refl→zI,not_lt_zero→yB
open PUnit renaming unit→yu
open Go.Fw.Blk renaming var→zN
open Option renaming none→zm
open BitVec renaming toNat→yF,ofInt→yc
open Go.Value renaming int→zW
open Prod renaming fst→zR,snd→zx
namespace Go.Proofs.YthhbdbeglmkijaaGreatDoor
open Go.Fw
theorem ZmM(d:Yx)(b:Int):0<=KE d b/\KE d b<=d.n1/\(Zam d b=ze->KE d b<d.n1):=by
 have h:WK d b<=d.n1:=Zcp _ _ _ (Nat.zero_le _)
 have e:KE d b=(WK d b:Int):=by
  unfold KE
  generalize(bif decide (((WK d b:Nat):Int)<((Yx.n1 d:Nat):Int))then XY (J9.f0 (d.r1 (zk ((WK d b:Nat):Int)))) b==(0:Int)else za)=c
  cases c<;>cases decide (((WK d b:Nat):Int)<((Yx.n1 d:Nat):Int))<;>rfl
 rw[e]
 refine⟨by omega,by omega,λh1=>?_⟩
 unfold Zam at h1
 cases hc:decide (((WK d b:Nat):Int)<((Yx.n1 d:Nat):Int))with
 |true=>exact of_decide_eq_true hc
 |false=>rw[hc]at h1;cases h1
def wlAt_T(a:Yx)(b:Int):Tree V:=
 let q0:=(ci a.f0 (zf (zl za 2 a.n1 λj=>ZC za (a.3 j)) zh))
 zu (zf (zJ q0) (ci b zh)=zf (zJ q0) (ci b zh)/\a.n1<=(1000:Nat)) (zB (bif !Zam (ZY q0) b then ze else za) (zw (V.tup (zf (zn ze .i64 (0:Int)) (zf (zC ze za) zh)))) (zu ((0:Int)<=KE (ZY q0) b/\KE (ZY q0) b<((a.n1:Nat):Int)) (zw (V.tup (ci (a.3 (zk (KE (ZY q0) b))).f1 (zf (zC ze ze) zh))))))
theorem wlAt_tree(a:Yx)(b:Int):ZT (Zl P [ZhT] [] ze) 400 104 (.cons (.agg (Vk za a)) (.cons (.int za .i64 b) .nil))=wlAt_T a b:=by kernel_rfl
def Zhd(a:Yx)(b:Int):Int:=
  (bif bif !Zam (ZY (zf (zn za .i64 a.f0) (zf (zl za 2 a.n1 λj=>ZC za (a.3 j)) zh))) b then ze else za then(0:Int)
  else(a.3 (zk (KE (ZY (zf (zn za .i64 a.f0) (zf (zl za 2 a.n1 λj=>ZC za (a.3 j)) zh))) b))).f1)
def Yj(a:Yx)(b:Int):Bool:=
  (bif bif !Zam (ZY (zf (zn za .i64 a.f0) (zf (zl za 2 a.n1 λj=>ZC za (a.3 j)) zh))) b then ze else za then za else
  ze)
theorem Zr9(a:Yx)(b:Int)(h0:a.n1<=1000):Zh P 104 (.cons (.agg (Vk za a)) (.cons (.int za .i64 b) .nil)) (.tup (.cons (.int za zA (Zhd a b)) (.cons (.bool za (Yj a b)) .nil))):=
 Xn (Zw hm hn (l:=[ZhT]) ⟨Zoa,trivial⟩ (ls:=[]) trivial ze) 400 (Has.of hn Tryz.func104 rfl) (wlAt_tree a b) (Tree.Pre.mk (by refine⟨?_,⟨λ_=>trivial,λ_=>⟨?_,trivial⟩⟩⟩;all_goals(((repeat'(first|exact rfl|exact λ_=>⟨rfl,rfl⟩|apply zy|intro _));all_goals(try simp only[decide_eq_true_eq,decide_eq_false_iff_not]at*);all_goals(first|omega|exact(ZmM _ _).1|exact(ZmM _ _).2.2 (nf ‹_›)))))) (by kernel_rfl) (by kernel_rfl)
def Zcu:Con:=Yd 104 (λx=>(.cons (.agg (Vk za (ZY x.hd.inner))) (.cons (.int za .i64 x.tl.hd.toInt) .nil))) (λx=>(.tup (.cons (.int za zA (Zhd (ZY x.hd.inner) x.tl.hd.toInt)) (.cons (.bool za (Yj (ZY x.hd.inner) x.tl.hd.toInt)) .nil)))) (λx=>(ZY x.hd.inner).n1<=1000)
theorem Zkk:Zcu.Ok P:=Yf (λx h=>Zr9 _ _ h)
abbrev Zew(n:Nat)(r:Nat->Y0)(x:Int)(i j:Int):V:=(.cons (.rsl za 3 n (λj=>ZF za (r j))) (.cons (.int za .i64 x) (.cons (.fn (.func 163) .nil .nil) (.cons (.int ze .i64 0) (.cons (.bool ze za) (.cons (.int za .i64 ((n:Nat):Int)) (.cons (.int za .i64 i) (.cons (.int za .i64 j) .nil))))))))
abbrev Zex(n:Nat)(r:Nat->Y0)(x:Int):List Blk:=[]
def bAlarm_T(n:Nat)(r:Nat->Y0)(x:Int)(i j:Int):Tree (Ex×Bool×V×List Blk):=
 let q0:=zl za 3 n λj=>ZF za (r j)
 let q8:=V.fn (Fn.func (163:FuncId)) zh zh
 let q9:=vi (n:Int)
 let q10:=zn ze .i64 (0:Int)
 let q11:=vi x
 zB (decide (i<j)) (zu ((0:Int)<=half i j/\half i j<(n:Int)) (zB (decide (zD .i64 ((r (zk (half i j))).f0-x)<(0:Int))) (zw (Ex.normal,ze,zf q0 (zf q11 (zf q8 (zf q10 (zf (zC ze za) (zf q9 (ci (zD .i64 (half i j+(1:Int))) (ci j zh))))))),[])) (zw (Ex.normal,ze,zf q0 (zf q11 (zf q8 (zf q10 (zf (zC ze za) (zf q9 (ci i (ci (half i j) zh))))))),[])))) (zw (Ex.exit 0,ze,zf q0 (zf q11 (zf q8 (zf q10 (zf (zC ze za) (zf q9 (ci i (ci j zh))))))),[]))
theorem Znr(B:Base)(n:Nat)(r:Nat->Y0)(x:Int)(i j:Int):((ev (ZM P [] [162]) 400 162 (QZ P 162 3) B (Yl 0 49 [0,1,2,6,7,8,9,10] [] (Zew n r x i j) (Zex n r x))).bind λx=>zw (x.1,vwN 0 0 49 [0,1,2,6,7,8,9,10] [] x.2))=bAlarm_T n r x i j:=by kernel_rfl
def Zev(n:Nat)(r:Nat->Y0)(x:Int)(k:Nat):Bool:=(λ(h:Int)=>decide (zD zA (Y0.f0 (r (zk (h)))-x)<(0:Int))) k
def V6(n:Nat)(r:Nat->Y0)(x:Int):Nat:=Xp (Zev n r x) n 0 n
def Zeu(n:Nat)(r:Nat->Y0)(x:Int):Lp:=⟨162,3,λ_ s=>match vwN 0 0 49 [0,1,2,6,7,8,9,10] [] s with
 |(ze,(.cons (.rsl _ 3 nt0 ft0) (.cons (.int _ .i64 tx) (.cons (.fn (.func 163) .nil .nil) (.cons (.int _ .i64 t3) (.cons (.bool _ t4) (.cons (.int _ .i64 t5) (.cons (.int _ .i64 t6) (.cons (.int _ .i64 t7) .nil)))))))),[])=>bif zq s.n 0 then .need (n=nt0/\(λj=>ZF za (r j))=ft0/\x=tx/\0=t3/\za=t4/\((n:Nat):Int)=t5/\0=t6/\((n:Nat):Int)=t7)
  (.leaf (.exit 0,Yl 0 49 [0,1,2,6,7,8,9,10] [] (Zew n r x ((V6 n r x:Nat):Int) ((V6 n r x:Nat):Int)) (Zex n r x)))else .stuck
 |_=>.stuck⟩
theorem Znq(n:Nat)(r:Nat->Y0)(x:Int)(hl:n<=1000):(Zeu n r x).Ok P:=by
 refine KW (by kernel_rfl) λhin B s Q hq=>?_
 simp only[Zeu]at hq hin⊢
 split at hq
 ·rename_i q1 nt0 ft0 q2 tx q3 t3 q4 t4 q5 t5 q6 t6 q7 t7 heq
  cases hsn:zq s.n 0
  ·rw[hsn]at hq;exact hq.elim
  ·rw[hsn]at hq
   obtain⟨⟨rfl,rfl,rfl,rfl,rfl,rfl,rfl,rfl⟩,hq⟩:=hq
   have hsame:WT 0 0 49 [0,1,2,6,7,8,9,10] [] s (Zew n r x 0 ((n:Nat):Int)) (Zex n r x):=by
    refine⟨by rw[heq],by rw[heq];exact Le.soft rfl,by rw[heq];exact trivial⟩
   refine Zbl (k:=400) (f:=162) (Yz hm hn (l:=[]) trivial) rfl hin (Zev n r x) n (λi j=>Zew n r x i j) (Zex n r x) Q (λi j=>Znr B n r x i j) (λi j hij hjn=>?_) hq (zO hsn) hsame
   refine⟨λhc=>?_,λhc=>?_⟩
   ·have hlt:i<j:=by have:=of_decide_eq_true hc;omega
    have hh:=Zbe (i:=i) (j:=j) (by omega)
    refine⟨by rw[hh];omega,λhb=>?_,λhb=>?_⟩
    ·rw[hh]at hb⊢
     rw[IntWalk.i64_in ((((i+j)/2:Nat):Int)+1) ⟨by omega,by omega⟩]
     exact⟨rfl,hlt,trivial,λ_=>Le.soft rfl,λhl=>Bool.noConfusion ((show Zev n r x ((i+j)/2)=ze from hb).symm.trans hl)⟩
    ·rw[hh]at hb⊢
     exact⟨rfl,hlt,trivial,λhl=>Bool.noConfusion ((show Zev n r x ((i+j)/2)=za from hb).symm.trans hl),λ_=>Le.soft rfl⟩
   ·have hge:¬(i:Int)<(j:Int):=λh=>by rw[decide_eq_true h]at hc;cases hc
    have e:i=j:=by omega
    subst e
    exact⟨rfl,rfl,trivial,Le.soft rfl,rfl⟩
 ·exact hq.elim
def vAtL_T(an:Nat)(a:Nat->Y0)(b:Int):Tree V:=
 let q0:=((V6 an a b:Nat):Int)
 zu (an=an/\((λj=>ZF za (a j))=λj=>ZF za (a j))/\b=b/\(0:Int)=(0:Int)/\za=za/\(an:Int)=(an:Int)/\(0:Int)=(0:Int)/\(an:Int)=(an:Int)) (zu (decide (q0<(an:Int))=ze->(0:Int)<=q0/\q0<(an:Int)) (zw (V.tup (ci (bif decide (q0<(an:Int))then q0 else q0) (zf (zC za (bif decide (q0<(an:Int))then zD .i64 ((a (zk q0)).f0-b)==(0:Int)else za)) zh)))))
theorem vAtL_tree(an:Nat)(a:Nat->Y0)(b:Int):ZT (Zl P [] [Zeu an a b] ze) 400 103 (.cons (.rsl za 3 an λj=>ZF za (a j)) (.cons (.int za .i64 b) .nil))=vAtL_T an a b:=by kernel_rfl
def vAtL_r0(an:Nat)(a:Nat->Y0)(b:Int):Int:=
  (bif decide (((V6 an a b:Nat):Int)<(an:Int))then((V6 an a b:Nat):Int)else((V6 an a b:Nat):Int))
def Yn(an:Nat)(a:Nat->Y0)(b:Int):Bool:=
  (bif decide (((V6 an a b:Nat):Int)<(an:Int))then zD zA (Y0.f0 (a (zk ((V6 an a b:Nat):Int)))-b)==(0:Int)else
  za)
theorem ZrF(an:Nat)(a:Nat->Y0)(b:Int)(h0:an<=1000):Zh P 103 (.cons (.rsl za 3 an λj=>ZF za (a j)) (.cons (.int za .i64 b) .nil)) (.tup (.cons (.int za zA (vAtL_r0 an a b)) (.cons (.bool za (Yn an a b)) .nil))):=
 Xn (Zw hm hn (l:=[]) trivial (ls:=[Zeu an a b]) ⟨Znq an a b h0,trivial⟩ ze) 400 (Has.of hn Tryz.func103 rfl) (vAtL_tree an a b) (Tree.Pre.mk (zy (by first|exact bAlarm_fit an a b|(((repeat'(first|exact rfl|exact λ_=>⟨rfl,rfl⟩|apply zy|intro _));all_goals(try simp only[decide_eq_true_eq,decide_eq_false_iff_not]at*);all_goals omega))) (zy (by first|exact bAlarm_fit an a b|(((repeat'(first|exact rfl|exact λ_=>⟨rfl,rfl⟩|apply zy|intro _));all_goals(try simp only[decide_eq_true_eq,decide_eq_false_iff_not]at*);all_goals omega))) True.intro))) (by kernel_rfl) (by kernel_rfl)
def c_vAtL:Con:=Yd 103 (λx=>(.cons (.rsl za 3 x.hd.Zi λj=>ZF za ((λj=>XH (x.hd.Zn j)) j)) (.cons (.int za .i64 x.tl.hd.toInt) .nil))) (λx=>(.tup (.cons (.int za zA (vAtL_r0 x.hd.Zi (λj=>XH (x.hd.Zn j)) x.tl.hd.toInt)) (.cons (.bool za (Yn x.hd.Zi (λj=>XH (x.hd.Zn j)) x.tl.hd.toInt)) .nil)))) (λx=>x.hd.Zi<=1000)
theorem c_vAtL_ok:c_vAtL.Ok P:=Yf (λx h=>ZrF _ _ _ h)
def vCheck_T(a:Xi):Tree V:=
 let q0:=(ci a.f0 (zf (zl za 2 a.n1 λj=>ZC za (a.3 j)) zh))
 let q1:=(zl za 3 a.n2 λj=>ZF za (a.5 j))
 let q2:=(ci (10:Int) zh)
 let q3:=(ci (11:Int) zh)
 let q4:=(ci (12:Int) zh)
 let q5:=(ci (13:Int) zh)
 let q6:=(ci (14:Int) zh)
 let q7:=(ci (15:Int) zh)
 let q8:=(ci (1:Int) zh)
 let q9:=(ci (2:Int) zh)
 let q10:=(ci (3:Int) zh)
 let q11:=(ci (4:Int) zh)
 let q12:=(ci (5:Int) zh)
 let q13:=(ci (6:Int) zh)
 let q14:=(ci (7:Int) zh)
 let q15:=(ci (8:Int) zh)
 let q16:=(ci (9:Int) zh)
 let q17:=(zT (nat_lit 10+(1:Nat)))
 let q18:=(zT (nat_lit 11+(1:Nat)))
 let q19:=(zT (nat_lit 12+(1:Nat)))
 let q20:=(zT (nat_lit 13+(1:Nat)))
 let q21:=(zT (nat_lit 1+(1:Nat)))
 let q22:=(zT (nat_lit 2+(1:Nat)))
 let q23:=(zT (nat_lit 3+(1:Nat)))
 let q24:=(zT (nat_lit 4+(1:Nat)))
 let q25:=(zT (nat_lit 5+(1:Nat)))
 let q26:=(zT (nat_lit 6+(1:Nat)))
 let q27:=(zT (nat_lit 7+(1:Nat)))
 let q28:=(zT (nat_lit 8+(1:Nat)))
 let q29:=(zT (nat_lit 9+(1:Nat)))
 let q30:=(zw (zn ze .i64 (280:Int)))
 let q31:=(zT (nat_lit 14+(1:Nat)))
 zu (ZmG a) (zB (bif Zp (Zjo a) a.n2 then ze else za) q30 (zu (zf (zJ q0) zh=zf (zJ q0) zh/\a.n1<=(1000:Nat)) (zB (bif ZbT (ZY q0) != (0:Int)then ze else za) q30 (zu (((zf q1 q8=zf q1 q8/\a.n2<=(1000:Nat))/\zf (zJ q0) (ci (0:Int) zh)=zf (zJ q0) (ci (0:Int) zh)/\a.n1<=(1000:Nat))/\((bif bif !Yj (ZY q0) (zT (0:Nat))==Yn a.n2 (λj=>(a.5 j)) (1:Int)then ze else za then ze else za)=za->((zf q1 q9=zf q1 q9/\a.n2<=(1000:Nat))/\zf (zJ q0) q8=zf (zJ q0) q8/\a.n1<=(1000:Nat))/\((bif bif !Yj (ZY q0) (zT (nat_lit 0+(1:Nat)))==Yn a.n2 (λj=>(a.5 j)) q21 then ze else za then ze else za)=za->((zf q1 q10=zf q1 q10/\a.n2<=(1000:Nat))/\zf (zJ q0) q9=zf (zJ q0) q9/\a.n1<=(1000:Nat))/\((bif bif !Yj (ZY q0) q21==Yn a.n2 (λj=>(a.5 j)) q22 then ze else za then ze else za)=za->((zf q1 q11=zf q1 q11/\a.n2<=(1000:Nat))/\zf (zJ q0) q10=zf (zJ q0) q10/\a.n1<=(1000:Nat))/\((bif bif !Yj (ZY q0) q22==Yn a.n2 (λj=>(a.5 j)) q23 then ze else za then ze else za)=za->((zf q1 q12=zf q1 q12/\a.n2<=(1000:Nat))/\zf (zJ q0) q11=zf (zJ q0) q11/\a.n1<=(1000:Nat))/\((bif bif !Yj (ZY q0) q23==Yn a.n2 (λj=>(a.5 j)) q24 then ze else za then ze else za)=za->((zf q1 q13=zf q1 q13/\a.n2<=(1000:Nat))/\zf (zJ q0) q12=zf (zJ q0) q12/\a.n1<=(1000:Nat))/\((bif bif !Yj (ZY q0) q24==Yn a.n2 (λj=>(a.5 j)) q25 then ze else za then ze else za)=za->((zf q1 q14=zf q1 q14/\a.n2<=(1000:Nat))/\zf (zJ q0) q13=zf (zJ q0) q13/\a.n1<=(1000:Nat))/\((bif bif !Yj (ZY q0) q25==Yn a.n2 (λj=>(a.5 j)) q26 then ze else za then ze else za)=za->((zf q1 q15=zf q1 q15/\a.n2<=(1000:Nat))/\zf (zJ q0) q14=zf (zJ q0) q14/\a.n1<=(1000:Nat))/\((bif bif !Yj (ZY q0) q26==Yn a.n2 (λj=>(a.5 j)) q27 then ze else za then ze else za)=za->((zf q1 q16=zf q1 q16/\a.n2<=(1000:Nat))/\zf (zJ q0) q15=zf (zJ q0) q15/\a.n1<=(1000:Nat))/\((bif bif !Yj (ZY q0) q27==Yn a.n2 (λj=>(a.5 j)) q28 then ze else za then ze else za)=za->((zf q1 q2=zf q1 q2/\a.n2<=(1000:Nat))/\zf (zJ q0) q16=zf (zJ q0) q16/\a.n1<=(1000:Nat))/\((bif bif !Yj (ZY q0) q28==Yn a.n2 (λj=>(a.5 j)) q29 then ze else za then ze else za)=za->((zf q1 q3=zf q1 q3/\a.n2<=(1000:Nat))/\zf (zJ q0) q2=zf (zJ q0) q2/\a.n1<=(1000:Nat))/\((bif bif !Yj (ZY q0) q29==Yn a.n2 (λj=>(a.5 j)) q17 then ze else za then ze else za)=za->((zf q1 q4=zf q1 q4/\a.n2<=(1000:Nat))/\zf (zJ q0) q3=zf (zJ q0) q3/\a.n1<=(1000:Nat))/\((bif bif !Yj (ZY q0) q17==Yn a.n2 (λj=>(a.5 j)) q18 then ze else za then ze else za)=za->((zf q1 q5=zf q1 q5/\a.n2<=(1000:Nat))/\zf (zJ q0) q4=zf (zJ q0) q4/\a.n1<=(1000:Nat))/\((bif bif !Yj (ZY q0) q18==Yn a.n2 (λj=>(a.5 j)) q19 then ze else za then ze else za)=za->((zf q1 q6=zf q1 q6/\a.n2<=(1000:Nat))/\zf (zJ q0) q5=zf (zJ q0) q5/\a.n1<=(1000:Nat))/\((bif bif !Yj (ZY q0) q19==Yn a.n2 (λj=>(a.5 j)) q20 then ze else za then ze else za)=za->((zf q1 q7=zf q1 q7/\a.n2<=(1000:Nat))/\zf (zJ q0) q6=zf (zJ q0) q6/\a.n1<=(1000:Nat))/\((bif bif !Yj (ZY q0) q20==Yn a.n2 (λj=>(a.5 j)) q31 then ze else za then ze else za)=za->(zf q1 (ci (16:Int) zh)=zf q1 (ci (16:Int) zh)/\a.n2<=(1000:Nat))/\zf (zJ q0) q7=zf (zJ q0) q7/\a.n1<=(1000:Nat))))))))))))))))) (zB (bif bif bif !Yj (ZY q0) (zT (0:Nat))==Yn a.n2 (λj=>(a.5 j)) (1:Int)then ze else za then ze else za then ze else bif bif bif !Yj (ZY q0) (zT (nat_lit 0+(1:Nat)))==Yn a.n2 (λj=>(a.5 j)) q21 then ze else za then ze else za then ze else bif bif bif !Yj (ZY q0) q21==Yn a.n2 (λj=>(a.5 j)) q22 then ze else za then ze else za then ze else bif bif bif !Yj (ZY q0) q22==Yn a.n2 (λj=>(a.5 j)) q23 then ze else za then ze else za then ze else bif bif bif !Yj (ZY q0) q23==Yn a.n2 (λj=>(a.5 j)) q24 then ze else za then ze else za then ze else bif bif bif !Yj (ZY q0) q24==Yn a.n2 (λj=>(a.5 j)) q25 then ze else za then ze else za then ze else bif bif bif !Yj (ZY q0) q25==Yn a.n2 (λj=>(a.5 j)) q26 then ze else za then ze else za then ze else bif bif bif !Yj (ZY q0) q26==Yn a.n2 (λj=>(a.5 j)) q27 then ze else za then ze else za then ze else bif bif bif !Yj (ZY q0) q27==Yn a.n2 (λj=>(a.5 j)) q28 then ze else za then ze else za then ze else bif bif bif !Yj (ZY q0) q28==Yn a.n2 (λj=>(a.5 j)) q29 then ze else za then ze else za then ze else bif bif bif !Yj (ZY q0) q29==Yn a.n2 (λj=>(a.5 j)) q17 then ze else za then ze else za then ze else bif bif bif !Yj (ZY q0) q17==Yn a.n2 (λj=>(a.5 j)) q18 then ze else za then ze else za then ze else bif bif bif !Yj (ZY q0) q18==Yn a.n2 (λj=>(a.5 j)) q19 then ze else za then ze else za then ze else bif bif bif !Yj (ZY q0) q19==Yn a.n2 (λj=>(a.5 j)) q20 then ze else za then ze else za then ze else bif bif bif !Yj (ZY q0) q20==Yn a.n2 (λj=>(a.5 j)) q31 then ze else za then ze else za then ze else bif bif bif !Yj (ZY q0) q31==Yn a.n2 (λj=>(a.5 j)) (zT (nat_lit 15+(1:Nat)))then ze else za then ze else za then ze else za) q30 (zw (zn ze .i64 (0:Int))))))))
theorem ZrH(a:Xi):ZT (Zl P [Zcs,c_vAtL,Zcu,Zcv] [vc1_lp a] ze) 400 60 (.cons (.agg (ZaN za a)) .nil)=vCheck_T a:=by kernel_rfl
def Zag(a:Xi):Int:=
  (bif bif Zp (Zjo a) a.n2 then ze else za then(280:Int)else bif bif ZbT (ZY (zf (zn za .i64 a.f0) (zf (zl za 2 a.n1 λj=>
  ZC za (a.3 j)) zh))) != (0:Int)then ze else za then(280:Int)else bif bif bif bif !Yj (ZY (zf (zn za .i64 a.f0) (zf (zl
  za 2 a.n1 λj=>ZC za (a.3 j)) zh))) (zT (0:Nat))==Yn a.n2 (λj=>XH (ZF za (a.5 j))) (1:Int)then ze else za
  then ze else za then ze else bif bif bif !Yj (ZY (zf (zn za .i64 a.f0) (zf (zl za 2 a.n1 λj=>ZC za (a.3 j)) zh)))
  (zT (nat_lit 0+(1:Nat)))==Yn a.n2 (λj=>XH (ZF za (a.5 j))) (zT (nat_lit 1+(1:Nat)))then ze else za then ze else
  za then ze else bif bif bif !Yj (ZY (zf (zn za .i64 a.f0) (zf (zl za 2 a.n1 λj=>ZC za (a.3 j)) zh))) (zT
  (nat_lit 1+(1:Nat)))==Yn a.n2 (λj=>XH (ZF za (a.5 j))) (zT (nat_lit 2+(1:Nat)))then ze else za then ze else za then
  ze else bif bif bif !Yj (ZY (zf (zn za .i64 a.f0) (zf (zl za 2 a.n1 λj=>ZC za (a.3 j)) zh))) (zT (nat_lit 2+(1 :
  Nat)))==Yn a.n2 (λj=>XH (ZF za (a.5 j))) (zT (nat_lit 3+(1:Nat)))then ze else za then ze else za then ze else bif bif bif
  !Yj (ZY (zf (zn za .i64 a.f0) (zf (zl za 2 a.n1 λj=>ZC za (a.3 j)) zh))) (zT (nat_lit 3+(1:Nat)))==Yn a.n2
  (λj=>XH (ZF za (a.5 j))) (zT (nat_lit 4+(1:Nat)))then ze else za then ze else za then ze else bif bif bif !Yj (ZY
  (zf (zn za .i64 a.f0) (zf (zl za 2 a.n1 λj=>ZC za (a.3 j)) zh))) (zT (nat_lit 4+(1:Nat)))==Yn a.n2 (λj=>XH
  (ZF za (a.5 j))) (zT (nat_lit 5+(1:Nat)))then ze else za then ze else za then ze else bif bif bif !Yj (ZY (zf (zn za
  .i64 a.f0) (zf (zl za 2 a.n1 λj=>ZC za (a.3 j)) zh))) (zT (nat_lit 5+(1:Nat)))==Yn a.n2 (λj=>XH (ZF za
  (a.5 j))) (zT (nat_lit 6+(1:Nat)))then ze else za then ze else za then ze else bif bif bif !Yj (ZY (zf (zn za .i64 a.f0) (zf
  (zl za 2 a.n1 λj=>ZC za (a.3 j)) zh))) (zT (nat_lit 6+(1:Nat)))==Yn a.n2 (λj=>XH (ZF za (a.5 j))) (zT
  (nat_lit 7+(1:Nat)))then ze else za then ze else za then ze else bif bif bif !Yj (ZY (zf (zn za .i64 a.f0) (zf (zl za 2 a.n1
  λj=>ZC za (a.3 j)) zh))) (zT (nat_lit 7+(1:Nat)))==Yn a.n2 (λj=>XH (ZF za (a.5 j))) (zT (nat_lit 8+(1 :
  Nat)))then ze else za then ze else za then ze else bif bif bif !Yj (ZY (zf (zn za .i64 a.f0) (zf (zl za 2 a.n1 λj=>ZC
  za (a.3 j)) zh))) (zT (nat_lit 8+(1:Nat)))==Yn a.n2 (λj=>XH (ZF za (a.5 j))) (zT (nat_lit 9+(1:Nat)))then ze else
  za then ze else za then ze else bif bif bif !Yj (ZY (zf (zn za .i64 a.f0) (zf (zl za 2 a.n1 λj=>ZC za (a.3 j))
  zh))) (zT (nat_lit 9+(1:Nat)))==Yn a.n2 (λj=>XH (ZF za (a.5 j))) (zT (nat_lit 10+(1:Nat)))then ze else za then
  ze else za then ze else bif bif bif !Yj (ZY (zf (zn za .i64 a.f0) (zf (zl za 2 a.n1 λj=>ZC za (a.3 j)) zh)))
  (zT (nat_lit 10+(1:Nat)))==Yn a.n2 (λj=>XH (ZF za (a.5 j))) (zT (nat_lit 11+(1:Nat)))then ze else za then ze else
  za then ze else bif bif bif !Yj (ZY (zf (zn za .i64 a.f0) (zf (zl za 2 a.n1 λj=>ZC za (a.3 j)) zh))) (zT
  (nat_lit 11+(1:Nat)))==Yn a.n2 (λj=>XH (ZF za (a.5 j))) (zT (nat_lit 12+(1:Nat)))then ze else za then ze else za then
  ze else bif bif bif !Yj (ZY (zf (zn za .i64 a.f0) (zf (zl za 2 a.n1 λj=>ZC za (a.3 j)) zh))) (zT (nat_lit 12+(1 :
  Nat)))==Yn a.n2 (λj=>XH (ZF za (a.5 j))) (zT (nat_lit 13+(1:Nat)))then ze else za then ze else za then ze else bif bif
  bif !Yj (ZY (zf (zn za .i64 a.f0) (zf (zl za 2 a.n1 λj=>ZC za (a.3 j)) zh))) (zT (nat_lit 13+(1:Nat)))==Yn
  a.n2 (λj=>XH (ZF za (a.5 j))) (zT (nat_lit 14+(1:Nat)))then ze else za then ze else za then ze else bif bif bif !Yj
  (ZY (zf (zn za .i64 a.f0) (zf (zl za 2 a.n1 λj=>ZC za (a.3 j)) zh))) (zT (nat_lit 14+(1:Nat)))==Yn a.n2 (λj
  =>XH (ZF za (a.5 j))) (zT (nat_lit 15+(1:Nat)))then ze else za then ze else za then ze else za then(280:Int)else(0:Int))
theorem ZrG(a:Xi)(h0:a.n1<=1000)(h1:a.n2<=1000):Zh P 60 (.cons (.agg (ZaN za a)) .nil) (.int za zA (Zag a)):=
 Xn (Zw hm hn (l:=[Zcs,c_vAtL,Zcu,Zcv]) ⟨Zkf,c_vAtL_ok,Zkk,Zkl,trivial⟩ (ls:=[vc1_lp a]) ⟨vc1_lp_ok a h1,trivial⟩ ze) 400 (Has.of hn Tryz.func60 rfl) (ZrH a) (Tree.Pre.mk (by refine⟨?_,⟨λ_=>trivial,λ_=>⟨?_,⟨λ_=>trivial,λ_=>⟨?_,⟨λ_=>trivial,λ_=>trivial⟩⟩⟩⟩⟩⟩;all_goals(first|exact vc1_fit a|(((repeat'(first|exact rfl|exact λ_=>⟨rfl,rfl⟩|apply zy|intro _));all_goals(try simp only[decide_eq_true_eq,decide_eq_false_iff_not]at*);all_goals omega))))) (by kernel_rfl) (by kernel_rfl)
def ZaH:Con:=Yd 60 (λx=>(.cons (.agg (ZaN za (Qa x.hd.inner))) .nil)) (λx=>(.int za zA (Zag (Qa x.hd.inner)))) (λx=>(Qa x.hd.inner).n1<=1000/\(Qa x.hd.inner).n2<=1000)
theorem Zkg:ZaH.Ok P:=Yf (λx h=>ZrG _ h.1 h.2)
def vParts_T(d:Ze):Tree (V×List Blk):=
 let q0:=(Zg3 (JU (zf (zl za 2 d.a.n1 λj=>V.soft._f (Z9 za (d.a.r1 j)) ⟨⟨V.soft._f (vi (d.a.r1 j).f0) yu,yu⟩,V.soft._f (ci (d.a.r1 j).f1 zh) ⟨⟨V.soft._f (vi (d.a.r1 j).f1) yu,yu⟩,V.soft._f zh yu,yu⟩,⟨V.soft._f (vi (d.a.r1 j).f1) yu,yu⟩,V.soft._f zh yu,yu⟩) zh)))
 let q1:=(Ux (Ym (zf (zl za 1 d.a.n2 λj=>V.soft._f (zf (zn za .u32 (d.a.r2 j).f0) zh) ⟨⟨V.soft._f (zn za .u32 (d.a.r2 j).f0) yu,yu⟩,V.soft._f zh yu,yu⟩) zh)))
 let q2:=(zf (zl za 4 d.a.n3 λj=>Zv za (d.a.r3 j)) (zf (zl za 4 d.a.n4 λj=>Zt za (d.a.r4 j)) zh))
 let q3:=(ci d.a.f9 (zf (zl za 2 d.a.n10 λj=>ZC za (d.a.r10 j)) (zf (zl za 3 d.a.n11 λj=>ZF za (d.a.r11 j)) zh)))
 let q4:=(zf (zl za 2 d.a.n5 λj=>Zu za (d.a.r5 j)) zh)
 let q5:=(zf (zl za 5 d.a.n8 λj=>ZP za (d.a.r8 j)) zh)
 let q6:=(zJ (zf (zl za 1 d.a.n2 λj=>zf (zn za .u32 (d.a.r2 j).f0) zh) zh))
 let q7:=(zJ (zf (zl za 2 d.a.n1 λj=>Z9 za (d.a.r1 j)) zh))
 let q8:=(d.a.f13<=(4611686018427387904:Int))
 let q9:=(d.a.f0<=(1125899906842624:Int))
 zu ((bif decide (d.a.f0>=(0:Int))then bif decide q9 then decide q8 else za else za)=ze->(zf q7 zh=zf q7 zh/\d.a.n1<=(9:Nat))/\((V.toInt q0==(0:Int))=ze->(zf q6 zh=zf q6 zh/\d.a.n2<=(5:Nat))/\((V.toInt q1==(0:Int))=ze->zf (zJ q2) zh=zf (zJ q2) zh/\d.a.n3<=(1000:Nat)/\d.a.n4<=(1000:Nat)))) (zu ((bif bif decide (d.a.f0>=(0:Int))then bif decide q9 then decide q8 else za else za then bif V.toInt q0==(0:Int)then bif V.toInt q1==(0:Int)then Wy (ZQ q2)==(0:Int)else za else za else za)=ze->(zf (zJ q4) zh=zf (zJ q4) zh/\d.a.n5<=(1000:Nat)/\∀(j:Nat),(d.a.r5 j).n1<=(1000:Nat))/\((YH (ZG q4)==(0:Int))=ze->(zf (zJ q5) zh=zf (zJ q5) zh/\d.a.n8<=(1000:Nat))/\((Gd (Za9 q5)==(0:Int))=ze->zf (zJ q3) zh=zf (zJ q3) zh/\d.a.n10<=(1000:Nat)/\d.a.n11<=(1000:Nat)))) (zw (zC za (bif bif bif decide (d.a.f0>=(0:Int))then bif decide q9 then decide q8 else za else za then bif V.toInt q0==(0:Int)then bif V.toInt q1==(0:Int)then Wy (ZQ q2)==(0:Int)else za else za else za then bif YH (ZG q4)==(0:Int)then bif Gd (Za9 q5)==(0:Int)then Zag (Qa q3)==(0:Int)else za else za else za),[zN (Yu d.a),Blk.Zk (MK.int .i64) za (λk=>(d.2 (Zd k),vi (d.3 (Zd k)))) zm,Blk.Zk (MK.int .i64) za (λk=>(d.4 (Zd k),vi (d.5 (Zd k)))) zm,Blk.Zk (MK.int .i64) za (λk=>(d.6 (Zd k),vi (d.7 (Zd k)))) zm])))
theorem ZrQ(d:Ze):evH (Zl P [QN,QM,ZaA,QK,Ze9,ZaH] [] ze) 400 35 (.cons (.ptr ze 0 0 0 0) .nil) (Yt d)=vParts_T d:=by kernel_rfl
def VT(d:Ze):Bool:=
  (bif bif bif decide (d.a.f0>=(0:Int))then bif decide (d.a.f0<=(1125899906842624:Int))then decide (d.a.f13<=(4611686018427387904:Int))else za else za then bif
  V.toInt (Zg3 (JU (zf (zl za 2 d.a.n1 λj=>V.soft._f (Z9 za (d.a.r1 j)) ⟨⟨V.soft._f (zn za .i64 (d.a.r1 j).f0) yu,yu⟩,
  V.soft._f (zf (zn za .i64 (d.a.r1 j).f1) zh) ⟨⟨V.soft._f (zn za .i64 (d.a.r1 j).f1) yu,yu⟩,V.soft._f zh yu,yu⟩,
  ⟨V.soft._f (zn za .i64 (d.a.r1 j).f1) yu,yu⟩,V.soft._f zh yu,yu⟩) zh)))==(0:Int)then bif V.toInt (Ux (Ym
  (zf (zl za 1 d.a.n2 λj=>V.soft._f (zf (zn za .u32 (d.a.r2 j).f0) zh) ⟨⟨V.soft._f (zn za .u32 (d.a.r2 j).f0) yu,yu⟩,V.soft._f
  zh yu,yu⟩) zh)))==(0:Int)then Wy (ZQ (zf (zl za 4 d.a.n3 λj=>Zv za (d.a.r3 j)) (zf (zl za 4
  d.a.n4 λj=>Zt za (d.a.r4 j)) zh)))==(0:Int)else za else za else za then bif YH (ZG (zf (zl za 2 d.a.n5 λj=>
  Zu za (d.a.r5 j)) zh))==(0:Int)then bif Gd (Za9 (zf (zl za 5 d.a.n8 λj=>ZP za (d.a.r8 j)) zh))==(0:Int)then
  Zag (Qa (zf (zn za .i64 d.a.f9) (zf (zl za 2 d.a.n10 λj=>ZC za (d.a.r10 j)) (zf (zl za 3 d.a.n11 λj=>
  ZF za (d.a.r11 j)) zh))))==(0:Int)else za else za else za)
theorem vParts_at(d:Ze)(h0:d.a.n1<=9)(h1:d.a.n2<=5)(h2:d.a.n3<=1000)(h3:d.a.n4<=1000)(h4:d.a.n5<=1000)(h5:d.a.n8<=1000)(h6:d.a.n10<=1000)(h7:d.a.n11<=1000)(h8:∀j,(d.a.r5 j).n1<=1000):YG P 35 (.cons (.ptr ze 0 0 0 0) .nil) (Yt d) (.leaf (.bool za (VT d),Yt d)):=by
 refine GH (E:=(Zl P [QN,QM,ZaA,QK,Ze9,ZaH] [] ze)) (Zw hm hn (l:=[QN,QM,ZaA,QK,Ze9,ZaH]) ⟨Zke,Zka,Zj1,Zcq,Zn3,Zkg,trivial⟩ (ls:=[]) trivial ze) (ZrQ d) (rfl) ⟨rfl,rfl⟩ ?_
 refine⟨?_,⟨?_,trivial⟩⟩
 all_goals((repeat'(first|exact rfl|exact λ_=>⟨rfl,rfl⟩|apply zy|intro _));all_goals(try simp only[decide_eq_true_eq,decide_eq_false_iff_not]at*);all_goals(first|omega|exact h8|exact h8 _))
def ZbP:HK:=λargs bl=>match args,bl with
 |(.cons (.ptr ze 0 0 0 0) .nil),[.var c,.Zk (.int .i64) _ fo _,.Zk (.int .i64) _ fn _,.Zk (.int .i64) _ fh _]=>some (c.QV λc=>.need (UD c fo fn fh/\(λ(d:Ze)=>d.a.n1<=9/\d.a.n2<=5/\d.a.n3<=1000/\d.a.n4<=1000/\d.a.n5<=1000/\d.a.n8<=1000/\d.a.n10<=1000/\d.a.n11<=1000/\∀j,(d.a.r5 j).n1<=1000) (Xr c fo fn fh)) (.leaf (.bool za (VT (Xr c fo fn fh)),Yt (Xr c fo fn fh))))
 |_,_=>zm
theorem vParts_ok:Xo P 35 ZbP:=by
 intro args bl T hT
 unfold ZbP at hT
 split at hT
 ·rename_i c q1 fo q2 q3 fn q4 q5 fh q6
  injection hT with hT
  subst hT
  intro base mm F w xs Q KK h1 h2 hq hk
  simp only[V.Jp]at hq
  obtain⟨hp,hq⟩:=hq
  exact YG.le (bl:=[.var c,.Zk (.int .i64) q1 fo q2,.Zk (.int .i64) q3 fn q4,.Zk (.int .i64) q5 fh q6]) (vParts_at (Xr c fo fn fh) hp.2.1 hp.2.2.1 hp.2.2.2.1 hp.2.2.2.2.1 hp.2.2.2.2.2.1 hp.2.2.2.2.2.2.1 hp.2.2.2.2.2.2.2.1 hp.2.2.2.2.2.2.2.2.1 hp.2.2.2.2.2.2.2.2.2) rfl (λb=>Zak hp.1 b) base mm F w xs Q KK h1 h2 hq hk
 ·cases hT
def VI(a:Zj):V:=(Ya (ZM P [QM] []) (Yc [QM]) 400 12 (.cons (.agg (WV ze a)) .nil)).join
theorem pCpus_p0(a:Zj):(Xc 6 λc=>(Ya (ZM P [QM] []) (Yc [QM]) 400 12 (.cons (.agg (WV ze { a with n0:=(0+c) })) .nil)).total&&((Ya (ZM P [QM] []) (Yc [QM]) 400 12 (.cons (.agg (WV ze { a with n0:=(0+c) })) .nil)).YO&&Y8 (.int za .u32 0) (Ya (ZM P [QM] []) (Yc [QM]) 400 12 (.cons (.agg (WV ze { a with n0:=(0+c) })) .nil)).join))=ze:=by kernel_rfl
theorem ZqY(a:Zj)(h0:a.n0<=5):Zh P 12 (.cons (.agg (WV ze a)) .nil) (YA (.int za .u32 0) (VI a)):=by
 have key:∀c,c<6->Zh P 12 (.cons (.agg (WV ze { a with n0:=c })) .nil) (YA (.int za .u32 0) (Ya (ZM P [QM] []) (Yc [QM]) 400 12 (.cons (.agg (WV ze { a with n0:=c })) .nil)).join):=λc hc=>by
  exact J2 0 6 XB (Yz hm hn (l:=[QM]) ⟨Zka,trivial⟩) rfl 400 (.int za .u32 0) (args:=λc=>(.cons (.agg (WV ze { a with n0:=c })) .nil)) (Has.of hn Tryz.func12 rfl) (pCpus_p0 a) (by omega) (by omega)
 have hc:=key (a.n0) (by omega)
 exact hc
def ZaF:Con:=Qy 12 (.cons (.agg Zma) .nil) (λx=>zK (Ym x.hd.inner).n0 5) (λx=>YA (.int za .u32 0) (VI (Ym x.hd.inner))) (λx=>(.cons (.agg (WV ze (Ym x.hd.inner))) .nil)) (λx=>(Ym x.hd.inner).n0<=5)
theorem Zkb:ZaF.Ok P:=QO (λ_=>rfl) (λx h=>by simp only[zL,Nat.ble_eq]at h⊢;omega) (λx h=>ZqY _ h)
def ZdS(a:VW):V:=(Ya (ZM P [QN] []) (Yc [QN]) 400 13 (.cons (.agg (WW ze a)) .nil)).join
theorem tAll_p0(a:VW):(Xc 10 λc=>(Ya (ZM P [QN] []) (Yc [QN]) 400 13 (.cons (.agg (WW ze { a with n0:=(0+c) })) .nil)).total&&((Ya (ZM P [QN] []) (Yc [QN]) 400 13 (.cons (.agg (WW ze { a with n0:=(0+c) })) .nil)).YO&&Y8 (.int za .u32 0) (Ya (ZM P [QN] []) (Yc [QN]) 400 13 (.cons (.agg (WW ze { a with n0:=(0+c) })) .nil)).join))=ze:=by kernel_rfl
theorem Zrz(a:VW)(h0:a.n0<=9):Zh P 13 (.cons (.agg (WW ze a)) .nil) (YA (.int za .u32 0) (ZdS a)):=by
 have key:∀c,c<10->Zh P 13 (.cons (.agg (WW ze { a with n0:=c })) .nil) (YA (.int za .u32 0) (Ya (ZM P [QN] []) (Yc [QN]) 400 13 (.cons (.agg (WW ze { a with n0:=c })) .nil)).join):=λc hc=>by
  exact J2 0 10 XB (Yz hm hn (l:=[QN]) ⟨Zke,trivial⟩) rfl 400 (.int za .u32 0) (args:=λc=>(.cons (.agg (WW ze { a with n0:=c })) .nil)) (Has.of hn Tryz.func13 rfl) (tAll_p0 a) (by omega) (by omega)
 have hc:=key (a.n0) (by omega)
 exact hc
def ZaG:Con:=Qy 13 (.cons (.agg Zmc) .nil) (λx=>zK (JU x.hd.inner).n0 9) (λx=>YA (.int za .u32 0) (ZdS (JU x.hd.inner))) (λx=>(.cons (.agg (WW ze (JU x.hd.inner))) .nil)) (λx=>(JU x.hd.inner).n0<=9)
theorem Zkd:ZaG.Ok P:=QO (λ_=>rfl) (λx h=>by simp only[zL,Nat.ble_eq]at h⊢;omega) (λx h=>Zrz _ h)
abbrev Zc8(d:Ze)(i:Int)(z:Unit):V:=(.cons (.ptr ze 4 0 0 0) (.cons (.bool ze za) (.cons (.rsl za 4 (Za.n3 (Ze.a d)) (λj=>Zv za ((Ze.a d).r3 j))) (.cons (.int za .i64 (((Za.n3 (Ze.a d)):Nat):Int)) (.cons (.int za .i64 i) .nil)))))
abbrev Zc9(d:Ze)(i:Int)(z:Unit):List Blk:=[.var (Yu d.a),mO d,mN d,mH d,.var (.cons (.ptr ze 0 0 0 0) .nil)]
def gr1_R(d:Ze)(i:Int)(z:Unit):Tree Rd:=
 let q2:=(zl za 4 d.a.n3 λjj=>Zv za (d.a.r3 jj))
 let q1:=[zN (Yu d.a),mO d,mN d,mH d,zN (zf (pt 0) zh)]
 let q0:=(zw (Ex.ret,ze,zf (pt 4) (zf (zC ze za) (zf q2 (ci ((d.a.n3:Nat):Int) (ci i zh)))),q1))
 zu ((0:Int)<=i/\i<((d.a.n3:Nat):Int)) (zB (decide ((d.a.r3 (zk i)).f3>=((d.a.n2:Nat):Int))) q0 (zu ((0:Int)<=i/\i<((d.a.n7:Nat):Int)) (zB ((bif bif bif bif bif bif bif decide ((d.a.r7 (zk i)).f0<(0:Int))then ze else decide ((d.a.r7 (zk i)).f0>(800:Int))then ze else za then ze else za then ze else za then ze else bif bif bif bif bif decide ((d.a.r7 (zk i)).f1<(-8000000000:Int))then ze else decide ((d.a.r7 (zk i)).f1>zD .i64 ((d.a.r7 (zk i)).f0*(100000000:Int)))then ze else za then ze else za then ze else za then ze else bif (d.a.r7 (zk i)).f0==(0:Int)then !((d.a.r7 (zk i)).f0==(0:Int)&&((d.a.r7 (zk i)).f1==(0:Int)&&ze))else za then ze else za then(210:Int)else(0:Int)) != (0:Int)) q0 (zu ((0:Int)<=i/\i<((d.a.n7:Nat):Int)) (zB (bif (d.a.r7 (zk i)).f0 != (d.a.r3 (zk i)).f2 then ze else za) q0 (zw (Ex.normal,ze,zf (pt 4) (zf (zC ze za) (zf q2 (ci ((d.a.n3:Nat):Int) (ci (zD .i64 (i+(1:Int))) zh)))),q1)))))))
theorem gr1_round(d:Ze):Yi P (Zl P [ZaF,ZaG,Zav] [] ze) 36 4 34 34 92 [1,2,39,40,41] [(0,.own),(1,.own),(2,.own),(3,.own),(4,.own)] [] (Zc8 d) (Zc9 d) (λi=>(bif decide (i<((d.a.n3:Nat):Int))then za else ze)) (.exit 0) (gr1_R d):=λB i z=>by kernel_rfl
def Jr(d:Ze)(k:Nat):Bool:=(λ(i:Int)(z:Unit)=>(bif decide ((d.a.r3 (zk i)).f3>=((d.a.n2:Nat):Int))then ze else(bif (bif bif bif bif bif bif bif decide ((d.a.r7 (zk i)).f0<(0:Int))then ze else decide ((d.a.r7 (zk i)).f0>(800:Int))then ze else za then ze else za then ze else za then ze else bif bif bif bif bif decide ((d.a.r7 (zk i)).f1<(-8000000000:Int))then ze else decide ((d.a.r7 (zk i)).f1>zD .i64 ((d.a.r7 (zk i)).f0*(100000000:Int)))then ze else za then ze else za then ze else za then ze else bif (d.a.r7 (zk i)).f0==(0:Int)then !((d.a.r7 (zk i)).f0==(0:Int)&&((d.a.r7 (zk i)).f1==(0:Int)&&ze))else za then ze else za then(210:Int)else(0:Int)) != (0:Int)then ze else(bif bif (d.a.r7 (zk i)).f0 != (d.a.r3 (zk i)).f2 then ze else za then ze else za)))) k ()
abbrev gr1_ets(d:Ze)(i:Int)(z:Unit):V:=(.cons (zQ ze 4 0 0 0) (.cons (zC ze za) (.cons (zl za 4 d.a.n3 λjj=>Zv za (d.a.r3 jj)) (.cons (zn za .i64 ((d.a.n3:Nat):Int)) (.cons .junk .nil)))))
def ZfU(d:Ze):Lp:=lpL 36 4 34 34 92 [1,2,39,40,41] [(0,.own),(1,.own),(2,.own),(3,.own),(4,.own)] [] (Zc8 d) (Zc9 d) (.exit 0) .ret () (λ_=>()) (Jr d) (Za.n3 (Ze.a d)) (gr1_ets d) (Zc9 d)
def gr1_need(d:Ze):Prop:=YC 34 [] (Zc8 d) (Zc9 d) () (Zc8 d (0:Nat) ()) (Zc9 d (0:Nat) ())
theorem gr1_fit(d:Ze):gr1_need d:=⟨rfl,⟨rfl,⟨rfl,λ_=>⟨rfl,rfl⟩⟩,⟨rfl,λ_=>⟨rfl,rfl⟩⟩,⟨rfl,λ_=>⟨rfl,rfl⟩⟩,rfl,trivial⟩⟩
theorem gr1_lp_ok(d:Ze)(hl:d.a.n3<=1000)(h1:d.a.n1<=9)(h2:d.a.n2<=5)(hb:d.a.n7=d.a.n3):(ZfU d).Ok P:=by
 refine YR (Zw hm hn (l:=[ZaF,ZaG,Zav]) ⟨Zkb,Zkd,ZjY,trivial⟩ (ls:=[]) trivial ze) rfl (by kernel_rfl) (gr1_round d) exN Yv (λ_=>rfl) (step:=λ_ z=>z) (rd:=(λ_ t y=>())) (λi z=>rfl) (λi=>(cC rfl (cC rfl (cC rfl rfl)))) rfl (λi hlt hg=>?_) (λi z hi=>?_)
 ·have hltI:(i:Int)<(((Za.n3 (Ze.a d)):Nat):Int):=by omega
  refine⟨?_,⟨λhb0=>trivial,λhb0=>⟨?_,⟨λhb1=>trivial,λhb1=>⟨?_,⟨λhb2=>trivial,λhb2=>trivial⟩⟩⟩⟩⟩⟩
  all_goals(repeat'(first|exact rfl|exact λ_=>⟨rfl,rfl⟩|apply zy|intro _))
  all_goals(try simp only[decide_eq_true_eq,decide_eq_false_iff_not,yg,yw]at*)
  all_goals(try simp(disch:=omega) only[IntWalk.i64_in])
  all_goals(first|omega)
 ·have hw:=(IntWalk.i64_in ((i:Int)+1) ⟨by omega,by omega⟩)
  refine⟨?_,⟨?_,⟨?_,?_⟩⟩⟩
  all_goals(first|exact⟨rfl,Yq (ts:=Zc8 d) (a:=()) hw rfl,Z5 _⟩|exact⟨rfl,rfl,(by repeat'(first|exact Le.refl _|exact Le.junk _ rfl|apply Le.cons)),Z5 _⟩)
abbrev Zda(d:Ze)(i:Int)(z:Unit):V:=(.cons (.rsl za 4 (Za.n4 (Ze.a d)) (λj=>Zt za ((Ze.a d).r4 j))) (.cons (.fn (Fn.func (63:Nat)) .nil (.cons (.ptr ze (4:Nat) (0:Nat) (0:Nat) (0:Nat)) .nil)) (.cons (.int ze .i64 0) (.cons (.int za .i64 (((Za.n4 (Ze.a d)):Nat):Int)) (.cons (.int za .i64 i) .nil)))))
abbrev Zdb(d:Ze)(i:Int)(z:Unit):List Blk:=[.var (Yu d.a),mO d,mN d,mH d,.var (.cons (.ptr ze 0 0 0 0) .nil)]
def gr2_R(d:Ze)(i:Int)(z:Unit):Tree Rd:=
 let q0:=(zf (zl za 4 d.a.n3 λj=>Zv za (d.a.r3 j)) (zf (zl za 4 d.a.n4 λj=>Zt za (d.a.r4 j)) zh))
 let q1:=(bif d.6 (d.a.r4 (zk i)).f0 then d.7 (d.a.r4 (zk i)).f0 else(0:Int))
 let q2:=[zN (Yu d.a),mO d,mN d,mH d,zN (zf (pt 0) zh)]
 let q3:=(V.fn (Fn.func (63:Nat)) zh (zf (pt 4) zh))
 let q4:=(zl za 4 d.a.n4 λjj=>Zt za (d.a.r4 jj))
 let q5:=(ci (d.a.r4 (zk i)).f0 zh)
 zu (((0:Int)<=i/\i<((d.a.n4:Nat):Int))/\(zf (zJ q0) q5=zf (zJ q0) q5/\d.a.n3<=(1000:Nat)/\d.a.n4<=(1000:Nat))/\(((0:Int)<=bif d.6 (d.a.r4 (zk i)).f0 then d.7 (d.a.r4 (zk i)).f0 else(0:Int))/\q1<((d.a.n3:Nat):Int))/\(0:Int)<=(d.a.r3 (zk q1)).f3/\(d.a.r3 (zk q1)).f3<((d.a.n2:Nat):Int)) (zB (bif bif zD .u32 ((yF (yc (zY .u32) (Wu (ZQ q0) (d.a.r4 (zk i)).f0)&&& yc (zY .u32) (d.a.r2 (zk (d.a.r3 (zk q1)).f3)).f0):Nat):Int)==(0:Int)then ze else za then ze else za) (zw (Ex.ret,ze,zf q4 (zf q3 (ci i (ci ((d.a.n4:Nat):Int) (ci i zh)))),q2)) (zw (Ex.normal,ze,zf q4 (zf q3 (zf (zn ze .i64 (0:Int)) (ci ((d.a.n4:Nat):Int) (ci (zD .i64 (i+(1:Int))) zh)))),q2)))
theorem gr2_round(d:Ze):Yi P (Zl P [X8] [] ze) 109 2 34 34 19 [0,1,4,7,8] [(0,.own),(1,.own),(2,.own),(3,.own),(4,.own)] [] (Zda d) (Zdb d) (λi=>(bif decide (i<((d.a.n4:Nat):Int))then za else ze)) (.exit 0) (gr2_R d):=λB i z=>by kernel_rfl
def GD(d:Ze)(k:Nat):Bool:=(gr2_R d k ()).early
abbrev gr2_ets(d:Ze)(i:Int)(z:Unit):V:=(.cons (zl za 4 d.a.n4 λjj=>Zt za (d.a.r4 jj)) (.cons (V.fn (Fn.func (63:Nat)) zh (zf (zQ ze 4 0 0 0) zh)) (.cons (zn za .i64 i) (.cons (zn za .i64 ((d.a.n4:Nat):Int)) (.cons .junk .nil)))))
def ZfV(d:Ze):Lp:=lpL 109 2 34 34 19 [0,1,4,7,8] [(0,.own),(1,.own),(2,.own),(3,.own),(4,.own)] [] (Zda d) (Zdb d) (.exit 0) .ret () (λ_=>()) (GD d) (Za.n4 (Ze.a d)) (gr2_ets d) (Zdb d)
def gr2_need(d:Ze):Prop:=YC 34 [] (Zda d) (Zdb d) () (Zda d (0:Nat) ()) (Zdb d (0:Nat) ())
theorem gr2_fit(d:Ze):gr2_need d:=⟨rfl,⟨rfl,⟨rfl,λ_=>⟨rfl,rfl⟩⟩,⟨rfl,λ_=>⟨rfl,rfl⟩⟩,⟨rfl,λ_=>⟨rfl,rfl⟩⟩,rfl,trivial⟩⟩
theorem gr2_lp_ok(d:Ze)(hl:d.a.n4<=1000)(hl3:d.a.n3<=1000)(hH:0<d.a.n4->∀j:Int,0<=(bif d.hh j then d.hg j else 0)/\(bif d.hh j then d.hg j else 0)<d.a.n3)(hP:0<d.a.n4->∀j:Int,0<=(d.a.r3 (bif d.hh j then d.hg j else 0).toNat).f3/\(d.a.r3 (bif d.hh j then d.hg j else 0).toNat).f3<d.a.n2):(ZfV d).Ok P:=by
 refine YR (Zw hm hn (l:=[X8]) ⟨Ve,trivial⟩ (ls:=[]) trivial ze) rfl (by kernel_rfl) (gr2_round d) exN Yv (λ_=>rfl) (step:=λ_ z=>z) (rd:=(λ_ t y=>())) (λi z=>rfl) (λi=>rfl) rfl (λi hlt hg=>?_) (λi z hi=>?_)
 ·have hltI:(i:Int)<(((Za.n4 (Ze.a d)):Nat):Int):=by omega
  refine⟨?_,⟨λhb0=>trivial,λhb0=>trivial⟩⟩
  all_goals(repeat'(first|exact rfl|exact λ_=>⟨rfl,rfl⟩|apply zy|intro _))
  all_goals(try simp only[decide_eq_true_eq,decide_eq_false_iff_not,yg,yw]at*)
  all_goals(try simp(disch:=omega) only[IntWalk.i64_in])
  all_goals(first|omega|exact(hH (by omega) _).1|exact(hH (by omega) _).2|exact(hP (by omega) _).1|exact(hP (by omega) _).2)
 ·have hw:=(IntWalk.i64_in ((i:Int)+1) ⟨by omega,by omega⟩)
  refine⟨?_,?_⟩
  all_goals(first|exact⟨rfl,Yq (ts:=Zda d) (a:=()) hw rfl,Z5 _⟩|exact⟨rfl,rfl,(by repeat'(first|exact Le.refl _|exact Le.junk _ rfl|apply Le.cons)),Z5 _⟩)
def ZrL(d:Ze):Tree (V×List Blk):=
 let q8:=(zl za 2 d.a.n1 λj=>Z9 za (d.a.r1 j))
 let q7:=(zl za 1 d.a.n2 λj=>zf (zn za .u32 (d.a.r2 j).f0) zh)
 let q11:=(zl za 4 d.a.n3 λj=>Zv za (d.a.r3 j))
 let q9:=(zl za 4 d.a.n4 λj=>Zt za (d.a.r4 j))
 let q0:=(zf q8 (zf q7 (zf q11 (zf q9 (zf (zl za 2 d.a.n5 λj=>Zu za (d.a.r5 j)) (zf (zl za 11 d.a.n6 λj=>Zy za (d.a.r6 j)) (zf (zl za 2 d.a.n7 λj=>Z0 za (d.a.r7 j)) (zf (zl za 5 d.a.n8 λj=>ZP za (d.a.r8 j)) (ci d.a.f9 (zf (zl za 2 d.a.n10 λj=>ZC za (d.a.r10 j)) (zf (zl za 3 d.a.n11 λj=>ZF za (d.a.r11 j)) (zf (zl za 2 d.a.n12 λj=>ZB za (d.a.r12 j)) (zf (zn za .u64 d.a.f13) (zf (zZ 1) (zf (zZ 2) (zf (zZ 3) zh))))))))))))))))
 let q1:=[zN (Yu d.a),Blk.Zk (MK.int .i64) za (λk=>(d.2 (Zd k),vi (d.3 (Zd k)))) zm,Blk.Zk (MK.int .i64) za (λk=>(d.4 (Zd k),vi (d.5 (Zd k)))) zm,Blk.Zk (MK.int .i64) za (λk=>(d.6 (Zd k),vi (d.7 (Zd k)))) zm]
 let q12:=(vi (0:Int))
 let q2:=(zf (V.fn (Fn.func (63:Nat)) zh (zf (zQ za 4 0 0 0) zh)) (zf q12 (ci ((d.a.n4:Nat):Int) (zf q12 zh))))
 let q3:=(zf (zC za za) (zf q11 (ci ((d.a.n3:Nat):Int) (zf q12 zh))))
 let q4:=(zA=zA/\YD .i64 (λx=>(d.2 (Zd x),vi (d.3 (Zd x)))) λk=>(d.2 (Zd k),vi (d.3 (Zd k))))
 let q5:=(zA=zA/\YD .i64 (λx=>(d.4 (Zd x),vi (d.5 (Zd x)))) λk=>(d.4 (Zd k),vi (d.5 (Zd k))))
 let q6:=(zA=zA/\YD .i64 (λx=>(d.6 (Zd x),vi (d.7 (Zd x)))) λk=>(d.6 (Zd k),vi (d.7 (Zd k))))
 let q10:=(vi d.a.f0)
 zu ((zf (zJ (zf q7 zh)) zh=zf (zJ (zf q7 zh)) zh/\d.a.n2<=(5:Nat))/\zf (zJ (zf q8 zh)) zh=zf (zJ (zf q8 zh)) zh/\d.a.n1<=(9:Nat)) (zB (bif bif V.toInt (VI (Ym (zf (zl za 1 d.a.n2 λj=>V.soft._f (zf (zn za .u32 (d.a.r2 j).f0) zh) ⟨⟨V.soft._f (zn za .u32 (d.a.r2 j).f0) yu,yu⟩,V.soft._f zh yu,yu⟩) zh))) != V.toInt (ZdS (JU (zf (zl za 2 d.a.n1 λj=>V.soft._f (Z9 za (d.a.r1 j)) ⟨⟨V.soft._f (vi (d.a.r1 j).f0) yu,yu⟩,V.soft._f (ci (d.a.r1 j).f1 zh) ⟨⟨V.soft._f (vi (d.a.r1 j).f1) yu,yu⟩,V.soft._f zh yu,yu⟩,⟨V.soft._f (vi (d.a.r1 j).f1) yu,yu⟩,V.soft._f zh yu,yu⟩) zh)))then ze else((d.a.n7:Nat):Int) != ((d.a.n3:Nat):Int)then ze else za) (zw (zC ze za,q1)) (zu (d.a.n7=d.a.n3/\zf (zQ za 4 0 0 0) q3=zf (zQ za 4 0 0 0) q3/\zf q10 q0=zf q10 q0/\q4/\q5/\q6/\zf (zQ za 0 0 0 0) zh=zf (zQ za 0 0 0 0) zh/\True) (zB (bif Zp (Jr d) d.a.n3 then ze else za) (zw (zC ze za,q1)) (zu (Zp (Jr d) d.a.n3=za/\zf q9 q2=zf q9 q2/\zf q10 q0=zf q10 q0/\q4/\q5/\q6/\zf (zQ za 0 0 0 0) zh=zf (zQ za 0 0 0 0) zh/\True) (zB (bif Zp (GD d) d.a.n4 then ze else za) (zw (zC za za,q1)) (zw (zC ze ze,q1)))))))
theorem ZrO(d:Ze):evH (Zl P [ZaF,ZaG,Zav,X8] [(QB (d.a.n7=d.a.n3) (ZfU d)),(QB (Zp (Jr d) d.a.n3=za) (ZfV d))] ze) 400 36 (.cons (.ptr ze 0 0 0 0) .nil) (Yt d)=ZrL d:=by kernel_rfl
def UA(d:Ze):Bool:=
  (bif bif bif V.toInt (VI (Ym (zf (zl za 1 d.a.n2 λj=>V.soft._f (zf (zn za .u32 (d.a.r2 j).f0) zh) ⟨⟨V.soft._f (zn za .u32 (d.a.r2
  j).f0) yu,yu⟩,V.soft._f zh yu,yu⟩) zh))) != V.toInt (ZdS (JU (zf (zl za 2 d.a.n1 λj=>V.soft._f (Z9
  za (d.a.r1 j)) ⟨⟨V.soft._f (zn za .i64 (d.a.r1 j).f0) yu,yu⟩,V.soft._f (zf (zn za .i64 (d.a.r1 j).f1) zh) ⟨⟨V.soft._f (zn za .i64
  (d.a.r1 j).f1) yu,yu⟩,V.soft._f zh yu,yu⟩,⟨V.soft._f (zn za .i64 (d.a.r1 j).f1) yu,yu⟩,V.soft._f zh
  yu,yu⟩) zh)))then ze else((d.a.n7:Nat):Int) != ((d.a.n3:Nat):Int)then ze else za then(za)else(bif bif Zp (Jr d) d.a.n3 then
  ze else za then(za)else(bif bif Zp (GD d) d.a.n4 then ze else za then(za)else(ze))))
theorem ZrM(d:Ze)(h0:d.a.n1<=9)(h1:d.a.n2<=5)(h2:d.a.n3<=1000)(h3:d.a.n4<=1000)(h4:0<d.a.n4->∀j:Int,0<=(bif d.hh j then d.hg j else 0)/\(bif d.hh j then d.hg j else 0)<d.a.n3)(h5:Zp (Jr d) d.a.n3=za->0<d.a.n4->∀j:Int,0<=(d.a.r3 (bif d.hh j then d.hg j else 0).toNat).f3/\(d.a.r3 (bif d.hh j then d.hg j else 0).toNat).f3<d.a.n2):YG P 36 (.cons (.ptr ze 0 0 0 0) .nil) (Yt d) (.leaf (.bool za (UA d),Yt d)):=by
 refine GH (E:=(Zl P [ZaF,ZaG,Zav,X8] [(QB (d.a.n7=d.a.n3) (ZfU d)),(QB (Zp (Jr d) d.a.n3=za) (ZfV d))] ze)) (Zw hm hn (l:=[ZaF,ZaG,Zav,X8]) ⟨Zkb,Zkd,ZjY,Ve,trivial⟩ (ls:=[(QB (d.a.n7=d.a.n3) (ZfU d)),(QB (Zp (Jr d) d.a.n3=za) (ZfV d))]) ⟨Zdd λhg=>gr1_lp_ok d h2 h0 h1 hg,Zdd λhg=>gr2_lp_ok d h3 h2 h4 (h5 hg),trivial⟩ ze) (ZrO d) ((cC rfl (cC rfl (cC rfl rfl)))) ⟨⟨rfl,rfl⟩,⟨⟨rfl,rfl⟩,⟨⟨rfl,rfl⟩,⟨rfl,rfl⟩⟩⟩⟩ ?_
 refine⟨?_,⟨λhb0=>trivial,λhb0=>⟨?_,⟨λhb1=>trivial,λhb1=>⟨?_,⟨λhb2=>trivial,λhb2=>trivial⟩⟩⟩⟩⟩⟩
 all_goals((repeat'(first|exact gr1_fit d|exact gr2_fit d|exact rfl|exact λ_=>⟨rfl,rfl⟩|apply zy|intro _));all_goals(try simp only[decide_eq_true_eq,decide_eq_false_iff_not]at*);all_goals(first|omega|exact(by have h:=nf3 hb0;omega)|exact nf4 hb1|exact hb1|exact gr1_fit d|exact gr2_fit d))
def ZbN:HK:=λargs bl=>match args,bl with
 |(.cons (.ptr ze 0 0 0 0) .nil),[.var c,.Zk (.int .i64) _ fo _,.Zk (.int .i64) _ fn _,.Zk (.int .i64) _ fh _]=>some (c.QV λc=>.need (UD c fo fn fh/\(λ(d:Ze)=>d.a.n1<=9/\d.a.n2<=5/\d.a.n3<=1000/\d.a.n4<=1000/\(0<d.a.n4->∀j:Int,0<=(bif d.hh j then d.hg j else 0)/\(bif d.hh j then d.hg j else 0)<d.a.n3)/\(Zp (Jr d) d.a.n3=za->0<d.a.n4->∀j:Int,0<=(d.a.r3 (bif d.hh j then d.hg j else 0).toNat).f3/\(d.a.r3 (bif d.hh j then d.hg j else 0).toNat).f3<d.a.n2)) (Xr c fo fn fh)) (.leaf (.bool za (UA (Xr c fo fn fh)),Yt (Xr c fo fn fh))))
 |_,_=>zm
theorem ZrN:Xo P 36 ZbN:=by
 intro args bl T hT
 unfold ZbN at hT
 split at hT
 ·rename_i c q1 fo q2 q3 fn q4 q5 fh q6
  injection hT with hT
  subst hT
  intro base mm F w xs Q KK h1 h2 hq hk
  simp only[V.Jp]at hq
  obtain⟨hp,hq⟩:=hq
  exact YG.le (bl:=[.var c,.Zk (.int .i64) q1 fo q2,.Zk (.int .i64) q3 fn q4,.Zk (.int .i64) q5 fh q6]) (ZrM (Xr c fo fn fh) hp.2.1 hp.2.2.1 hp.2.2.2.1 hp.2.2.2.2.1 hp.2.2.2.2.2.1 hp.2.2.2.2.2.2) rfl (λb=>Zak hp.1 b) base mm F w xs Q KK h1 h2 hq hk
 ·cases hT
abbrev Zdx(d:Ze)(i:Int)(z:(Int->Bool)×(Int->Bool)):V:=(.cons (.rsl za 4 (Za.n4 (Ze.a d)) (λj=>Zt za ((Ze.a d).r4 j))) (.cons (.fn (Fn.func (66:Nat)) .nil (.cons (.ptr ze (6:Nat) (0:Nat) (0:Nat) (0:Nat)) (.cons (.ptr ze (4:Nat) (0:Nat) (0:Nat) (0:Nat)) .nil))) (.cons (.bool ze za) (.cons (.rsl za 11 (Za.n6 (Ze.a d)) (λj=>Zy za ((Ze.a d).r6 j))) (.cons (.int za .i64 (((Za.n6 (Ze.a d)):Nat):Int)) (.cons (.int za .i64 i) .nil))))))
abbrev ZgE(d:Ze)(i:Int)(z:(Int->Bool)×(Int->Bool)):List Blk:=[.var (Yu d.a),mO d,mN d,mH d,.var (.cons (.ptr ze 0 0 0 0) .nil),.Zk (.int .u64) za (λx=>(z.1 (Zd x),.bool za (z.2 (Zd x)))) zm,.var (.cons (.mp 5) .nil)]
def ow1_R(d:Ze)(i:Int)(z:(Int->Bool)×(Int->Bool)):Tree Rd:=
 let q5:=(zl za 4 d.a.n4 λjj=>Zt za (d.a.r4 jj))
 let q3:=(V.fn (Fn.func (66:Nat)) zh (zf (pt 6) (zf (pt 4) zh)))
 let q6:=(zl za 11 d.a.n6 λjj=>Zy za (d.a.r6 jj))
 let q2:=(zW .u64 (d.a.r6 (zk i)).f8)
 let q1:=[zN (Yu d.a),mO d,mN d,mH d,zN (zf (pt 0) zh),Blk.Zk (MK.int .u64) za (λk=>(bif ZO k q2 then ze else z.1 (Zd k),zC za (bif ZO k q2 then ze else z.2 (Zd k)))) zm,zN (zf (zZ 5) zh)]
 let q0:=(zw (Ex.ret,ze,zf q5 (zf q3 (zf (zC ze za) (zf q6 (ci ((d.a.n6:Nat):Int) (ci i zh))))),q1))
 let q4:=(bif d.6 (d.a.r4 (zk i)).f0 then d.7 (d.a.r4 (zk i)).f0 else(0:Int))
 zu ((0:Int)<=i/\i<((d.a.n6:Nat):Int)) (zu ((0:Int)<=i/\i<((d.a.n4:Nat):Int)) (zB ((d.a.r6 (zk i)).f0==(d.a.r4 (zk i)).f0) (zB ((bif bif bif !bif decide ((d.a.r6 (zk i)).f1>=(0:Int))then bif decide ((d.a.r6 (zk i)).f1<=(3:Int))then bif decide ((d.a.r6 (zk i)).f2>=(0:Int))then bif decide ((d.a.r6 (zk i)).f2<=(15:Int))then bif decide ((d.a.r6 (zk i)).f4>=(0:Int))then decide ((d.a.r6 (zk i)).f4<=(1125899906842624:Int))else za else za else za else za else za then ze else !(bif (d.a.r6 (zk i)).f3 != (0:Int)then ze else(d.a.r6 (zk i)).f4 != (0:Int))==((d.a.r6 (zk i)).f1==(3:Int))then ze else za then(270:Int)else(0:Int))==(0:Int)) (zB ((bif bif bif bif bif !bif decide ((d.a.r6 (zk i)).f7>=(1:Int))then decide ((d.a.r6 (zk i)).f7<=(65535:Int))else za then ze else decide ((d.a.r6 (zk i)).f5>=(68719476736:Int))then ze else za then ze else za then ze else za then(150:Int)else(0:Int))==(0:Int)) (zB (!bif z.1 (Zd q2)then z.2 (Zd q2)else za) (zB (decide ((d.a.r6 (zk i)).f8<=d.a.f13)) (zu (((0:Int)<=bif d.6 (d.a.r4 (zk i)).f0 then d.7 (d.a.r4 (zk i)).f0 else(0:Int))/\q4<((d.a.n3:Nat):Int)) (zB ((d.a.r6 (zk i)).f7==zD .u64 (d.a.r3 (zk q4)).f1) (zB (decide ((d.a.r6 (zk i)).f9>=(0:Int))) (zB (bif !bif decide (zD .i64 ((d.a.r6 (zk i)).f9-(1000000:Int))<=d.a.f0)then bif decide ((d.a.r6 (zk i)).f10>=(0:Int))then decide ((d.a.r6 (zk i)).f10<=d.a.f0)else za else za then ze else za) q0 (zw (Ex.normal,ze,zf q5 (zf q3 (zf (zC ze za) (zf q6 (ci ((d.a.n6:Nat):Int) (ci (zD .i64 (i+(1:Int))) zh))))),q1))) q0) q0)) q0) q0) q0) q0) q0))
theorem ow1_round(d:Ze):Yi P (Zl P [ZaK,ZaB] [] ze) 65 4 21 21 32 [1,2,6,15,16,17] [(0,.own),(1,.own),(2,.own),(3,.own),(4,.own),(5,.own),(6,.own)] [] (Zdx d) (ZgE d) (λi=>(bif decide (i<((d.a.n6:Nat):Int))then za else ze)) (.exit 0) (ow1_R d):=λB i z=>by kernel_rfl
def Zi5(d:Ze)(k:Nat)(z:(Int->Bool)×(Int->Bool)):(Int->Bool)×(Int->Bool):=(λ(i:Int)(z:(Int->Bool)×(Int->Bool))=>(bif (d.a.r6 (zk i)).f0==(d.a.r4 (zk i)).f0 then(bif (bif bif bif !bif decide ((d.a.r6 (zk i)).f1>=(0:Int))then bif decide ((d.a.r6 (zk i)).f1<=(3:Int))then bif decide ((d.a.r6 (zk i)).f2>=(0:Int))then bif decide ((d.a.r6 (zk i)).f2<=(15:Int))then bif decide ((d.a.r6 (zk i)).f4>=(0:Int))then decide ((d.a.r6 (zk i)).f4<=(1125899906842624:Int))else za else za else za else za else za then ze else !(bif (d.a.r6 (zk i)).f3 != (0:Int)then ze else(d.a.r6 (zk i)).f4 != (0:Int))==((d.a.r6 (zk i)).f1==(3:Int))then ze else za then(270:Int)else(0:Int))==(0:Int)then(bif (bif bif bif bif bif !bif decide ((d.a.r6 (zk i)).f7>=(1:Int))then decide ((d.a.r6 (zk i)).f7<=(65535:Int))else za then ze else decide ((d.a.r6 (zk i)).f5>=(68719476736:Int))then ze else za then ze else za then ze else za then(150:Int)else(0:Int))==(0:Int)then(bif !bif z.1 (Zd (zW .u64 (d.a.r6 (zk i)).f8))then z.2 (Zd (zW .u64 (d.a.r6 (zk i)).f8))else za then(bif decide ((d.a.r6 (zk i)).f8<=d.a.f13)then(bif (d.a.r6 (zk i)).f7==zD .u64 (d.a.r3 (zk (bif d.6 (d.a.r4 (zk i)).f0 then d.7 (d.a.r4 (zk i)).f0 else(0:Int)))).f1 then(bif decide ((d.a.r6 (zk i)).f9>=(0:Int))then(bif bif !bif decide (zD .i64 ((d.a.r6 (zk i)).f9-(1000000:Int))<=d.a.f0)then bif decide ((d.a.r6 (zk i)).f10>=(0:Int))then decide ((d.a.r6 (zk i)).f10<=d.a.f0)else za else za then ze else za then((z.1,z.2))else(((λ(j_:Int)=>bif j_==(d.a.r6 (zk i)).f8 then ze else z.1 (j_)),(λ(j_:Int)=>bif j_==(d.a.r6 (zk i)).f8 then ze else z.2 (j_)))))else((z.1,z.2)))else((z.1,z.2)))else((z.1,z.2)))else((z.1,z.2)))else((z.1,z.2)))else((z.1,z.2)))else((z.1,z.2)))) k z
def Xz(d:Ze)(k:Nat):(Int->Bool)×(Int->Bool):=ZJ ((λj=>bif j==0 then ze else za),(λj=>bif j==0 then ze else za)) (Zi5 d) k
def Uv(d:Ze)(k:Nat):Bool:=(λ(i:Int)(z:(Int->Bool)×(Int->Bool))=>(bif (d.a.r6 (zk i)).f0==(d.a.r4 (zk i)).f0 then(bif (bif bif bif !bif decide ((d.a.r6 (zk i)).f1>=(0:Int))then bif decide ((d.a.r6 (zk i)).f1<=(3:Int))then bif decide ((d.a.r6 (zk i)).f2>=(0:Int))then bif decide ((d.a.r6 (zk i)).f2<=(15:Int))then bif decide ((d.a.r6 (zk i)).f4>=(0:Int))then decide ((d.a.r6 (zk i)).f4<=(1125899906842624:Int))else za else za else za else za else za then ze else !(bif (d.a.r6 (zk i)).f3 != (0:Int)then ze else(d.a.r6 (zk i)).f4 != (0:Int))==((d.a.r6 (zk i)).f1==(3:Int))then ze else za then(270:Int)else(0:Int))==(0:Int)then(bif (bif bif bif bif bif !bif decide ((d.a.r6 (zk i)).f7>=(1:Int))then decide ((d.a.r6 (zk i)).f7<=(65535:Int))else za then ze else decide ((d.a.r6 (zk i)).f5>=(68719476736:Int))then ze else za then ze else za then ze else za then(150:Int)else(0:Int))==(0:Int)then(bif !bif z.1 (Zd (zW .u64 (d.a.r6 (zk i)).f8))then z.2 (Zd (zW .u64 (d.a.r6 (zk i)).f8))else za then(bif decide ((d.a.r6 (zk i)).f8<=d.a.f13)then(bif (d.a.r6 (zk i)).f7==zD .u64 (d.a.r3 (zk (bif d.6 (d.a.r4 (zk i)).f0 then d.7 (d.a.r4 (zk i)).f0 else(0:Int)))).f1 then(bif decide ((d.a.r6 (zk i)).f9>=(0:Int))then(bif bif !bif decide (zD .i64 ((d.a.r6 (zk i)).f9-(1000000:Int))<=d.a.f0)then bif decide ((d.a.r6 (zk i)).f10>=(0:Int))then decide ((d.a.r6 (zk i)).f10<=d.a.f0)else za else za then ze else za then ze else za)else ze)else ze)else ze)else ze)else ze)else ze)else ze)) k (Xz d k)
abbrev ow1_ets(d:Ze)(i:Int)(z:(Int->Bool)×(Int->Bool)):V:=(.cons (zl za 4 d.a.n4 λjj=>Zt za (d.a.r4 jj)) (.cons (V.fn (Fn.func (66:Nat)) zh (zf (zQ ze 6 0 0 0) (zf (zQ ze 4 0 0 0) zh))) (.cons (zC ze za) (.cons (zl za 11 d.a.n6 λjj=>Zy za (d.a.r6 jj)) (.cons (zn za .i64 ((d.a.n6:Nat):Int)) (.cons .junk .nil))))))
abbrev ow1_eys(d:Ze)(i:Int)(z:(Int->Bool)×(Int->Bool)):List Blk:=[.var (Yu d.a),mO d,mN d,mH d,.var (.cons (.ptr ze 0 0 0 0) .nil),.any,.var (.cons (.mp 5) .nil)]
def ZgD(d:Ze):Lp:=lpL 65 4 21 21 32 [1,2,6,15,16,17] [(0,.own),(1,.own),(2,.own),(3,.own),(4,.own),(5,.own),(6,.own)] [] (Zdx d) (ZgE d) (.exit 0) .ret ((λj=>bif j==0 then ze else za),(λj=>bif j==0 then ze else za)) (Xz d) (Uv d) (Za.n6 d.a) (ow1_ets d) (ow1_eys d)
def ow1_need(d:Ze):Prop:=YC 21 [] (Zdx d) (ZgE d) ((λj=>bif j==0 then ze else za),(λj=>bif j==0 then ze else za)) (Zdx d (0:Nat) ((λj=>bif j==0 then ze else za),(λj=>bif j==0 then ze else za))) (ZgE d (0:Nat) ((λj=>bif j==0 then ze else za),(λj=>bif j==0 then ze else za)))
theorem ow1_fit(d:Ze):ow1_need d:=⟨rfl,⟨rfl,⟨rfl,λ_=>⟨rfl,rfl⟩⟩,⟨rfl,λ_=>⟨rfl,rfl⟩⟩,⟨rfl,λ_=>⟨rfl,rfl⟩⟩,rfl,⟨rfl,λ_=>⟨rfl,rfl⟩⟩,rfl,trivial⟩⟩
theorem ow1_lp_ok(d:Ze)(hl:d.a.n4<=1000)(hl3:d.a.n3<=1000)(hl6:d.a.n6=d.a.n4)(hH:0<d.a.n4->∀j:Int,0<=(bif d.hh j then d.hg j else 0)/\(bif d.hh j then d.hg j else 0)<d.a.n3):(ZgD d).Ok P:=by
 refine YR (Zw hm hn (l:=[ZaK,ZaB]) ⟨Zki,Zj3,trivial⟩ (ls:=[]) trivial ze) rfl (by kernel_rfl) (ow1_round d) exN Yv (λ_=>rfl) (rd:=(λ_ t y=>((λj=>(y.getD 5 .none).hasK .u64 j),(λj=>(y.getD 5 .none).getB .u64 j)))) (λi z=>(cC (cC (cC (cC (cC (cC (cC (cC rfl rfl) rfl) rfl) rfl) rfl) rfl) rfl) rfl)) (λi=>(cC (cC (cC (cC (cC (cC (cC (cC rfl rfl) rfl) rfl) rfl) rfl) rfl) rfl) rfl)) rfl (λi hlt hg=>?_) (λi z hi=>?_)
 ·have hltI:(i:Int)<(((Za.n6 d.a):Nat):Int):=by omega
  refine⟨?_,⟨?_,⟨λhb0=>⟨λhb1=>⟨λhb2=>⟨λhb3=>⟨λhb4=>⟨?_,⟨λhb5=>⟨λhb6=>⟨λhb7=>trivial,λhb7=>trivial⟩,λhb6=>trivial⟩,λhb5=>trivial⟩⟩,λhb4=>trivial⟩,λhb3=>trivial⟩,λhb2=>trivial⟩,λhb1=>trivial⟩,λhb0=>trivial⟩⟩⟩
  all_goals(repeat'(first|exact rfl|exact λ_=>⟨rfl,rfl⟩|apply zy|intro _))
  all_goals(try simp only[decide_eq_true_eq,decide_eq_false_iff_not,yg,yw]at*)
  all_goals(try simp(disch:=omega) only[IntWalk.i64_in])
  all_goals(first|omega|exact(hH (by omega) _).1|exact(hH (by omega) _).2)
 ·have hw:=(IntWalk.i64_in ((i:Int)+1) ⟨by omega,by omega⟩)
  refine⟨⟨⟨⟨⟨⟨⟨⟨?_,?_⟩,?_⟩,?_⟩,?_⟩,?_⟩,?_⟩,?_⟩,?_⟩
  all_goals(first|exact⟨rfl,Yq (ts:=Zdx d) hw rfl,⟨LeK.refl _,LeK.refl _,LeK.refl _,LeK.refl _,LeK.refl _,Wd λa=>⟨rfl,Le.soft rfl⟩,LeK.refl _,trivial⟩⟩|exact⟨rfl,rfl,(by repeat'(first|exact Le.refl _|exact Le.junk _ rfl|apply Le.cons)),⟨LeK.refl _,LeK.refl _,LeK.refl _,LeK.refl _,LeK.refl _,LeK.any _,LeK.refl _,trivial⟩⟩)
def vOwned_T(d:Ze):Tree (V×List Blk):=
 let q3:=(zl za 4 d.a.n4 λj=>Zt za (d.a.r4 j))
 let q4:=(zl za 11 d.a.n6 λj=>Zy za (d.a.r6 j))
 let q0:=(zf (zl za 2 d.a.n1 λj=>Z9 za (d.a.r1 j)) (zf (zl za 1 d.a.n2 λj=>zf (zn za .u32 (d.a.r2 j).f0) zh) (zf (zl za 4 d.a.n3 λj=>Zv za (d.a.r3 j)) (zf q3 (zf (zl za 2 d.a.n5 λj=>Zu za (d.a.r5 j)) (zf q4 (zf (zl za 2 d.a.n7 λj=>Z0 za (d.a.r7 j)) (zf (zl za 5 d.a.n8 λj=>ZP za (d.a.r8 j)) (ci d.a.f9 (zf (zl za 2 d.a.n10 λj=>ZC za (d.a.r10 j)) (zf (zl za 3 d.a.n11 λj=>ZF za (d.a.r11 j)) (zf (zl za 2 d.a.n12 λj=>ZB za (d.a.r12 j)) (zf (zn za .u64 d.a.f13) (zf (zZ 1) (zf (zZ 2) (zf (zZ 3) zh))))))))))))))))
 let q1:=[zN (Yu d.a),Blk.Zk (MK.int .i64) za (λk=>(d.2 (Zd k),vi (d.3 (Zd k)))) zm,Blk.Zk (MK.int .i64) za (λk=>(d.4 (Zd k),vi (d.5 (Zd k)))) zm,Blk.Zk (MK.int .i64) za (λk=>(d.6 (Zd k),vi (d.7 (Zd k)))) zm]
 let q2:=(zf (V.fn (Fn.func (66:Nat)) zh (zf (zQ za 6 0 0 0) (zf (zQ za 4 0 0 0) zh))) (zf (zC za za) (zf q4 (ci ((d.a.n6:Nat):Int) (ci (0:Int) zh)))))
 zB (bif ((d.a.n6:Nat):Int) != ((d.a.n4:Nat):Int)then ze else za) (zw (zC ze za,q1)) (zu (d.a.n6=d.a.n4/\zf q3 q2=zf q3 q2/\ci d.a.f0 q0=ci d.a.f0 q0/\(zA=zA/\YD .i64 (λx=>(d.2 (Zd x),vi (d.3 (Zd x)))) λk=>(d.2 (Zd k),vi (d.3 (Zd k))))/\(zA=zA/\YD .i64 (λx=>(d.4 (Zd x),vi (d.5 (Zd x)))) λk=>(d.4 (Zd k),vi (d.5 (Zd k))))/\(zA=zA/\YD .i64 (λx=>(d.6 (Zd x),vi (d.7 (Zd x)))) λk=>(d.6 (Zd k),vi (d.7 (Zd k))))/\zf (zQ za 0 0 0 0) zh=zf (zQ za 0 0 0 0) zh/\(yH=yH/\YD .u64 (λx=>(bif Zd x==(0:Int)then ze else za,zC za (bif Zd x==(0:Int)then ze else za))) λk=>(bif ZO k (zW .u64 (0:Int))then ze else za,zC (bif ZO k (zW .u64 (0:Int))then ze else ze) (bif ZO k (zW .u64 (0:Int))then ze else za)))/\zf (zZ 5) zh=zf (zZ 5) zh/\True) (zB (bif Zp (Uv d) d.a.n6 then ze else za) (zw (zC ze za,q1)) (zw (zC ze ze,q1))))
theorem ZrP(d:Ze):evH (Zl P [ZaK,ZaB] [(QB (d.a.n6=d.a.n4) (ZgD d))] ze) 400 37 (.cons (.ptr ze 0 0 0 0) .nil) (Yt d)=vOwned_T d:=by kernel_rfl
def UC(d:Ze):Bool:=
  (bif bif ((d.a.n6:Nat):Int) != ((d.a.n4:Nat):Int)then ze else za then(za)else(bif bif Zp (Uv d) d.a.n6 then ze else za then(za)else
  (ze)))
theorem vOwned_at(d:Ze)(h0:d.a.n3<=1000)(h1:d.a.n4<=1000)(h2:0<d.a.n4->∀j:Int,0<=(bif d.hh j then d.hg j else 0)/\(bif d.hh j then d.hg j else 0)<d.a.n3):YG P 37 (.cons (.ptr ze 0 0 0 0) .nil) (Yt d) (.leaf (.bool za (UC d),Yt d)):=by
 refine GH (E:=(Zl P [ZaK,ZaB] [(QB (d.a.n6=d.a.n4) (ZgD d))] ze)) (Zw hm hn (l:=[ZaK,ZaB]) ⟨Zki,Zj3,trivial⟩ (ls:=[(QB (d.a.n6=d.a.n4) (ZgD d))]) ⟨Zdd λhg=>ow1_lp_ok d h1 h0 hg h2,trivial⟩ ze) (ZrP d) ((cC rfl (cC rfl rfl))) ⟨⟨rfl,rfl⟩,⟨⟨rfl,rfl⟩,⟨rfl,rfl⟩⟩⟩ ?_
 refine⟨λhb0=>trivial,λhb0=>⟨?_,⟨λhb1=>trivial,λhb1=>trivial⟩⟩⟩
 all_goals((repeat'(first|exact ow1_fit d|exact rfl|exact λ_=>⟨rfl,rfl⟩|apply zy|intro _));all_goals(try simp only[decide_eq_true_eq,decide_eq_false_iff_not]at*);all_goals(first|omega|exact(by have h:=nf5 hb0;omega)|exact(λa=>by show(bif (a==0)then ze else za)=(bif (a==0)then((ze,zC ze ze):Bool×V)else(za,zC ze za)).1/\(zC ze (bif (a==0)then ze else za)).soft=(bif (a==0)then((ze,zC ze ze):Bool×V)else(za,zC ze za)).2.soft;cases(a==0)<;>exact⟨rfl,rfl⟩)|exact ow1_fit d))
def ZbO:HK:=λargs bl=>match args,bl with
 |(.cons (.ptr ze 0 0 0 0) .nil),[.var c,.Zk (.int .i64) _ fo _,.Zk (.int .i64) _ fn _,.Zk (.int .i64) _ fh _]=>some (c.QV λc=>.need (UD c fo fn fh/\(λ(d:Ze)=>d.a.n3<=1000/\d.a.n4<=1000/\(0<d.a.n4->∀j:Int,0<=(bif d.hh j then d.hg j else 0)/\(bif d.hh j then d.hg j else 0)<d.a.n3)) (Xr c fo fn fh)) (.leaf (.bool za (UC (Xr c fo fn fh)),Yt (Xr c fo fn fh))))
 |_,_=>zm
theorem vOwned_ok:Xo P 37 ZbO:=by
 intro args bl T hT
 unfold ZbO at hT
 split at hT
 ·rename_i c q1 fo q2 q3 fn q4 q5 fh q6
  injection hT with hT
  subst hT
  intro base mm F w xs Q KK h1 h2 hq hk
  simp only[V.Jp]at hq
  obtain⟨hp,hq⟩:=hq
  exact YG.le (bl:=[.var c,.Zk (.int .i64) q1 fo q2,.Zk (.int .i64) q3 fn q4,.Zk (.int .i64) q5 fh q6]) (vOwned_at (Xr c fo fn fh) hp.2.1 hp.2.2.1 hp.2.2.2) rfl (λb=>Zak hp.1 b) base mm F w xs Q KK h1 h2 hq hk
 ·cases hT
abbrev ga2_ts(d:Ze)(w:Int)(m:Nat)(r:Nat->DT3)(x0:Int)(i:Int)(z:Nat×(Nat->ZE)):V:=(.cons (.ptr ze 0 0 0 0) (.cons (.bool ze za) (.cons (.ptr ze 4 0 0 0) (.cons (.osl za 5 1 0 z.1) (.cons (.rsl za 2 d.a.n5 (λj=>Zu za (d.a.r5 j))) (.cons (.int za .i64 ((d.a.n5:Nat):Int)) (.cons (.int za .i64 w) (.cons (.rsl za 1 m (λj=>ZK za (r j))) (.cons (.int za .i64 ((m:Nat):Int)) (.cons (.int za .i64 i) .nil))))))))))
abbrev ga2_ys(d:Ze)(w:Int)(m:Nat)(r:Nat->DT3)(x0:Int)(i:Int)(z:Nat×(Nat->ZE)):List Blk:=[.var (Yu d.a),mO d,mN d,mH d,.var (.cons (.int za .i64 x0) (.cons (.rsl za 1 m (λj=>ZK za (r j))) .nil)),.arr 1 z.1 (λj=>Z8 za (z.2 j))]
def ga2_R(d:Ze)(w:Int)(m:Nat)(r:Nat->DT3)(x0:Int)(i:Int)(z:Nat×(Nat->ZE)):Tree Rd:=
 let q4:=(zl za 2 d.a.n5 λjj=>Zu za (d.a.r5 jj))
 let q3:=(zl za 1 m λjj=>ci (r jj).f0 zh)
 let q0:=(zw (Ex.ret,ze,zf (pt 0) (zf (zC ze za) (zf (pt 4) (zf (V.osl za 5 1 0 (zR z)) (zf q4 (ci ((d.a.n5:Nat):Int) (ci w (zf q3 (ci (m:Int) (ci i zh))))))))),[zN (Yu d.a),mO d,mN d,mH d,zN (ci x0 (zf q3 zh)),Blk.arr 1 (zR z) λjj=>zf (zn za .u32 (z.2 jj).f0) zh]))
 let q1:=(bif d.6 (r (zk i)).f0 then d.7 (r (zk i)).f0 else(0:Int))
 let q2:=(zf (zl za 4 d.a.n3 λj=>Zv za (d.a.r3 j)) (zf (zl za 4 d.a.n4 λj=>Zt za (d.a.r4 j)) zh))
 let q5:=(ci (r (zk i)).f0 zh)
 zu ((0:Int)<=i/\i<(m:Int)) (zB (bif !d.2 (r (zk i)).f0 then ze else za) q0 (zu (((0:Int)<=bif d.2 (r (zk i)).f0 then d.3 (r (zk i)).f0 else(0:Int))/\(bif d.2 (r (zk i)).f0 then d.3 (r (zk i)).f0 else(0:Int))<((d.a.n6:Nat):Int)) (zu ((0:Int)<=(0:Int)/\(0:Int)<(m:Int)) (zB (bif q1 != bif d.6 (r (zk (0:Int))).f0 then d.7 (r (zk (0:Int))).f0 else(0:Int)then ze else za) q0 (zu (zf (zJ q2) q5=zf (zJ q2) q5/\d.a.n3<=(1000:Nat)/\d.a.n4<=(1000:Nat)) (zu (((0:Int)<=bif d.6 (r (zk i)).f0 then d.7 (r (zk i)).f0 else(0:Int))/\q1<((d.a.n3:Nat):Int)) (zu ((0:Int)<=(d.a.r3 (zk q1)).f3/\(d.a.r3 (zk q1)).f3<((d.a.n2:Nat):Int)) (zu (zR z<=zR z/\fits (zR z+(1:Nat)) (4:Nat)) (zw (Ex.normal,ze,zf (pt 0) (zf (zC ze za) (zf (pt 4) (zf (V.osl za 5 1 0 (zR z+(1:Nat))) (zf q4 (ci ((d.a.n5:Nat):Int) (ci w (zf q3 (ci (m:Int) (ci (zD .i64 (i+(1:Int))) zh))))))))),[zN (Yu d.a),mO d,mN d,mH d,zN (ci x0 (zf q3 zh)),Blk.arr 1 (zR z+(1:Nat)) λjj=>bif zq jj (zR z+nat_lit 0)then zf (zn za .u32 (zD .u32 ((yF (yc (zY .u32) (Wu (ZQ q2) (r (zk i)).f0)&&& yc (zY .u32) (d.a.r2 (zk (d.a.r3 (zk q1)).f3)).f0):Nat):Int))) zh else zf (zn za .u32 (z.2 jj).f0) zh]))))))))))
theorem ga2_round(d:Ze)(w:Int)(m:Nat)(r:Nat->DT3)(x0:Int):Yi P (Zl P [X8] [] ze) 38 6 5 6 59 [0,2,4,5,13,14,15,20,21,22] [(0,.own),(1,.own),(2,.own),(3,.own),(4,.own),(5,.tmp 5)] [] (ga2_ts d w m r x0) (ga2_ys d w m r x0) (λi=>(bif decide (i<(m:Int))then za else ze)) (.exit 2) (ga2_R d w m r x0):=λB i z=>by kernel_rfl
def Za7(d:Ze)(m:Nat)(r:Nat->DT3)(k:Nat)(z:Nat×(Nat->ZE)):Nat×(Nat->ZE):=(λ(i:Int)(z:Nat×(Nat->ZE))=>(bif bif !d.2 (r (zk i)).f0 then ze else za then((z.1,z.2))else(bif bif (bif d.6 (r (zk i)).f0 then d.7 (r (zk i)).f0 else(0:Int)) != bif d.6 (r (zk (0:Int))).f0 then d.7 (r (zk (0:Int))).f0 else(0:Int)then ze else za then((z.1,z.2))else((((zR z+(1:Nat)):Nat),(λ(jj:Nat)=>X0 (bif zq jj (zR z+nat_lit 0)then zf (zn za .u32 (zD .u32 ((yF (yc (zY .u32) (Wu (ZQ (zf (zl za 4 d.a.n3 λj=>Zv za (d.a.r3 j)) (zf (zl za 4 d.a.n4 λj=>Zt za (d.a.r4 j)) zh))) (r (zk i)).f0)&&& yc (zY .u32) (d.a.r2 (zk (d.a.r3 (zk (bif d.6 (r (zk i)).f0 then d.7 (r (zk i)).f0 else(0:Int)))).f3)).f0):Nat):Int))) zh else zf (zn za .u32 (z.2 jj).f0) zh))))))) k z
def Wv(d:Ze)(m:Nat)(r:Nat->DT3)(k:Nat):Nat×(Nat->ZE):=ZJ (0,(λ_=>X0 .nil)) (Za7 d m r) k
def Vu(d:Ze)(m:Nat)(r:Nat->DT3)(k:Nat):Bool:=(λ(i:Int)(z:Nat×(Nat->ZE))=>(bif bif !d.2 (r (zk i)).f0 then ze else za then ze else(bif bif (bif d.6 (r (zk i)).f0 then d.7 (r (zk i)).f0 else(0:Int)) != bif d.6 (r (zk (0:Int))).f0 then d.7 (r (zk (0:Int))).f0 else(0:Int)then ze else za then ze else za))) k (Wv d m r k)
theorem ga2_cnt(d:Ze)(m:Nat)(r:Nat->DT3)(k:Nat):(Wv d m r k).1<=k:=Zhp (m:=λz:Nat×(Nat->ZE)=>z.1) (zI _) (λk z=>((WO (p:=λy:Nat×(Nat->ZE)=>y.1<=z.1+1) (by show _<=_+1;first|omega|exact Nat.le_succ _|exact zI _) (WO (p:=λy:Nat×(Nat->ZE)=>y.1<=z.1+1) (by show _<=_+1;first|omega|exact Nat.le_succ _|exact zI _) (by show _<=_+1;first|omega|exact Nat.le_succ _|exact zI _))):(λy:Nat×(Nat->ZE)=>y.1<=z.1+1) (Za7 d m r k z))) k
abbrev ga2_ets(d:Ze)(w:Int)(m:Nat)(r:Nat->DT3)(x0:Int)(i:Int)(z:Nat×(Nat->ZE)):V:=(.cons (zQ ze 0 0 0 0) (.cons (zC ze za) (.cons (zQ ze 4 0 0 0) (.cons .junk (.cons (zl za 2 d.a.n5 λjj=>Zu za (d.a.r5 jj)) (.cons (zn za .i64 ((d.a.n5:Nat):Int)) (.cons (zn za .i64 w) (.cons (zl za 1 m λjj=>zf (zn za .i64 (r jj).f0) zh) (.cons (zn za .i64 (m:Int)) (.cons .junk .nil))))))))))
abbrev ga2_eys(d:Ze)(w:Int)(m:Nat)(r:Nat->DT3)(x0:Int)(i:Int)(z:Nat×(Nat->ZE)):List Blk:=[.var (Yu d.a),mO d,mN d,mH d,.var (.cons (.int za .i64 x0) (.cons (.rsl za 1 m (λj=>ZK za (r j))) .nil)),.any]
def ga2_lp(d:Ze)(w:Int)(m:Nat)(r:Nat->DT3)(x0:Int):Lp:=lpL 38 6 5 6 59 [0,2,4,5,13,14,15,20,21,22] [(0,.own),(1,.own),(2,.own),(3,.own),(4,.own),(5,.tmp 5)] [] (ga2_ts d w m r x0) (ga2_ys d w m r x0) (.exit 2) .ret (0,(λ_=>X0 .nil)) (Wv d m r) (Vu d m r) (m) (ga2_ets d w m r x0) (ga2_eys d w m r x0)
theorem ga2_lp_ok(d:Ze)(w:Int)(m:Nat)(r:Nat->DT3)(x0:Int)(hl:m<=1000)(hO:∀j:Int,d.oh j=ze->0<=d.og j/\d.og j<d.a.n6)(h64:d.a.n6=d.a.n4)(hl3:d.a.n3<=1000)(hl4:d.a.n4<=1000)(hH:0<d.a.n4->∀j:Int,0<=(bif d.hh j then d.hg j else 0)/\(bif d.hh j then d.hg j else 0)<d.a.n3)(hP:0<d.a.n4->∀j:Int,0<=(d.a.r3 (bif d.hh j then d.hg j else 0).toNat).f3/\(d.a.r3 (bif d.hh j then d.hg j else 0).toNat).f3<d.a.n2):(ga2_lp d w m r x0).Ok P:=by
 refine YR (Zw hm hn (l:=[X8]) ⟨Ve,trivial⟩ (ls:=[]) trivial ze) rfl (by kernel_rfl) (ga2_round d w m r x0) exN Yv (λ_=>rfl) (rd:=(λ_ t y=>((t.nth 3).oslN,(λj=>X0 ((y.getD 5 .none).arrG j))))) (λi z=>(cC rfl (cC rfl rfl))) (λi=>(cC rfl (cC rfl rfl))) rfl (λi hlt hg=>?_) (λi z hi=>?_)
 ·have hltI:(i:Int)<((m:Nat):Int):=by omega
  refine⟨?_,⟨λhb0=>trivial,λhb0=>⟨?_,⟨?_,⟨λhb1=>trivial,λhb1=>⟨?_,⟨?_,⟨?_,⟨?_,trivial⟩⟩⟩⟩⟩⟩⟩⟩⟩
  all_goals(have hf0:=ga2_cnt d m r i)
  all_goals(repeat'(first|exact rfl|exact λ_=>⟨rfl,rfl⟩|apply zy|intro _))
  all_goals(try simp only[decide_eq_true_eq,decide_eq_false_iff_not,yg,yw]at*)
  all_goals(try simp(disch:=omega) only[IntWalk.i64_in])
  all_goals(first|omega|exact(hH (by have h2:=hO _ (nf hb0);omega) _).1|exact(hH (by have h2:=hO _ (nf hb0);omega) _).2|exact(hP (by have h2:=hO _ (nf hb0);omega) _).1|exact(hP (by have h2:=hO _ (nf hb0);omega) _).2|exact(by rw[nf hb0];exact(hO _ (nf hb0)).1)|exact(by rw[nf hb0];exact(hO _ (nf hb0)).2))
 ·have hw:=(IntWalk.i64_in ((i:Int)+1) ⟨by omega,by omega⟩)
  refine⟨?_,⟨?_,?_⟩⟩
  all_goals(first|exact⟨rfl,Yq (ts:=ga2_ts d w m r x0) hw rfl,⟨LeK.refl _,LeK.refl _,LeK.refl _,LeK.refl _,LeK.refl _,LeK.Jb rfl (λj hj=>by first|rfl|exact softIf (g:=λv=>(Z8 za (X0 v)).soft) rfl rfl),trivial⟩⟩|exact⟨rfl,rfl,(by repeat'(first|exact Le.refl _|exact Le.junk _ rfl|apply Le.cons)),⟨LeK.refl _,LeK.refl _,LeK.refl _,LeK.refl _,LeK.refl _,LeK.any _,trivial⟩⟩)
def ga2_in(d:Ze):Lp:=⟨38,6,λ_ s=>(s.tmp 15).VH .stuck λw=>(s.tmp 20).G7 .stuck λm r20=>(s.blk 4).onVar .stuck λc4=>(c4.hd).VH .stuck λx0=>.need ((λ(d:Ze)(w:Int)(m:Nat)(r:Nat->DT3)(x0:Int)=>m<=1000) d w m (λj=>Zx (r20 j)) x0) ((ga2_lp d w m (λj=>Zx (r20 j)) x0).g _ s)⟩
theorem ga2_in_ok(d:Ze)(hO:∀j:Int,d.oh j=ze->0<=d.og j/\d.og j<d.a.n6)(h64:d.a.n6=d.a.n4)(hl3:d.a.n3<=1000)(hl4:d.a.n4<=1000)(hH:0<d.a.n4->∀j:Int,0<=(bif d.hh j then d.hg j else 0)/\(bif d.hh j then d.hg j else 0)<d.a.n3)(hP:0<d.a.n4->∀j:Int,0<=(d.a.r3 (bif d.hh j then d.hg j else 0).toNat).f3/\(d.a.r3 (bif d.hh j then d.hg j else 0).toNat).f3<d.a.n2):(ga2_in d).Ok P:=by
 intro body hin hfr B s Q hq
 obtain⟨w,hq⟩:=Uu hq
 obtain⟨m,r20,hq⟩:=Zbu hq
 obtain⟨c4,hq⟩:=onVar_h hq
 obtain⟨x0,hq⟩:=Uu hq
 exact ga2_lp_ok d w m (λj=>Zx (r20 j)) x0 hq.1 hO h64 hl3 hl4 hH hP body hin hfr B s Q hq.2
theorem u32_rng(x:Int):0<=zD .u32 x/\zD .u32 x<4294967296:=by
 have e:zD .u32 x=x%4294967296:=rfl
 rw[e]
 omega
theorem ZfQ(d:Ze)(m:Nat)(r:Nat->DT3):∀k j,j<(Wv d m r k).1->0<=((Wv d m r k).2 j).f0/\((Wv d m r k).2 j).f0<4294967296:=by
 intro k
 induction k with
 |zero=>intro j hj;exact absurd hj (yB j)
 |succ k ih=>
  show ∀j,j<(Za7 d m r k (Wv d m r k)).1->0<=((Za7 d m r k (Wv d m r k)).2 j).f0/\((Za7 d m r k (Wv d m r k)).2 j).f0<4294967296
  generalize Wv d m r k=z at ih⊢
  refine WO (p:=λy:Nat×(Nat->ZE)=>∀j,j<y.1->0<=(y.2 j).f0/\(y.2 j).f0<4294967296) ih (WO (p:=λy:Nat×(Nat->ZE)=>∀j,j<y.1->0<=(y.2 j).f0/\(y.2 j).f0<4294967296) ih λj hj=>?_)
  have hj':j<z.1+1:=hj
  cases h:zq j (z.1+0)with
  |true=>
   dsimp only
   rw[h]
   exact u32_rng _
  |false=>
   dsimp only
   rw[h]
   have hne:j≠z.1:=λe=>by subst e;rw[Nat.add_zero,Nat.beq_refl]at h;cases h
   exact ih j (by omega)
abbrev Zbc(m:Nat)(r:Nat->Zb)(G:Int->S4->Bool×S4)(Pr:Int->S4->Prop)(L:Nat)(row:Nat->DT3)(w:Int)(z0:S4)(i:Int)(z:S4):V:=(.cons (.int za .i64 w) (.cons (.mp 0) (.cons (.ptr ze 1 0 0 0) (.cons (.ptr ze 2 0 0 0) (.cons (.ptr ze 3 0 0 0) (.cons (.bool ze za) (.cons (.rsl za 1 L (λj=>ZK za (row j))) (.cons (.int za .i64 ((L:Nat):Int)) (.cons (.int za .i64 i) .nil)))))))))
abbrev Zbd(m:Nat)(r:Nat->Zb)(G:Int->S4->Bool×S4)(Pr:Int->S4->Prop)(L:Nat)(row:Nat->DT3)(w:Int)(z0:S4)(i:Int)(z:S4):List Blk:=[.Zk (.int .i64) za (λx=>(z.1 (Zd x),.bool za (z.2.1 (Zd x)))) zm,.var (.cons (.rsl za 1 m (λj=>Qk za (r j))) .nil),.var (.cons (.mp 4) .nil),.var (.cons (.fn (.func 167) .nil (.cons (.ptr ze 1 0 0 0) (.cons (.ptr ze 2 0 0 0) (.cons (.ptr ze 3 0 0 0) .nil)))) .nil),.Zk (.int .i64) za (λx=>(z.2.2.1 (Zd x),.int za .i64 (z.2.2.2 (Zd x)))) zm]
def gv_T(m:Nat)(r:Nat->Zb)(G:Int->S4->Bool×S4)(Pr:Int->S4->Prop)(L:Nat)(row:Nat->DT3)(w:Int)(z0:S4)(i:Int)(z:S4):Tree (Ex×Bool×V×List Blk):=
 let q11:=zW .i64 (row (zk i)).f0
 let q23:=bif (zx (zx z)).1 (Zd q11)then(zx (zx z)).2 (Zd q11)else(0:Int)
 let q0:=G q23 (λj=>bif ZO (zW .i64 j) q11 then ze else z.1 j,λj=>bif ZO (zW .i64 j) q11 then ze else(zx z).1 j,λj=>(zx (zx z)).1 j,λj=>(zx (zx z)).2 j)
 let q19:=pt 1
 let q20:=pt 2
 let q21:=pt 3
 let q12:=zf (V.fn (Fn.func (167:FuncId)) zh (zf q19 (zf q20 (zf q21 zh)))) zh
 let q18:=zf (zl za 1 m λjj=>zf (zl za 1 (Zb.n0 (r jj)) λj=>ci ((r jj).2 j).f0 zh) zh) zh
 let q26:=zf (zZ 4) zh
 let q13:=[Blk.Zk (MK.int .i64) za (λk=>(z.1 (Zd k),zC za ((zx z).1 (Zd k)))) zm,zN q18,zN q26,zN q12,Blk.Zk (MK.int .i64) za (λk=>((zx (zx z)).1 (Zd k),vi ((zx (zx z)).2 (Zd k)))) zm]
 let q25:=zl za 1 L λjj=>ci (row jj).f0 zh
 let q14:=zf (zZ 0) (zf q19 (zf q20 (zf q21 (zf (zC ze za) (zf q25 (ci (L:Int) (ci (zD .i64 (i+(1:Int))) zh)))))))
 let q16:=zf q25 (ci (L:Int) (ci i zh))
 let q15:=zf (zZ 0) (zf q19 (zf q20 (zf q21 (zf (zC ze ze) q16))))
 let q17:=zf (zl za 1 m λj=>zf (zl za 1 (Zb.n0 (r j)) λj_1=>ci ((r j).2 j_1).f0 zh) zh) zh
 let q22:=zx (zx q0)
 let q24:=vi w
 zB (decide (i<(L:Int))) (zu ((0:Int)<=i/\i<(L:Int)) (zB (bif z.1 (Zd q11)then(zx z).1 (Zd q11)else za) (zw (Ex.normal,ze,zf q24 q14,q13)) (zB (!(zx (zx z)).1 (Zd q11)) (zw (Ex.ret,ze,zf q24 q15,[Blk.Zk (MK.int .i64) za (λk=>(bif ZO k q11 then ze else z.1 (Zd k),zC za (bif ZO k q11 then ze else(zx z).1 (Zd k)))) zm,zN q18,zN q26,zN q12,Blk.Zk (MK.int .i64) za (λk=>(bif ZO k q11 then ze else(zx (zx z)).1 (Zd k),vi (bif ZO k q11 then w else(zx (zx z)).2 (Zd k)))) zm])) (zu (m=m/\((λj=>zf (zl za 1 (Zb.n0 (r j)) λj_1=>ci ((r j).2 j_1).f0 zh) zh)=λj=>zf (zl za 1 (Zb.n0 (r j)) λj_1=>ci ((r j).2 j_1).f0 zh) zh)/\(YD .i64 (λx=>(bif ZO (zW .i64 (Zd x)) q11 then ze else z.1 (Zd x),zC za (bif ZO (zW .i64 (Zd x)) q11 then ze else(zx z).1 (Zd x)))) λk=>(bif ZO k q11 then ze else z.1 (Zd k),zC za (bif ZO k q11 then ze else(zx z).1 (Zd k))))/\(YD .i64 (λx=>((zx (zx z)).1 (Zd x),vi ((zx (zx z)).2 (Zd x)))) λk=>((zx (zx z)).1 (Zd k),vi ((zx (zx z)).2 (Zd k))))/\Pr q23 (λj=>bif ZO (zW .i64 j) q11 then ze else z.1 j,λj=>bif ZO (zW .i64 j) q11 then ze else(zx z).1 j,λj=>(zx (zx z)).1 j,λj=>(zx (zx z)).2 j)) (zB (zR q0) (zw (Ex.ret,ze,zf q24 q15,[Blk.Zk (MK.int .i64) za (λk=>((zx q0).1 (Zd k),zC za (q22.1 (Zd k)))) zm,zN q17,zN q26,zN q12,Blk.Zk (MK.int .i64) za (λk=>(bif ZO k q11 then ze else(zx q22).1 (Zd k),vi (bif ZO k q11 then w else(zx q22).2 (Zd k)))) zm])) (zw (Ex.normal,ze,zf q24 q14,[Blk.Zk (MK.int .i64) za (λk=>((zx q0).1 (Zd k),zC za (q22.1 (Zd k)))) zm,zN q17,zN q26,zN q12,Blk.Zk (MK.int .i64) za (λk=>((zx q22).1 (Zd k),vi ((zx q22).2 (Zd k)))) zm]))))))) (zw (Ex.exit 0,ze,zf q24 (zf (zZ 0) (zf q19 (zf q20 (zf q21 (zf (zC ze za) q16))))),q13))
theorem gv_round(B:Base)(m:Nat)(r:Nat->Zb)(G:Int->S4->Bool×S4)(Pr:Int->S4->Prop)(L:Nat)(row:Nat->DT3)(w:Int)(z0:S4)(i:Int)(z:S4):((ev { ZM P [] [167]with hk:=Ww [⟨167,JV m r G Pr⟩] } 400 167 (QZ P 167 2) B (Yl 5 44 [0,1,2,3,4,7,15,16,17] [(0,.own),(1,.own),(2,.own),(3,.own),(4,.own)] (Zbc m r G Pr L row w z0 i z) (Zbd m r G Pr L row w z0 i z))).bind λx=>zw (x.1,vwN 5 5 44 [0,1,2,3,4,7,15,16,17] [(0,.own),(1,.own),(2,.own),(3,.own),(4,.own)] x.2))=gv_T m r G Pr L row w z0 i z:=by kernel_rfl
def ZiC(G:Int->S4->Bool×S4)(row:Nat->DT3)(w:Int)(z0:S4)(k:Nat)(z:S4):S4:=(λ(i:Int)(z:S4)=>
 let q1:=(zW zA (DT3.f0 (row (zk i))))
 let q0:=(G (bif (zx (zx z)).1 (Zd q1)then(zx (zx z)).2 (Zd q1)else(0:Int)) (λj=>bif ZO (zW zA j) q1 then ze else z.1 (Zd (zW zA j)),λj=>bif ZO (zW zA j) q1 then ze else(zx z).1 (Zd (zW zA j)),λj=>(zx (zx z)).1 (Zd (zW zA j)),λj=>(zx (zx z)).2 (Zd (zW zA j))))
 (bif bif z.1 (Zd q1)then(zx z).1 (Zd q1)else za then(((λ(j_:Int)=>z.1 (j_)),(λ(j_:Int)=>(zx z).1 (j_)),(λ(j_:Int)=>(zx (zx z)).1 (j_)),(λ(j_:Int)=>(zx (zx z)).2 (j_))))else(bif !(zx (zx z)).1 (Zd q1)then((z.1,z.2.1,z.2.2.1,z.2.2.2))else(bif zR q0 then((z.1,z.2.1,z.2.2.1,z.2.2.2))else(((λ(j_:Int)=>(zx q0).1 (j_)),(λ(j_:Int)=>(zx (zx q0)).1 (j_)),(λ(j_:Int)=>(zx (zx (zx q0))).1 (j_)),(λ(j_:Int)=>(zx (zx (zx q0))).2 (j_)))))))) k z
def YB(G:Int->S4->Bool×S4)(row:Nat->DT3)(w:Int)(z0:S4)(k:Nat):S4:=ZJ z0 (ZiC G row w z0) k
def Xm(G:Int->S4->Bool×S4)(row:Nat->DT3)(w:Int)(z0:S4)(k:Nat):Bool:=(λ(i:Int)(z:S4)=>
 let q0:=(zW zA (DT3.f0 (row (zk i))))
 (bif bif z.1 (Zd q0)then(zx z).1 (Zd q0)else za then za else(bif !(zx (zx z)).1 (Zd q0)then ze else(bif zR (G (bif (zx (zx z)).1 (Zd q0)then(zx (zx z)).2 (Zd q0)else(0:Int)) (λj=>bif ZO (zW zA j) q0 then ze else z.1 (Zd (zW zA j)),λj=>bif ZO (zW zA j) q0 then ze else(zx z).1 (Zd (zW zA j)),λj=>(zx (zx z)).1 (Zd (zW zA j)),λj=>(zx (zx z)).2 (Zd (zW zA j))))then ze else za)))) k (YB G row w z0 k)
def Km(G:Int->S4->Bool×S4)(row:Nat->DT3)(w:Int)(z0:S4)(k:Nat)(z:S4):S4:=(λ(i:Int)(z:S4)=>
 let q1:=(DT3.f0 (row (zk i)))
 let q2:=(zW zA q1)
 let q0:=(G (bif (zx (zx z)).1 (Zd q2)then(zx (zx z)).2 (Zd q2)else(0:Int)) (λj=>bif ZO (zW zA j) q2 then ze else z.1 (Zd (zW zA j)),λj=>bif ZO (zW zA j) q2 then ze else(zx z).1 (Zd (zW zA j)),λj=>(zx (zx z)).1 (Zd (zW zA j)),λj=>(zx (zx z)).2 (Zd (zW zA j))))
 (bif bif z.1 (Zd q2)then(zx z).1 (Zd q2)else za then((z.1,z.2.1,z.2.2.1,z.2.2.2))else(bif !(zx (zx z)).1 (Zd q2)then(((λ(j_:Int)=>bif j_==q1 then ze else z.1 (j_)),(λ(j_:Int)=>bif j_==q1 then ze else(zx z).1 (j_)),(λ(j_:Int)=>bif j_==q1 then ze else(zx (zx z)).1 (j_)),(λ(j_:Int)=>bif j_==q1 then w else(zx (zx z)).2 (j_))))else(bif zR q0 then(((λ(j_:Int)=>(zx q0).1 (j_)),(λ(j_:Int)=>(zx (zx q0)).1 (j_)),(λ(j_:Int)=>bif j_==q1 then ze else(zx (zx (zx q0))).1 (j_)),(λ(j_:Int)=>bif j_==q1 then w else(zx (zx (zx q0))).2 (j_))))else((z.1,z.2.1,z.2.2.1,z.2.2.2)))))) k z
def gv_lp(m:Nat)(r:Nat->Zb)(G:Int->S4->Bool×S4)(Pr:Int->S4->Prop)(L:Nat)(row:Nat->DT3)(w:Int)(z0:S4):Lp:=⟨167,2,λ_ s=>match vwN 5 5 44 [0,1,2,3,4,7,15,16,17] [(0,.own),(1,.own),(2,.own),(3,.own),(4,.own)] s with
 |(ze,(.cons (.int _ .i64 t0) (.cons (.mp 0) (.cons (.ptr ze 1 0 0 0) (.cons (.ptr ze 2 0 0 0) (.cons (.ptr ze 3 0 0 0) (.cons (.bool _ t5) (.cons (.rsl _ 1 nt6 ft6) (.cons (.int _ .i64 t7) (.cons (.int _ .i64 t8) .nil))))))))),[.Zk (.int .i64) _ u0 _,.var (.cons (.rsl _ 1 nu10 fu10) .nil),.var (.cons (.mp 4) .nil),.var (.cons (.fn (.func 167) .nil (.cons (.ptr ze 1 0 0 0) (.cons (.ptr ze 2 0 0 0) (.cons (.ptr ze 3 0 0 0) .nil)))) .nil),.Zk (.int .i64) _ u4 _])=>bif zq s.n 5 then .need (w=t0/\za=t5/\L=nt6/\(λj=>ZK za (row j))=ft6/\((L:Nat):Int)=t7/\0=t8/\YD .i64 (λx=>(z0.1 (Zd x),zC za (z0.2.1 (Zd x)))) u0/\m=nu10/\(λj=>Qk za (r j))=fu10/\YD .i64 (λx=>(z0.2.2.1 (Zd x),zn za .i64 (z0.2.2.2 (Zd x)))) u4)
  (.node (Zp (Xm G row w z0) L) (.leaf (.ret,Yl 5 44 [0,1,2,3,4,7,15,16,17] [(0,.own),(1,.own),(2,.own),(3,.own),(4,.own)] (.cons (zn za zA w) (.cons (zZ (0:Nat)) (.cons (zQ ze (1:Nat) (0:Nat) (0:Nat) (0:Nat)) (.cons (zQ ze (2:Nat) (0:Nat) (0:Nat) (0:Nat)) (.cons (zQ ze (3:Nat) (0:Nat) (0:Nat) (0:Nat)) (.cons (zC ze ze) (.cons (zl za (1:Nat) L λjj=>zf (zn za zA (DT3.f0 (row jj))) zh) (.cons (zn za zA (L:Int)) (.cons .junk .nil))))))))) [.Zk (.int .i64) za (λx=>((Km G row w z0 (ZN (Xm G row w z0) L 0) (YB G row w z0 (ZN (Xm G row w z0) L 0))).1 (Zd x),.bool za ((Km G row w z0 (ZN (Xm G row w z0) L 0) (YB G row w z0 (ZN (Xm G row w z0) L 0))).2.1 (Zd x)))) zm,.var (.cons (.rsl za 1 m (λj=>Qk za (r j))) .nil),.var (.cons (.mp 4) .nil),.var (.cons (.fn (.func 167) .nil (.cons (.ptr ze 1 0 0 0) (.cons (.ptr ze 2 0 0 0) (.cons (.ptr ze 3 0 0 0) .nil)))) .nil),.Zk (.int .i64) za (λx=>((Km G row w z0 (ZN (Xm G row w z0) L 0) (YB G row w z0 (ZN (Xm G row w z0) L 0))).2.2.1 (Zd x),.int za .i64 ((Km G row w z0 (ZN (Xm G row w z0) L 0) (YB G row w z0 (ZN (Xm G row w z0) L 0))).2.2.2 (Zd x)))) zm])) (.leaf (.exit 0,Yl 5 44 [0,1,2,3,4,7,15,16,17] [(0,.own),(1,.own),(2,.own),(3,.own),(4,.own)] (Zbc m r G Pr L row w z0 ((L:Nat):Int) (YB G row w z0 L)) (Zbd m r G Pr L row w z0 ((L:Nat):Int) (YB G row w z0 L)))))else .stuck
 |_=>.stuck⟩
theorem gv_lp_ok(m:Nat)(r:Nat->Zb)(G:Int->S4->Bool×S4)(Pr:Int->S4->Prop)(L:Nat)(row:Nat->DT3)(w:Int)(z0:S4)(hl:L<=1000)(hK:Xo P 167 (JV m r G Pr))(hN:∀k:Nat,k<L->(∀j,j<k->Xm G row w z0 j=za)->(bif (YB G row w z0 k).1 (row k).f0 then(YB G row w z0 k).2.1 (row k).f0 else za)=za->(!(YB G row w z0 k).2.2.1 (row k).f0)=za->Pr (Ku (YB G row w z0 k) (row k).f0) (QF (YB G row w z0 k) (row k).f0)):(gv_lp m r G Pr L row w z0).Ok P:=by
 refine KW (by kernel_rfl) λhin B s Q hq=>?_
 dsimp only[gv_lp]at hq hin⊢
 split at hq
 ·rename_i q1 t0 q2 t5 q3 nt6 ft6 q4 t7 q5 t8 q6 u0 q7 q8 nu10 fu10 q9 u4 q10 heq
  cases hsn:zq s.n 5
  ·rw[hsn]at hq;exact hq.elim
  ·rw[hsn]at hq
   obtain⟨⟨rfl,rfl,rfl,rfl,rfl,rfl,hmu0,rfl,rfl,hmu4⟩,hq⟩:=hq
   have hsame:WT 5 5 44 [0,1,2,3,4,7,15,16,17] [(0,.own),(1,.own),(2,.own),(3,.own),(4,.own)] s (Zbc m r G Pr L row w z0 0 z0) (Zbd m r G Pr L row w z0 0 z0):=by
    refine⟨by rw[heq],by rw[heq];exact Le.soft rfl,by rw[heq];exact⟨Wd λa=>⟨(hmu0 a).1.symm,Le.soft (hmu0 a).2.symm⟩,LeK.var (Le.soft rfl),LeK.var (Le.soft rfl),LeK.var (Le.soft rfl),Wd λa=>⟨(hmu4 a).1.symm,Le.soft (hmu4 a).2.symm⟩,trivial⟩⟩
   refine ZiT (k:=400) (f:=167) ((Yz hm hn (l:=[]) trivial).KD (l:=[⟨167,JV m r G Pr⟩]) ⟨hK,trivial⟩) rfl hin L (λi=>Zbc m r G Pr L row w z0 i (YB G row w z0 i)) (λi=>Zbd m r G Pr L row w z0 i (YB G row w z0 i)) (λi=>∀k,k<i->Xm G row w z0 k=za) Q (λi=>gv_round B m r G Pr L row w z0 i (YB G row w z0 i)) (λi hi hg=>?_) (zO hsn) (λk hk=>absurd hk (yB k)) hsame
   refine And.symm ⟨λhc=>?_,λhc=>?_⟩
   ·have hge:¬((i:Int)<((L:Nat):Int)):=λh=>by rw[decide_eq_true h]at hc;cases hc
    have e:i=L:=by omega
    subst e
    exact⟨rfl,_,_,Le.refl _,by exact⟨LeK.refl _,LeK.refl _,LeK.refl _,LeK.refl _,LeK.refl _,trivial⟩,hq.2 (Zar hg)⟩
   ·have hlt:(i:Int)<((L:Nat):Int):=by
     apply Classical.byContradiction;intro h;rw[decide_eq_false h]at hc;cases hc
    refine⟨?need0,?_⟩
    case need0=>
     clear hq hin
     repeat'(first|exact rfl|exact λ_=>⟨rfl,rfl⟩|apply zy|intro _)
     all_goals(try simp only[decide_eq_true_eq,decide_eq_false_iff_not,yg,yw]at*)
     all_goals(try simp(disch:=omega) only[IntWalk.i64_in])
     all_goals(first|omega|exact hN _ (by omega) hg hb0 hb1)
    refine⟨λhb0=>?_,λhb0=>?_⟩
    ·have hz:YB G row w z0 (i+1)=(λ(i:Int)(z:S4)=>(((λ(j_:Int)=>z.1 (j_)),(λ(j_:Int)=>(zx z).1 (j_)),(λ(j_:Int)=>(zx (zx z)).1 (j_)),(λ(j_:Int)=>(zx (zx z)).2 (j_))))) ((i:Nat):Int) (YB G row w z0 i):=(cT hb0 rfl)
     rw[IntWalk.i64_in ((i:Int)+1) ⟨by omega,by omega⟩]
     exact⟨rfl,by omega,Zlh hg (show Xm G row w z0 i=za from(cT hb0 rfl)),(by show Le _ _ (Zbc m r G Pr L row w z0 ((i+1:Nat):Int) (YB G row w z0 (i+1)));rw[hz];exact Le.soft rfl),by show XL _ _ (Zbd m r G Pr L row w z0 ((i+1:Nat):Int) (YB G row w z0 (i+1)));rw[hz];exact⟨Wd λa=>⟨rfl,Le.soft rfl⟩,LeK.refl _,LeK.refl _,LeK.refl _,Wd λa=>⟨rfl,Le.soft rfl⟩,trivial⟩⟩
    ·refine⟨λhb1=>?_,λhb1=>?_⟩
     ·have hb:Xm G row w z0 i=ze:=(cF hb0 (cT hb1 rfl))
      have hf:=ZcY (f:=Xm G row w z0) (n:=L) (by omega) hg hb
      have hq1:=hq.1 (Zcl (k:=i) (by omega) hb)
      try rw[hf]at hq1
      have he:Km G row w z0 i (YB G row w z0 i)=(λ(i:Int)(z:S4)=>(((λ(j_:Int)=>bif j_==(DT3.f0 (row (zk i)))then ze else z.1 (j_)),(λ(j_:Int)=>bif j_==(DT3.f0 (row (zk i)))then ze else(zx z).1 (j_)),(λ(j_:Int)=>bif j_==(DT3.f0 (row (zk i)))then ze else(zx (zx z)).1 (j_)),(λ(j_:Int)=>bif j_==(DT3.f0 (row (zk i)))then w else(zx (zx z)).2 (j_))))) ((i:Nat):Int) (YB G row w z0 i):=(cF hb0 (cT hb1 rfl))
      rw[he]at hq1
      exact⟨rfl,_,_,by exact Le.cons (Le.refl _) (Le.cons (Le.refl _) (Le.cons (Le.refl _) (Le.cons (Le.refl _) (Le.cons (Le.refl _) (Le.cons (Le.refl _) (Le.cons (Le.refl _) (Le.cons (Le.refl _) (Le.cons (Le.junk _ rfl) (Le.refl _))))))))),by exact⟨Wd λa=>⟨rfl,Le.soft rfl⟩,LeK.refl _,LeK.refl _,LeK.refl _,Wd λa=>⟨rfl,Le.soft rfl⟩,trivial⟩,hq1⟩
     ·refine⟨?need1,?_⟩
      case need1=>
       clear hq hin
       repeat'(first|exact rfl|exact λ_=>⟨rfl,rfl⟩|apply zy|intro _)
       all_goals(try simp only[decide_eq_true_eq,decide_eq_false_iff_not,yg,yw]at*)
       all_goals(try simp(disch:=omega) only[IntWalk.i64_in])
       all_goals(first|omega|exact hN _ (by omega) hg hb0 hb1)
      refine⟨λhb2=>?_,λhb2=>?_⟩
      ·have hb:Xm G row w z0 i=ze:=(cF hb0 (cF hb1 (cT hb2 rfl)))
       have hf:=ZcY (f:=Xm G row w z0) (n:=L) (by omega) hg hb
       have hq1:=hq.1 (Zcl (k:=i) (by omega) hb)
       try rw[hf]at hq1
       have he:Km G row w z0 i (YB G row w z0 i)=(λ(i:Int)(z:S4)=>let q2:=(DT3.f0 (row (zk i)));let q1:=(zW zA q2);let q0:=(zx (G (bif (zx (zx z)).1 (Zd q1)then(zx (zx z)).2 (Zd q1)else(0:Int)) (λj=>bif ZO (zW zA j) q1 then ze else z.1 (Zd (zW zA j)),λj=>bif ZO (zW zA j) q1 then ze else(zx z).1 (Zd (zW zA j)),λj=>(zx (zx z)).1 (Zd (zW zA j)),λj=>(zx (zx z)).2 (Zd (zW zA j)))));(((λ(j_:Int)=>q0.1 (j_)),(λ(j_:Int)=>(zx q0).1 (j_)),(λ(j_:Int)=>bif j_==q2 then ze else(zx (zx q0)).1 (j_)),(λ(j_:Int)=>bif j_==q2 then w else(zx (zx q0)).2 (j_))))) ((i:Nat):Int) (YB G row w z0 i):=(cF hb0 (cF hb1 (cT hb2 rfl)))
       rw[he]at hq1
       exact⟨rfl,_,_,by exact Le.cons (Le.refl _) (Le.cons (Le.refl _) (Le.cons (Le.refl _) (Le.cons (Le.refl _) (Le.cons (Le.refl _) (Le.cons (Le.refl _) (Le.cons (Le.refl _) (Le.cons (Le.refl _) (Le.cons (Le.junk _ rfl) (Le.refl _))))))))),by exact⟨Wd λa=>⟨rfl,Le.soft rfl⟩,LeK.refl _,LeK.refl _,LeK.refl _,Wd λa=>⟨rfl,Le.soft rfl⟩,trivial⟩,hq1⟩
      ·have hz:YB G row w z0 (i+1)=(λ(i:Int)(z:S4)=>let q1:=(zW zA (DT3.f0 (row (zk i))));let q0:=(zx (G (bif (zx (zx z)).1 (Zd q1)then(zx (zx z)).2 (Zd q1)else(0:Int)) (λj=>bif ZO (zW zA j) q1 then ze else z.1 (Zd (zW zA j)),λj=>bif ZO (zW zA j) q1 then ze else(zx z).1 (Zd (zW zA j)),λj=>(zx (zx z)).1 (Zd (zW zA j)),λj=>(zx (zx z)).2 (Zd (zW zA j)))));(((λ(j_:Int)=>q0.1 (j_)),(λ(j_:Int)=>(zx q0).1 (j_)),(λ(j_:Int)=>(zx (zx q0)).1 (j_)),(λ(j_:Int)=>(zx (zx q0)).2 (j_))))) ((i:Nat):Int) (YB G row w z0 i):=(cF hb0 (cF hb1 (cF hb2 rfl)))
       rw[IntWalk.i64_in ((i:Int)+1) ⟨by omega,by omega⟩]
       exact⟨rfl,by omega,Zlh hg (show Xm G row w z0 i=za from(cF hb0 (cF hb1 (cF hb2 rfl)))),(by show Le _ _ (Zbc m r G Pr L row w z0 ((i+1:Nat):Int) (YB G row w z0 (i+1)));rw[hz];exact Le.soft rfl),by show XL _ _ (Zbd m r G Pr L row w z0 ((i+1:Nat):Int) (YB G row w z0 (i+1)));rw[hz];exact⟨Wd λa=>⟨rfl,Le.soft rfl⟩,LeK.refl _,LeK.refl _,LeK.refl _,Wd λa=>⟨rfl,Le.soft rfl⟩,trivial⟩⟩
 ·exact hq.elim
def gvHN(G:Int->S4->Bool×S4)(Pr:Int->S4->Prop)(L:Nat)(row:Nat->DT3)(w:Int)(z0:S4):Prop:=∀k:Nat,k<L->(∀j,j<k->Xm G row w z0 j=za)->(bif (YB G row w z0 k).1 (row k).f0 then(YB G row w z0 k).2.1 (row k).f0 else za)=za->(!(YB G row w z0 k).2.2.1 (row k).f0)=za->Pr (Ku (YB G row w z0 k) (row k).f0) (QF (YB G row w z0 k) (row k).f0)
def gv_in(m:Nat)(r:Nat->Zb)(G:Int->S4->Bool×S4)(Pr:Int->S4->Prop):Lp:=⟨167,2,λ_ s=>(s.tmp 0).VH .stuck λw=>(s.tmp 15).G7 .stuck λL fr=>(s.blk 0).onMap .stuck λfa=>(s.blk 4).onMap .stuck λfh=>
 .need (L<=1000/\gvHN G Pr L (λj=>Zx (fr j)) w (λj=>(fa (.int .i64 j)).1,λj=>(fa (.int .i64 j)).2.toBool,λj=>(fh (.int .i64 j)).1,λj=>(fh (.int .i64 j)).2.toInt)) ((gv_lp m r G Pr L (λj=>Zx (fr j)) w (λj=>(fa (.int .i64 j)).1,λj=>(fa (.int .i64 j)).2.toBool,λj=>(fh (.int .i64 j)).1,λj=>(fh (.int .i64 j)).2.toInt)).g _ s)⟩
variable{m:Nat}{r:Nat->Zb}{G:Int->S4->Bool×S4}
theorem gv_in_ok{Pr:Int->S4->Prop}(hK:Xo P 167 (JV m r G Pr)):(gv_in m r G Pr).Ok P:=by
 intro body hin hfr B s Q hq
 obtain⟨w,hq⟩:=Uu hq
 obtain⟨L,fr,hq⟩:=Zbu hq
 obtain⟨fa,hq⟩:=Zi4 hq
 obtain⟨fh,hq⟩:=Zi4 hq
 exact gv_lp_ok _ _ _ _ _ _ _ _ hq.1.1 hK hq.1.2 body hin hfr B s Q hq.2
abbrev gvEnv(m:Nat)(r:Nat->Zb)(G:Int->S4->Bool×S4)(Pr:Int->S4->Prop):Env:={ P,Γ:=KU [],lp:=Ul [gv_in m r G Pr],mg:=ze,nm:=λg=>zq g 167 }
variable{f:Nat->Bool}
theorem Zck:∀{n:Nat},Zp f n=ze->∃k,k<n/\f k=ze:=by
 intro n
 induction n with
 |zero=>intro h;cases h
 |succ n ih=>
  intro h
  have h':(Zp f n||f n)=ze:=h
  rw[Bool.or_eq_true]at h'
  rcases h' with h'|h'
  ·obtain⟨k,a,b⟩:=ih h';exact⟨k,by omega,b⟩
  ·exact⟨n,by omega,h'⟩
theorem fstTo_in:∀{m k:Nat},(∃j,k<=j/\j<k+m/\f j=ze)->k<=ZN f m k/\ZN f m k<k+m/\f (ZN f m k)=ze:=by
 intro m
 induction m with
 |zero=>intro k ⟨j,a,b,_⟩;omega
 |succ m ih=>
  intro k ⟨j,a,b,c⟩
  unfold ZN
  cases hk:f k with
  |true=>exact⟨zI _,by show k<k+(m+1);omega,hk⟩
  |false=>
   have hj:k≠j:=λe=>by rw[e,c]at hk;cases hk
   obtain⟨x,y,z⟩:=ih (k:=k+1) ⟨j,by omega,by omega,c⟩
   exact⟨by show k<=ZN f m (k+1);omega,by show ZN f m (k+1)<_;omega,z⟩
theorem ZfK{n:Nat}(h:Zp f n=ze):ZN f n 0<n:=by
 obtain⟨k,a,b⟩:=Zck h
 have:=(fstTo_in (f:=f) (m:=n) (k:=0) ⟨k,Nat.zero_le _,by omega,b⟩).2.1
 omega
def V5(z:S4)(c:Int):Bool:=bif z.1 c then z.2.1 c else za
def ZgK(z:S4)(c w:Int):S4:=(λj=>z.1 j,λj=>z.2.1 j,λj=>bif j==c then ze else z.2.2.1 j,λj=>bif j==c then w else z.2.2.2 j)
theorem Zp4(G:Int->S4->Bool×S4)(row:Nat->DT3)(w:Int)(z0:S4)(k:Nat)(z:S4):ZiC G row w z0 k z=
  bif V5 z (row k).f0 then z else bif !z.2.2.1 (row k).f0 then z else bif (G (Ku z (row k).f0) (QF z (row k).f0)).1 then z else(G (Ku z (row k).f0) (QF z (row k).f0)).2:=by kernel_rfl
theorem gv_end_eq(G:Int->S4->Bool×S4)(row:Nat->DT3)(w:Int)(z0:S4)(k:Nat)(z:S4):Km G row w z0 k z=
  bif V5 z (row k).f0 then z else bif !z.2.2.1 (row k).f0 then ZgK (QF z (row k).f0) (row k).f0 w else bif (G (Ku z (row k).f0) (QF z (row k).f0)).1 then ZgK (G (Ku z (row k).f0) (QF z (row k).f0)).2 (row k).f0 w else z:=by kernel_rfl
def Vy(r:Nat->Zb)(G:Int->S4->Bool×S4)(i:Int)(z:S4):Bool×S4:=
 bif Zp (Xm G (r i.toNat).r0 i z) (r i.toNat).n0 then(ze,Km G (r i.toNat).r0 i z (ZN (Xm G (r i.toNat).r0 i z) (r i.toNat).n0 0) (YB G (r i.toNat).r0 i z (ZN (Xm G (r i.toNat).r0 i z) (r i.toNat).n0 0)))
 else(za,YB G (r i.toNat).r0 i z (r i.toNat).n0)
def give(r:Nat->Zb):Nat->Int->S4->Bool×S4
 |0=>λ_ z=>(za,z)
 |q+1=>Vy r (give r q)
def JI(u:Int->Bool):Nat->Nat
 |0=>0
 |n+1=>JI u n+(bif u n then 1 else 0)
variable{u v:Int->Bool}
theorem Zfo(h:∀c,u c=ze->v c=ze):∀n,JI u n<=JI v n:=by
 intro n
 induction n with
 |zero=>exact zI _
 |succ n ih=>
  show JI u n+_<=JI v n+_
  cases hu:u n with
  |true=>rw[h _ hu];simp only[cond_true];omega
  |false=>simp only[cond_false];omega
variable{c:Int}
theorem cntTo_lt(h:∀c,u c=ze->v c=ze)(h1:u c=za)(h2:v c=ze):∀n:Nat,0<=c->c<n->JI u n<JI v n:=by
 intro n
 induction n with
 |zero=>intro a b;omega
 |succ n ih=>
  intro a b
  show JI u n+_<JI v n+_
  by_cases e:c=n
  ·subst e;rw[h1,h2];simp only[cond_true,cond_false];have:=Zfo h n;omega
  ·have:=ih a (by omega)
   cases hu:u n with
   |true=>rw[h _ hu];simp only[cond_true];omega
   |false=>simp only[cond_false];omega
def VZ(m:Nat)(r:Nat->Zb):Prop:=∀j,j<m->(r j).n0<=1000/\∀k,k<(r j).n0->0<=((r j).r0 k).f0/\((r j).r0 k).f0<8
def HasOk(m:Nat)(z:S4):Prop:=∀c,z.2.2.1 c=ze->0<=z.2.2.2 c/\z.2.2.2 c<m
def Y1(z:S4)(c:Int):Bool:=!V5 z c
def Pr(m q:Nat)(i:Int)(z:S4):Prop:=0<=i/\i<m/\HasOk m z/\JI (Y1 z) 8<q
def Inv(m:Nat)(z z':S4):Prop:=HasOk m z'/\∀c,Y1 z' c=ze->Y1 z c=ze
variable{z:S4}
theorem ZfJ{d:Int}(h:Y1 (QF z c) d=ze):Y1 z d=ze:=by
 unfold Y1 V5 QF at*
 dsimp only at h
 cases he:(d==c)with
 |true=>rw[he]at h;cases h
 |false=>rw[he]at h;exact h
theorem ZpK:Y1 (QF z c) c=za:=by
 unfold Y1 V5 QF
 dsimp only
 rw[show(c==c)=ze from by simp];rfl
theorem Zlk{w:Int}(h:HasOk m z)(h1:0<=w)(h2:w<m):HasOk m (ZgK z c w):=by
 intro d hd
 unfold ZgK at*
 dsimp only at hd⊢
 cases he:(d==c)with
 |true=>exact⟨h1,h2⟩
 |false=>rw[he]at hd;exact h d hd
variable{i:Int}
theorem pr_of{q:Nat}(hr:VZ m r){z':S4}(hp:Pr m (q+1) i z)(hi:Inv m z z'){k:Nat}(hk:k<(r i.toNat).n0)(h1:V5 z' ((r i.toNat).r0 k).f0=za)(h2:(!z'.2.2.1 ((r i.toNat).r0 k).f0)=za) :
  Pr m q (Ku z' ((r i.toNat).r0 k).f0) (QF z' ((r i.toNat).r0 k).f0):=by
 obtain⟨a,b,_,d⟩:=hp
 have hc:=(hr i.toNat (by omega)).2 k hk
 have hh:z'.2.2.1 ((r i.toNat).r0 k).f0=ze:=by
  cases e:z'.2.2.1 ((r i.toNat).r0 k).f0 with
  |true=>rfl
  |false=>rw[e]at h2;cases h2
 have ho:=hi.1 _ hh
 refine⟨?_,?_,λc hc'=>hi.1 c hc',?_⟩
 ·unfold Ku;rw[hh];exact ho.1
 ·unfold Ku;rw[hh];exact ho.2
 ·have h3:=cntTo_lt (u:=Y1 (QF z' ((r i.toNat).r0 k).f0)) (v:=Y1 z') (λc h=>ZfJ h) ZpK (by unfold Y1;rw[h1];rfl) 8 hc.1 hc.2
  have h4:=Zfo (u:=Y1 z') (v:=Y1 z) hi.2 8
  omega
theorem acc_inv{q:Nat}(hr:VZ m r)(hG:∀i z,Pr m q i z->Inv m z (G i z).2)(hp:Pr m (q+1) i z):∀k,k<=(r i.toNat).n0->Inv m z (YB G (r i.toNat).r0 i z k):=by
 intro k
 induction k with
 |zero=>intro _;exact⟨hp.2.2.1,λc h=>h⟩
 |succ k ih=>
  intro hk
  have hi:=ih (by omega)
  show Inv m z (ZiC G (r i.toNat).r0 i z k (YB G (r i.toNat).r0 i z k))
  rw[Zp4]
  generalize YB G (r i.toNat).r0 i z k=y at hi⊢
  cases h1:V5 y ((r i.toNat).r0 k).f0 with
  |true=>exact hi
  |false=>
   cases h2:(!y.2.2.1 ((r i.toNat).r0 k).f0)with
   |true=>exact hi
   |false=>
    have hp':=pr_of hr hp hi (by omega) h1 h2
    have hg:=hG _ _ hp'
    cases h3:(G (Ku y ((r i.toNat).r0 k).f0) (QF y ((r i.toNat).r0 k).f0)).1 with
    |true=>exact hi
    |false=>exact⟨hg.1,λc hc=>hi.2 c (ZfJ (hg.2 c hc))⟩
theorem Zlf(hr:VZ m r):∀q i z,Pr m q i z->Inv m z (give r q i z).2:=by
 intro q
 induction q with
 |zero=>intro i z h;exact absurd h.2.2.2 (by omega)
 |succ q ih=>
  intro i z hp
  show Inv m z (Vy r (give r q) i z).2
  have ha:=acc_inv hr ih hp
  unfold Vy
  cases hb:Zp (Xm (give r q) (r i.toNat).r0 i z) (r i.toNat).n0 with
  |false=>exact ha _ (zI _)
  |true=>
   show Inv m z (Km (give r q) (r i.toNat).r0 i z (ZN (Xm (give r q) (r i.toNat).r0 i z) (r i.toNat).n0 0) (YB (give r q) (r i.toNat).r0 i z (ZN (Xm (give r q) (r i.toNat).r0 i z) (r i.toNat).n0 0)))
   have hf:ZN (Xm (give r q) (r i.toNat).r0 i z) (r i.toNat).n0 0<(r i.toNat).n0:=ZfK hb
   generalize ZN (Xm (give r q) (r i.toNat).r0 i z) (r i.toNat).n0 0=k at hf⊢
   have hi:=ha k (by omega)
   rw[gv_end_eq]
   generalize YB (give r q) (r i.toNat).r0 i z k=y at hi⊢
   cases h1:V5 y ((r i.toNat).r0 k).f0 with
   |true=>exact hi
   |false=>
    cases h2:(!y.2.2.1 ((r i.toNat).r0 k).f0)with
    |true=>exact⟨Zlk (z:=QF y _) hi.1 hp.1 hp.2.1,λc hc=>hi.2 c (ZfJ hc)⟩
    |false=>
     have hp':=pr_of hr hp hi (by omega) h1 h2
     have hg:=ih _ _ hp'
     cases h3:(give r q (Ku y ((r i.toNat).r0 k).f0) (QF y ((r i.toNat).r0 k).f0)).1 with
     |true=>exact⟨Zlk hg.1 hp.1 hp.2.1,λc hc=>hi.2 c (ZfJ (hg.2 c hc))⟩
     |false=>exact hi
theorem gv_evH(m:Nat)(r:Nat->Zb)(G:Int->S4->Bool×S4)(Pq:Int->S4->Prop)(i:Int)(z:S4):evH (gvEnv m r G Pq) 400 167 (Zle i) (Zbb m r z)=
  .need (0<=i/\i<(m:Int)) (.need ((r i.toNat).n0<=1000/\gvHN G Pq (r i.toNat).n0 (r i.toNat).r0 i z)
   (.need (i=i/\za=za/\(r i.toNat).n0=(r i.toNat).n0/\(λj=>ZK za ((r i.toNat).r0 j))=(λj=>ZK za ((r i.toNat).r0 j))/\(((r i.toNat).n0:Nat):Int)=(((r i.toNat).n0:Nat):Int)/\(0:Int)=0/\
     YD .i64 (λx=>(z.1 (Zd x),.bool za (z.2.1 (Zd x)))) (λx=>(z.1 (Zd x),.bool za (z.2.1 (Zd x))))/\m=m/\(λj=>Qk za (r j))=(λj=>Qk za (r j))/\
     YD .i64 (λx=>(z.2.2.1 (Zd x),.int za .i64 (z.2.2.2 (Zd x)))) (λx=>(z.2.2.1 (Zd x),.int za .i64 (z.2.2.2 (Zd x)))))
    (.node (Zp (Xm G (r i.toNat).r0 i z) (r i.toNat).n0)
     (.leaf (.bool ze ze,Zbb m r (Km G (r i.toNat).r0 i z (ZN (Xm G (r i.toNat).r0 i z) (r i.toNat).n0 0) (YB G (r i.toNat).r0 i z (ZN (Xm G (r i.toNat).r0 i z) (r i.toNat).n0 0)))))
     (.leaf (.bool ze za,Zbb m r (YB G (r i.toNat).r0 i z (r i.toNat).n0)))))):=by kernel_rfl
variable{Pq:Int->S4->Prop}
theorem gvEnv_ok(hK:Xo P 167 (JV m r G Pq)):(gvEnv m r G Pq).Ok:=
 let e:=Zw hm hn (l:=[]) trivial (ls:=[gv_in m r G Pq]) ⟨gv_in_ok hK,trivial⟩ ze
 ⟨e.mixed,e.named,e.sure,e.where_,e.fork,e.lp,e.hk⟩
theorem give_at(hK:Xo P 167 (JV m r G Pq))(hi:0<=i/\i<(m:Int))(hL:(r i.toNat).n0<=1000)(hN:gvHN G Pq (r i.toNat).n0 (r i.toNat).r0 i z) :
  YG P 167 (Zle i) (Zbb m r z) (.leaf (.bool za (Vy r G i z).1,Zbb m r (Vy r G i z).2)):=by
 refine hk_at (gvEnv_ok hK) 400 λQ hQ=>?_
 rw[gv_evH]
 refine⟨hi,⟨hL,hN⟩,⟨rfl,rfl,rfl,rfl,rfl,rfl,λ_=>⟨rfl,rfl⟩,rfl,rfl,λ_=>⟨rfl,rfl⟩⟩,λh=>?_,λh=>?_⟩
 ·have e:Vy r G i z=(ze,Km G (r i.toNat).r0 i z (ZN (Xm G (r i.toNat).r0 i z) (r i.toNat).n0 0) (YB G (r i.toNat).r0 i z (ZN (Xm G (r i.toNat).r0 i z) (r i.toNat).n0 0))):=by unfold Vy;rw[h];rfl
  rw[e]at hQ
  exact⟨_,hQ,rfl,rfl⟩
 ·have e:Vy r G i z=(za,YB G (r i.toNat).r0 i z (r i.toNat).n0):=by unfold Vy;rw[h];rfl
  rw[e]at hQ
  exact⟨_,hQ,rfl,rfl⟩
theorem give_ok(hr:VZ m r):∀q,Xo P 167 (JV m r (give r q) (Pr m q)):=by
 intro q
 induction q with
 |zero=>
  intro args bl T hT
  unfold JV at hT
  split at hT
  ·injection hT with hT
   subst hT
   intro base mm F w xs Q KK h1 h2 hq
   exact absurd hq.1.2.2.2.2.2.2.2 (by omega)
  ·cases hT
 |succ q ih=>
  intro args bl T hT
  unfold JV at hT
  split at hT
  ·rename_i i q1 fa q2 m' fr q3 fh q4
   injection hT with hT
   subst hT
   intro base mm F w xs Q KK h1 h2 hq hk
   obtain⟨⟨rfl,rfl,hA,hH,hp⟩,hq⟩:=hq
   refine YG.le (bl:=[.Zk (.int .i64) q1 fa q2,rowsB m r,.var (.cons (.mp 4) .nil),capB,.Zk (.int .i64) q3 fh q4]) (give_at (r:=r) (i:=i) (z:=(λj=>(fa (.int .i64 j)).1,λj=>(fa (.int .i64 j)).2.toBool,λj=>(fh (.int .i64 j)).1,λj=>(fh (.int .i64 j)).2.toInt)) ih ⟨hp.1,hp.2.1⟩ (hr _ (by have:=hp.1;have:=hp.2.1;omega)).1 (λk hk hg h3 h4=>pr_of hr hp (acc_inv hr (Zlf hr q) hp k (by omega)) hk h3 h4)) rfl (λb=>?_) base mm F w xs Q KK h1 h2 hq hk
   match b with
   |0=>exact Wd λa=>⟨rfl,Le.soft (hA a).2.symm⟩
   |1=>exact LeK.refl _
   |2=>exact LeK.refl _
   |3=>exact LeK.refl _
   |4=>exact Wd λa=>⟨rfl,Le.soft (hH a).2.symm⟩
   |_+5=>exact LeK.refl _
  ·cases hT
abbrev gm0_ts(an:Nat)(a:Nat->Zb)(G:Int->S4->Bool×S4)(Pq:Int->S4->Prop)(i:Int)(z:(Int->Bool)×(Int->Int)):V:=(.cons (.bool ze za) (.cons (.ptr ze 3 0 0 0) (.cons (.int za .i64 ((an:Nat):Int)) (.cons (.int za .i64 i) .nil))))
abbrev gm0_ys(an:Nat)(a:Nat->Zb)(G:Int->S4->Bool×S4)(Pq:Int->S4->Prop)(i:Int)(z:(Int->Bool)×(Int->Int)):List Blk:=[.var (.cons (.rsl za 1 an (λj=>Qk za (a j))) .nil),.Zk (.int .i64) za (λx=>(z.1 (Zd x),.int za .i64 (z.2 (Zd x)))) zm,.var (.cons (.mp 1) .nil),.var (.cons (.fn (.func 167) .nil (.cons (.ptr ze 0 0 0 0) (.cons (.ptr ze 2 0 0 0) (.cons (.ptr ze 3 0 0 0) .nil)))) .nil)]
def gm0_R(an:Nat)(a:Nat->Zb)(G:Int->S4->Bool×S4)(Pq:Int->S4->Prop)(i:Int)(z:(Int->Bool)×(Int->Int)):Tree Rd:=
 let q1:=(G i (λj=>za,λj=>za,λj=>z.1 j,λj=>z.2 j))
 let q0:=[zN (zf (zl za 1 an λj=>zf (zl za 1 (Zb.n0 (a j)) λj_1=>ci ((a j).2 j_1).f0 zh) zh) zh),Blk.Zk (MK.int .i64) za (λk=>((zx (zx (zx q1))).1 (Zd k),vi ((zx (zx (zx q1))).2 (Zd k)))) zm,zN (zf (zZ 1) zh),zN (zf (V.fn (Fn.func (167:FuncId)) zh (zf (pt 0) (zf (pt 2) (zf (pt 3) zh)))) zh)]
 zu (an=an/\((λj=>zf (zl za 1 (Zb.n0 (a j)) λj_1=>ci ((a j).2 j_1).f0 zh) zh)=λj=>zf (zl za 1 (Zb.n0 (a j)) λj_1=>ci ((a j).2 j_1).f0 zh) zh)/\(YD .i64 (λx=>(za,zC za za)) λk=>(za,zC ze za))/\(YD .i64 (λx=>(z.1 (Zd x),vi (z.2 (Zd x)))) λk=>(z.1 (Zd k),vi (z.2 (Zd k))))/\Pq i (λj=>za,λj=>za,λj=>z.1 j,λj=>z.2 j)) (zB (bif bif !zR q1 then ze else za then ze else za) (zw (Ex.ret,ze,zf (zC ze za) (zf (pt 3) (ci (an:Int) (ci i zh))),q0)) (zw (Ex.normal,ze,zf (zC ze za) (zf (pt 3) (ci (an:Int) (ci (zD .i64 (i+(1:Int))) zh))),q0)))
theorem gm0_round(an:Nat)(a:Nat->Zb)(G:Int->S4->Bool×S4)(Pq:Int->S4->Prop):Yi P { Zl P [] [] ze with hk:=Ww [⟨167,JV an a G Pq⟩] } 113 5 4 4 19 [2,4,9,10] [(0,.own),(1,.own),(2,.own),(3,.own)] [] (gm0_ts an a G Pq) (gm0_ys an a G Pq) (λi=>(bif decide (i<(an:Int))then za else ze)) (.exit 0) (gm0_R an a G Pq):=λB i z=>by kernel_rfl
def Zc5(G:Int->S4->Bool×S4)(k:Nat)(z:(Int->Bool)×(Int->Int)):(Int->Bool)×(Int->Int):=(λ(i:Int)(z:(Int->Bool)×(Int->Int))=>
 let q0:=(G i (λj=>za,λj=>za,λj=>z.1 j,λj=>z.2 j))
 (bif bif bif !zR q0 then ze else za then ze else za then((z.1,z.2))else(((λ(j_:Int)=>(zx (zx (zx q0))).1 (j_)),(λ(j_:Int)=>(zx (zx (zx q0))).2 (j_)))))) k z
def Jq(G:Int->S4->Bool×S4)(k:Nat):(Int->Bool)×(Int->Int):=ZJ ((λ_=>za),(λ_=>0)) (Zc5 G) k
def ZiA(G:Int->S4->Bool×S4)(k:Nat):Bool:=(λ(i:Int)(z:(Int->Bool)×(Int->Int))=>(bif bif bif !zR (G i (λj=>za,λj=>za,λj=>z.1 j,λj=>z.2 j))then ze else za then ze else za then ze else za)) k (Jq G k)
abbrev gm0_ets(an:Nat)(a:Nat->Zb)(G:Int->S4->Bool×S4)(Pq:Int->S4->Prop)(i:Int)(z:(Int->Bool)×(Int->Int)):V:=(.cons (zC ze za) (.cons (zQ ze 3 0 0 0) (.cons (zn za .i64 (an:Int)) (.cons .junk .nil))))
abbrev gm0_eys(an:Nat)(a:Nat->Zb)(G:Int->S4->Bool×S4)(Pq:Int->S4->Prop)(i:Int)(z:(Int->Bool)×(Int->Int)):List Blk:=[.var (.cons (.rsl za 1 an (λj=>Qk za (a j))) .nil),.any,.var (.cons (.mp 1) .nil),.var (.cons (.fn (.func 167) .nil (.cons (.ptr ze 0 0 0 0) (.cons (.ptr ze 2 0 0 0) (.cons (.ptr ze 3 0 0 0) .nil)))) .nil)]
def gm0_lp(an:Nat)(a:Nat->Zb)(G:Int->S4->Bool×S4)(Pq:Int->S4->Prop):Lp:=lpL 113 5 4 4 19 [2,4,9,10] [(0,.own),(1,.own),(2,.own),(3,.own)] [] (gm0_ts an a G Pq) (gm0_ys an a G Pq) (.exit 0) .ret ((λ_=>za),(λ_=>0)) (Jq G) (ZiA G) (an) (gm0_ets an a G Pq) (gm0_eys an a G Pq)
theorem gm0_lp_ok(an:Nat)(a:Nat->Zb)(G:Int->S4->Bool×S4)(Pq:Int->S4->Prop)(hl:an<=1000)(hK:Xo P 167 (JV an a G Pq))(hN:∀k:Nat,k<an->Pq k ((λ(_:Int)=>za),(λ(_:Int)=>za),(λj=>(Jq G k).1 j),(λj=>(Jq G k).2 j))):(gm0_lp an a G Pq).Ok P:=by
 refine YR ((Zw hm hn (l:=[]) trivial (ls:=[]) trivial ze).KD (l:=[⟨167,JV an a G Pq⟩]) ⟨hK,trivial⟩) rfl (by kernel_rfl) (gm0_round an a G Pq) exN Yv (λ_=>rfl) (rd:=(λ_ t y=>((λj=>(y.getD 1 .none).hasK .i64 j),(λj=>(y.getD 1 .none).getI .i64 j)))) (λi z=>(cC rfl rfl)) (λi=>(cC rfl rfl)) rfl (λi hlt hg=>?_) (λi z hi=>?_)
 ·have hltI:(i:Int)<((an:Nat):Int):=by omega
  refine⟨?_,⟨λhb0=>trivial,λhb0=>trivial⟩⟩
  all_goals(repeat'(first|exact rfl|exact λ_=>⟨rfl,rfl⟩|apply zy|intro _))
  all_goals(try simp only[decide_eq_true_eq,decide_eq_false_iff_not,yg,yw]at*)
  all_goals(try simp(disch:=omega) only[IntWalk.i64_in])
  all_goals(first|omega|exact hN i (by omega))
 ·have hw:=(IntWalk.i64_in ((i:Int)+1) ⟨by omega,by omega⟩)
  refine⟨?_,?_⟩
  all_goals(first|exact⟨rfl,Yq (ts:=gm0_ts an a G Pq) hw rfl,⟨LeK.refl _,Wd λa=>⟨rfl,Le.soft rfl⟩,LeK.refl _,LeK.refl _,trivial⟩⟩|exact⟨rfl,rfl,(by repeat'(first|exact Le.refl _|exact Le.junk _ rfl|apply Le.cons)),⟨LeK.refl _,LeK.any _,LeK.refl _,LeK.refl _,trivial⟩⟩)
def Qm(r:Nat->Zb):Int->S4->Bool×S4:=give r 9
def JR(z:(Int->Bool)×(Int->Int)):S4:=(λ_=>za,λ_=>za,λj=>z.1 j,λj=>z.2 j)
theorem Zp2(G:Int->S4->Bool×S4)(k:Nat)(z:(Int->Bool)×(Int->Int)):Zc5 G k z=bif !(G k (JR z)).1 then z else((G k (JR z)).2.2.2.1,(G k (JR z)).2.2.2.2):=by
 show(bif bif bif !(G k (JR z)).1 then ze else za then ze else za then z else((G k (JR z)).2.2.2.1,(G k (JR z)).2.2.2.2))=_
 cases(G k (JR z)).1<;>rfl
theorem gm_pr(hr:VZ m r):∀k:Nat,k<=m->∀c,(Jq (Qm r) k).1 c=ze->0<=(Jq (Qm r) k).2 c/\(Jq (Qm r) k).2 c<m:=by
 intro k
 induction k with
 |zero=>intro _ c h;cases h
 |succ k ih=>
  intro hk
  show ∀c,(Zc5 (Qm r) k (Jq (Qm r) k)).1 c=ze->0<=(Zc5 (Qm r) k (Jq (Qm r) k)).2 c/\(Zc5 (Qm r) k (Jq (Qm r) k)).2 c<m
  rw[Zp2]
  have hi:=ih (by omega)
  generalize Jq (Qm r) k=y at hi⊢
  cases h1:(!(Qm r k (JR y)).1)with
  |true=>exact hi
  |false=>
   have hp:Pr m 9 k (JR y):=⟨by omega,by omega,hi,by
    have:=Zfo (u:=Y1 (JR y)) (v:=λ_=>ze) (λ_ _=>rfl) 8
    have e:JI (λ_=>ze) 8=8:=rfl
    omega⟩
   exact(Zlf hr 9 _ _ hp).1
theorem gm_hN(hr:VZ m r)(k:Nat)(hk:k<m):Pr m 9 k (JR (Jq (Qm r) k)):=
 ⟨by omega,by omega,gm_pr hr k (by omega),by
  have:=Zfo (u:=Y1 (JR (Jq (Qm r) k))) (v:=λ_=>ze) (λ_ _=>rfl) 8
  have e:JI (λ_=>ze) 8=8:=rfl
  omega⟩
abbrev gm_lp(m:Nat)(r:Nat->Zb):Lp:=gm0_lp m r (Qm r) (Pr m 9)
theorem gm_lp_ok(m:Nat)(r:Nat->Zb)(hl:m<=1000)(hr:VZ m r):(gm_lp m r).Ok P:=gm0_lp_ok m r (Qm r) (Pr m 9) hl (give_ok hr 9) (λk hk=>gm_hN hr k hk)
def gMatch_T(an:Nat)(a:Nat->Zb):Tree V:=
 let q0:=(zl za 1 an λj=>zf (zl za 1 (Zb.n0 (a j)) λj_1=>ci ((a j).2 j_1).f0 zh) zh)
 let q1:=(zf (zQ za 3 0 0 0) (ci (an:Int) (ci (0:Int) zh)))
 let q2:=(zf (zQ za 0 0 0 0) (zf (zQ za 2 0 0 0) (zf (zQ za 3 0 0 0) zh)))
 zu (zf (zC za za) q1=zf (zC za za) q1/\zf q0 zh=zf q0 zh/\(zA=zA/\YD .i64 (λx=>(za,vi (0:Int))) λk=>(za,zn ze .i64 (0:Int)))/\zf (zZ 1) zh=zf (zZ 1) zh/\zf (V.fn (Fn.func (167:Nat)) zh q2) zh=zf (V.fn (Fn.func (167:FuncId)) zh q2) zh/\True) (zB (bif Zp (ZiA (Qm a)) an then ze else za) (zw (zC ze za)) (zw (zC ze ze)))
theorem ZpQ(an:Nat)(a:Nat->Zb):ZT (Zl P [] [gm_lp an a] ze) 400 113 (.cons (.rsl za 1 an λj=>Qk za (a j)) .nil)=gMatch_T an a:=by kernel_rfl
def Xa(an:Nat)(a:Nat->Zb):Bool:=
  (bif bif Zp (ZiA (Qm a)) an then ze else za then za else ze)
theorem Uf(an:Nat)(a:Nat->Zb)(h0:an<=1000)(h1:VZ an a):Zh P 113 (.cons (.rsl za 1 an λj=>Qk za (a j)) .nil) (.bool za (Xa an a)):=
 Xn (Zw hm hn (l:=[]) trivial (ls:=[gm_lp an a]) ⟨gm_lp_ok an a h0 h1,trivial⟩ ze) 400 (Has.of hn Tryz.func113 rfl) (ZpQ an a) (Tree.Pre.mk (by refine⟨?_,⟨λ_=>trivial,λ_=>trivial⟩⟩;all_goals(first|exact gm_fit an a|(((repeat'(first|exact rfl|exact λ_=>⟨rfl,rfl⟩|apply zy|intro _));all_goals(try simp only[decide_eq_true_eq,decide_eq_false_iff_not]at*);all_goals omega))))) (by kernel_rfl) (by kernel_rfl)
end Go.Proofs.YthhbdbeglmkijaaGreatDoor
end
