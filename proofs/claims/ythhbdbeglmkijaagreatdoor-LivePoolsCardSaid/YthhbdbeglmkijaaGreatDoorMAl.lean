/- mainsheet/state.look: loop 19 -/
import Derived.Test.YthhbdbeglmkijaaGreatDoorMAk
import Derived.Test.YthhbdbeglmkijaaGreatDoorMAg
import Derived.Test.YthhbdbeglmkijaaGreatDoorMAj
import Derived.Test.YthhbdbeglmkijaaGreatDoorMAf
set_option maxRecDepth 100000
set_option linter.unusedVariables false
set_option linter.unusedSimpArgs false
noncomputable section
open Bool renaming true→ze,false→za,not_eq_true'→yj,not_eq_false'→yu,and_eq_true→zM
open Go.Fw.V renaming int→zn,rsl→zl,cons→zf,nil→zh,mp→zZ,bool→zC,ptr→zV,agg→zH
open Go.IntKind renaming i64→zq,wrap→zy,bits→zR,u64→yG
open Option renaming none→zm
open Go.Fw.Tree renaming need→zw,leaf→zx,node→zD
open Go.Fw.Blk renaming var→zN
open Go.Value renaming int→zA
open Int renaming toNat→zi,ofNat→zT
open And renaming intro→zB
open Prod renaming snd→zu,fst→zL
open True renaming intro→yc
open Nat renaming beq→zo,eq_of_beq_eq_true→zP,ble→zK
open PUnit renaming unit→zY
namespace Go.Proofs.YthhbdbeglmkijaaGreatDoor
open Go.Fw
abbrev Zdn(a:Za)(i:Int)(z:(Int->Bool)×(Int->Int)):V:=(.cons .nilptr (.cons (.ptr ze 4 0 0 0) (.cons (.mp 5) (.cons (.rsl za 4 (Za.n4 a) (λj=>Zn za (a.r4 j))) (.cons (.int za .i64 (((Za.n4 a):Nat):Int)) (.cons (.int za .i64 i) .nil))))))
abbrev Zgl(a:Za)(i:Int)(z:(Int->Bool)×(Int->Int)):List Blk:=[.var (.cons (.int za .i64 (Za.f0 a)) (.cons (.rsl za 2 (Za.n1 a) (λj=>ZR za (a.r1 j))) (.cons (.rsl za 1 (Za.n2 a) (λj=>ZL za (a.r2 j))) (.cons (.rsl za 4 (Za.n3 a) (λj=>Zr za (a.r3 j))) (.cons (.rsl za 4 (Za.n4 a) (λj=>Zn za (a.r4 j))) (.cons (.rsl za 2 (Za.n5 a) (λj=>Zw za (a.r5 j))) (.cons (.rsl za 11 (Za.n6 a) (λj=>Zo za (a.r6 j))) (.cons (.rsl za 2 (Za.n7 a) (λj=>ZO za (a.r7 j))) (.cons (.rsl za 5 (Za.n8 a) (λj=>ZI za (a.r8 j))) (.cons (.int za .i64 (Za.f9 a)) (.cons (.rsl za 2 (Za.n10 a) (λj=>ZE za (a.r10 j))) (.cons (.rsl za 3 (Za.n11 a) (λj=>Zx za (a.r11 j))) (.cons (.rsl za 2 (Za.n12 a) (λj=>Zt za (a.r12 j))) (.cons (.int za .u64 (Za.f13 a)) .nil)))))))))))))),.Zm (.int .i64) za (λ(x:Value)=>((X6 a (Za.n6 a)).1 (Zb x),zn za zq ((X6 a (Za.n6 a)).2 (Zb x)))) zm,.Zm (.int .i64) za (λ(x:Value)=>((KV a (Za.n12 a)).1 (Zb x),zn za zq ((KV a (Za.n12 a)).2 (Zb x)))) zm,.Zm (.int .i64) za (λx=>(z.1 (Zb x),.int za .i64 (z.2 (Zb x)))) zm,.var (.cons (.int za .i64 (Za.f0 a)) (.cons (.rsl za 2 (Za.n1 a) (λj=>ZR za (a.r1 j))) (.cons (.rsl za 1 (Za.n2 a) (λj=>ZL za (a.r2 j))) (.cons (.rsl za 4 (Za.n3 a) (λj=>Zr za (a.r3 j))) (.cons (.rsl za 4 (Za.n4 a) (λj=>Zn za (a.r4 j))) (.cons (.rsl za 2 (Za.n5 a) (λj=>Zw za (a.r5 j))) (.cons (.rsl za 11 (Za.n6 a) (λj=>Zo za (a.r6 j))) (.cons (.rsl za 2 (Za.n7 a) (λj=>ZO za (a.r7 j))) (.cons (.rsl za 5 (Za.n8 a) (λj=>ZI za (a.r8 j))) (.cons (.int za .i64 (Za.f9 a)) (.cons (.rsl za 2 (Za.n10 a) (λj=>ZE za (a.r10 j))) (.cons (.rsl za 3 (Za.n11 a) (λj=>Zx za (a.r11 j))) (.cons (.rsl za 2 (Za.n12 a) (λj=>Zt za (a.r12 j))) (.cons (.int za .u64 (Za.f13 a)) (.cons (.mp 1) (.cons (.mp 2) (.cons (.mp 3) .nil))))))))))))))))),.Zm (.int .i64) za (λ(x:Value)=>((Xn a (Za.n3 a)).1 (Zb x),zn za zq ((Xn a (Za.n3 a)).2 (Zb x)))) zm]
def lk4_R(a:Za)(i:Int)(z:(Int->Bool)×(Int->Int)):Tree Rd:=
 let q0:=(zl za 4 a.n4 λjj=>Zn za (a.9 jj))
 let q1:=(zl za 1 a.n2 λjj=>zf (zn za .u32 (a.5 jj).f0) zh)
 let q2:=(zl za 2 a.n7 λjj=>ZO za (a.15 jj))
 let q3:=(zl za 2 a.n10 λjj=>ZE za (a.20 jj))
 let q4:=(zl za 3 a.n11 λjj=>Zx za (a.22 jj))
 let q5:=(zl za 4 a.n3 λjj=>Zr za (a.7 jj))
 let q6:=(zl za 2 a.n5 λjj=>Zw za (a.11 jj))
 let q7:=(zl za 11 a.n6 λjj=>Zo za (a.13 jj))
 let q8:=(zl za 5 a.n8 λjj=>ZI za (a.17 jj))
 let q9:=(zl za 2 a.n12 λjj=>Zt za (a.24 jj))
 let q10:=(zl za 2 a.n1 λjj=>ZR za (a.3 jj))
 zw ((0:Int)<=i/\i<((a.n4:Nat):Int)) (zx (Ex.normal,ze,zf V.nilptr (zf (pt 4) (zf (zZ 5) (zf q0 (ci ((a.n4:Nat):Int) (ci (zy .i64 (i+(1:Int))) zh))))),[zN (ci a.f0 (zf q10 (zf q1 (zf q5 (zf q0 (zf q6 (zf q7 (zf q2 (zf q8 (ci a.f9 (zf q3 (zf q4 (zf q9 (zf (zn za .u64 a.f13) zh)))))))))))))),Blk.Zm (MK.int .i64) za (λk=>((X6 a a.n6).1 (Zb k),vi ((X6 a a.n6).2 (Zb k)))) zm,Blk.Zm (MK.int .i64) za (λk=>((KV a a.n12).1 (Zb k),vi ((KV a a.n12).2 (Zb k)))) zm,Blk.Zm (MK.int .i64) za (λk=>(bif ZG k (zA .i64 (a.9 (zi i)).f0)then ze else z.1 (Zb k),vi (bif ZG k (zA .i64 (a.9 (zi i)).f0)then bif (Xn a a.n3).1 (a.9 (zi i)).f1 then(Xn a a.n3).2 (a.9 (zi i)).f1 else(0:Int)else z.2 (Zb k)))) zm,zN (ci a.f0 (zf q10 (zf q1 (zf q5 (zf q0 (zf q6 (zf q7 (zf q2 (zf q8 (ci a.f9 (zf q3 (zf q4 (zf q9 (zf (zn za .u64 a.f13) (zf (zZ 1) (zf (zZ 2) (zf (zZ 3) zh))))))))))))))))),Blk.Zm (MK.int .i64) za (λk=>((Xn a a.n3).1 (Zb k),vi ((Xn a a.n3).2 (Zb k)))) zm]))
theorem lk4_round(a:Za):Yo P (Zp P [] [] ze) 34 19 6 6 86 [2,3,8,68,69,70] [(0,.own),(1,.own),(2,.own),(3,.own),(4,.own),(5,.own)] [] (Zdn a) (Zgl a) (λi=>(bif decide (i<((a.n4:Nat):Int))then za else ze)) (.exit 6) (lk4_R a):=λB i z=>by kernel_rfl
def Zdm(a:Za)(k:Nat)(z:(Int->Bool)×(Int->Int)):(Int->Bool)×(Int->Int):=(λ(i:Int)(z:(Int->Bool)×(Int->Int))=>(((λ(j_:Int)=>bif j_==(a.9 (zi i)).f0 then ze else z.1 (j_)),(λ(j_:Int)=>bif j_==(a.9 (zi i)).f0 then bif (Xn a a.n3).1 (a.9 (zi i)).f1 then(Xn a a.n3).2 (a.9 (zi i)).f1 else(0:Int)else z.2 (j_))))) k z
def Jo(a:Za)(k:Nat):(Int->Bool)×(Int->Int):=ZQ ((λ(j_:Int)=>(za)),(λ(j_:Int)=>(0:Int))) (Zdm a) k
def lk4_lp(a:Za):Lp:=JE 34 19 6 6 86 [2,3,8,68,69,70] [(0,.own),(1,.own),(2,.own),(3,.own),(4,.own),(5,.own)] [] (Zdn a) (Zgl a) (.exit 6) ((λ(j_:Int)=>(za)),(λ(j_:Int)=>(0:Int))) (Jo a) (Za.n4 a)
def ZlK(a:Za):Prop:=YW 6 [] (Zdn a) (Zgl a) ((λ(j_:Int)=>(za)),(λ(j_:Int)=>(0:Int))) (Zdn a (0:Nat) ((λ(j_:Int)=>(za)),(λ(j_:Int)=>(0:Int)))) (Zgl a (0:Nat) ((λ(j_:Int)=>(za)),(λ(j_:Int)=>(0:Int))))
theorem lk4_fit(a:Za):ZlK a:=⟨rfl,⟨rfl,⟨rfl,λ_=>⟨rfl,rfl⟩⟩,⟨rfl,λ_=>⟨rfl,rfl⟩⟩,⟨rfl,λ_=>⟨rfl,rfl⟩⟩,rfl,⟨rfl,λ_=>⟨rfl,rfl⟩⟩,trivial⟩⟩
theorem lk4_lp_ok(a:Za)(hl:(Za.n4 a)<=1000):(lk4_lp a).Ok P:=by
 refine JY (ZC hm hn (l:=[]) trivial (ls:=[]) trivial ze) rfl (by kernel_rfl) (lk4_round a) exN YK (λ_=>rfl) (rd:=(λ_ t y=>((λj=>(y.getD 3 .none).hasK .i64 j),(λj=>(y.getD 3 .none).getI .i64 j)))) (λi z=>rfl) (λi=>rfl) rfl (λi hlt hg=>?_) (λi z hi=>?_)
 ·have hltI:(i:Int)<(((Za.n4 a):Nat):Int):=by omega
  refine⟨?_,trivial⟩
  all_goals(repeat'(first|exact rfl|exact λ_=>⟨rfl,rfl⟩|apply zB|intro _))
  all_goals(try simp only[decide_eq_true_eq,decide_eq_false_iff_not,yj,yu]at*)
  all_goals(try simp(disch:=omega) only[IntWalk.i64_in])
  all_goals(first|omega)
 ·have hw:=(IntWalk.i64_in ((i:Int)+1) ⟨by omega,by omega⟩)
  all_goals exact⟨rfl,YL (ts:=Zdn a) hw rfl,⟨LeK.refl _,LeK.refl _,LeK.refl _,Wd λa=>⟨rfl,Le.soft rfl⟩,LeK.refl _,LeK.refl _,trivial⟩⟩
def Zh(a:Za):Zf:=⟨a,(X6 a a.n6).1,(X6 a a.n6).2,(KV a a.n12).1,(KV a a.n12).2,(Jo a a.n4).1,(Jo a a.n4).2⟩
theorem look_tree(a:Za):evH (Zp P [] [lk1_lp a,lk2_lp a,lk3_lp a,lk4_lp a] ze) 400 34 (.cons (.agg (Z9 za a)) .nil) []=
  .need (ZlG a) (.need (ZlH a) (.need (ZlJ a) (.need (ZlK a) (.leaf (.ptr ze 0 0 0 0,YA (Zh a)))))):=by kernel_rfl
theorem look_at(a:Za)(h3:a.n3<=1000)(h4:a.n4<=1000)(h6:a.n6<=1000)(h12:a.n12<=1000):YG P 34 (.cons (.agg (Z9 za a)) .nil) [] (.leaf (.ptr ze 0 0 0 0,YA (Zh a))):=by
 refine hk_at (ZC hm hn (l:=[]) trivial (ls:=[lk1_lp a,lk2_lp a,lk3_lp a,lk4_lp a]) ⟨lk1_lp_ok a h6,lk2_lp_ok a h12,lk3_lp_ok a h3,lk4_lp_ok a h4,trivial⟩ ze) 400 λQ hQ=>?_
 rw[look_tree]
 exact⟨lk1_fit a,lk2_fit a,lk3_fit a,lk4_fit a,_,hQ,rfl,rfl⟩
def Zbo:HK:=λargs bl=>match args,bl with
 | .cons (.agg c) .nil,[]=>some (.need (c.soft=Z9 za (Z4 c)/\(Z4 c).n3<=1000/\(Z4 c).n4<=1000/\(Z4 c).n6<=1000/\(Z4 c).n12<=1000) (.leaf (.ptr ze 0 0 0 0,YA (Zh (Z4 c)))))
 |_,_=>zm
theorem look_ok:Xj P 34 Zbo:=by
 intro args bl T hT
 unfold Zbo at hT
 split at hT
 ·rename_i c
  injection hT with hT
  subst hT
  intro base mm F w xs Q KK h1 h2 hq hk
  obtain⟨⟨hc,h3,h4,h6,h12⟩,hq⟩:=hq
  have h2':=((Y0 (.cons (.agg c) .nil) 0 mm).2 xs.toList).2 h2
  rw[show V.soft (.cons (.agg c) .nil)=.cons (.agg c.soft) .nil from rfl,hc]at h2'
  exact look_at _ h3 h4 h6 h12 base mm F w xs Q KK h1 h2' hq hk
 ·cases hT
abbrev Zc6(n:Nat)(r:Nat->DT3)(i:Int)(z:Int):V:=(.cons (.rsl za 1 n (λj=>ZP za (r j))) (.cons (.bool ze za) (.cons (.int za .i64 (z)) (.cons (.rsl za 1 n (λj=>ZP za (r j))) (.cons (.int za .i64 ((n:Nat):Int)) (.cons (.int za .i64 i) .nil))))))
abbrev Zc7(n:Nat)(r:Nat->DT3)(i:Int)(z:Int):List Blk:=[]
def gmy_R(n:Nat)(r:Nat->DT3)(i:Int)(z:Int):Tree Rd:=
 let q0:=(zl za 1 n λjj=>ci (r jj).f0 zh)
 zw ((0:Int)<=i/\i<(n:Int)) (zD (bif bif bif decide ((r (zi i)).f0<=z)then ze else decide ((r (zi i)).f0>(16:Int))then ze else za then ze else za) (zx (Ex.ret,ze,zf q0 (zf (zC ze za) (ci z (zf q0 (ci (n:Int) (ci i zh))))),[])) (zx (Ex.normal,ze,zf q0 (zf (zC ze za) (ci (r (zi i)).f0 (zf q0 (ci (n:Int) (ci (zy .i64 (i+(1:Int))) zh))))),[])))
theorem gmy_round(n:Nat)(r:Nat->DT3):Yo P (Zp P [] [] ze) 98 3 0 0 29 [0,2,3,6,7,8] [] [] (Zc6 n r) (Zc7 n r) (λi=>(bif decide (i<(n:Int))then za else ze)) (.exit 0) (gmy_R n r):=λB i z=>by kernel_rfl
def gmy_step(n:Nat)(r:Nat->DT3)(k:Nat)(z:Int):Int:=(gmy_R n r k z).carry ((λt y=>(t.nth 2).toInt)) z
def gmy_acc(n:Nat)(r:Nat->DT3)(k:Nat):Int:=ZQ 0 (gmy_step n r) k
def ZiQ(n:Nat)(r:Nat->DT3)(k:Nat):Bool:=(gmy_R n r k (gmy_acc n r k)).early
abbrev gmy_ets(n:Nat)(r:Nat->DT3)(i:Int)(z:Int):V:=(.cons (zl za 1 n λjj=>zf (zn za .i64 (r jj).f0) zh) (.cons (zC ze za) (.cons .junk (.cons (zl za 1 n λjj=>zf (zn za .i64 (r jj).f0) zh) (.cons (zn za .i64 (n:Int)) (.cons .junk .nil))))))
def gmy_lp(n:Nat)(r:Nat->DT3):Lp:=lpL 98 3 0 0 29 [0,2,3,6,7,8] [] [] (Zc6 n r) (Zc7 n r) (.exit 0) .ret 0 (gmy_acc n r) (ZiQ n r) (n) (gmy_ets n r) (Zc7 n r)
def Zlt(n:Nat)(r:Nat->DT3):Prop:=YW 0 [] (Zc6 n r) (Zc7 n r) 0 (Zc6 n r (0:Nat) 0) (Zc7 n r (0:Nat) 0)
theorem gmy_fit(n:Nat)(r:Nat->DT3):Zlt n r:=⟨rfl,trivial⟩
theorem gmy_lp_ok(n:Nat)(r:Nat->DT3)(hl:n<=1000):(gmy_lp n r).Ok P:=by
 refine Xg (ZC hm hn (l:=[]) trivial (ls:=[]) trivial ze) rfl (by kernel_rfl) (gmy_round n r) exN YK (λ_=>rfl) (rd:=(λ_ t y=>(t.nth 2).toInt)) (λi z=>rfl) (λi=>rfl) rfl (λi hlt hg=>?_) (λi z hi=>?_)
 ·have hltI:(i:Int)<((n:Nat):Int):=by omega
  refine⟨?_,⟨λhb0=>trivial,λhb0=>trivial⟩⟩
  all_goals(repeat'(first|exact rfl|exact λ_=>⟨rfl,rfl⟩|apply zB|intro _))
  all_goals(try simp only[decide_eq_true_eq,decide_eq_false_iff_not,yj,yu]at*)
  all_goals(try simp(disch:=omega) only[IntWalk.i64_in])
  all_goals(first|omega)
 ·have hw:=(IntWalk.i64_in ((i:Int)+1) ⟨by omega,by omega⟩)
  refine⟨?_,?_⟩
  all_goals(first|exact⟨rfl,YL (ts:=Zc6 n r) hw rfl,Yg _⟩|exact⟨rfl,rfl,(by repeat'(first|exact Le.refl _|exact Le.junk _ rfl|apply Le.cons)),Yg _⟩)
def gMay_T(an:Nat)(a:Nat->DT3):Tree V:=
 zw (Zlt an a) (zD (bif Zv (ZiQ an a) an then ze else za) (zx (zC ze za)) (zx (zC za (bif decide ((an:Int)>=(2:Int))then decide ((an:Int)<=(8:Int))else za))))
theorem gMay_tree(an:Nat)(a:Nat->DT3):ZU (Zp P [] [gmy_lp an a] ze) 400 98 (.cons (.rsl za 1 an λj=>ZP za (a j)) .nil)=gMay_T an a:=by kernel_rfl
def Uv(an:Nat)(a:Nat->DT3):Bool:=
  (bif bif Zv (ZiQ an a) an then ze else za then za else bif decide ((an:Int)>=(2:Int))then decide ((an:Int)<=(8:Int))else za)
theorem ZpU(an:Nat)(a:Nat->DT3)(h0:an<=1000):Zi P 98 (.cons (.rsl za 1 an λj=>ZP za (a j)) .nil) (.bool za (Uv an a)):=
 Xp (ZC hm hn (l:=[]) trivial (ls:=[gmy_lp an a]) ⟨gmy_lp_ok an a h0,trivial⟩ ze) 400 (Has.of hn Tryz.func98 rfl) (gMay_tree an a) (Tree.Pre.mk (by refine⟨?_,⟨λ_=>trivial,λ_=>trivial⟩⟩;all_goals(first|exact gmy_fit an a|(repeat'(first|exact rfl|apply zB))))) (by kernel_rfl) (by kernel_rfl)
def Zcr:Con:=Yh 98 (λx=>(.cons (.rsl za 1 x.hd.Zy λj=>ZP za ((λj=>ZM (x.hd.ZB j)) j)) .nil)) (λx=>(.bool za (Uv x.hd.Zy (λj=>ZM (x.hd.ZB j))))) (λx=>x.hd.Zy<=1000)
theorem Zkh:Zcr.Ok P:=Yi (λx h=>ZpU _ _ h)
abbrev gc2_ts(d:Zd)(w lst:Int)(m:Nat)(r:Nat->DT3)(h g:Int->Bool)(x0:Int)(i:Int)(z:(Int->Bool)×(Int->Bool)):V:=(.cons (.int ze .i64 0) (.cons (.mp 1) (.cons (.int za .i64 lst) (.cons (.rsl za 2 d.n0 (λj=>Zw za (d.r0 j))) (.cons (.int za .i64 ((d.n0:Nat):Int)) (.cons (.int za .i64 w) (.cons (.rsl za 1 m (λj=>ZP za (r j))) (.cons (.int za .i64 ((m:Nat):Int)) (.cons (.int za .i64 i) .nil)))))))))
abbrev gc2_ys(d:Zd)(w lst:Int)(m:Nat)(r:Nat->DT3)(h g:Int->Bool)(x0:Int)(i:Int)(z:(Int->Bool)×(Int->Bool)):List Blk:=[.var (.cons (.rsl za 2 d.n0 (λj=>Zw za (d.r0 j))) .nil),.Zm (.int .i64) za (λx=>(z.1 (Zb x),.bool za (z.2 (Zb x)))) zm,.var (.cons (.int za .i64 x0) (.cons (.rsl za 1 m (λj=>ZP za (r j))) .nil))]
def gc2_R(d:Zd)(w lst:Int)(m:Nat)(r:Nat->DT3)(h g:Int->Bool)(x0:Int)(i:Int)(z:(Int->Bool)×(Int->Bool)):Tree Rd:=
 let q0:=(zl za 1 m λjj=>ci (r jj).f0 zh)
 let q1:=(zl za 2 d.n0 λjj=>Zw za (d.2 jj))
 zw ((0:Int)<=i/\i<(m:Int)) (zD (bif bif bif z.1 (r (zi i)).f0 then z.2 (r (zi i)).f0 else za then ze else za then ze else za) (zx (Ex.ret,ze,zf (zn ze .i64 (240:Int)) (zf (zZ 1) (ci lst (zf q1 (ci ((d.n0:Nat):Int) (ci w (zf q0 (ci (m:Int) (ci i zh)))))))),[zN (zf q1 zh),Blk.Zm (MK.int .i64) za (λk=>(z.1 (Zb k),zC za (z.2 (Zb k)))) zm,zN (ci x0 (zf q0 zh))])) (zx (Ex.normal,ze,zf (zn ze .i64 (0:Int)) (zf (zZ 1) (ci lst (zf q1 (ci ((d.n0:Nat):Int) (ci w (zf q0 (ci (m:Int) (ci (zy .i64 (i+(1:Int))) zh)))))))),[zN (zf q1 zh),Blk.Zm (MK.int .i64) za (λk=>(bif ZG k (zA .i64 (r (zi i)).f0)then ze else z.1 (Zb k),zC za (bif ZG k (zA .i64 (r (zi i)).f0)then ze else z.2 (Zb k)))) zm,zN (ci x0 (zf q0 zh))])))
theorem gc2_round(d:Zd)(w lst:Int)(m:Nat)(r:Nat->DT3)(h g:Int->Bool)(x0:Int):Yo P (Zp P [] [] ze) 58 10 3 3 48 [2,3,4,11,12,13,35,36,37] [(0,.own),(1,.own),(2,.own)] [] (gc2_ts d w lst m r h g x0) (gc2_ys d w lst m r h g x0) (λi=>(bif decide (i<(m:Int))then za else ze)) (.exit 2) (gc2_R d w lst m r h g x0):=λB i z=>by kernel_rfl
def G6(m:Nat)(r:Nat->DT3)(h g:Int->Bool)(k:Nat)(z:(Int->Bool)×(Int->Bool)):(Int->Bool)×(Int->Bool):=(λ(i:Int)(z:(Int->Bool)×(Int->Bool))=>(bif bif bif bif z.1 (r (zi i)).f0 then z.2 (r (zi i)).f0 else za then ze else za then ze else za then((z.1,z.2))else(((λ(j_:Int)=>bif j_==(r (zi i)).f0 then ze else z.1 (j_)),(λ(j_:Int)=>bif j_==(r (zi i)).f0 then ze else z.2 (j_)))))) k z
def Qd(m:Nat)(r:Nat->DT3)(h g:Int->Bool)(k:Nat):(Int->Bool)×(Int->Bool):=ZQ (h,g) (G6 m r h g) k
def G5(m:Nat)(r:Nat->DT3)(h g:Int->Bool)(k:Nat):Bool:=(λ(i:Int)(z:(Int->Bool)×(Int->Bool))=>(bif bif bif bif z.1 (r (zi i)).f0 then z.2 (r (zi i)).f0 else za then ze else za then ze else za then ze else za)) k (Qd m r h g k)
abbrev gc2_ets(d:Zd)(w lst:Int)(m:Nat)(r:Nat->DT3)(h g:Int->Bool)(x0:Int)(i:Int)(z:(Int->Bool)×(Int->Bool)):V:=(.cons (zn ze .i64 (240:Int)) (.cons (zZ 1) (.cons (zn za .i64 lst) (.cons (zl za 2 d.n0 λjj=>Zw za (d.2 jj)) (.cons (zn za .i64 ((d.n0:Nat):Int)) (.cons (zn za .i64 w) (.cons (zl za 1 m λjj=>zf (zn za .i64 (r jj).f0) zh) (.cons (zn za .i64 (m:Int)) (.cons .junk .nil)))))))))
abbrev gc2_eys(d:Zd)(w lst:Int)(m:Nat)(r:Nat->DT3)(h g:Int->Bool)(x0:Int)(i:Int)(z:(Int->Bool)×(Int->Bool)):List Blk:=[.var (.cons (.rsl za 2 d.n0 (λj=>Zw za (d.r0 j))) .nil),.any,.var (.cons (.int za .i64 x0) (.cons (.rsl za 1 m (λj=>ZP za (r j))) .nil))]
def gc2_lp(d:Zd)(w lst:Int)(m:Nat)(r:Nat->DT3)(h g:Int->Bool)(x0:Int):Lp:=lpL 58 10 3 3 48 [2,3,4,11,12,13,35,36,37] [(0,.own),(1,.own),(2,.own)] [] (gc2_ts d w lst m r h g x0) (gc2_ys d w lst m r h g x0) (.exit 2) .ret (h,g) (Qd m r h g) (G5 m r h g) (m) (gc2_ets d w lst m r h g x0) (gc2_eys d w lst m r h g x0)
theorem gc2_lp_ok(d:Zd)(w lst:Int)(m:Nat)(r:Nat->DT3)(h g:Int->Bool)(x0:Int)(hl:m<=1000):(gc2_lp d w lst m r h g x0).Ok P:=by
 refine Xg (ZC hm hn (l:=[]) trivial (ls:=[]) trivial ze) rfl (by kernel_rfl) (gc2_round d w lst m r h g x0) exN YK (λ_=>rfl) (rd:=(λ_ t y=>((λj=>(y.getD 1 .none).hasK .i64 j),(λj=>(y.getD 1 .none).getB .i64 j)))) (λi z=>(cC rfl rfl)) (λi=>(cC rfl rfl)) rfl (λi hlt hg=>?_) (λi z hi=>?_)
 ·have hltI:(i:Int)<((m:Nat):Int):=by omega
  refine⟨?_,⟨λhb0=>trivial,λhb0=>trivial⟩⟩
  all_goals(repeat'(first|exact rfl|exact λ_=>⟨rfl,rfl⟩|apply zB|intro _))
  all_goals(try simp only[decide_eq_true_eq,decide_eq_false_iff_not,yj,yu]at*)
  all_goals(try simp(disch:=omega) only[IntWalk.i64_in])
  all_goals(first|omega)
 ·have hw:=(IntWalk.i64_in ((i:Int)+1) ⟨by omega,by omega⟩)
  refine⟨?_,?_⟩
  all_goals(first|exact⟨rfl,YL (ts:=gc2_ts d w lst m r h g x0) hw rfl,⟨LeK.refl _,Wd λa=>⟨rfl,Le.soft rfl⟩,LeK.refl _,trivial⟩⟩|exact⟨rfl,rfl,(by repeat'(first|exact Le.refl _|exact Le.junk _ rfl|apply Le.cons)),⟨LeK.refl _,LeK.any _,LeK.refl _,trivial⟩⟩)
def gc2_in : Lp:=⟨58,10,λ_ s=>(s.tmp 11).Zam .stuck λn11 r11=>(s.tmp 13).VZ .stuck λw=>(s.tmp 4).VZ .stuck λlst=>(s.tmp 35).Zam .stuck λm r35=>(s.blk 1).onMap .stuck λfm=>(s.blk 2).onVar .stuck λc2=>(c2.hd).VZ .stuck λx0=>.need ((λ(d:Zd)(w lst:Int)(m:Nat)(r:Nat->DT3)(h g:Int->Bool)(x0:Int)=>m<=1000) ⟨n11,λj=>YV (r11 j)⟩ w lst m (λj=>ZM (r35 j)) (λj=>(fm (.int .i64 j)).1) (λj=>(fm (.int .i64 j)).2.toBool) x0) ((gc2_lp ⟨n11,λj=>YV (r11 j)⟩ w lst m (λj=>ZM (r35 j)) (λj=>(fm (.int .i64 j)).1) (λj=>(fm (.int .i64 j)).2.toBool) x0).g _ s)⟩
theorem gc2_in_ok : (gc2_in ).Ok P:=by
 intro body hin hfr B s Q hq
 obtain⟨n11,r11,hq⟩:=Zby hq
 obtain⟨w,hq⟩:=UL hq
 obtain⟨lst,hq⟩:=UL hq
 obtain⟨m,r35,hq⟩:=Zby hq
 obtain⟨fm,hq⟩:=Zji hq
 obtain⟨c2,hq⟩:=onVar_h hq
 obtain⟨x0,hq⟩:=UL hq
 exact gc2_lp_ok _ _ _ _ _ _ _ _ hq.1 body hin hfr B s Q hq.2
abbrev Zc4(a:Zd)(i:Int)(z:Int×(Int->Bool)×(Int->Bool)):V:=(.cons (.int ze .i64 0) (.cons (.mp 1) (.cons (.int za .i64 (z.1)) (.cons (.rsl za 2 (Zd.n0 a) (λj=>Zw za (a.r0 j))) (.cons (.int za .i64 (((Zd.n0 a):Nat):Int)) (.cons (.int za .i64 i) .nil))))))
abbrev Zf5(a:Zd)(i:Int)(z:Int×(Int->Bool)×(Int->Bool)):List Blk:=[.var (.cons (.rsl za 2 (Zd.n0 a) (λj=>Zw za (a.r0 j))) .nil),.Zm (.int .i64) za (λx=>(z.2.1 (Zb x),.bool za (z.2.2 (Zb x)))) zm]
def gc1_R(a:Zd)(i:Int)(z:Int×(Int->Bool)×(Int->Bool)):Tree Rd:=
 let q5:=(vi (a.2 (zi i)).f0)
 let q1:=(zl za 2 a.n0 λj=>Zw za (a.2 j))
 let q6:=(vi ((a.n0:Nat):Int))
 let q2:=(zl za 1 (a.2 (zi i)).n1 λj=>ci ((a.2 (zi i)).3 j).f0 zh)
 let q8:=(vi (0:Int))
 let q0:=(zf (zZ 1) (zf q5 (zf q1 (zf q6 (ci i (zf q2 (ci (((a.2 (zi i)).n1:Nat):Int) (zf q8 zh))))))))
 let q3:=(Qd (a.2 (zi i)).n1 (λj=>ZM (ZP za ((a.2 (zi i)).3 j))) (λj=>(zu z).1 j) (λj=>(zu z).2 j) (a.2 (zi i)).n1)
 let q7:=(zl za 2 a.n0 λjj=>Zw za (a.2 jj))
 let q4:=(zf q7 (zf q6 (ci i zh)))
 zw ((0:Int)<=i/\i<((a.n0:Nat):Int)) (zw (decide ((a.2 (zi i)).f0<=zL z)=za->decide ((a.2 (zi i)).f0>(8:Int))=za->zf q2 zh=zf q2 zh/\(a.2 (zi i)).n1<=(1000:Nat)) (zD (bif bif decide ((a.2 (zi i)).f0<=zL z)then ze else bif decide ((a.2 (zi i)).f0>(8:Int))then ze else !Uv (a.2 (zi i)).n1 λj=>ZM (ZP za ((a.2 (zi i)).3 j))then ze else za) (zx (Ex.ret,ze,zf (zn ze .i64 (240:Int)) (zf (zZ 1) (ci (zL z) q4)),[zN (zf q7 zh),Blk.Zm (MK.int .i64) za (λk=>((zu z).1 (Zb k),zC za ((zu z).2 (Zb k)))) zm])) (zw ((a.2 (zi i)).n1<=(1000:Nat)/\zf q8 q0=zf q8 q0/\zf q1 zh=zf q1 zh/\(zq=zq/\YR .i64 (λx=>((zu z).1 (Zb x),zC za ((zu z).2 (Zb x)))) λk=>((zu z).1 (Zb k),zC za ((zu z).2 (Zb k))))/\Zw za (a.2 (zi i))=Zw za (a.2 (zi i))/\True) (zD (bif Zv (G5 (a.2 (zi i)).n1 (λj=>ZM (ZP za ((a.2 (zi i)).3 j))) (λj=>(zu z).1 j) λj=>(zu z).2 j) (a.2 (zi i)).n1 then ze else za) (zx (Ex.ret,ze,zf (zn ze .i64 (240:Int)) (zf (zZ 1) (zf q5 q4)),[zN (zf q1 zh),Blk.any])) (zx (Ex.normal,ze,zf (zn ze .i64 (0:Int)) (zf (zZ 1) (zf q5 (zf q1 (zf q6 (ci (zy .i64 (i+(1:Int))) zh))))),[zN (zf q1 zh),Blk.Zm (MK.int .i64) za (λk=>(q3.1 (Zb k),zC za (q3.2 (Zb k)))) zm]))))))
theorem gc1_round(a:Zd):Yo P (Zp P [Zcr] [gc2_in ] ze) 58 4 2 2 48 [2,3,4,11,12,13] [(0,.own),(1,.own)] [] (Zc4 a) (Zf5 a) (λi=>(bif decide (i<((a.n0:Nat):Int))then za else ze)) (.exit 0) (gc1_R a):=λB i z=>by kernel_rfl
def gc1_step(a:Zd)(k:Nat)(z:Int×(Int->Bool)×(Int->Bool)):Int×(Int->Bool)×(Int->Bool):=(λ(i:Int)(z:Int×(Int->Bool)×(Int->Bool))=>(bif bif bif decide ((a.2 (zi i)).f0<=zL z)then ze else bif decide ((a.2 (zi i)).f0>(8:Int))then ze else !Uv (a.2 (zi i)).n1 λj=>ZM (ZP za ((a.2 (zi i)).3 j))then ze else za then((z.1,z.2.1,z.2.2))else(bif bif Zv (G5 (a.2 (zi i)).n1 (λj=>ZM (ZP za ((a.2 (zi i)).3 j))) (λj=>(zu z).1 j) λj=>(zu z).2 j) (a.2 (zi i)).n1 then ze else za then((z.1,z.2.1,z.2.2))else(((a.2 (zi i)).f0,(λ(j_:Int)=>(Qd (a.2 (zi i)).n1 (λj=>ZM (ZP za ((a.2 (zi i)).3 j))) (λj=>(zu z).1 j) (λj=>(zu z).2 j) (a.2 (zi i)).n1).1 (j_)),(λ(j_:Int)=>(Qd (a.2 (zi i)).n1 (λj=>ZM (ZP za ((a.2 (zi i)).3 j))) (λj=>(zu z).1 j) (λj=>(zu z).2 j) (a.2 (zi i)).n1).2 (j_))))))) k z
def WK(a:Zd)(k:Nat):Int×(Int->Bool)×(Int->Bool):=ZQ (0,(λ(j_:Int)=>(za)),(λ(j_:Int)=>(za))) (gc1_step a) k
def Zf4(a:Zd)(k:Nat):Bool:=(λ(i:Int)(z:Int×(Int->Bool)×(Int->Bool))=>(bif bif bif decide ((a.2 (zi i)).f0<=zL z)then ze else bif decide ((a.2 (zi i)).f0>(8:Int))then ze else !Uv (a.2 (zi i)).n1 λj=>ZM (ZP za ((a.2 (zi i)).3 j))then ze else za then ze else(bif bif Zv (G5 (a.2 (zi i)).n1 (λj=>ZM (ZP za ((a.2 (zi i)).3 j))) (λj=>(zu z).1 j) λj=>(zu z).2 j) (a.2 (zi i)).n1 then ze else za then ze else za))) k (WK a k)
abbrev gc1_ets(a:Zd)(i:Int)(z:Int×(Int->Bool)×(Int->Bool)):V:=(.cons (zn ze .i64 (240:Int)) (.cons (zZ 1) (.cons .junk (.cons (zl za 2 a.n0 λjj=>Zw za (a.2 jj)) (.cons (zn za .i64 ((a.n0:Nat):Int)) (.cons .junk .nil))))))
abbrev gc1_eys(a:Zd)(i:Int)(z:Int×(Int->Bool)×(Int->Bool)):List Blk:=[.var (.cons (.rsl za 2 (Zd.n0 a) (λj=>Zw za (a.r0 j))) .nil),.any]
def gc1_lp(a:Zd):Lp:=lpL 58 4 2 2 48 [2,3,4,11,12,13] [(0,.own),(1,.own)] [] (Zc4 a) (Zf5 a) (.exit 0) .ret (0,(λ(j_:Int)=>(za)),(λ(j_:Int)=>(za))) (WK a) (Zf4 a) (Zd.n0 a) (gc1_ets a) (gc1_eys a)
def gc1_need(a:Zd):Prop:=YW 2 [] (Zc4 a) (Zf5 a) (0,(λ(j_:Int)=>(za)),(λ(j_:Int)=>(za))) (Zc4 a (0:Nat) (0,(λ(j_:Int)=>(za)),(λ(j_:Int)=>(za)))) (Zf5 a (0:Nat) (0,(λ(j_:Int)=>(za)),(λ(j_:Int)=>(za))))
theorem gc1_fit(a:Zd):gc1_need a:=⟨rfl,⟨rfl,⟨rfl,λ_=>⟨rfl,rfl⟩⟩,trivial⟩⟩
theorem gc1_lp_ok(a:Zd)(hl:a.n0<=1000)(hl2:∀j,(a.r0 j).n1<=1000):(gc1_lp a).Ok P:=by
 refine Xg (ZC hm hn (l:=[Zcr]) ⟨Zkh,trivial⟩ (ls:=[gc2_in ]) ⟨gc2_in_ok,trivial⟩ ze) rfl (by kernel_rfl) (gc1_round a) exN YK (λ_=>rfl) (rd:=(λ_ t y=>((t.nth 2).toInt,(λj=>(y.getD 1 .none).hasK .i64 j),(λj=>(y.getD 1 .none).getB .i64 j)))) (λi z=>(cC rfl (cC rfl rfl))) (λi=>(cC rfl (cC rfl rfl))) rfl (λi hlt hg=>?_) (λi z hi=>?_)
 ·have hltI:(i:Int)<(((Zd.n0 a):Nat):Int):=by omega
  refine⟨?_,⟨?_,⟨λhb0=>trivial,λhb0=>⟨?_,⟨λhb1=>trivial,λhb1=>trivial⟩⟩⟩⟩⟩
  all_goals(repeat'(first|exact rfl|exact λ_=>⟨rfl,rfl⟩|apply zB|intro _))
  all_goals(try simp only[decide_eq_true_eq,decide_eq_false_iff_not,yj,yu]at*)
  all_goals(try simp(disch:=omega) only[IntWalk.i64_in])
  all_goals(first|omega|exact hl2 _)
 ·have hw:=(IntWalk.i64_in ((i:Int)+1) ⟨by omega,by omega⟩)
  refine⟨?_,⟨?_,?_⟩⟩
  all_goals(first|exact⟨rfl,YL (ts:=Zc4 a) hw rfl,⟨LeK.refl _,Wd λa=>⟨rfl,Le.soft rfl⟩,trivial⟩⟩|exact⟨rfl,rfl,(by repeat'(first|exact Le.refl _|exact Le.junk _ rfl|apply Le.cons)),⟨LeK.refl _,LeK.any _,trivial⟩⟩)
def gCheck_T(a:Zd):Tree V:=
 let q2:=(vi (0:Int))
 let q1:=(zl za 2 a.n0 λj=>Zw za (a.2 j))
 let q0:=(zf (zZ 1) (zf q2 (zf q1 (ci ((a.n0:Nat):Int) (zf q2 zh)))))
 zw (zf q2 q0=zf q2 q0/\zf q1 zh=zf q1 zh/\(zq=zq/\YR .i64 (λx=>(za,zC za za)) λk=>(za,zC ze za))/\True) (zD (bif Zv (Zf4 a) a.n0 then ze else za) (zx (zn ze .i64 (240:Int))) (zx (zn ze .i64 (0:Int))))
theorem ZpR(a:Zd):ZU (Zp P [Zcr] [gc1_lp a] ze) 400 58 (.cons (.agg (Jd za a)) .nil)=gCheck_T a:=by kernel_rfl
def Wv(a:Zd):Int:=
  (bif bif Zv (Zf4 a) a.n0 then ze else za then(240:Int)else(0:Int))
theorem ZpQ(a:Zd)(h0:a.n0<=1000)(h1:∀j,(a.r0 j).n1<=1000):Zi P 58 (.cons (.agg (Jd za a)) .nil) (.int za zq (Wv a)):=
 Xp (ZC hm hn (l:=[Zcr]) ⟨Zkh,trivial⟩ (ls:=[gc1_lp a]) ⟨gc1_lp_ok a h0 h1,trivial⟩ ze) 400 (Has.of hn Tryz.func58 rfl) (ZpR a) (Tree.Pre.mk (by refine⟨?_,⟨λ_=>trivial,λ_=>trivial⟩⟩;all_goals(first|exact gc1_fit a|(((repeat'(first|exact rfl|exact λ_=>⟨rfl,rfl⟩|apply zB|intro _));all_goals(try simp only[decide_eq_true_eq,decide_eq_false_iff_not]at*);all_goals omega))))) (by kernel_rfl) (by kernel_rfl)
def Ja:Con:=Yh 58 (λx=>(.cons (.agg (Jd za (ZT x.hd.inner))) .nil)) (λx=>(.int za zq (Wv (ZT x.hd.inner)))) (λx=>(ZT x.hd.inner).n0<=1000/\(λ(a:Zd)=>∀j,(a.r0 j).n1<=1000) (ZT x.hd.inner))
theorem Zcq:Ja.Ok P:=Yi (λx h=>ZpQ _ h.1 h.2)
def eVcpu_T(a:Int):Tree V:=
 zx (zC za (bif decide (a>=(1:Int))then decide (a<=(16:Int))else za))
theorem Zo4(a:Int):ZU (Zp P [] [] ze) 400 99 (.cons (.int za .i64 a) .nil)=eVcpu_T a:=by kernel_rfl
def ZcF(a:Int):Bool:=
  (bif decide (a>=(1:Int))then decide (a<=(16:Int))else za)
theorem Zo3(a:Int) : Zi P 99 (.cons (.int za .i64 a) .nil) (.bool za (ZcF a)):=
 Xp (ZC hm hn (l:=[]) trivial (ls:=[]) trivial ze) 400 (Has.of hn Tryz.func99 rfl) (Zo4 a) (Tree.Pre.mk yc) (by kernel_rfl) (by kernel_rfl)
def Gh:Con:=QA 99 (.cons (.int za .i64 0) .nil) (λx=>ze) (λx=>(.bool za (ZcF x.hd.toInt))) (λx=>(.cons (.int za .i64 x.hd.toInt) .nil)) (λx=>True)
theorem Zh3:Gh.Ok P:=Jf (λ_=>rfl) (λx h=>yc) (λx h=>Zo3 _)
abbrev ZcG(a:YS)(i:Int)(z:Int):V:=(.cons (.ptr ze 0 0 0 0) (.cons (.int ze .i64 0) (.cons (.int za .i64 (z)) (.cons (.rsl za 5 (YS.n0 a) (λj=>ZI za (a.r0 j))) (.cons (.int za .i64 (((YS.n0 a):Nat):Int)) (.cons (.int za .i64 i) .nil))))))
abbrev ZcH(a:YS)(i:Int)(z:Int):List Blk:=[.var (.cons (.rsl za 5 (YS.n0 a) (λj=>ZI za (a.r0 j))) .nil)]
def ec1_R(a:YS)(i:Int)(z:Int):Tree Rd:=
 let q0:=(zl za 5 a.n0 λjj=>ZI za (a.2 jj))
 zw ((0:Int)<=i/\i<((a.n0:Nat):Int)) (zD (bif bif bif decide ((a.2 (zi i)).f0<=z)then ze else bif decide ((a.2 (zi i)).f0>(32:Int))then ze else !ZcF (a.2 (zi i)).f1 then ze else za then ze else za) (zx (Ex.ret,ze,zf (pt 0) (zf (zn ze .i64 (260:Int)) (ci z (zf q0 (ci ((a.n0:Nat):Int) (ci i zh))))),[zN (zf q0 zh)])) (zx (Ex.normal,ze,zf (pt 0) (zf (zn ze .i64 (0:Int)) (ci (a.2 (zi i)).f0 (zf q0 (ci ((a.n0:Nat):Int) (ci (zy .i64 (i+(1:Int))) zh))))),[zN (zf q0 zh)])))
theorem ec1_round(a:YS):Yo P (Zp P [Gh] [] ze) 59 3 1 1 70 [1,2,3,10,11,12] [(0,.own)] [] (ZcG a) (ZcH a) (λi=>(bif decide (i<((a.n0:Nat):Int))then za else ze)) (.exit 0) (ec1_R a):=λB i z=>by kernel_rfl
def ZkS(a:YS)(k:Nat)(z:Int):Int:=(λ(i:Int)(z:Int)=>(bif bif bif bif decide ((a.2 (zi i)).f0<=z)then ze else bif decide ((a.2 (zi i)).f0>(32:Int))then ze else !ZcF (a.2 (zi i)).f1 then ze else za then ze else za then(z)else((a.2 (zi i)).f0))) k z
def Za4(a:YS)(k:Nat):Int:=ZQ 0 (ZkS a) k
def Zim(a:YS)(k:Nat):Bool:=(λ(i:Int)(z:Int)=>(bif bif bif bif decide ((a.2 (zi i)).f0<=z)then ze else bif decide ((a.2 (zi i)).f0>(32:Int))then ze else !ZcF (a.2 (zi i)).f1 then ze else za then ze else za then ze else za)) k (Za4 a k)
abbrev ec1_ets(a:YS)(i:Int)(z:Int):V:=(.cons (zV ze 0 0 0 0) (.cons (zn ze .i64 (260:Int)) (.cons .junk (.cons (zl za 5 a.n0 λjj=>ZI za (a.2 jj)) (.cons (zn za .i64 ((a.n0:Nat):Int)) (.cons .junk .nil))))))
def ec1_lp(a:YS):Lp:=lpL 59 3 1 1 70 [1,2,3,10,11,12] [(0,.own)] [] (ZcG a) (ZcH a) (.exit 0) .ret 0 (Za4 a) (Zim a) (YS.n0 a) (ec1_ets a) (ZcH a)
def ZkR(a:YS):Prop:=YW 1 [] (ZcG a) (ZcH a) 0 (ZcG a (0:Nat) 0) (ZcH a (0:Nat) 0)
theorem ec1_fit(a:YS):ZkR a:=⟨rfl,⟨rfl,trivial⟩⟩
theorem ec1_lp_ok(a:YS)(hl:(YS.n0 a)<=1000):(ec1_lp a).Ok P:=by
 refine Xg (ZC hm hn (l:=[Gh]) ⟨Zh3,trivial⟩ (ls:=[]) trivial ze) rfl (by kernel_rfl) (ec1_round a) exN YK (λ_=>rfl) (rd:=(λ_ t y=>(t.nth 2).toInt)) (λi z=>(cC rfl rfl)) (λi=>(cC rfl rfl)) rfl (λi hlt hg=>?_) (λi z hi=>?_)
 ·have hltI:(i:Int)<(((YS.n0 a):Nat):Int):=by omega
  refine⟨?_,⟨λhb0=>trivial,λhb0=>trivial⟩⟩
  all_goals(repeat'(first|exact rfl|exact λ_=>⟨rfl,rfl⟩|apply zB|intro _))
  all_goals(try simp only[decide_eq_true_eq,decide_eq_false_iff_not,yj,yu]at*)
  all_goals(try simp(disch:=omega) only[IntWalk.i64_in])
  all_goals(first|omega)
 ·have hw:=(IntWalk.i64_in ((i:Int)+1) ⟨by omega,by omega⟩)
  refine⟨?_,?_⟩
  all_goals(first|exact⟨rfl,YL (ts:=ZcG a) hw rfl,Yg _⟩|exact⟨rfl,rfl,(by repeat'(first|exact Le.refl _|exact Le.junk _ rfl|apply Le.cons)),Yg _⟩)
abbrev ZeS(n:Nat)(r:Nat->Xi)(x:Int)(i j:Int):V:=(.cons (.rsl za 5 n (λj=>ZI za (r j))) (.cons (.int za .i64 x) (.cons (.fn (.func 200) .nil .nil) (.cons (.int ze .i64 0) (.cons (.bool ze za) (.cons (.int za .i64 ((n:Nat):Int)) (.cons (.int za .i64 i) (.cons (.int za .i64 j) .nil))))))))
abbrev ZeT(n:Nat)(r:Nat->Xi)(x:Int):List Blk:=[]
def bPort_T(n:Nat)(r:Nat->Xi)(x:Int)(i j:Int):Tree (Ex×Bool×V×List Blk):=
 let q0:=zl za 5 n λj=>ZI za (r j)
 let q8:=V.fn (Fn.func (200:FuncId)) zh zh
 let q9:=vi (n:Int)
 let q10:=zn ze .i64 (0:Int)
 let q11:=vi x
 zD (decide (i<j)) (zw ((0:Int)<=half i j/\half i j<(n:Int)) (zD (decide (zy .i64 ((r (zi (half i j))).f0-x)<(0:Int))) (zx (Ex.normal,ze,zf q0 (zf q11 (zf q8 (zf q10 (zf (zC ze za) (zf q9 (ci (zy .i64 (half i j+(1:Int))) (ci j zh))))))),[])) (zx (Ex.normal,ze,zf q0 (zf q11 (zf q8 (zf q10 (zf (zC ze za) (zf q9 (ci i (ci (half i j) zh))))))),[])))) (zx (Ex.exit 0,ze,zf q0 (zf q11 (zf q8 (zf q10 (zf (zC ze za) (zf q9 (ci i (ci j zh))))))),[]))
theorem ZnD(B:Base)(n:Nat)(r:Nat->Xi)(x:Int)(i j:Int):((ev (ZN P [] [199]) 400 199 (JD P 199 3) B (YN 0 49 [0,1,2,6,7,8,9,10] [] (ZeS n r x i j) (ZeT n r x))).bind λx=>zx (x.1,vwN 0 0 49 [0,1,2,6,7,8,9,10] [] x.2))=bPort_T n r x i j:=by kernel_rfl
def ZeR(n:Nat)(r:Nat->Xi)(x:Int)(k:Nat):Bool:=(λ(h:Int)=>decide (zy zq (Xi.f0 (r (zi (h)))-x)<(0:Int))) k
def Kh(n:Nat)(r:Nat->Xi)(x:Int):Nat:=XB (ZeR n r x) n 0 n
def ZeQ(n:Nat)(r:Nat->Xi)(x:Int):Lp:=⟨199,3,λ_ s=>match vwN 0 0 49 [0,1,2,6,7,8,9,10] [] s with
 |(ze,(.cons (.rsl _ 5 nt0 ft0) (.cons (.int _ .i64 tx) (.cons (.fn (.func 200) .nil .nil) (.cons (.int _ .i64 t3) (.cons (.bool _ t4) (.cons (.int _ .i64 t5) (.cons (.int _ .i64 t6) (.cons (.int _ .i64 t7) .nil)))))))),[])=>bif zo s.n 0 then .need (n=nt0/\(λj=>ZI za (r j))=ft0/\x=tx/\0=t3/\za=t4/\((n:Nat):Int)=t5/\0=t6/\((n:Nat):Int)=t7)
  (.leaf (.exit 0,YN 0 49 [0,1,2,6,7,8,9,10] [] (ZeS n r x ((Kh n r x:Nat):Int) ((Kh n r x:Nat):Int)) (ZeT n r x)))else .stuck
 |_=>.stuck⟩
theorem ZnC(n:Nat)(r:Nat->Xi)(x:Int)(hl:n<=1000):(ZeQ n r x).Ok P:=by
 refine VU (by kernel_rfl) λhin B s Q hq=>?_
 simp only[ZeQ]at hq hin⊢
 split at hq
 ·rename_i q1 nt0 ft0 q2 tx q3 t3 q4 t4 q5 t5 q6 t6 q7 t7 heq
  cases hsn:zo s.n 0
  ·rw[hsn]at hq;exact hq.elim
  ·rw[hsn]at hq
   obtain⟨⟨rfl,rfl,rfl,rfl,rfl,rfl,rfl,rfl⟩,hq⟩:=hq
   have hsame:Qv 0 0 49 [0,1,2,6,7,8,9,10] [] s (ZeS n r x 0 ((n:Nat):Int)) (ZeT n r x):=by
    refine⟨by rw[heq],by rw[heq];exact Le.soft rfl,by rw[heq];exact trivial⟩
   refine Zbp (k:=400) (f:=199) (YJ hm hn (l:=[]) trivial) rfl hin (ZeR n r x) n (λi j=>ZeS n r x i j) (ZeT n r x) Q (λi j=>ZnD B n r x i j) (λi j hij hjn=>?_) hq (zP hsn) hsame
   refine⟨λhc=>?_,λhc=>?_⟩
   ·have hlt:i<j:=by have:=of_decide_eq_true hc;omega
    have hh:=Zbl (i:=i) (j:=j) (by omega)
    refine⟨by rw[hh];omega,λhb=>?_,λhb=>?_⟩
    ·rw[hh]at hb⊢
     rw[IntWalk.i64_in ((((i+j)/2:Nat):Int)+1) ⟨by omega,by omega⟩]
     exact⟨rfl,hlt,trivial,λ_=>Le.soft rfl,λhl=>Bool.noConfusion ((show ZeR n r x ((i+j)/2)=ze from hb).symm.trans hl)⟩
    ·rw[hh]at hb⊢
     exact⟨rfl,hlt,trivial,λhl=>Bool.noConfusion ((show ZeR n r x ((i+j)/2)=za from hb).symm.trans hl),λ_=>Le.soft rfl⟩
   ·have hge:¬(i:Int)<(j:Int):=λh=>by rw[decide_eq_true h]at hc;cases hc
    have e:i=j:=by omega
    subst e
    exact⟨rfl,rfl,trivial,Le.soft rfl,rfl⟩
 ·exact hq.elim
def eAt_T(an:Nat)(a:Nat->Xi)(b:Int):Tree V:=
 let q0:=((Kh an a b:Nat):Int)
 zw (an=an/\((λj=>ZI za (a j))=λj=>ZI za (a j))/\b=b/\(0:Int)=(0:Int)/\za=za/\(an:Int)=(an:Int)/\(0:Int)=(0:Int)/\(an:Int)=(an:Int)) (zw (decide (q0<(an:Int))=ze->(0:Int)<=q0/\q0<(an:Int)) (zx (V.tup (ci (bif decide (q0<(an:Int))then q0 else q0) (zf (zC za (bif decide (q0<(an:Int))then zy .i64 ((a (zi q0)).f0-b)==(0:Int)else za)) zh)))))
theorem eAt_tree(an:Nat)(a:Nat->Xi)(b:Int):ZU (Zp P [] [ZeQ an a b] ze) 400 160 (.cons (.rsl za 5 an λj=>ZI za (a j)) (.cons (.int za .i64 b) .nil))=eAt_T an a b:=by kernel_rfl
def Vi(an:Nat)(a:Nat->Xi)(b:Int):Int:=
  (bif decide (((Kh an a b:Nat):Int)<(an:Int))then((Kh an a b:Nat):Int)else((Kh an a b:Nat):Int))
def ZcE(an:Nat)(a:Nat->Xi)(b:Int):Bool:=
  (bif decide (((Kh an a b:Nat):Int)<(an:Int))then zy zq (Xi.f0 (a (zi ((Kh an a b:Nat):Int)))-b)==(0:Int)else za)
theorem eAt_meets(an:Nat)(a:Nat->Xi)(b:Int)(h0:an<=1000):Zi P 160 (.cons (.rsl za 5 an λj=>ZI za (a j)) (.cons (.int za .i64 b) .nil)) (.tup (.cons (.int za zq (Vi an a b)) (.cons (.bool za (ZcE an a b)) .nil))):=
 Xp (ZC hm hn (l:=[]) trivial (ls:=[ZeQ an a b]) ⟨ZnC an a b h0,trivial⟩ ze) 400 (Has.of hn Tryz.func160 rfl) (eAt_tree an a b) (Tree.Pre.mk (zB (by first|exact bPort_fit an a b|(((repeat'(first|exact rfl|exact λ_=>⟨rfl,rfl⟩|apply zB|intro _));all_goals(try simp only[decide_eq_true_eq,decide_eq_false_iff_not]at*);all_goals omega))) (zB (by first|exact bPort_fit an a b|(((repeat'(first|exact rfl|exact λ_=>⟨rfl,rfl⟩|apply zB|intro _));all_goals(try simp only[decide_eq_true_eq,decide_eq_false_iff_not]at*);all_goals omega))) yc))) (by kernel_rfl) (by kernel_rfl)
def c_eAt:Con:=Yh 160 (λx=>(.cons (.rsl za 5 x.hd.Zy λj=>ZI za ((λj=>Ww (x.hd.ZB j)) j)) (.cons (.int za .i64 x.tl.hd.toInt) .nil))) (λx=>(.tup (.cons (.int za zq (Vi x.hd.Zy (λj=>Ww (x.hd.ZB j)) x.tl.hd.toInt)) (.cons (.bool za (ZcE x.hd.Zy (λj=>Ww (x.hd.ZB j)) x.tl.hd.toInt)) .nil)))) (λx=>x.hd.Zy<=1000)
theorem Zkf:c_eAt.Ok P:=Yi (λx h=>eAt_meets _ _ _ h)
theorem ZkQ(n:Nat)(r:Nat->Xi)(b:Int):0<=Vi n r b/\Vi n r b<=n/\(ZcE n r b=ze->Vi n r b<n):=by
 have h:Kh n r b<=n:=Zcm _ _ _ (Nat.zero_le _)
 have e:Vi n r b=(Kh n r b:Int):=by
  unfold Vi;cases decide (((Kh n r b:Nat):Int)<(n:Int))<;>rfl
 rw[e]
 refine⟨by omega,by omega,λh1=>?_⟩
 unfold ZcE at h1
 cases hc:decide (((Kh n r b:Nat):Int)<(n:Int))with
 |true=>exact of_decide_eq_true hc
 |false=>rw[hc]at h1;cases h1
abbrev ZcI(a:YS)(i:Int)(z:Unit):V:=(.cons (.ptr ze 0 0 0 0) (.cons (.int ze .i64 0) (.cons (.rsl za 5 (YS.n0 a) (λj=>ZI za (a.r0 j))) (.cons (.int za .i64 (((YS.n0 a):Nat):Int)) (.cons (.int za .i64 i) .nil)))))
abbrev ZcJ(a:YS)(i:Int)(z:Unit):List Blk:=[.var (.cons (.rsl za 5 (YS.n0 a) (λj=>ZI za (a.r0 j))) .nil)]
def ec2_R(a:YS)(i:Int)(z:Unit):Tree Rd:=
 let q2:=(zl za 5 a.n0 λjj=>ZI za (a.2 jj))
 let q0:=(zx (Ex.ret,ze,zf (pt 0) (zf (zn ze .i64 (260:Int)) (zf q2 (ci ((a.n0:Nat):Int) (ci i zh)))),[zN (zf q2 zh)]))
 let q1:=(zx (Ex.normal,ze,zf (pt 0) (zf (zn ze .i64 (0:Int)) (zf q2 (ci ((a.n0:Nat):Int) (ci (zy .i64 (i+(1:Int))) zh)))),[zN (zf q2 zh)]))
 let q3:=(a.2 (zi (Vi a.n0 (λj=>Ww (ZI za (a.2 j))) (a.2 (zi i)).f2)))
 let q4:=(ci (a.2 (zi i)).f2 zh)
 let q5:=(zl za 5 a.n0 λj=>ZI za (a.2 j))
 zw ((0:Int)<=i/\i<((a.n0:Nat):Int)) (zD (bif (a.2 (zi i)).f2==(0:Int)then ze else za) q1 (zD (bif bif decide ((a.2 (zi i)).f2<(1:Int))then ze else decide ((a.2 (zi i)).f2>(32:Int))then ze else za) q0 (zw (zf q5 q4=zf q5 q4/\a.n0<=(1000:Nat)) (zD (bif !ZcE a.n0 (λj=>Ww (ZI za (a.2 j))) (a.2 (zi i)).f2 then ze else za) q0 (zw ((0:Int)<=Vi a.n0 (λj=>Ww (ZI za (a.2 j))) (a.2 (zi i)).f2/\Vi a.n0 (λj=>Ww (ZI za (a.2 j))) (a.2 (zi i)).f2<((a.n0:Nat):Int)) (zD (q3.f2 != (a.2 (zi i)).f0) q0 (zD (bif q3.f0==(a.2 (zi i)).f0 then ze else za) q0 q1)))))))
theorem ec2_round(a:YS):Yo P (Zp P [Gh,c_eAt] [] ze) 59 10 1 1 70 [1,2,35,36,37] [(0,.own)] [] (ZcI a) (ZcJ a) (λi=>(bif decide (i<((a.n0:Nat):Int))then za else ze)) (.exit 2) (ec2_R a):=λB i z=>by kernel_rfl
def Zin(a:YS)(k:Nat):Bool:=(ec2_R a k ()).early
abbrev ec2_ets(a:YS)(i:Int)(z:Unit):V:=(.cons (zV ze 0 0 0 0) (.cons (zn ze .i64 (260:Int)) (.cons (zl za 5 a.n0 λjj=>ZI za (a.2 jj)) (.cons (zn za .i64 ((a.n0:Nat):Int)) (.cons .junk .nil)))))
def ec2_lp(a:YS):Lp:=lpL 59 10 1 1 70 [1,2,35,36,37] [(0,.own)] [] (ZcI a) (ZcJ a) (.exit 2) .ret () (λ_=>()) (Zin a) (YS.n0 a) (ec2_ets a) (ZcJ a)
def ZkT(a:YS):Prop:=YW 1 [] (ZcI a) (ZcJ a) () (ZcI a (0:Nat) ()) (ZcJ a (0:Nat) ())
theorem ec2_fit(a:YS):ZkT a:=⟨rfl,⟨rfl,trivial⟩⟩
theorem ec2_lp_ok(a:YS)(hl:(YS.n0 a)<=1000):(ec2_lp a).Ok P:=by
 refine Xg (ZC hm hn (l:=[Gh,c_eAt]) ⟨Zh3,Zkf,trivial⟩ (ls:=[]) trivial ze) rfl (by kernel_rfl) (ec2_round a) exN YK (λ_=>rfl) (step:=λ_ z=>z) (rd:=(λ_ t y=>())) (λi z=>rfl) (λi=>rfl) rfl (λi hlt hg=>?_) (λi z hi=>?_)
 ·have hltI:(i:Int)<(((YS.n0 a):Nat):Int):=by omega
  refine⟨?_,⟨λhb0=>trivial,λhb0=>⟨λhb1=>trivial,λhb1=>⟨?_,⟨λhb2=>trivial,λhb2=>⟨?_,⟨λhb3=>trivial,λhb3=>⟨λhb4=>trivial,λhb4=>trivial⟩⟩⟩⟩⟩⟩⟩⟩
  all_goals(repeat'(first|exact rfl|exact λ_=>⟨rfl,rfl⟩|apply zB|intro _))
  all_goals(try simp only[decide_eq_true_eq,decide_eq_false_iff_not,yj,yu]at*)
  all_goals(try simp(disch:=omega) only[IntWalk.i64_in])
  all_goals(first|omega|exact(ZkQ _ _ _).1|exact(ZkQ _ _ _).2.2 (nf ‹_›))
 ·have hw:=(IntWalk.i64_in ((i:Int)+1) ⟨by omega,by omega⟩)
  refine⟨?_,⟨?_,⟨?_,⟨?_,⟨?_,?_⟩⟩⟩⟩⟩
  all_goals(first|exact⟨rfl,YL (ts:=ZcI a) (a:=()) hw rfl,Yg _⟩|exact⟨rfl,rfl,(by repeat'(first|exact Le.refl _|exact Le.junk _ rfl|apply Le.cons)),Yg _⟩)
def eCheck_T(a:YS):Tree V:=
 zw (ZkR a) (zD (bif Zv (Zim a) a.n0 then ze else za) (zx (zn ze .i64 (260:Int))) (zw (ZkT a) (zD (bif Zv (Zin a) a.n0 then ze else za) (zx (zn ze .i64 (260:Int))) (zx (zn ze .i64 (0:Int))))))
theorem Zo2(a:YS):ZU (Zp P [Gh,c_eAt] [ec1_lp a,ec2_lp a] ze) 400 59 (.cons (.agg (Zib za a)) .nil)=eCheck_T a:=by kernel_rfl
def GI(a:YS):Int:=
  (bif bif Zv (Zim a) a.n0 then ze else za then(260:Int)else bif bif Zv (Zin a) a.n0 then ze else za then(260:Int)else(0:Int))
theorem Zo0(a:YS)(h0:a.n0<=1000):Zi P 59 (.cons (.agg (Zib za a)) .nil) (.int za zq (GI a)):=
 Xp (ZC hm hn (l:=[Gh,c_eAt]) ⟨Zh3,Zkf,trivial⟩ (ls:=[ec1_lp a,ec2_lp a]) ⟨ec1_lp_ok a h0,ec2_lp_ok a h0,trivial⟩ ze) 400 (Has.of hn Tryz.func59 rfl) (Zo2 a) (Tree.Pre.mk (by refine⟨?_,⟨λ_=>trivial,λ_=>⟨?_,⟨λ_=>trivial,λ_=>trivial⟩⟩⟩⟩;all_goals(first|exact ec1_fit a|exact ec2_fit a|(((repeat'(first|exact rfl|exact λ_=>⟨rfl,rfl⟩|apply zB|intro _));all_goals(try simp only[decide_eq_true_eq,decide_eq_false_iff_not]at*);all_goals omega))))) (by kernel_rfl) (by kernel_rfl)
def Zfi:Con:=Yh 59 (λx=>(.cons (.agg (Zib za (Zbg x.hd.inner))) .nil)) (λx=>(.int za zq (GI (Zbg x.hd.inner)))) (λx=>(Zbg x.hd.inner).n0<=1000)
theorem Zn6:Zfi.Ok P:=Yi (λx h=>Zo0 _ h)
def vAlarm_T(a:YZ):Tree V:=
 zx (zC za (bif bif decide (a.f0>=(1:Int))then decide (a.f0<=(16:Int))else za then bif decide (a.f1>=(1:Int))then bif decide (a.f1<=(32:Int))then bif a.f2==(0:Int)then ze else bif decide (a.f2>=(1000:Int))then decide (a.f2<=(1125899906842624:Int))else za else za else za else za))
theorem ZrL(a:YZ):ZU (Zp P [] [] ze) 400 101 (.cons (.agg (Zx za a)) .nil)=vAlarm_T a:=by kernel_rfl
def ZjF(a:YZ):Bool:=
  (bif bif decide (YZ.f0 a>=(1:Int))then decide (YZ.f0 a<=(16:Int))else za then bif decide (YZ.f1 a>=(1:Int))then bif decide (YZ.f1 a<=(32:Int))
  then bif YZ.f2 a==(0:Int)then ze else bif decide (YZ.f2 a>=(1000:Int))then decide (YZ.f2 a<=(1125899906842624:Int))else za else za else za
  else za)
theorem ZrK(a:YZ) : Zi P 101 (.cons (.agg (Zx za a)) .nil) (.bool za (ZjF a)):=
 Xp (ZC hm hn (l:=[]) trivial (ls:=[]) trivial ze) 400 (Has.of hn Tryz.func101 rfl) (ZrL a) (Tree.Pre.mk yc) (by kernel_rfl) (by kernel_rfl)
def Zct:Con:=QA 101 (.cons (.agg Zmg) .nil) (λx=>ze) (λx=>(.bool za (ZjF (Ya x.hd.inner)))) (λx=>(.cons (.agg (Zx za (Ya x.hd.inner))) .nil)) (λx=>True)
theorem Zkq:Zct.Ok P:=Jf (λ_=>rfl) (λx h=>yc) (λx h=>ZrK _)
abbrev Zd0(a:Xt)(i:Int)(z:Int):V:=(.cons (.ptr ze 0 0 0 0) (.cons (.int ze .i64 0) (.cons (.int za .i64 (z)) (.cons (.rsl za 3 (Xt.n2 a) (λj=>Zx za (a.r2 j))) (.cons (.int za .i64 (((Xt.n2 a):Nat):Int)) (.cons (.int za .i64 i) .nil))))))
abbrev Zd1(a:Xt)(i:Int)(z:Int):List Blk:=[.var (.cons (.int za .i64 (Xt.f0 a)) (.cons (.rsl za 2 (Xt.n1 a) (λj=>ZE za (a.r1 j))) (.cons (.rsl za 3 (Xt.n2 a) (λj=>Zx za (a.r2 j))) .nil)))]
def vc1_R(a:Xt)(i:Int)(z:Int):Tree Rd:=
 let q1:=(zl za 3 a.n2 λjj=>Zx za (a.5 jj))
 let q0:=[zN (ci a.f0 (zf (zl za 2 a.n1 λjj=>ZE za (a.3 jj)) (zf q1 zh)))]
 zw ((0:Int)<=i/\i<((a.n2:Nat):Int)) (zD (bif bif bif !ZjF (Ya (Zx za (a.5 (zi i))))then ze else decide ((a.5 (zi i)).f0<=z)then ze else za then ze else za) (zx (Ex.ret,ze,zf (pt 0) (zf (zn ze .i64 (280:Int)) (ci z (zf q1 (ci ((a.n2:Nat):Int) (ci i zh))))),q0)) (zx (Ex.normal,ze,zf (pt 0) (zf (zn ze .i64 (0:Int)) (ci (a.5 (zi i)).f0 (zf q1 (ci ((a.n2:Nat):Int) (ci (zy .i64 (i+(1:Int))) zh))))),q0)))
theorem vc1_round(a:Xt):Yo P (Zp P [Zct] [] ze) 60 3 1 1 56 [1,2,3,12,13,14] [(0,.own)] [] (Zd0 a) (Zd1 a) (λi=>(bif decide (i<((a.n2:Nat):Int))then za else ze)) (.exit 0) (vc1_R a):=λB i z=>by kernel_rfl
def vc1_step(a:Xt)(k:Nat)(z:Int):Int:=(vc1_R a k z).carry ((λt y=>(t.nth 2).toInt)) z
def vc1_acc(a:Xt)(k:Nat):Int:=ZQ 0 (vc1_step a) k
def ZjG(a:Xt)(k:Nat):Bool:=(vc1_R a k (vc1_acc a k)).early
abbrev vc1_ets(a:Xt)(i:Int)(z:Int):V:=(.cons (zV ze 0 0 0 0) (.cons (zn ze .i64 (280:Int)) (.cons .junk (.cons (zl za 3 a.n2 λjj=>Zx za (a.5 jj)) (.cons (zn za .i64 ((a.n2:Nat):Int)) (.cons .junk .nil))))))
def vc1_lp(a:Xt):Lp:=lpL 60 3 1 1 56 [1,2,3,12,13,14] [(0,.own)] [] (Zd0 a) (Zd1 a) (.exit 0) .ret 0 (vc1_acc a) (ZjG a) (Xt.n2 a) (vc1_ets a) (Zd1 a)
def ZmR(a:Xt):Prop:=YW 1 [] (Zd0 a) (Zd1 a) 0 (Zd0 a (0:Nat) 0) (Zd1 a (0:Nat) 0)
theorem vc1_fit(a:Xt):ZmR a:=⟨rfl,⟨rfl,trivial⟩⟩
theorem vc1_lp_ok(a:Xt)(hl:(Xt.n2 a)<=1000):(vc1_lp a).Ok P:=by
 refine Xg (ZC hm hn (l:=[Zct]) ⟨Zkq,trivial⟩ (ls:=[]) trivial ze) rfl (by kernel_rfl) (vc1_round a) exN YK (λ_=>rfl) (rd:=(λ_ t y=>(t.nth 2).toInt)) (λi z=>rfl) (λi=>rfl) rfl (λi hlt hg=>?_) (λi z hi=>?_)
 ·have hltI:(i:Int)<(((Xt.n2 a):Nat):Int):=by omega
  refine⟨?_,⟨λhb0=>trivial,λhb0=>trivial⟩⟩
  all_goals(repeat'(first|exact rfl|exact λ_=>⟨rfl,rfl⟩|apply zB|intro _))
  all_goals(try simp only[decide_eq_true_eq,decide_eq_false_iff_not,yj,yu]at*)
  all_goals(try simp(disch:=omega) only[IntWalk.i64_in])
  all_goals(first|omega)
 ·have hw:=(IntWalk.i64_in ((i:Int)+1) ⟨by omega,by omega⟩)
  refine⟨?_,?_⟩
  all_goals(first|exact⟨rfl,YL (ts:=Zd0 a) hw rfl,Yg _⟩|exact⟨rfl,rfl,(by repeat'(first|exact Le.refl _|exact Le.junk _ rfl|apply Le.cons)),Yg _⟩)
abbrev wl_ts(a:YF)(i:Int)(z:Unit):V:=(.cons (.ptr ze 0 0 0 0) (.cons (.int ze .i64 0) (.cons (.rsl za 2 (YF.n1 a) (λj=>ZE za (a.r1 j))) (.cons (.int za .i64 (((YF.n1 a):Nat):Int)) (.cons (.int za .i64 i) .nil)))))
abbrev wl_ys(a:YF)(i:Int)(z:Unit):List Blk:=[.var (.cons (.int za .i64 (YF.f0 a)) (.cons (.rsl za 2 (YF.n1 a) (λj=>ZE za (a.r1 j))) .nil))]
def wl_R(a:YF)(i:Int)(z:Unit):Tree Rd:=
 let q0:=(zl za 2 a.n1 λjj=>ZE za (a.3 jj))
 let q1:=[zN (ci a.f0 (zf q0 zh))]
 let q2:=((a.3 (zi i)).f1>(1125899906842624:Int))
 zw (((0:Int)<=i/\i<((a.n1:Nat):Int))/\((!bif decide ((a.3 (zi i)).f0>=(0:Int))then decide ((a.3 (zi i)).f0<(32:Int))else za)=za->decide ((a.3 (zi i)).f1<=a.f0)=za->decide q2=za->decide (i>(0:Int))=ze->(0:Int)<=zy .i64 (i-(1:Int))/\zy .i64 (i-(1:Int))<((a.n1:Nat):Int))) (zD (bif bif bif !bif decide ((a.3 (zi i)).f0>=(0:Int))then decide ((a.3 (zi i)).f0<(32:Int))else za then ze else bif decide ((a.3 (zi i)).f1<=a.f0)then ze else bif decide q2 then ze else bif decide (i>(0:Int))then decide ((a.3 (zi (zy .i64 (i-(1:Int))))).f0>=(a.3 (zi i)).f0)else za then ze else za then ze else za) (zx (Ex.ret,ze,zf (pt 0) (zf (zn ze .i64 (250:Int)) (zf q0 (ci ((a.n1:Nat):Int) (ci i zh)))),q1)) (zx (Ex.normal,ze,zf (pt 0) (zf (zn ze .i64 (0:Int)) (zf q0 (ci ((a.n1:Nat):Int) (ci (zy .i64 (i+(1:Int))) zh)))),q1)))
theorem wl_round(a:YF):Yo P (Zp P [] [] ze) 102 4 1 1 54 [1,2,14,15,16] [(0,.own)] [] (wl_ts a) (wl_ys a) (λi=>(bif decide (i<((a.n1:Nat):Int))then za else ze)) (.exit 0) (wl_R a):=λB i z=>by kernel_rfl
def wl_bad(a:YF)(k:Nat):Bool:=(wl_R a k ()).early
abbrev wl_ets(a:YF)(i:Int)(z:Unit):V:=(.cons (zV ze 0 0 0 0) (.cons (zn ze .i64 (250:Int)) (.cons (zl za 2 a.n1 λjj=>ZE za (a.3 jj)) (.cons (zn za .i64 ((a.n1:Nat):Int)) (.cons .junk .nil)))))
def wl_lp(a:YF):Lp:=lpL 102 4 1 1 54 [1,2,14,15,16] [(0,.own)] [] (wl_ts a) (wl_ys a) (.exit 0) .ret () (λ_=>()) (wl_bad a) (YF.n1 a) (wl_ets a) (wl_ys a)
def wl_need(a:YF):Prop:=YW 1 [] (wl_ts a) (wl_ys a) () (wl_ts a (0:Nat) ()) (wl_ys a (0:Nat) ())
theorem wl_fit(a:YF):wl_need a:=⟨rfl,⟨rfl,trivial⟩⟩
theorem wl_lp_ok(a:YF)(hl:(YF.n1 a)<=1000):(wl_lp a).Ok P:=by
 refine Xg (ZC hm hn (l:=[]) trivial (ls:=[]) trivial ze) rfl (by kernel_rfl) (wl_round a) exN YK (λ_=>rfl) (step:=λ_ z=>z) (rd:=(λ_ t y=>())) (λi z=>rfl) (λi=>rfl) rfl (λi hlt hg=>?_) (λi z hi=>?_)
 ·have hltI:(i:Int)<(((YF.n1 a):Nat):Int):=by omega
  refine⟨?_,⟨λhb0=>trivial,λhb0=>trivial⟩⟩
  all_goals(repeat'(first|exact rfl|exact λ_=>⟨rfl,rfl⟩|apply zB|intro _))
  all_goals(try simp only[decide_eq_true_eq,decide_eq_false_iff_not,yj,yu]at*)
  all_goals(try simp(disch:=omega) only[IntWalk.i64_in])
  all_goals(first|omega)
 ·have hw:=(IntWalk.i64_in ((i:Int)+1) ⟨by omega,by omega⟩)
  refine⟨?_,?_⟩
  all_goals(first|exact⟨rfl,YL (ts:=wl_ts a) (a:=()) hw rfl,Yg _⟩|exact⟨rfl,rfl,(by repeat'(first|exact Le.refl _|exact Le.junk _ rfl|apply Le.cons)),Yg _⟩)
def wlCheck_T(a:YF):Tree V:=
 zD (bif bif decide (a.f0<(0:Int))then ze else decide (a.f0>(1125899906842624:Int))then ze else za) (zx (zn ze .i64 (250:Int))) (zw (wl_need a) (zD (bif Zv (wl_bad a) a.n1 then ze else za) (zx (zn ze .i64 (250:Int))) (zx (zn ze .i64 (0:Int)))))
theorem Zsi(a:YF):ZU (Zp P [] [wl_lp a] ze) 400 102 (.cons (.agg (VE za a)) .nil)=wlCheck_T a:=by kernel_rfl
def ZbZ(a:YF):Int:=
  (bif bif bif decide (a.f0<(0:Int))then ze else decide (a.f0>(1125899906842624:Int))then ze else za then(250:Int)else bif bif Zv (wl_bad a) a.n1 then
  ze else za then(250:Int)else(0:Int))
theorem Zsh(a:YF)(h0:a.n1<=1000):Zi P 102 (.cons (.agg (VE za a)) .nil) (.int za zq (ZbZ a)):=
 Xp (ZC hm hn (l:=[]) trivial (ls:=[wl_lp a]) ⟨wl_lp_ok a h0,trivial⟩ ze) 400 (Has.of hn Tryz.func102 rfl) (Zsi a) (Tree.Pre.mk (by refine⟨λ_=>trivial,λ_=>⟨?_,⟨λ_=>trivial,λ_=>trivial⟩⟩⟩;all_goals(first|exact wl_fit a|(repeat'(first|exact rfl|apply zB))))) (by kernel_rfl) (by kernel_rfl)
def Zcv:Con:=Yh 102 (λx=>(.cons (.agg (VE za (Z5 x.hd.inner))) .nil)) (λx=>(.int za zq (ZbZ (Z5 x.hd.inner)))) (λx=>(Z5 x.hd.inner).n1<=1000)
theorem Zkx:Zcv.Ok P:=Yi (λx h=>Zsh _ h)
abbrev ZeW(d:YF)(x:Int)(i j:Int):V:=(.cons (.rsl za 2 d.n1 (λj=>ZE za (d.r1 j))) (.cons (.int za .i64 x) (.cons (.fn (.func 243) .nil (.cons (.ptr ze 1 0 0 0) .nil)) (.cons (.int ze .i64 0) (.cons (.bool ze za) (.cons (.int za .i64 ((d.n1:Nat):Int)) (.cons (.int za .i64 i) (.cons (.int za .i64 j) .nil))))))))
abbrev ZeX(d:YF)(x:Int):List Blk:=[.var (.cons (.int za .i64 d.f0) (.cons (.rsl za 2 d.n1 (λj=>ZE za (d.r1 j))) .nil)),.var (.cons (.fn (.func 202) .nil .nil) .nil)]
def bTimer_T(d:YF)(x:Int)(i j:Int):Tree (Ex×Bool×V×List Blk):=
 let q0:=zl za 2 d.n1 λj=>ZE za (d.r1 j)
 let q10:=[zN (ci d.f0 (zf q0 zh)),zN (zf (V.fn (Fn.func (202:FuncId)) zh zh) zh)]
 let q11:=V.fn (Fn.func (243:FuncId)) zh (zf (pt 1) zh)
 let q12:=vi ((d.n1:Nat):Int)
 let q13:=zn ze .i64 (0:Int)
 let q14:=vi x
 zD (decide (i<j)) (zw ((0:Int)<=half i j/\half i j<((d.n1:Nat):Int)) (zD (decide (X3 (d.r1 (zi (half i j))).f0 x<(0:Int))) (zx (Ex.normal,ze,zf q0 (zf q14 (zf q11 (zf q13 (zf (zC ze za) (zf q12 (ci (zy .i64 (half i j+(1:Int))) (ci j zh))))))),q10)) (zx (Ex.normal,ze,zf q0 (zf q14 (zf q11 (zf q13 (zf (zC ze za) (zf q12 (ci i (ci (half i j) zh))))))),q10)))) (zx (Ex.exit 0,ze,zf q0 (zf q14 (zf q11 (zf q13 (zf (zC ze za) (zf q12 (ci i (ci j zh))))))),q10))
theorem ZnF(B:Base)(d:YF)(x:Int)(i j:Int):((ev (ZN P [JO] [242]) 400 242 (JD P 242 3) B (YN 2 49 [0,1,2,6,7,8,9,10] [(0,.own),(1,.own)] (ZeW d x i j) (ZeX d x))).bind λx=>zx (x.1,vwN 2 2 49 [0,1,2,6,7,8,9,10] [(0,.own),(1,.own)] x.2))=bTimer_T d x i j:=by kernel_rfl
def ZeV(d:YF)(x:Int)(k:Nat):Bool:=(λ(h:Int)=>decide (X3 (JK.f0 (d.r1 (zi (h)))) x<(0:Int))) k
def W9(d:YF)(x:Int):Nat:=XB (ZeV d x) d.n1 0 d.n1
def ZeU(d:YF)(x:Int):Lp:=⟨242,3,λ_ s=>match vwN 2 2 49 [0,1,2,6,7,8,9,10] [(0,.own),(1,.own)] s with
 |(ze,(.cons (.rsl _ 2 nt0 ft0) (.cons (.int _ .i64 tx) (.cons (.fn (.func 243) .nil (.cons (.ptr ze 1 0 0 0) .nil)) (.cons (.int _ .i64 t3) (.cons (.bool _ t4) (.cons (.int _ .i64 t5) (.cons (.int _ .i64 t6) (.cons (.int _ .i64 t7) .nil)))))))),[.var (.cons (.int _ .i64 w0) (.cons (.rsl _ 2 nu01 fu01) .nil)),.var (.cons (.fn (.func 202) .nil .nil) .nil)])=>bif zo s.n 2 then .need (d.n1=nt0/\(λj=>ZE za (d.r1 j))=ft0/\x=tx/\0=t3/\za=t4/\((d.n1:Nat):Int)=t5/\0=t6/\((d.n1:Nat):Int)=t7/\d.f0=w0/\d.n1=nu01/\(λj=>ZE za (d.r1 j))=fu01)
  (.leaf (.exit 0,YN 2 49 [0,1,2,6,7,8,9,10] [(0,.own),(1,.own)] (ZeW d x ((W9 d x:Nat):Int) ((W9 d x:Nat):Int)) (ZeX d x)))else .stuck
 |_=>.stuck⟩
theorem ZnE(d:YF)(x:Int)(hl:d.n1<=1000):(ZeU d x).Ok P:=by
 refine VU (by kernel_rfl) λhin B s Q hq=>?_
 simp only[ZeU]at hq hin⊢
 split at hq
 ·rename_i q1 nt0 ft0 q2 tx q3 t3 q4 t4 q5 t5 q6 t6 q7 t7 q8 w0 q9 nu01 fu01 heq
  cases hsn:zo s.n 2
  ·rw[hsn]at hq;exact hq.elim
  ·rw[hsn]at hq
   obtain⟨⟨rfl,rfl,rfl,rfl,rfl,rfl,rfl,rfl,rfl,rfl,rfl⟩,hq⟩:=hq
   have hsame:Qv 2 2 49 [0,1,2,6,7,8,9,10] [(0,.own),(1,.own)] s (ZeW d x 0 ((d.n1:Nat):Int)) (ZeX d x):=by
    refine⟨by rw[heq],by rw[heq];exact Le.soft rfl,by rw[heq];exact⟨LeK.var (Le.soft rfl),LeK.var (Le.soft rfl),trivial⟩⟩
   refine Zbp (k:=400) (f:=242) (YJ hm hn (l:=[JO]) ⟨ZaJ,trivial⟩) rfl hin (ZeV d x) d.n1 (λi j=>ZeW d x i j) (ZeX d x) Q (λi j=>ZnF B d x i j) (λi j hij hjn=>?_) hq (zP hsn) hsame
   refine⟨λhc=>?_,λhc=>?_⟩
   ·have hlt:i<j:=by have:=of_decide_eq_true hc;omega
    have hh:=Zbl (i:=i) (j:=j) (by omega)
    refine⟨by rw[hh];omega,λhb=>?_,λhb=>?_⟩
    ·rw[hh]at hb⊢
     rw[IntWalk.i64_in ((((i+j)/2:Nat):Int)+1) ⟨by omega,by omega⟩]
     exact⟨rfl,hlt,⟨LeK.refl _,LeK.refl _,trivial⟩,λ_=>Le.soft rfl,λhl=>Bool.noConfusion ((show ZeV d x ((i+j)/2)=ze from hb).symm.trans hl)⟩
    ·rw[hh]at hb⊢
     exact⟨rfl,hlt,⟨LeK.refl _,LeK.refl _,trivial⟩,λhl=>Bool.noConfusion ((show ZeV d x ((i+j)/2)=za from hb).symm.trans hl),λ_=>Le.soft rfl⟩
   ·have hge:¬(i:Int)<(j:Int):=λh=>by rw[decide_eq_true h]at hc;cases hc
    have e:i=j:=by omega
    subst e
    exact⟨rfl,rfl,⟨LeK.refl _,LeK.refl _,trivial⟩,Le.soft rfl,rfl⟩
 ·exact hq.elim
def wlFind_T(a:YF)(b:Int):Tree V:=
 let q0:=((W9 a b:Nat):Int)
 let q1:=(ci a.f0 (zf (zl za 2 a.n1 λj=>ZE za (a.3 j)) zh))
 let q2:=(q0<((a.n1:Nat):Int))
 zw (a.n1=a.n1/\((λj=>ZE za (a.3 j))=λj=>ZE za (a.3 j))/\b=b/\(0:Int)=(0:Int)/\za=za/\((a.n1:Nat):Int)=((a.n1:Nat):Int)/\(0:Int)=(0:Int)/\((a.n1:Nat):Int)=((a.n1:Nat):Int)/\a.f0=a.f0/\a.n1=a.n1/\(λj=>ZE za (a.3 j))=λj=>ZE za (a.3 j)) (zw (decide q2=ze->(0:Int)<=q0/\q0<((a.n1:Nat):Int)) (zw ((bif decide q2 then X3 (a.3 (zi q0)).f0 b==(0:Int)else za)=ze->zf (zH q1) zh=zf (zH q1) zh/\a.n1<=(1000:Nat)) (zx (V.tup (ci (bif bif decide q2 then X3 (a.3 (zi q0)).f0 b==(0:Int)else za then bif decide q2 then q0 else q0 else bif decide q2 then q0 else q0) (zf (zC za (bif bif decide q2 then X3 (a.3 (zi q0)).f0 b==(0:Int)else za then ZbZ (Z5 q1)==(0:Int)else za)) zh))))))
theorem Zsk(a:YF)(b:Int):ZU (Zp P [Zcv,JO] [ZeU a b] ze) 400 164 (.cons (.agg (VE za a)) (.cons (.int za .i64 b) .nil))=wlFind_T a b:=by kernel_rfl
def K8(a:YF)(b:Int):Int:=
  (bif bif decide (((W9 a b:Nat):Int)<((a.n1:Nat):Int))then X3 (a.3 (zi ((W9 a b:Nat):Int))).f0 b==(0:Int)else za then bif decide
  (((W9 a b:Nat):Int)<((a.n1:Nat):Int))then((W9 a b:Nat):Int)else((W9 a b:Nat):Int)else bif decide (((W9 a b:Nat):Int)<
  ((a.n1:Nat):Int))then((W9 a b:Nat):Int)else((W9 a b:Nat):Int))
def Zay(a:YF)(b:Int):Bool:=
  (bif bif decide (((W9 a b:Nat):Int)<((a.n1:Nat):Int))then X3 (a.3 (zi ((W9 a b:Nat):Int))).f0 b==(0:Int)else za then ZbZ
  (Z5 (zf (zn za .i64 a.f0) (zf (zl za 2 a.n1 λj=>ZE za (a.3 j)) zh)))==(0:Int)else za)
theorem Zsj(a:YF)(b:Int)(h0:a.n1<=1000):Zi P 164 (.cons (.agg (VE za a)) (.cons (.int za .i64 b) .nil)) (.tup (.cons (.int za zq (K8 a b)) (.cons (.bool za (Zay a b)) .nil))):=
 Xp (ZC hm hn (l:=[Zcv,JO]) ⟨Zkx,ZaJ,trivial⟩ (ls:=[ZeU a b]) ⟨ZnE a b h0,trivial⟩ ze) 400 (Has.of hn Tryz.func164 rfl) (Zsk a b) (Tree.Pre.mk (by refine⟨?_,⟨?_,⟨?_,trivial⟩⟩⟩;all_goals(first|exact bTimer_fit a b|(((repeat'(first|exact rfl|exact λ_=>⟨rfl,rfl⟩|apply zB|intro _));all_goals(try simp only[decide_eq_true_eq,decide_eq_false_iff_not]at*);all_goals omega))))) (by kernel_rfl) (by kernel_rfl)
def Zh7:Con:=Yh 164 (λx=>(.cons (.agg (VE za (Z5 x.hd.inner))) (.cons (.int za .i64 x.tl.hd.toInt) .nil))) (λx=>(.tup (.cons (.int za zq (K8 (Z5 x.hd.inner) x.tl.hd.toInt)) (.cons (.bool za (Zay (Z5 x.hd.inner) x.tl.hd.toInt)) .nil)))) (λx=>(Z5 x.hd.inner).n1<=1000)
theorem Zof:Zh7.Ok P:=Yi (λx h=>Zsj _ _ h)
theorem ZmX(d:YF)(b:Int):0<=K8 d b/\K8 d b<=d.n1/\(Zay d b=ze->K8 d b<d.n1):=by
 have h:W9 d b<=d.n1:=Zcm _ _ _ (Nat.zero_le _)
 have e:K8 d b=(W9 d b:Int):=by
  unfold K8
  generalize(bif decide (((W9 d b:Nat):Int)<((YF.n1 d:Nat):Int))then X3 (JK.f0 (d.r1 (zi ((W9 d b:Nat):Int)))) b==(0:Int)else za)=c
  cases c<;>cases decide (((W9 d b:Nat):Int)<((YF.n1 d:Nat):Int))<;>rfl
 rw[e]
 refine⟨by omega,by omega,λh1=>?_⟩
 unfold Zay at h1
 cases hc:decide (((W9 d b:Nat):Int)<((YF.n1 d:Nat):Int))with
 |true=>exact of_decide_eq_true hc
 |false=>rw[hc]at h1;cases h1
def wlAt_T(a:YF)(b:Int):Tree V:=
 let q0:=(ci a.f0 (zf (zl za 2 a.n1 λj=>ZE za (a.3 j)) zh))
 zw (zf (zH q0) (ci b zh)=zf (zH q0) (ci b zh)/\a.n1<=(1000:Nat)) (zD (bif !Zay (Z5 q0) b then ze else za) (zx (V.tup (zf (zn ze .i64 (0:Int)) (zf (zC ze za) zh)))) (zw ((0:Int)<=K8 (Z5 q0) b/\K8 (Z5 q0) b<((a.n1:Nat):Int)) (zx (V.tup (ci (a.3 (zi (K8 (Z5 q0) b))).f1 (zf (zC ze ze) zh))))))
theorem wlAt_tree(a:YF)(b:Int):ZU (Zp P [Zh7] [] ze) 400 104 (.cons (.agg (VE za a)) (.cons (.int za .i64 b) .nil))=wlAt_T a b:=by kernel_rfl
def Zhv(a:YF)(b:Int):Int:=
  (bif bif !Zay (Z5 (zf (zn za .i64 a.f0) (zf (zl za 2 a.n1 λj=>ZE za (a.3 j)) zh))) b then ze else za then(0:Int)
  else(a.3 (zi (K8 (Z5 (zf (zn za .i64 a.f0) (zf (zl za 2 a.n1 λj=>ZE za (a.3 j)) zh))) b))).f1)
def Ym(a:YF)(b:Int):Bool:=
  (bif bif !Zay (Z5 (zf (zn za .i64 a.f0) (zf (zl za 2 a.n1 λj=>ZE za (a.3 j)) zh))) b then ze else za then za else
  ze)
theorem Zsg(a:YF)(b:Int)(h0:a.n1<=1000):Zi P 104 (.cons (.agg (VE za a)) (.cons (.int za .i64 b) .nil)) (.tup (.cons (.int za zq (Zhv a b)) (.cons (.bool za (Ym a b)) .nil))):=
 Xp (ZC hm hn (l:=[Zh7]) ⟨Zof,trivial⟩ (ls:=[]) trivial ze) 400 (Has.of hn Tryz.func104 rfl) (wlAt_tree a b) (Tree.Pre.mk (by refine⟨?_,⟨λ_=>trivial,λ_=>⟨?_,trivial⟩⟩⟩;all_goals(((repeat'(first|exact rfl|exact λ_=>⟨rfl,rfl⟩|apply zB|intro _));all_goals(try simp only[decide_eq_true_eq,decide_eq_false_iff_not]at*);all_goals(first|omega|exact(ZmX _ _).1|exact(ZmX _ _).2.2 (nf ‹_›)))))) (by kernel_rfl) (by kernel_rfl)
def Zcu:Con:=Yh 104 (λx=>(.cons (.agg (VE za (Z5 x.hd.inner))) (.cons (.int za .i64 x.tl.hd.toInt) .nil))) (λx=>(.tup (.cons (.int za zq (Zhv (Z5 x.hd.inner) x.tl.hd.toInt)) (.cons (.bool za (Ym (Z5 x.hd.inner) x.tl.hd.toInt)) .nil)))) (λx=>(Z5 x.hd.inner).n1<=1000)
theorem Zkw:Zcu.Ok P:=Yi (λx h=>Zsg _ _ h)
abbrev ZeB(n:Nat)(r:Nat->YZ)(x:Int)(i j:Int):V:=(.cons (.rsl za 3 n (λj=>Zx za (r j))) (.cons (.int za .i64 x) (.cons (.fn (.func 163) .nil .nil) (.cons (.int ze .i64 0) (.cons (.bool ze za) (.cons (.int za .i64 ((n:Nat):Int)) (.cons (.int za .i64 i) (.cons (.int za .i64 j) .nil))))))))
abbrev ZeC(n:Nat)(r:Nat->YZ)(x:Int):List Blk:=[]
def bAlarm_T(n:Nat)(r:Nat->YZ)(x:Int)(i j:Int):Tree (Ex×Bool×V×List Blk):=
 let q0:=zl za 3 n λj=>Zx za (r j)
 let q8:=V.fn (Fn.func (163:FuncId)) zh zh
 let q9:=vi (n:Int)
 let q10:=zn ze .i64 (0:Int)
 let q11:=vi x
 zD (decide (i<j)) (zw ((0:Int)<=half i j/\half i j<(n:Int)) (zD (decide (zy .i64 ((r (zi (half i j))).f0-x)<(0:Int))) (zx (Ex.normal,ze,zf q0 (zf q11 (zf q8 (zf q10 (zf (zC ze za) (zf q9 (ci (zy .i64 (half i j+(1:Int))) (ci j zh))))))),[])) (zx (Ex.normal,ze,zf q0 (zf q11 (zf q8 (zf q10 (zf (zC ze za) (zf q9 (ci i (ci (half i j) zh))))))),[])))) (zx (Ex.exit 0,ze,zf q0 (zf q11 (zf q8 (zf q10 (zf (zC ze za) (zf q9 (ci i (ci j zh))))))),[]))
theorem Znt(B:Base)(n:Nat)(r:Nat->YZ)(x:Int)(i j:Int):((ev (ZN P [] [162]) 400 162 (JD P 162 3) B (YN 0 49 [0,1,2,6,7,8,9,10] [] (ZeB n r x i j) (ZeC n r x))).bind λx=>zx (x.1,vwN 0 0 49 [0,1,2,6,7,8,9,10] [] x.2))=bAlarm_T n r x i j:=by kernel_rfl
def ZeA(n:Nat)(r:Nat->YZ)(x:Int)(k:Nat):Bool:=(λ(h:Int)=>decide (zy zq (YZ.f0 (r (zi (h)))-x)<(0:Int))) k
def Uj(n:Nat)(r:Nat->YZ)(x:Int):Nat:=XB (ZeA n r x) n 0 n
def Zez(n:Nat)(r:Nat->YZ)(x:Int):Lp:=⟨162,3,λ_ s=>match vwN 0 0 49 [0,1,2,6,7,8,9,10] [] s with
 |(ze,(.cons (.rsl _ 3 nt0 ft0) (.cons (.int _ .i64 tx) (.cons (.fn (.func 163) .nil .nil) (.cons (.int _ .i64 t3) (.cons (.bool _ t4) (.cons (.int _ .i64 t5) (.cons (.int _ .i64 t6) (.cons (.int _ .i64 t7) .nil)))))))),[])=>bif zo s.n 0 then .need (n=nt0/\(λj=>Zx za (r j))=ft0/\x=tx/\0=t3/\za=t4/\((n:Nat):Int)=t5/\0=t6/\((n:Nat):Int)=t7)
  (.leaf (.exit 0,YN 0 49 [0,1,2,6,7,8,9,10] [] (ZeB n r x ((Uj n r x:Nat):Int) ((Uj n r x:Nat):Int)) (ZeC n r x)))else .stuck
 |_=>.stuck⟩
theorem Zns(n:Nat)(r:Nat->YZ)(x:Int)(hl:n<=1000):(Zez n r x).Ok P:=by
 refine VU (by kernel_rfl) λhin B s Q hq=>?_
 simp only[Zez]at hq hin⊢
 split at hq
 ·rename_i q1 nt0 ft0 q2 tx q3 t3 q4 t4 q5 t5 q6 t6 q7 t7 heq
  cases hsn:zo s.n 0
  ·rw[hsn]at hq;exact hq.elim
  ·rw[hsn]at hq
   obtain⟨⟨rfl,rfl,rfl,rfl,rfl,rfl,rfl,rfl⟩,hq⟩:=hq
   have hsame:Qv 0 0 49 [0,1,2,6,7,8,9,10] [] s (ZeB n r x 0 ((n:Nat):Int)) (ZeC n r x):=by
    refine⟨by rw[heq],by rw[heq];exact Le.soft rfl,by rw[heq];exact trivial⟩
   refine Zbp (k:=400) (f:=162) (YJ hm hn (l:=[]) trivial) rfl hin (ZeA n r x) n (λi j=>ZeB n r x i j) (ZeC n r x) Q (λi j=>Znt B n r x i j) (λi j hij hjn=>?_) hq (zP hsn) hsame
   refine⟨λhc=>?_,λhc=>?_⟩
   ·have hlt:i<j:=by have:=of_decide_eq_true hc;omega
    have hh:=Zbl (i:=i) (j:=j) (by omega)
    refine⟨by rw[hh];omega,λhb=>?_,λhb=>?_⟩
    ·rw[hh]at hb⊢
     rw[IntWalk.i64_in ((((i+j)/2:Nat):Int)+1) ⟨by omega,by omega⟩]
     exact⟨rfl,hlt,trivial,λ_=>Le.soft rfl,λhl=>Bool.noConfusion ((show ZeA n r x ((i+j)/2)=ze from hb).symm.trans hl)⟩
    ·rw[hh]at hb⊢
     exact⟨rfl,hlt,trivial,λhl=>Bool.noConfusion ((show ZeA n r x ((i+j)/2)=za from hb).symm.trans hl),λ_=>Le.soft rfl⟩
   ·have hge:¬(i:Int)<(j:Int):=λh=>by rw[decide_eq_true h]at hc;cases hc
    have e:i=j:=by omega
    subst e
    exact⟨rfl,rfl,trivial,Le.soft rfl,rfl⟩
 ·exact hq.elim
def vAtL_T(an:Nat)(a:Nat->YZ)(b:Int):Tree V:=
 let q0:=((Uj an a b:Nat):Int)
 zw (an=an/\((λj=>Zx za (a j))=λj=>Zx za (a j))/\b=b/\(0:Int)=(0:Int)/\za=za/\(an:Int)=(an:Int)/\(0:Int)=(0:Int)/\(an:Int)=(an:Int)) (zw (decide (q0<(an:Int))=ze->(0:Int)<=q0/\q0<(an:Int)) (zx (V.tup (ci (bif decide (q0<(an:Int))then q0 else q0) (zf (zC za (bif decide (q0<(an:Int))then zy .i64 ((a (zi q0)).f0-b)==(0:Int)else za)) zh)))))
theorem vAtL_tree(an:Nat)(a:Nat->YZ)(b:Int):ZU (Zp P [] [Zez an a b] ze) 400 103 (.cons (.rsl za 3 an λj=>Zx za (a j)) (.cons (.int za .i64 b) .nil))=vAtL_T an a b:=by kernel_rfl
def vAtL_r0(an:Nat)(a:Nat->YZ)(b:Int):Int:=
  (bif decide (((Uj an a b:Nat):Int)<(an:Int))then((Uj an a b:Nat):Int)else((Uj an a b:Nat):Int))
def Yw(an:Nat)(a:Nat->YZ)(b:Int):Bool:=
  (bif decide (((Uj an a b:Nat):Int)<(an:Int))then zy zq (YZ.f0 (a (zi ((Uj an a b:Nat):Int)))-b)==(0:Int)else
  za)
theorem ZrM(an:Nat)(a:Nat->YZ)(b:Int)(h0:an<=1000):Zi P 103 (.cons (.rsl za 3 an λj=>Zx za (a j)) (.cons (.int za .i64 b) .nil)) (.tup (.cons (.int za zq (vAtL_r0 an a b)) (.cons (.bool za (Yw an a b)) .nil))):=
 Xp (ZC hm hn (l:=[]) trivial (ls:=[Zez an a b]) ⟨Zns an a b h0,trivial⟩ ze) 400 (Has.of hn Tryz.func103 rfl) (vAtL_tree an a b) (Tree.Pre.mk (zB (by first|exact bAlarm_fit an a b|(((repeat'(first|exact rfl|exact λ_=>⟨rfl,rfl⟩|apply zB|intro _));all_goals(try simp only[decide_eq_true_eq,decide_eq_false_iff_not]at*);all_goals omega))) (zB (by first|exact bAlarm_fit an a b|(((repeat'(first|exact rfl|exact λ_=>⟨rfl,rfl⟩|apply zB|intro _));all_goals(try simp only[decide_eq_true_eq,decide_eq_false_iff_not]at*);all_goals omega))) yc))) (by kernel_rfl) (by kernel_rfl)
def c_vAtL:Con:=Yh 103 (λx=>(.cons (.rsl za 3 x.hd.Zy λj=>Zx za ((λj=>Ya (x.hd.ZB j)) j)) (.cons (.int za .i64 x.tl.hd.toInt) .nil))) (λx=>(.tup (.cons (.int za zq (vAtL_r0 x.hd.Zy (λj=>Ya (x.hd.ZB j)) x.tl.hd.toInt)) (.cons (.bool za (Yw x.hd.Zy (λj=>Ya (x.hd.ZB j)) x.tl.hd.toInt)) .nil)))) (λx=>x.hd.Zy<=1000)
theorem c_vAtL_ok:c_vAtL.Ok P:=Yi (λx h=>ZrM _ _ _ h)
def vCheck_T(a:Xt):Tree V:=
 let q0:=(ci a.f0 (zf (zl za 2 a.n1 λj=>ZE za (a.3 j)) zh))
 let q1:=(zl za 3 a.n2 λj=>Zx za (a.5 j))
 let q2:=(ci (10:Int) zh)
 let q3:=(ci (11:Int) zh)
 let q4:=(ci (12:Int) zh)
 let q5:=(ci (13:Int) zh)
 let q6:=(ci (14:Int) zh)
 let q7:=(ci (15:Int) zh)
 let q8:=(ci (1:Int) zh)
 let q9:=(ci (2:Int) zh)
 let q10:=(ci (3:Int) zh)
 let q11:=(ci (4:Int) zh)
 let q12:=(ci (5:Int) zh)
 let q13:=(ci (6:Int) zh)
 let q14:=(ci (7:Int) zh)
 let q15:=(ci (8:Int) zh)
 let q16:=(ci (9:Int) zh)
 let q17:=(zT (nat_lit 10+(1:Nat)))
 let q18:=(zT (nat_lit 11+(1:Nat)))
 let q19:=(zT (nat_lit 12+(1:Nat)))
 let q20:=(zT (nat_lit 13+(1:Nat)))
 let q21:=(zT (nat_lit 1+(1:Nat)))
 let q22:=(zT (nat_lit 2+(1:Nat)))
 let q23:=(zT (nat_lit 3+(1:Nat)))
 let q24:=(zT (nat_lit 4+(1:Nat)))
 let q25:=(zT (nat_lit 5+(1:Nat)))
 let q26:=(zT (nat_lit 6+(1:Nat)))
 let q27:=(zT (nat_lit 7+(1:Nat)))
 let q28:=(zT (nat_lit 8+(1:Nat)))
 let q29:=(zT (nat_lit 9+(1:Nat)))
 let q30:=(zx (zn ze .i64 (280:Int)))
 let q31:=(zT (nat_lit 14+(1:Nat)))
 zw (ZmR a) (zD (bif Zv (ZjG a) a.n2 then ze else za) q30 (zw (zf (zH q0) zh=zf (zH q0) zh/\a.n1<=(1000:Nat)) (zD (bif ZbZ (Z5 q0) != (0:Int)then ze else za) q30 (zw (((zf q1 q8=zf q1 q8/\a.n2<=(1000:Nat))/\zf (zH q0) (ci (0:Int) zh)=zf (zH q0) (ci (0:Int) zh)/\a.n1<=(1000:Nat))/\((bif bif !Ym (Z5 q0) (zT (0:Nat))==Yw a.n2 (λj=>Ya (Zx za (a.5 j))) (1:Int)then ze else za then ze else za)=za->((zf q1 q9=zf q1 q9/\a.n2<=(1000:Nat))/\zf (zH q0) q8=zf (zH q0) q8/\a.n1<=(1000:Nat))/\((bif bif !Ym (Z5 q0) (zT (nat_lit 0+(1:Nat)))==Yw a.n2 (λj=>Ya (Zx za (a.5 j))) q21 then ze else za then ze else za)=za->((zf q1 q10=zf q1 q10/\a.n2<=(1000:Nat))/\zf (zH q0) q9=zf (zH q0) q9/\a.n1<=(1000:Nat))/\((bif bif !Ym (Z5 q0) q21==Yw a.n2 (λj=>Ya (Zx za (a.5 j))) q22 then ze else za then ze else za)=za->((zf q1 q11=zf q1 q11/\a.n2<=(1000:Nat))/\zf (zH q0) q10=zf (zH q0) q10/\a.n1<=(1000:Nat))/\((bif bif !Ym (Z5 q0) q22==Yw a.n2 (λj=>Ya (Zx za (a.5 j))) q23 then ze else za then ze else za)=za->((zf q1 q12=zf q1 q12/\a.n2<=(1000:Nat))/\zf (zH q0) q11=zf (zH q0) q11/\a.n1<=(1000:Nat))/\((bif bif !Ym (Z5 q0) q23==Yw a.n2 (λj=>Ya (Zx za (a.5 j))) q24 then ze else za then ze else za)=za->((zf q1 q13=zf q1 q13/\a.n2<=(1000:Nat))/\zf (zH q0) q12=zf (zH q0) q12/\a.n1<=(1000:Nat))/\((bif bif !Ym (Z5 q0) q24==Yw a.n2 (λj=>Ya (Zx za (a.5 j))) q25 then ze else za then ze else za)=za->((zf q1 q14=zf q1 q14/\a.n2<=(1000:Nat))/\zf (zH q0) q13=zf (zH q0) q13/\a.n1<=(1000:Nat))/\((bif bif !Ym (Z5 q0) q25==Yw a.n2 (λj=>Ya (Zx za (a.5 j))) q26 then ze else za then ze else za)=za->((zf q1 q15=zf q1 q15/\a.n2<=(1000:Nat))/\zf (zH q0) q14=zf (zH q0) q14/\a.n1<=(1000:Nat))/\((bif bif !Ym (Z5 q0) q26==Yw a.n2 (λj=>Ya (Zx za (a.5 j))) q27 then ze else za then ze else za)=za->((zf q1 q16=zf q1 q16/\a.n2<=(1000:Nat))/\zf (zH q0) q15=zf (zH q0) q15/\a.n1<=(1000:Nat))/\((bif bif !Ym (Z5 q0) q27==Yw a.n2 (λj=>Ya (Zx za (a.5 j))) q28 then ze else za then ze else za)=za->((zf q1 q2=zf q1 q2/\a.n2<=(1000:Nat))/\zf (zH q0) q16=zf (zH q0) q16/\a.n1<=(1000:Nat))/\((bif bif !Ym (Z5 q0) q28==Yw a.n2 (λj=>Ya (Zx za (a.5 j))) q29 then ze else za then ze else za)=za->((zf q1 q3=zf q1 q3/\a.n2<=(1000:Nat))/\zf (zH q0) q2=zf (zH q0) q2/\a.n1<=(1000:Nat))/\((bif bif !Ym (Z5 q0) q29==Yw a.n2 (λj=>Ya (Zx za (a.5 j))) q17 then ze else za then ze else za)=za->((zf q1 q4=zf q1 q4/\a.n2<=(1000:Nat))/\zf (zH q0) q3=zf (zH q0) q3/\a.n1<=(1000:Nat))/\((bif bif !Ym (Z5 q0) q17==Yw a.n2 (λj=>Ya (Zx za (a.5 j))) q18 then ze else za then ze else za)=za->((zf q1 q5=zf q1 q5/\a.n2<=(1000:Nat))/\zf (zH q0) q4=zf (zH q0) q4/\a.n1<=(1000:Nat))/\((bif bif !Ym (Z5 q0) q18==Yw a.n2 (λj=>Ya (Zx za (a.5 j))) q19 then ze else za then ze else za)=za->((zf q1 q6=zf q1 q6/\a.n2<=(1000:Nat))/\zf (zH q0) q5=zf (zH q0) q5/\a.n1<=(1000:Nat))/\((bif bif !Ym (Z5 q0) q19==Yw a.n2 (λj=>Ya (Zx za (a.5 j))) q20 then ze else za then ze else za)=za->((zf q1 q7=zf q1 q7/\a.n2<=(1000:Nat))/\zf (zH q0) q6=zf (zH q0) q6/\a.n1<=(1000:Nat))/\((bif bif !Ym (Z5 q0) q20==Yw a.n2 (λj=>Ya (Zx za (a.5 j))) q31 then ze else za then ze else za)=za->(zf q1 (ci (16:Int) zh)=zf q1 (ci (16:Int) zh)/\a.n2<=(1000:Nat))/\zf (zH q0) q7=zf (zH q0) q7/\a.n1<=(1000:Nat))))))))))))))))) (zD (bif bif bif !Ym (Z5 q0) (zT (0:Nat))==Yw a.n2 (λj=>Ya (Zx za (a.5 j))) (1:Int)then ze else za then ze else za then ze else bif bif bif !Ym (Z5 q0) (zT (nat_lit 0+(1:Nat)))==Yw a.n2 (λj=>Ya (Zx za (a.5 j))) q21 then ze else za then ze else za then ze else bif bif bif !Ym (Z5 q0) q21==Yw a.n2 (λj=>Ya (Zx za (a.5 j))) q22 then ze else za then ze else za then ze else bif bif bif !Ym (Z5 q0) q22==Yw a.n2 (λj=>Ya (Zx za (a.5 j))) q23 then ze else za then ze else za then ze else bif bif bif !Ym (Z5 q0) q23==Yw a.n2 (λj=>Ya (Zx za (a.5 j))) q24 then ze else za then ze else za then ze else bif bif bif !Ym (Z5 q0) q24==Yw a.n2 (λj=>Ya (Zx za (a.5 j))) q25 then ze else za then ze else za then ze else bif bif bif !Ym (Z5 q0) q25==Yw a.n2 (λj=>Ya (Zx za (a.5 j))) q26 then ze else za then ze else za then ze else bif bif bif !Ym (Z5 q0) q26==Yw a.n2 (λj=>Ya (Zx za (a.5 j))) q27 then ze else za then ze else za then ze else bif bif bif !Ym (Z5 q0) q27==Yw a.n2 (λj=>Ya (Zx za (a.5 j))) q28 then ze else za then ze else za then ze else bif bif bif !Ym (Z5 q0) q28==Yw a.n2 (λj=>Ya (Zx za (a.5 j))) q29 then ze else za then ze else za then ze else bif bif bif !Ym (Z5 q0) q29==Yw a.n2 (λj=>Ya (Zx za (a.5 j))) q17 then ze else za then ze else za then ze else bif bif bif !Ym (Z5 q0) q17==Yw a.n2 (λj=>Ya (Zx za (a.5 j))) q18 then ze else za then ze else za then ze else bif bif bif !Ym (Z5 q0) q18==Yw a.n2 (λj=>Ya (Zx za (a.5 j))) q19 then ze else za then ze else za then ze else bif bif bif !Ym (Z5 q0) q19==Yw a.n2 (λj=>Ya (Zx za (a.5 j))) q20 then ze else za then ze else za then ze else bif bif bif !Ym (Z5 q0) q20==Yw a.n2 (λj=>Ya (Zx za (a.5 j))) q31 then ze else za then ze else za then ze else bif bif bif !Ym (Z5 q0) q31==Yw a.n2 (λj=>Ya (Zx za (a.5 j))) (zT (nat_lit 15+(1:Nat)))then ze else za then ze else za then ze else za) q30 (zx (zn ze .i64 (0:Int))))))))
theorem ZrO(a:Xt):ZU (Zp P [Zct,c_vAtL,Zcu,Zcv] [vc1_lp a] ze) 400 60 (.cons (.agg (ZaW za a)) .nil)=vCheck_T a:=by kernel_rfl
def Zas(a:Xt):Int:=
  (bif bif Zv (ZjG a) a.n2 then ze else za then(280:Int)else bif bif ZbZ (Z5 (zf (zn za .i64 a.f0) (zf (zl za 2 a.n1 λj=>
  ZE za (a.3 j)) zh))) != (0:Int)then ze else za then(280:Int)else bif bif bif bif !Ym (Z5 (zf (zn za .i64 a.f0) (zf (zl
  za 2 a.n1 λj=>ZE za (a.3 j)) zh))) (zT (0:Nat))==Yw a.n2 (λj=>Ya (Zx za (a.5 j))) (1:Int)then ze else za
  then ze else za then ze else bif bif bif !Ym (Z5 (zf (zn za .i64 a.f0) (zf (zl za 2 a.n1 λj=>ZE za (a.3 j)) zh)))
  (zT (nat_lit 0+(1:Nat)))==Yw a.n2 (λj=>Ya (Zx za (a.5 j))) (zT (nat_lit 1+(1:Nat)))then ze else za then ze else
  za then ze else bif bif bif !Ym (Z5 (zf (zn za .i64 a.f0) (zf (zl za 2 a.n1 λj=>ZE za (a.3 j)) zh))) (zT
  (nat_lit 1+(1:Nat)))==Yw a.n2 (λj=>Ya (Zx za (a.5 j))) (zT (nat_lit 2+(1:Nat)))then ze else za then ze else za then
  ze else bif bif bif !Ym (Z5 (zf (zn za .i64 a.f0) (zf (zl za 2 a.n1 λj=>ZE za (a.3 j)) zh))) (zT (nat_lit 2+(1 :
  Nat)))==Yw a.n2 (λj=>Ya (Zx za (a.5 j))) (zT (nat_lit 3+(1:Nat)))then ze else za then ze else za then ze else bif bif bif
  !Ym (Z5 (zf (zn za .i64 a.f0) (zf (zl za 2 a.n1 λj=>ZE za (a.3 j)) zh))) (zT (nat_lit 3+(1:Nat)))==Yw a.n2
  (λj=>Ya (Zx za (a.5 j))) (zT (nat_lit 4+(1:Nat)))then ze else za then ze else za then ze else bif bif bif !Ym (Z5
  (zf (zn za .i64 a.f0) (zf (zl za 2 a.n1 λj=>ZE za (a.3 j)) zh))) (zT (nat_lit 4+(1:Nat)))==Yw a.n2 (λj=>Ya
  (Zx za (a.5 j))) (zT (nat_lit 5+(1:Nat)))then ze else za then ze else za then ze else bif bif bif !Ym (Z5 (zf (zn za
  .i64 a.f0) (zf (zl za 2 a.n1 λj=>ZE za (a.3 j)) zh))) (zT (nat_lit 5+(1:Nat)))==Yw a.n2 (λj=>Ya (Zx za
  (a.5 j))) (zT (nat_lit 6+(1:Nat)))then ze else za then ze else za then ze else bif bif bif !Ym (Z5 (zf (zn za .i64 a.f0) (zf
  (zl za 2 a.n1 λj=>ZE za (a.3 j)) zh))) (zT (nat_lit 6+(1:Nat)))==Yw a.n2 (λj=>Ya (Zx za (a.5 j))) (zT
  (nat_lit 7+(1:Nat)))then ze else za then ze else za then ze else bif bif bif !Ym (Z5 (zf (zn za .i64 a.f0) (zf (zl za 2 a.n1
  λj=>ZE za (a.3 j)) zh))) (zT (nat_lit 7+(1:Nat)))==Yw a.n2 (λj=>Ya (Zx za (a.5 j))) (zT (nat_lit 8+(1 :
  Nat)))then ze else za then ze else za then ze else bif bif bif !Ym (Z5 (zf (zn za .i64 a.f0) (zf (zl za 2 a.n1 λj=>ZE
  za (a.3 j)) zh))) (zT (nat_lit 8+(1:Nat)))==Yw a.n2 (λj=>Ya (Zx za (a.5 j))) (zT (nat_lit 9+(1:Nat)))then ze else
  za then ze else za then ze else bif bif bif !Ym (Z5 (zf (zn za .i64 a.f0) (zf (zl za 2 a.n1 λj=>ZE za (a.3 j))
  zh))) (zT (nat_lit 9+(1:Nat)))==Yw a.n2 (λj=>Ya (Zx za (a.5 j))) (zT (nat_lit 10+(1:Nat)))then ze else za then
  ze else za then ze else bif bif bif !Ym (Z5 (zf (zn za .i64 a.f0) (zf (zl za 2 a.n1 λj=>ZE za (a.3 j)) zh)))
  (zT (nat_lit 10+(1:Nat)))==Yw a.n2 (λj=>Ya (Zx za (a.5 j))) (zT (nat_lit 11+(1:Nat)))then ze else za then ze else
  za then ze else bif bif bif !Ym (Z5 (zf (zn za .i64 a.f0) (zf (zl za 2 a.n1 λj=>ZE za (a.3 j)) zh))) (zT
  (nat_lit 11+(1:Nat)))==Yw a.n2 (λj=>Ya (Zx za (a.5 j))) (zT (nat_lit 12+(1:Nat)))then ze else za then ze else za then
  ze else bif bif bif !Ym (Z5 (zf (zn za .i64 a.f0) (zf (zl za 2 a.n1 λj=>ZE za (a.3 j)) zh))) (zT (nat_lit 12+(1 :
  Nat)))==Yw a.n2 (λj=>Ya (Zx za (a.5 j))) (zT (nat_lit 13+(1:Nat)))then ze else za then ze else za then ze else bif bif
  bif !Ym (Z5 (zf (zn za .i64 a.f0) (zf (zl za 2 a.n1 λj=>ZE za (a.3 j)) zh))) (zT (nat_lit 13+(1:Nat)))==Yw
  a.n2 (λj=>Ya (Zx za (a.5 j))) (zT (nat_lit 14+(1:Nat)))then ze else za then ze else za then ze else bif bif bif !Ym
  (Z5 (zf (zn za .i64 a.f0) (zf (zl za 2 a.n1 λj=>ZE za (a.3 j)) zh))) (zT (nat_lit 14+(1:Nat)))==Yw a.n2 (λj
  =>Ya (Zx za (a.5 j))) (zT (nat_lit 15+(1:Nat)))then ze else za then ze else za then ze else za then(280:Int)else(0:Int))
theorem ZrN(a:Xt)(h0:a.n1<=1000)(h1:a.n2<=1000):Zi P 60 (.cons (.agg (ZaW za a)) .nil) (.int za zq (Zas a)):=
 Xp (ZC hm hn (l:=[Zct,c_vAtL,Zcu,Zcv]) ⟨Zkq,c_vAtL_ok,Zkw,Zkx,trivial⟩ (ls:=[vc1_lp a]) ⟨vc1_lp_ok a h1,trivial⟩ ze) 400 (Has.of hn Tryz.func60 rfl) (ZrO a) (Tree.Pre.mk (by refine⟨?_,⟨λ_=>trivial,λ_=>⟨?_,⟨λ_=>trivial,λ_=>⟨?_,⟨λ_=>trivial,λ_=>trivial⟩⟩⟩⟩⟩⟩;all_goals(first|exact vc1_fit a|(((repeat'(first|exact rfl|exact λ_=>⟨rfl,rfl⟩|apply zB|intro _));all_goals(try simp only[decide_eq_true_eq,decide_eq_false_iff_not]at*);all_goals omega))))) (by kernel_rfl) (by kernel_rfl)
def ZaP:Con:=Yh 60 (λx=>(.cons (.agg (ZaW za (Qm x.hd.inner))) .nil)) (λx=>(.int za zq (Zas (Qm x.hd.inner)))) (λx=>(Qm x.hd.inner).n1<=1000/\(Qm x.hd.inner).n2<=1000)
theorem Zkr:ZaP.Ok P:=Yi (λx h=>ZrN _ h.1 h.2)
def vParts_T(d:Zf):Tree (V×List Blk):=
 let q0:=(Zhl (Ku (zf (zl za 2 d.a.n1 λj=>V.soft._f (ZR za (d.a.r1 j)) ⟨⟨V.soft._f (vi (d.a.r1 j).f0) zY,zY⟩,V.soft._f (ci (d.a.r1 j).f1 zh) ⟨⟨V.soft._f (vi (d.a.r1 j).f1) zY,zY⟩,V.soft._f zh zY,zY⟩,⟨V.soft._f (vi (d.a.r1 j).f1) zY,zY⟩,V.soft._f zh zY,zY⟩) zh)))
 let q1:=(Wo (Z0 (zf (zl za 1 d.a.n2 λj=>V.soft._f (zf (zn za .u32 (d.a.r2 j).f0) zh) ⟨⟨V.soft._f (zn za .u32 (d.a.r2 j).f0) zY,zY⟩,V.soft._f zh zY,zY⟩) zh)))
 let q2:=(zf (zl za 4 d.a.n3 λj=>Zr za (d.a.r3 j)) (zf (zl za 4 d.a.n4 λj=>Zn za (d.a.r4 j)) zh))
 let q3:=(ci d.a.f9 (zf (zl za 2 d.a.n10 λj=>ZE za (d.a.r10 j)) (zf (zl za 3 d.a.n11 λj=>Zx za (d.a.r11 j)) zh)))
 let q4:=(zf (zl za 2 d.a.n5 λj=>Zw za (d.a.r5 j)) zh)
 let q5:=(zf (zl za 5 d.a.n8 λj=>ZI za (d.a.r8 j)) zh)
 let q6:=(zH (zf (zl za 1 d.a.n2 λj=>zf (zn za .u32 (d.a.r2 j).f0) zh) zh))
 let q7:=(zH (zf (zl za 2 d.a.n1 λj=>ZR za (d.a.r1 j)) zh))
 let q8:=(d.a.f13<=(4611686018427387904:Int))
 let q9:=(d.a.f0<=(1125899906842624:Int))
 zw ((bif decide (d.a.f0>=(0:Int))then bif decide q9 then decide q8 else za else za)=ze->(zf q7 zh=zf q7 zh/\d.a.n1<=(9:Nat))/\((V.toInt q0==(0:Int))=ze->(zf q6 zh=zf q6 zh/\d.a.n2<=(5:Nat))/\((V.toInt q1==(0:Int))=ze->zf (zH q2) zh=zf (zH q2) zh/\d.a.n3<=(1000:Nat)/\d.a.n4<=(1000:Nat)))) (zw ((bif bif decide (d.a.f0>=(0:Int))then bif decide q9 then decide q8 else za else za then bif V.toInt q0==(0:Int)then bif V.toInt q1==(0:Int)then Wu (ZH q2)==(0:Int)else za else za else za)=ze->(zf (zH q4) zh=zf (zH q4) zh/\d.a.n5<=(1000:Nat)/\∀(j:Nat),(d.a.r5 j).n1<=(1000:Nat))/\((Wv (ZT q4)==(0:Int))=ze->(zf (zH q5) zh=zf (zH q5) zh/\d.a.n8<=(1000:Nat))/\((GI (Zbg q5)==(0:Int))=ze->zf (zH q3) zh=zf (zH q3) zh/\d.a.n10<=(1000:Nat)/\d.a.n11<=(1000:Nat)))) (zx (zC za (bif bif bif decide (d.a.f0>=(0:Int))then bif decide q9 then decide q8 else za else za then bif V.toInt q0==(0:Int)then bif V.toInt q1==(0:Int)then Wu (ZH q2)==(0:Int)else za else za else za then bif Wv (ZT q4)==(0:Int)then bif GI (Zbg q5)==(0:Int)then Zas (Qm q3)==(0:Int)else za else za else za),[zN (YB d.a),Blk.Zm (MK.int .i64) za (λk=>(d.2 (Zb k),vi (d.3 (Zb k)))) zm,Blk.Zm (MK.int .i64) za (λk=>(d.4 (Zb k),vi (d.5 (Zb k)))) zm,Blk.Zm (MK.int .i64) za (λk=>(d.6 (Zb k),vi (d.7 (Zb k)))) zm])))
theorem ZrX(d:Zf):evH (Zp P [Jc,WG,Ve,Ja,Zfi,ZaP] [] ze) 400 35 (.cons (.ptr ze 0 0 0 0) .nil) (YA d)=vParts_T d:=by kernel_rfl
def Uc(d:Zf):Bool:=
  (bif bif bif decide (d.a.f0>=(0:Int))then bif decide (d.a.f0<=(1125899906842624:Int))then decide (d.a.f13<=(4611686018427387904:Int))else za else za then bif
  V.toInt (Zhl (Ku (zf (zl za 2 d.a.n1 λj=>V.soft._f (ZR za (d.a.r1 j)) ⟨⟨V.soft._f (zn za .i64 (d.a.r1 j).f0) zY,zY⟩,
  V.soft._f (zf (zn za .i64 (d.a.r1 j).f1) zh) ⟨⟨V.soft._f (zn za .i64 (d.a.r1 j).f1) zY,zY⟩,V.soft._f zh zY,zY⟩,
  ⟨V.soft._f (zn za .i64 (d.a.r1 j).f1) zY,zY⟩,V.soft._f zh zY,zY⟩) zh)))==(0:Int)then bif V.toInt (Wo (Z0
  (zf (zl za 1 d.a.n2 λj=>V.soft._f (zf (zn za .u32 (d.a.r2 j).f0) zh) ⟨⟨V.soft._f (zn za .u32 (d.a.r2 j).f0) zY,zY⟩,V.soft._f
  zh zY,zY⟩) zh)))==(0:Int)then Wu (ZH (zf (zl za 4 d.a.n3 λj=>Zr za (d.a.r3 j)) (zf (zl za 4
  d.a.n4 λj=>Zn za (d.a.r4 j)) zh)))==(0:Int)else za else za else za then bif Wv (ZT (zf (zl za 2 d.a.n5 λj=>
  Zw za (d.a.r5 j)) zh))==(0:Int)then bif GI (Zbg (zf (zl za 5 d.a.n8 λj=>ZI za (d.a.r8 j)) zh))==(0:Int)then
  Zas (Qm (zf (zn za .i64 d.a.f9) (zf (zl za 2 d.a.n10 λj=>ZE za (d.a.r10 j)) (zf (zl za 3 d.a.n11 λj=>
  Zx za (d.a.r11 j)) zh))))==(0:Int)else za else za else za)
theorem vParts_at(d:Zf)(h0:d.a.n1<=9)(h1:d.a.n2<=5)(h2:d.a.n3<=1000)(h3:d.a.n4<=1000)(h4:d.a.n5<=1000)(h5:d.a.n8<=1000)(h6:d.a.n10<=1000)(h7:d.a.n11<=1000)(h8:∀j,(d.a.r5 j).n1<=1000):YG P 35 (.cons (.ptr ze 0 0 0 0) .nil) (YA d) (.leaf (.bool za (Uc d),YA d)):=by
 refine G8 (E:=(Zp P [Jc,WG,Ve,Ja,Zfi,ZaP] [] ze)) (ZC hm hn (l:=[Jc,WG,Ve,Ja,Zfi,ZaP]) ⟨Zkp,Zfr,Zfh,Zcq,Zn6,Zkr,trivial⟩ (ls:=[]) trivial ze) (ZrX d) (rfl) ⟨rfl,rfl⟩ ?_
 refine⟨?_,⟨?_,trivial⟩⟩
 all_goals((repeat'(first|exact rfl|exact λ_=>⟨rfl,rfl⟩|apply zB|intro _));all_goals(try simp only[decide_eq_true_eq,decide_eq_false_iff_not]at*);all_goals(first|omega|exact h8|exact h8 _))
def ZbV:HK:=λargs bl=>match args,bl with
 |(.cons (.ptr ze 0 0 0 0) .nil),[.var c,.Zm (.int .i64) _ fo _,.Zm (.int .i64) _ fn _,.Zm (.int .i64) _ fh _]=>some (c.Jj λc=>.need (UZ c fo fn fh/\(λ(d:Zf)=>d.a.n1<=9/\d.a.n2<=5/\d.a.n3<=1000/\d.a.n4<=1000/\d.a.n5<=1000/\d.a.n8<=1000/\d.a.n10<=1000/\d.a.n11<=1000/\∀j,(d.a.r5 j).n1<=1000) (XF c fo fn fh)) (.leaf (.bool za (Uc (XF c fo fn fh)),YA (XF c fo fn fh))))
 |_,_=>zm
theorem vParts_ok:Xj P 35 ZbV:=by
 intro args bl T hT
 unfold ZbV at hT
 split at hT
 ·rename_i c q1 fo q2 q3 fn q4 q5 fh q6
  injection hT with hT
  subst hT
  intro base mm F w xs Q KK h1 h2 hq hk
  simp only[V.JU]at hq
  obtain⟨hp,hq⟩:=hq
  exact YG.le (bl:=[.var c,.Zm (.int .i64) q1 fo q2,.Zm (.int .i64) q3 fn q4,.Zm (.int .i64) q5 fh q6]) (vParts_at (XF c fo fn fh) hp.2.1 hp.2.2.1 hp.2.2.2.1 hp.2.2.2.2.1 hp.2.2.2.2.2.1 hp.2.2.2.2.2.2.1 hp.2.2.2.2.2.2.2.1 hp.2.2.2.2.2.2.2.2.1 hp.2.2.2.2.2.2.2.2.2) rfl (λb=>Zaw hp.1 b) base mm F w xs Q KK h1 h2 hq hk
 ·cases hT
def WA(a:Zg):V:=(Yd (ZN P [WG] []) (Yf [WG]) 400 12 (.cons (.agg (Y7 ze a)) .nil)).join
theorem pCpus_p0(a:Zg):(Xl 6 λc=>(Yd (ZN P [WG] []) (Yf [WG]) 400 12 (.cons (.agg (Y7 ze { a with n0:=(0+c) })) .nil)).total&&((Yd (ZN P [WG] []) (Yf [WG]) 400 12 (.cons (.agg (Y7 ze { a with n0:=(0+c) })) .nil)).Y1&&Xe (.int za .u32 0) (Yd (ZN P [WG] []) (Yf [WG]) 400 12 (.cons (.agg (Y7 ze { a with n0:=(0+c) })) .nil)).join))=ze:=by kernel_rfl
theorem ZqW(a:Zg)(h0:a.n0<=5):Zi P 12 (.cons (.agg (Y7 ze a)) .nil) (YM (.int za .u32 0) (WA a)):=by
 have key:∀c,c<6->Zi P 12 (.cons (.agg (Y7 ze { a with n0:=c })) .nil) (YM (.int za .u32 0) (Yd (ZN P [WG] []) (Yf [WG]) 400 12 (.cons (.agg (Y7 ze { a with n0:=c })) .nil)).join):=λc hc=>by
  exact Kz 0 6 XK (YJ hm hn (l:=[WG]) ⟨Zfr,trivial⟩) rfl 400 (.int za .u32 0) (args:=λc=>(.cons (.agg (Y7 ze { a with n0:=c })) .nil)) (Has.of hn Tryz.func12 rfl) (pCpus_p0 a) (by omega) (by omega)
 have hc:=key (a.n0) (by omega)
 exact hc
def ZaN:Con:=QA 12 (.cons (.agg ZgV) .nil) (λx=>zK (Z0 x.hd.inner).n0 5) (λx=>YM (.int za .u32 0) (WA (Z0 x.hd.inner))) (λx=>(.cons (.agg (Y7 ze (Z0 x.hd.inner))) .nil)) (λx=>(Z0 x.hd.inner).n0<=5)
theorem Zkl:ZaN.Ok P:=Jf (λ_=>rfl) (λx h=>by simp only[zM,Nat.ble_eq]at h⊢;omega) (λx h=>ZqW _ h)
def ZdW(a:Ud):V:=(Yd (ZN P [Jc] []) (Yf [Jc]) 400 13 (.cons (.agg (Qj ze a)) .nil)).join
theorem tAll_p0(a:Ud):(Xl 10 λc=>(Yd (ZN P [Jc] []) (Yf [Jc]) 400 13 (.cons (.agg (Qj ze { a with n0:=(0+c) })) .nil)).total&&((Yd (ZN P [Jc] []) (Yf [Jc]) 400 13 (.cons (.agg (Qj ze { a with n0:=(0+c) })) .nil)).Y1&&Xe (.int za .u32 0) (Yd (ZN P [Jc] []) (Yf [Jc]) 400 13 (.cons (.agg (Qj ze { a with n0:=(0+c) })) .nil)).join))=ze:=by kernel_rfl
theorem ZrG(a:Ud)(h0:a.n0<=9):Zi P 13 (.cons (.agg (Qj ze a)) .nil) (YM (.int za .u32 0) (ZdW a)):=by
 have key:∀c,c<10->Zi P 13 (.cons (.agg (Qj ze { a with n0:=c })) .nil) (YM (.int za .u32 0) (Yd (ZN P [Jc] []) (Yf [Jc]) 400 13 (.cons (.agg (Qj ze { a with n0:=c })) .nil)).join):=λc hc=>by
  exact Kz 0 10 XK (YJ hm hn (l:=[Jc]) ⟨Zkp,trivial⟩) rfl 400 (.int za .u32 0) (args:=λc=>(.cons (.agg (Qj ze { a with n0:=c })) .nil)) (Has.of hn Tryz.func13 rfl) (tAll_p0 a) (by omega) (by omega)
 have hc:=key (a.n0) (by omega)
 exact hc
def ZaO:Con:=QA 13 (.cons (.agg Zml) .nil) (λx=>zK (Ku x.hd.inner).n0 9) (λx=>YM (.int za .u32 0) (ZdW (Ku x.hd.inner))) (λx=>(.cons (.agg (Qj ze (Ku x.hd.inner))) .nil)) (λx=>(Ku x.hd.inner).n0<=9)
theorem Zko:ZaO.Ok P:=Jf (λ_=>rfl) (λx h=>by simp only[zM,Nat.ble_eq]at h⊢;omega) (λx h=>ZrG _ h)
abbrev Zc8(d:Zf)(i:Int)(z:Unit):V:=(.cons (.ptr ze 4 0 0 0) (.cons (.bool ze za) (.cons (.rsl za 4 (Za.n3 (Zf.a d)) (λj=>Zr za ((Zf.a d).r3 j))) (.cons (.int za .i64 (((Za.n3 (Zf.a d)):Nat):Int)) (.cons (.int za .i64 i) .nil)))))
abbrev Zc9(d:Zf)(i:Int)(z:Unit):List Blk:=[.var (YB d.a),mO d,mN d,mH d,.var (.cons (.ptr ze 0 0 0 0) .nil)]
def gr1_R(d:Zf)(i:Int)(z:Unit):Tree Rd:=
 let q2:=(zl za 4 d.a.n3 λjj=>Zr za (d.a.r3 jj))
 let q1:=[zN (YB d.a),mO d,mN d,mH d,zN (zf (pt 0) zh)]
 let q0:=(zx (Ex.ret,ze,zf (pt 4) (zf (zC ze za) (zf q2 (ci ((d.a.n3:Nat):Int) (ci i zh)))),q1))
 zw ((0:Int)<=i/\i<((d.a.n3:Nat):Int)) (zD (decide ((d.a.r3 (zi i)).f3>=((d.a.n2:Nat):Int))) q0 (zw ((0:Int)<=i/\i<((d.a.n7:Nat):Int)) (zD ((bif bif bif bif bif bif bif decide ((d.a.r7 (zi i)).f0<(0:Int))then ze else decide ((d.a.r7 (zi i)).f0>(800:Int))then ze else za then ze else za then ze else za then ze else bif bif bif bif bif decide ((d.a.r7 (zi i)).f1<(-8000000000:Int))then ze else decide ((d.a.r7 (zi i)).f1>zy .i64 ((d.a.r7 (zi i)).f0*(100000000:Int)))then ze else za then ze else za then ze else za then ze else bif (d.a.r7 (zi i)).f0==(0:Int)then !((d.a.r7 (zi i)).f0==(0:Int)&&((d.a.r7 (zi i)).f1==(0:Int)&&ze))else za then ze else za then(210:Int)else(0:Int)) != (0:Int)) q0 (zw ((0:Int)<=i/\i<((d.a.n7:Nat):Int)) (zD (bif (d.a.r7 (zi i)).f0 != (d.a.r3 (zi i)).f2 then ze else za) q0 (zx (Ex.normal,ze,zf (pt 4) (zf (zC ze za) (zf q2 (ci ((d.a.n3:Nat):Int) (ci (zy .i64 (i+(1:Int))) zh)))),q1)))))))
theorem gr1_round(d:Zf):Yo P (Zp P [ZaN,ZaO,ZaH] [] ze) 36 4 34 34 92 [1,2,39,40,41] [(0,.own),(1,.own),(2,.own),(3,.own),(4,.own)] [] (Zc8 d) (Zc9 d) (λi=>(bif decide (i<((d.a.n3:Nat):Int))then za else ze)) (.exit 0) (gr1_R d):=λB i z=>by kernel_rfl
def JW(d:Zf)(k:Nat):Bool:=(λ(i:Int)(z:Unit)=>(bif decide ((d.a.r3 (zi i)).f3>=((d.a.n2:Nat):Int))then ze else(bif (bif bif bif bif bif bif bif decide ((d.a.r7 (zi i)).f0<(0:Int))then ze else decide ((d.a.r7 (zi i)).f0>(800:Int))then ze else za then ze else za then ze else za then ze else bif bif bif bif bif decide ((d.a.r7 (zi i)).f1<(-8000000000:Int))then ze else decide ((d.a.r7 (zi i)).f1>zy .i64 ((d.a.r7 (zi i)).f0*(100000000:Int)))then ze else za then ze else za then ze else za then ze else bif (d.a.r7 (zi i)).f0==(0:Int)then !((d.a.r7 (zi i)).f0==(0:Int)&&((d.a.r7 (zi i)).f1==(0:Int)&&ze))else za then ze else za then(210:Int)else(0:Int)) != (0:Int)then ze else(bif bif (d.a.r7 (zi i)).f0 != (d.a.r3 (zi i)).f2 then ze else za then ze else za)))) k ()
abbrev gr1_ets(d:Zf)(i:Int)(z:Unit):V:=(.cons (zV ze 4 0 0 0) (.cons (zC ze za) (.cons (zl za 4 d.a.n3 λjj=>Zr za (d.a.r3 jj)) (.cons (zn za .i64 ((d.a.n3:Nat):Int)) (.cons .junk .nil)))))
def Zf7(d:Zf):Lp:=lpL 36 4 34 34 92 [1,2,39,40,41] [(0,.own),(1,.own),(2,.own),(3,.own),(4,.own)] [] (Zc8 d) (Zc9 d) (.exit 0) .ret () (λ_=>()) (JW d) (Za.n3 (Zf.a d)) (gr1_ets d) (Zc9 d)
def gr1_need(d:Zf):Prop:=YW 34 [] (Zc8 d) (Zc9 d) () (Zc8 d (0:Nat) ()) (Zc9 d (0:Nat) ())
theorem gr1_fit(d:Zf):gr1_need d:=⟨rfl,⟨rfl,⟨rfl,λ_=>⟨rfl,rfl⟩⟩,⟨rfl,λ_=>⟨rfl,rfl⟩⟩,⟨rfl,λ_=>⟨rfl,rfl⟩⟩,rfl,trivial⟩⟩
theorem gr1_lp_ok(d:Zf)(hl:d.a.n3<=1000)(h1:d.a.n1<=9)(h2:d.a.n2<=5)(hb:d.a.n7=d.a.n3):(Zf7 d).Ok P:=by
 refine Xg (ZC hm hn (l:=[ZaN,ZaO,ZaH]) ⟨Zkl,Zko,Zkb,trivial⟩ (ls:=[]) trivial ze) rfl (by kernel_rfl) (gr1_round d) exN YK (λ_=>rfl) (step:=λ_ z=>z) (rd:=(λ_ t y=>())) (λi z=>rfl) (λi=>(cC rfl (cC rfl (cC rfl rfl)))) rfl (λi hlt hg=>?_) (λi z hi=>?_)
 ·have hltI:(i:Int)<(((Za.n3 (Zf.a d)):Nat):Int):=by omega
  refine⟨?_,⟨λhb0=>trivial,λhb0=>⟨?_,⟨λhb1=>trivial,λhb1=>⟨?_,⟨λhb2=>trivial,λhb2=>trivial⟩⟩⟩⟩⟩⟩
  all_goals(repeat'(first|exact rfl|exact λ_=>⟨rfl,rfl⟩|apply zB|intro _))
  all_goals(try simp only[decide_eq_true_eq,decide_eq_false_iff_not,yj,yu]at*)
  all_goals(try simp(disch:=omega) only[IntWalk.i64_in])
  all_goals(first|omega)
 ·have hw:=(IntWalk.i64_in ((i:Int)+1) ⟨by omega,by omega⟩)
  refine⟨?_,⟨?_,⟨?_,?_⟩⟩⟩
  all_goals(first|exact⟨rfl,YL (ts:=Zc8 d) (a:=()) hw rfl,Yg _⟩|exact⟨rfl,rfl,(by repeat'(first|exact Le.refl _|exact Le.junk _ rfl|apply Le.cons)),Yg _⟩)
abbrev Zda(d:Zf)(i:Int)(z:Unit):V:=(.cons (.rsl za 4 (Za.n4 (Zf.a d)) (λj=>Zn za ((Zf.a d).r4 j))) (.cons (.fn (Fn.func (63:Nat)) .nil (.cons (.ptr ze (4:Nat) (0:Nat) (0:Nat) (0:Nat)) .nil)) (.cons (.int ze .i64 0) (.cons (.int za .i64 (((Za.n4 (Zf.a d)):Nat):Int)) (.cons (.int za .i64 i) .nil)))))
abbrev Zdb(d:Zf)(i:Int)(z:Unit):List Blk:=[.var (YB d.a),mO d,mN d,mH d,.var (.cons (.ptr ze 0 0 0 0) .nil)]
def gr2_R(d:Zf)(i:Int)(z:Unit):Tree Rd:=
 let q0:=(zf (zl za 4 d.a.n3 λj=>Zr za (d.a.r3 j)) (zf (zl za 4 d.a.n4 λj=>Zn za (d.a.r4 j)) zh))
 let q1:=(bif d.6 (d.a.r4 (zi i)).f0 then d.7 (d.a.r4 (zi i)).f0 else(0:Int))
 let q2:=[zN (YB d.a),mO d,mN d,mH d,zN (zf (pt 0) zh)]
 let q3:=(V.fn (Fn.func (63:Nat)) zh (zf (pt 4) zh))
 let q4:=(zl za 4 d.a.n4 λjj=>Zn za (d.a.r4 jj))
 let q5:=(ci (d.a.r4 (zi i)).f0 zh)
 zw (((0:Int)<=i/\i<((d.a.n4:Nat):Int))/\(zf (zH q0) q5=zf (zH q0) q5/\d.a.n3<=(1000:Nat)/\d.a.n4<=(1000:Nat))/\(((0:Int)<=bif d.6 (d.a.r4 (zi i)).f0 then d.7 (d.a.r4 (zi i)).f0 else(0:Int))/\q1<((d.a.n3:Nat):Int))/\(0:Int)<=(d.a.r3 (zi q1)).f3/\(d.a.r3 (zi q1)).f3<((d.a.n2:Nat):Int)) (zD (bif bif zy .u32 ((BitVec.toNat (BitVec.ofInt (zR .u32) (X4 (ZH q0) (d.a.r4 (zi i)).f0)&&& BitVec.ofInt (zR .u32) (d.a.r2 (zi (d.a.r3 (zi q1)).f3)).f0):Nat):Int)==(0:Int)then ze else za then ze else za) (zx (Ex.ret,ze,zf q4 (zf q3 (ci i (ci ((d.a.n4:Nat):Int) (ci i zh)))),q2)) (zx (Ex.normal,ze,zf q4 (zf q3 (zf (zn ze .i64 (0:Int)) (ci ((d.a.n4:Nat):Int) (ci (zy .i64 (i+(1:Int))) zh)))),q2)))
theorem gr2_round(d:Zf):Yo P (Zp P [X9] [] ze) 109 2 34 34 19 [0,1,4,7,8] [(0,.own),(1,.own),(2,.own),(3,.own),(4,.own)] [] (Zda d) (Zdb d) (λi=>(bif decide (i<((d.a.n4:Nat):Int))then za else ze)) (.exit 0) (gr2_R d):=λB i z=>by kernel_rfl
def G7(d:Zf)(k:Nat):Bool:=(gr2_R d k ()).early
abbrev gr2_ets(d:Zf)(i:Int)(z:Unit):V:=(.cons (zl za 4 d.a.n4 λjj=>Zn za (d.a.r4 jj)) (.cons (V.fn (Fn.func (63:Nat)) zh (zf (zV ze 4 0 0 0) zh)) (.cons (zn za .i64 i) (.cons (zn za .i64 ((d.a.n4:Nat):Int)) (.cons .junk .nil)))))
def Zf8(d:Zf):Lp:=lpL 109 2 34 34 19 [0,1,4,7,8] [(0,.own),(1,.own),(2,.own),(3,.own),(4,.own)] [] (Zda d) (Zdb d) (.exit 0) .ret () (λ_=>()) (G7 d) (Za.n4 (Zf.a d)) (gr2_ets d) (Zdb d)
def gr2_need(d:Zf):Prop:=YW 34 [] (Zda d) (Zdb d) () (Zda d (0:Nat) ()) (Zdb d (0:Nat) ())
theorem gr2_fit(d:Zf):gr2_need d:=⟨rfl,⟨rfl,⟨rfl,λ_=>⟨rfl,rfl⟩⟩,⟨rfl,λ_=>⟨rfl,rfl⟩⟩,⟨rfl,λ_=>⟨rfl,rfl⟩⟩,rfl,trivial⟩⟩
theorem gr2_lp_ok(d:Zf)(hl:d.a.n4<=1000)(hl3:d.a.n3<=1000)(hH:0<d.a.n4->∀j:Int,0<=(bif d.hh j then d.hg j else 0)/\(bif d.hh j then d.hg j else 0)<d.a.n3)(hP:0<d.a.n4->∀j:Int,0<=(d.a.r3 (bif d.hh j then d.hg j else 0).toNat).f3/\(d.a.r3 (bif d.hh j then d.hg j else 0).toNat).f3<d.a.n2):(Zf8 d).Ok P:=by
 refine Xg (ZC hm hn (l:=[X9]) ⟨Vy,trivial⟩ (ls:=[]) trivial ze) rfl (by kernel_rfl) (gr2_round d) exN YK (λ_=>rfl) (step:=λ_ z=>z) (rd:=(λ_ t y=>())) (λi z=>rfl) (λi=>rfl) rfl (λi hlt hg=>?_) (λi z hi=>?_)
 ·have hltI:(i:Int)<(((Za.n4 (Zf.a d)):Nat):Int):=by omega
  refine⟨?_,⟨λhb0=>trivial,λhb0=>trivial⟩⟩
  all_goals(repeat'(first|exact rfl|exact λ_=>⟨rfl,rfl⟩|apply zB|intro _))
  all_goals(try simp only[decide_eq_true_eq,decide_eq_false_iff_not,yj,yu]at*)
  all_goals(try simp(disch:=omega) only[IntWalk.i64_in])
  all_goals(first|omega|exact(hH (by omega) _).1|exact(hH (by omega) _).2|exact(hP (by omega) _).1|exact(hP (by omega) _).2)
 ·have hw:=(IntWalk.i64_in ((i:Int)+1) ⟨by omega,by omega⟩)
  refine⟨?_,?_⟩
  all_goals(first|exact⟨rfl,YL (ts:=Zda d) (a:=()) hw rfl,Yg _⟩|exact⟨rfl,rfl,(by repeat'(first|exact Le.refl _|exact Le.junk _ rfl|apply Le.cons)),Yg _⟩)
def ZrS(d:Zf):Tree (V×List Blk):=
 let q8:=(zl za 2 d.a.n1 λj=>ZR za (d.a.r1 j))
 let q7:=(zl za 1 d.a.n2 λj=>zf (zn za .u32 (d.a.r2 j).f0) zh)
 let q11:=(zl za 4 d.a.n3 λj=>Zr za (d.a.r3 j))
 let q9:=(zl za 4 d.a.n4 λj=>Zn za (d.a.r4 j))
 let q0:=(zf q8 (zf q7 (zf q11 (zf q9 (zf (zl za 2 d.a.n5 λj=>Zw za (d.a.r5 j)) (zf (zl za 11 d.a.n6 λj=>Zo za (d.a.r6 j)) (zf (zl za 2 d.a.n7 λj=>ZO za (d.a.r7 j)) (zf (zl za 5 d.a.n8 λj=>ZI za (d.a.r8 j)) (ci d.a.f9 (zf (zl za 2 d.a.n10 λj=>ZE za (d.a.r10 j)) (zf (zl za 3 d.a.n11 λj=>Zx za (d.a.r11 j)) (zf (zl za 2 d.a.n12 λj=>Zt za (d.a.r12 j)) (zf (zn za .u64 d.a.f13) (zf (zZ 1) (zf (zZ 2) (zf (zZ 3) zh))))))))))))))))
 let q1:=[zN (YB d.a),Blk.Zm (MK.int .i64) za (λk=>(d.2 (Zb k),vi (d.3 (Zb k)))) zm,Blk.Zm (MK.int .i64) za (λk=>(d.4 (Zb k),vi (d.5 (Zb k)))) zm,Blk.Zm (MK.int .i64) za (λk=>(d.6 (Zb k),vi (d.7 (Zb k)))) zm]
 let q12:=(vi (0:Int))
 let q2:=(zf (V.fn (Fn.func (63:Nat)) zh (zf (zV za 4 0 0 0) zh)) (zf q12 (ci ((d.a.n4:Nat):Int) (zf q12 zh))))
 let q3:=(zf (zC za za) (zf q11 (ci ((d.a.n3:Nat):Int) (zf q12 zh))))
 let q4:=(zq=zq/\YR .i64 (λx=>(d.2 (Zb x),vi (d.3 (Zb x)))) λk=>(d.2 (Zb k),vi (d.3 (Zb k))))
 let q5:=(zq=zq/\YR .i64 (λx=>(d.4 (Zb x),vi (d.5 (Zb x)))) λk=>(d.4 (Zb k),vi (d.5 (Zb k))))
 let q6:=(zq=zq/\YR .i64 (λx=>(d.6 (Zb x),vi (d.7 (Zb x)))) λk=>(d.6 (Zb k),vi (d.7 (Zb k))))
 let q10:=(vi d.a.f0)
 zw ((zf (zH (zf q7 zh)) zh=zf (zH (zf q7 zh)) zh/\d.a.n2<=(5:Nat))/\zf (zH (zf q8 zh)) zh=zf (zH (zf q8 zh)) zh/\d.a.n1<=(9:Nat)) (zD (bif bif V.toInt (WA (Z0 (zf (zl za 1 d.a.n2 λj=>V.soft._f (zf (zn za .u32 (d.a.r2 j).f0) zh) ⟨⟨V.soft._f (zn za .u32 (d.a.r2 j).f0) zY,zY⟩,V.soft._f zh zY,zY⟩) zh))) != V.toInt (ZdW (Ku (zf (zl za 2 d.a.n1 λj=>V.soft._f (ZR za (d.a.r1 j)) ⟨⟨V.soft._f (vi (d.a.r1 j).f0) zY,zY⟩,V.soft._f (ci (d.a.r1 j).f1 zh) ⟨⟨V.soft._f (vi (d.a.r1 j).f1) zY,zY⟩,V.soft._f zh zY,zY⟩,⟨V.soft._f (vi (d.a.r1 j).f1) zY,zY⟩,V.soft._f zh zY,zY⟩) zh)))then ze else((d.a.n7:Nat):Int) != ((d.a.n3:Nat):Int)then ze else za) (zx (zC ze za,q1)) (zw (d.a.n7=d.a.n3/\zf (zV za 4 0 0 0) q3=zf (zV za 4 0 0 0) q3/\zf q10 q0=zf q10 q0/\q4/\q5/\q6/\zf (zV za 0 0 0 0) zh=zf (zV za 0 0 0 0) zh/\True) (zD (bif Zv (JW d) d.a.n3 then ze else za) (zx (zC ze za,q1)) (zw (Zv (JW d) d.a.n3=za/\zf q9 q2=zf q9 q2/\zf q10 q0=zf q10 q0/\q4/\q5/\q6/\zf (zV za 0 0 0 0) zh=zf (zV za 0 0 0 0) zh/\True) (zD (bif Zv (G7 d) d.a.n4 then ze else za) (zx (zC za za,q1)) (zx (zC ze ze,q1)))))))
theorem ZrV(d:Zf):evH (Zp P [ZaN,ZaO,ZaH,X9] [(Jm (d.a.n7=d.a.n3) (Zf7 d)),(Jm (Zv (JW d) d.a.n3=za) (Zf8 d))] ze) 400 36 (.cons (.ptr ze 0 0 0 0) .nil) (YA d)=ZrS d:=by kernel_rfl
def UW(d:Zf):Bool:=
  (bif bif bif V.toInt (WA (Z0 (zf (zl za 1 d.a.n2 λj=>V.soft._f (zf (zn za .u32 (d.a.r2 j).f0) zh) ⟨⟨V.soft._f (zn za .u32 (d.a.r2
  j).f0) zY,zY⟩,V.soft._f zh zY,zY⟩) zh))) != V.toInt (ZdW (Ku (zf (zl za 2 d.a.n1 λj=>V.soft._f (ZR
  za (d.a.r1 j)) ⟨⟨V.soft._f (zn za .i64 (d.a.r1 j).f0) zY,zY⟩,V.soft._f (zf (zn za .i64 (d.a.r1 j).f1) zh) ⟨⟨V.soft._f (zn za .i64
  (d.a.r1 j).f1) zY,zY⟩,V.soft._f zh zY,zY⟩,⟨V.soft._f (zn za .i64 (d.a.r1 j).f1) zY,zY⟩,V.soft._f zh
  zY,zY⟩) zh)))then ze else((d.a.n7:Nat):Int) != ((d.a.n3:Nat):Int)then ze else za then(za)else(bif bif Zv (JW d) d.a.n3 then
  ze else za then(za)else(bif bif Zv (G7 d) d.a.n4 then ze else za then(za)else(ze))))
theorem ZrT(d:Zf)(h0:d.a.n1<=9)(h1:d.a.n2<=5)(h2:d.a.n3<=1000)(h3:d.a.n4<=1000)(h4:0<d.a.n4->∀j:Int,0<=(bif d.hh j then d.hg j else 0)/\(bif d.hh j then d.hg j else 0)<d.a.n3)(h5:Zv (JW d) d.a.n3=za->0<d.a.n4->∀j:Int,0<=(d.a.r3 (bif d.hh j then d.hg j else 0).toNat).f3/\(d.a.r3 (bif d.hh j then d.hg j else 0).toNat).f3<d.a.n2):YG P 36 (.cons (.ptr ze 0 0 0 0) .nil) (YA d) (.leaf (.bool za (UW d),YA d)):=by
 refine G8 (E:=(Zp P [ZaN,ZaO,ZaH,X9] [(Jm (d.a.n7=d.a.n3) (Zf7 d)),(Jm (Zv (JW d) d.a.n3=za) (Zf8 d))] ze)) (ZC hm hn (l:=[ZaN,ZaO,ZaH,X9]) ⟨Zkl,Zko,Zkb,Vy,trivial⟩ (ls:=[(Jm (d.a.n7=d.a.n3) (Zf7 d)),(Jm (Zv (JW d) d.a.n3=za) (Zf8 d))]) ⟨Zdc λhg=>gr1_lp_ok d h2 h0 h1 hg,Zdc λhg=>gr2_lp_ok d h3 h2 h4 (h5 hg),trivial⟩ ze) (ZrV d) ((cC rfl (cC rfl (cC rfl rfl)))) ⟨⟨rfl,rfl⟩,⟨⟨rfl,rfl⟩,⟨⟨rfl,rfl⟩,⟨rfl,rfl⟩⟩⟩⟩ ?_
 refine⟨?_,⟨λhb0=>trivial,λhb0=>⟨?_,⟨λhb1=>trivial,λhb1=>⟨?_,⟨λhb2=>trivial,λhb2=>trivial⟩⟩⟩⟩⟩⟩
 all_goals((repeat'(first|exact gr1_fit d|exact gr2_fit d|exact rfl|exact λ_=>⟨rfl,rfl⟩|apply zB|intro _));all_goals(try simp only[decide_eq_true_eq,decide_eq_false_iff_not]at*);all_goals(first|omega|exact(by have h:=nf3 hb0;omega)|exact nf4 hb1|exact hb1|exact gr1_fit d|exact gr2_fit d))
def ZbT:HK:=λargs bl=>match args,bl with
 |(.cons (.ptr ze 0 0 0 0) .nil),[.var c,.Zm (.int .i64) _ fo _,.Zm (.int .i64) _ fn _,.Zm (.int .i64) _ fh _]=>some (c.Jj λc=>.need (UZ c fo fn fh/\(λ(d:Zf)=>d.a.n1<=9/\d.a.n2<=5/\d.a.n3<=1000/\d.a.n4<=1000/\(0<d.a.n4->∀j:Int,0<=(bif d.hh j then d.hg j else 0)/\(bif d.hh j then d.hg j else 0)<d.a.n3)/\(Zv (JW d) d.a.n3=za->0<d.a.n4->∀j:Int,0<=(d.a.r3 (bif d.hh j then d.hg j else 0).toNat).f3/\(d.a.r3 (bif d.hh j then d.hg j else 0).toNat).f3<d.a.n2)) (XF c fo fn fh)) (.leaf (.bool za (UW (XF c fo fn fh)),YA (XF c fo fn fh))))
 |_,_=>zm
theorem ZrU:Xj P 36 ZbT:=by
 intro args bl T hT
 unfold ZbT at hT
 split at hT
 ·rename_i c q1 fo q2 q3 fn q4 q5 fh q6
  injection hT with hT
  subst hT
  intro base mm F w xs Q KK h1 h2 hq hk
  simp only[V.JU]at hq
  obtain⟨hp,hq⟩:=hq
  exact YG.le (bl:=[.var c,.Zm (.int .i64) q1 fo q2,.Zm (.int .i64) q3 fn q4,.Zm (.int .i64) q5 fh q6]) (ZrT (XF c fo fn fh) hp.2.1 hp.2.2.1 hp.2.2.2.1 hp.2.2.2.2.1 hp.2.2.2.2.2.1 hp.2.2.2.2.2.2) rfl (λb=>Zaw hp.1 b) base mm F w xs Q KK h1 h2 hq hk
 ·cases hT
abbrev Zdz(d:Zf)(i:Int)(z:(Int->Bool)×(Int->Bool)):V:=(.cons (.rsl za 4 (Za.n4 (Zf.a d)) (λj=>Zn za ((Zf.a d).r4 j))) (.cons (.fn (Fn.func (66:Nat)) .nil (.cons (.ptr ze (6:Nat) (0:Nat) (0:Nat) (0:Nat)) (.cons (.ptr ze (4:Nat) (0:Nat) (0:Nat) (0:Nat)) .nil))) (.cons (.bool ze za) (.cons (.rsl za 11 (Za.n6 (Zf.a d)) (λj=>Zo za ((Zf.a d).r6 j))) (.cons (.int za .i64 (((Za.n6 (Zf.a d)):Nat):Int)) (.cons (.int za .i64 i) .nil))))))
abbrev ZgQ(d:Zf)(i:Int)(z:(Int->Bool)×(Int->Bool)):List Blk:=[.var (YB d.a),mO d,mN d,mH d,.var (.cons (.ptr ze 0 0 0 0) .nil),.Zm (.int .u64) za (λx=>(z.1 (Zb x),.bool za (z.2 (Zb x)))) zm,.var (.cons (.mp 5) .nil)]
def ow1_R(d:Zf)(i:Int)(z:(Int->Bool)×(Int->Bool)):Tree Rd:=
 let q5:=(zl za 4 d.a.n4 λjj=>Zn za (d.a.r4 jj))
 let q3:=(V.fn (Fn.func (66:Nat)) zh (zf (pt 6) (zf (pt 4) zh)))
 let q6:=(zl za 11 d.a.n6 λjj=>Zo za (d.a.r6 jj))
 let q2:=(zA .u64 (d.a.r6 (zi i)).f8)
 let q1:=[zN (YB d.a),mO d,mN d,mH d,zN (zf (pt 0) zh),Blk.Zm (MK.int .u64) za (λk=>(bif ZG k q2 then ze else z.1 (Zb k),zC za (bif ZG k q2 then ze else z.2 (Zb k)))) zm,zN (zf (zZ 5) zh)]
 let q0:=(zx (Ex.ret,ze,zf q5 (zf q3 (zf (zC ze za) (zf q6 (ci ((d.a.n6:Nat):Int) (ci i zh))))),q1))
 let q4:=(bif d.6 (d.a.r4 (zi i)).f0 then d.7 (d.a.r4 (zi i)).f0 else(0:Int))
 zw ((0:Int)<=i/\i<((d.a.n6:Nat):Int)) (zw ((0:Int)<=i/\i<((d.a.n4:Nat):Int)) (zD ((d.a.r6 (zi i)).f0==(d.a.r4 (zi i)).f0) (zD ((bif bif bif !bif decide ((d.a.r6 (zi i)).f1>=(0:Int))then bif decide ((d.a.r6 (zi i)).f1<=(3:Int))then bif decide ((d.a.r6 (zi i)).f2>=(0:Int))then bif decide ((d.a.r6 (zi i)).f2<=(15:Int))then bif decide ((d.a.r6 (zi i)).f4>=(0:Int))then decide ((d.a.r6 (zi i)).f4<=(1125899906842624:Int))else za else za else za else za else za then ze else !(bif (d.a.r6 (zi i)).f3 != (0:Int)then ze else(d.a.r6 (zi i)).f4 != (0:Int))==((d.a.r6 (zi i)).f1==(3:Int))then ze else za then(270:Int)else(0:Int))==(0:Int)) (zD ((bif bif bif bif bif !bif decide ((d.a.r6 (zi i)).f7>=(1:Int))then decide ((d.a.r6 (zi i)).f7<=(65535:Int))else za then ze else decide ((d.a.r6 (zi i)).f5>=(68719476736:Int))then ze else za then ze else za then ze else za then(150:Int)else(0:Int))==(0:Int)) (zD (!bif z.1 (Zb q2)then z.2 (Zb q2)else za) (zD (decide ((d.a.r6 (zi i)).f8<=d.a.f13)) (zw (((0:Int)<=bif d.6 (d.a.r4 (zi i)).f0 then d.7 (d.a.r4 (zi i)).f0 else(0:Int))/\q4<((d.a.n3:Nat):Int)) (zD ((d.a.r6 (zi i)).f7==zy .u64 (d.a.r3 (zi q4)).f1) (zD (decide ((d.a.r6 (zi i)).f9>=(0:Int))) (zD (bif !bif decide (zy .i64 ((d.a.r6 (zi i)).f9-(1000000:Int))<=d.a.f0)then bif decide ((d.a.r6 (zi i)).f10>=(0:Int))then decide ((d.a.r6 (zi i)).f10<=d.a.f0)else za else za then ze else za) q0 (zx (Ex.normal,ze,zf q5 (zf q3 (zf (zC ze za) (zf q6 (ci ((d.a.n6:Nat):Int) (ci (zy .i64 (i+(1:Int))) zh))))),q1))) q0) q0)) q0) q0) q0) q0) q0))
theorem ow1_round(d:Zf):Yo P (Zp P [ZaS,ZaL] [] ze) 65 4 21 21 32 [1,2,6,15,16,17] [(0,.own),(1,.own),(2,.own),(3,.own),(4,.own),(5,.own),(6,.own)] [] (Zdz d) (ZgQ d) (λi=>(bif decide (i<((d.a.n6:Nat):Int))then za else ze)) (.exit 0) (ow1_R d):=λB i z=>by kernel_rfl
def Zjj(d:Zf)(k:Nat)(z:(Int->Bool)×(Int->Bool)):(Int->Bool)×(Int->Bool):=(λ(i:Int)(z:(Int->Bool)×(Int->Bool))=>(bif (d.a.r6 (zi i)).f0==(d.a.r4 (zi i)).f0 then(bif (bif bif bif !bif decide ((d.a.r6 (zi i)).f1>=(0:Int))then bif decide ((d.a.r6 (zi i)).f1<=(3:Int))then bif decide ((d.a.r6 (zi i)).f2>=(0:Int))then bif decide ((d.a.r6 (zi i)).f2<=(15:Int))then bif decide ((d.a.r6 (zi i)).f4>=(0:Int))then decide ((d.a.r6 (zi i)).f4<=(1125899906842624:Int))else za else za else za else za else za then ze else !(bif (d.a.r6 (zi i)).f3 != (0:Int)then ze else(d.a.r6 (zi i)).f4 != (0:Int))==((d.a.r6 (zi i)).f1==(3:Int))then ze else za then(270:Int)else(0:Int))==(0:Int)then(bif (bif bif bif bif bif !bif decide ((d.a.r6 (zi i)).f7>=(1:Int))then decide ((d.a.r6 (zi i)).f7<=(65535:Int))else za then ze else decide ((d.a.r6 (zi i)).f5>=(68719476736:Int))then ze else za then ze else za then ze else za then(150:Int)else(0:Int))==(0:Int)then(bif !bif z.1 (Zb (zA .u64 (d.a.r6 (zi i)).f8))then z.2 (Zb (zA .u64 (d.a.r6 (zi i)).f8))else za then(bif decide ((d.a.r6 (zi i)).f8<=d.a.f13)then(bif (d.a.r6 (zi i)).f7==zy .u64 (d.a.r3 (zi (bif d.6 (d.a.r4 (zi i)).f0 then d.7 (d.a.r4 (zi i)).f0 else(0:Int)))).f1 then(bif decide ((d.a.r6 (zi i)).f9>=(0:Int))then(bif bif !bif decide (zy .i64 ((d.a.r6 (zi i)).f9-(1000000:Int))<=d.a.f0)then bif decide ((d.a.r6 (zi i)).f10>=(0:Int))then decide ((d.a.r6 (zi i)).f10<=d.a.f0)else za else za then ze else za then((z.1,z.2))else(((λ(j_:Int)=>bif j_==(d.a.r6 (zi i)).f8 then ze else z.1 (j_)),(λ(j_:Int)=>bif j_==(d.a.r6 (zi i)).f8 then ze else z.2 (j_)))))else((z.1,z.2)))else((z.1,z.2)))else((z.1,z.2)))else((z.1,z.2)))else((z.1,z.2)))else((z.1,z.2)))else((z.1,z.2)))) k z
def XH(d:Zf)(k:Nat):(Int->Bool)×(Int->Bool):=ZQ ((λj=>bif j==0 then ze else za),(λj=>bif j==0 then ze else za)) (Zjj d) k
def UM(d:Zf)(k:Nat):Bool:=(λ(i:Int)(z:(Int->Bool)×(Int->Bool))=>(bif (d.a.r6 (zi i)).f0==(d.a.r4 (zi i)).f0 then(bif (bif bif bif !bif decide ((d.a.r6 (zi i)).f1>=(0:Int))then bif decide ((d.a.r6 (zi i)).f1<=(3:Int))then bif decide ((d.a.r6 (zi i)).f2>=(0:Int))then bif decide ((d.a.r6 (zi i)).f2<=(15:Int))then bif decide ((d.a.r6 (zi i)).f4>=(0:Int))then decide ((d.a.r6 (zi i)).f4<=(1125899906842624:Int))else za else za else za else za else za then ze else !(bif (d.a.r6 (zi i)).f3 != (0:Int)then ze else(d.a.r6 (zi i)).f4 != (0:Int))==((d.a.r6 (zi i)).f1==(3:Int))then ze else za then(270:Int)else(0:Int))==(0:Int)then(bif (bif bif bif bif bif !bif decide ((d.a.r6 (zi i)).f7>=(1:Int))then decide ((d.a.r6 (zi i)).f7<=(65535:Int))else za then ze else decide ((d.a.r6 (zi i)).f5>=(68719476736:Int))then ze else za then ze else za then ze else za then(150:Int)else(0:Int))==(0:Int)then(bif !bif z.1 (Zb (zA .u64 (d.a.r6 (zi i)).f8))then z.2 (Zb (zA .u64 (d.a.r6 (zi i)).f8))else za then(bif decide ((d.a.r6 (zi i)).f8<=d.a.f13)then(bif (d.a.r6 (zi i)).f7==zy .u64 (d.a.r3 (zi (bif d.6 (d.a.r4 (zi i)).f0 then d.7 (d.a.r4 (zi i)).f0 else(0:Int)))).f1 then(bif decide ((d.a.r6 (zi i)).f9>=(0:Int))then(bif bif !bif decide (zy .i64 ((d.a.r6 (zi i)).f9-(1000000:Int))<=d.a.f0)then bif decide ((d.a.r6 (zi i)).f10>=(0:Int))then decide ((d.a.r6 (zi i)).f10<=d.a.f0)else za else za then ze else za then ze else za)else ze)else ze)else ze)else ze)else ze)else ze)else ze)) k (XH d k)
abbrev ow1_ets(d:Zf)(i:Int)(z:(Int->Bool)×(Int->Bool)):V:=(.cons (zl za 4 d.a.n4 λjj=>Zn za (d.a.r4 jj)) (.cons (V.fn (Fn.func (66:Nat)) zh (zf (zV ze 6 0 0 0) (zf (zV ze 4 0 0 0) zh))) (.cons (zC ze za) (.cons (zl za 11 d.a.n6 λjj=>Zo za (d.a.r6 jj)) (.cons (zn za .i64 ((d.a.n6:Nat):Int)) (.cons .junk .nil))))))
abbrev ow1_eys(d:Zf)(i:Int)(z:(Int->Bool)×(Int->Bool)):List Blk:=[.var (YB d.a),mO d,mN d,mH d,.var (.cons (.ptr ze 0 0 0 0) .nil),.any,.var (.cons (.mp 5) .nil)]
def ZgP(d:Zf):Lp:=lpL 65 4 21 21 32 [1,2,6,15,16,17] [(0,.own),(1,.own),(2,.own),(3,.own),(4,.own),(5,.own),(6,.own)] [] (Zdz d) (ZgQ d) (.exit 0) .ret ((λj=>bif j==0 then ze else za),(λj=>bif j==0 then ze else za)) (XH d) (UM d) (Za.n6 d.a) (ow1_ets d) (ow1_eys d)
def ow1_need(d:Zf):Prop:=YW 21 [] (Zdz d) (ZgQ d) ((λj=>bif j==0 then ze else za),(λj=>bif j==0 then ze else za)) (Zdz d (0:Nat) ((λj=>bif j==0 then ze else za),(λj=>bif j==0 then ze else za))) (ZgQ d (0:Nat) ((λj=>bif j==0 then ze else za),(λj=>bif j==0 then ze else za)))
theorem ow1_fit(d:Zf):ow1_need d:=⟨rfl,⟨rfl,⟨rfl,λ_=>⟨rfl,rfl⟩⟩,⟨rfl,λ_=>⟨rfl,rfl⟩⟩,⟨rfl,λ_=>⟨rfl,rfl⟩⟩,rfl,⟨rfl,λ_=>⟨rfl,rfl⟩⟩,rfl,trivial⟩⟩
theorem ow1_lp_ok(d:Zf)(hl:d.a.n4<=1000)(hl3:d.a.n3<=1000)(hl6:d.a.n6=d.a.n4)(hH:0<d.a.n4->∀j:Int,0<=(bif d.hh j then d.hg j else 0)/\(bif d.hh j then d.hg j else 0)<d.a.n3):(ZgP d).Ok P:=by
 refine Xg (ZC hm hn (l:=[ZaS,ZaL]) ⟨Zkt,Zkg,trivial⟩ (ls:=[]) trivial ze) rfl (by kernel_rfl) (ow1_round d) exN YK (λ_=>rfl) (rd:=(λ_ t y=>((λj=>(y.getD 5 .none).hasK .u64 j),(λj=>(y.getD 5 .none).getB .u64 j)))) (λi z=>(cC (cC (cC (cC (cC (cC (cC (cC rfl rfl) rfl) rfl) rfl) rfl) rfl) rfl) rfl)) (λi=>(cC (cC (cC (cC (cC (cC (cC (cC rfl rfl) rfl) rfl) rfl) rfl) rfl) rfl) rfl)) rfl (λi hlt hg=>?_) (λi z hi=>?_)
 ·have hltI:(i:Int)<(((Za.n6 d.a):Nat):Int):=by omega
  refine⟨?_,⟨?_,⟨λhb0=>⟨λhb1=>⟨λhb2=>⟨λhb3=>⟨λhb4=>⟨?_,⟨λhb5=>⟨λhb6=>⟨λhb7=>trivial,λhb7=>trivial⟩,λhb6=>trivial⟩,λhb5=>trivial⟩⟩,λhb4=>trivial⟩,λhb3=>trivial⟩,λhb2=>trivial⟩,λhb1=>trivial⟩,λhb0=>trivial⟩⟩⟩
  all_goals(repeat'(first|exact rfl|exact λ_=>⟨rfl,rfl⟩|apply zB|intro _))
  all_goals(try simp only[decide_eq_true_eq,decide_eq_false_iff_not,yj,yu]at*)
  all_goals(try simp(disch:=omega) only[IntWalk.i64_in])
  all_goals(first|omega|exact(hH (by omega) _).1|exact(hH (by omega) _).2)
 ·have hw:=(IntWalk.i64_in ((i:Int)+1) ⟨by omega,by omega⟩)
  refine⟨⟨⟨⟨⟨⟨⟨⟨?_,?_⟩,?_⟩,?_⟩,?_⟩,?_⟩,?_⟩,?_⟩,?_⟩
  all_goals(first|exact⟨rfl,YL (ts:=Zdz d) hw rfl,⟨LeK.refl _,LeK.refl _,LeK.refl _,LeK.refl _,LeK.refl _,Wd λa=>⟨rfl,Le.soft rfl⟩,LeK.refl _,trivial⟩⟩|exact⟨rfl,rfl,(by repeat'(first|exact Le.refl _|exact Le.junk _ rfl|apply Le.cons)),⟨LeK.refl _,LeK.refl _,LeK.refl _,LeK.refl _,LeK.refl _,LeK.any _,LeK.refl _,trivial⟩⟩)
def vOwned_T(d:Zf):Tree (V×List Blk):=
 let q3:=(zl za 4 d.a.n4 λj=>Zn za (d.a.r4 j))
 let q4:=(zl za 11 d.a.n6 λj=>Zo za (d.a.r6 j))
 let q0:=(zf (zl za 2 d.a.n1 λj=>ZR za (d.a.r1 j)) (zf (zl za 1 d.a.n2 λj=>zf (zn za .u32 (d.a.r2 j).f0) zh) (zf (zl za 4 d.a.n3 λj=>Zr za (d.a.r3 j)) (zf q3 (zf (zl za 2 d.a.n5 λj=>Zw za (d.a.r5 j)) (zf q4 (zf (zl za 2 d.a.n7 λj=>ZO za (d.a.r7 j)) (zf (zl za 5 d.a.n8 λj=>ZI za (d.a.r8 j)) (ci d.a.f9 (zf (zl za 2 d.a.n10 λj=>ZE za (d.a.r10 j)) (zf (zl za 3 d.a.n11 λj=>Zx za (d.a.r11 j)) (zf (zl za 2 d.a.n12 λj=>Zt za (d.a.r12 j)) (zf (zn za .u64 d.a.f13) (zf (zZ 1) (zf (zZ 2) (zf (zZ 3) zh))))))))))))))))
 let q1:=[zN (YB d.a),Blk.Zm (MK.int .i64) za (λk=>(d.2 (Zb k),vi (d.3 (Zb k)))) zm,Blk.Zm (MK.int .i64) za (λk=>(d.4 (Zb k),vi (d.5 (Zb k)))) zm,Blk.Zm (MK.int .i64) za (λk=>(d.6 (Zb k),vi (d.7 (Zb k)))) zm]
 let q2:=(zf (V.fn (Fn.func (66:Nat)) zh (zf (zV za 6 0 0 0) (zf (zV za 4 0 0 0) zh))) (zf (zC za za) (zf q4 (ci ((d.a.n6:Nat):Int) (ci (0:Int) zh)))))
 zD (bif ((d.a.n6:Nat):Int) != ((d.a.n4:Nat):Int)then ze else za) (zx (zC ze za,q1)) (zw (d.a.n6=d.a.n4/\zf q3 q2=zf q3 q2/\ci d.a.f0 q0=ci d.a.f0 q0/\(zq=zq/\YR .i64 (λx=>(d.2 (Zb x),vi (d.3 (Zb x)))) λk=>(d.2 (Zb k),vi (d.3 (Zb k))))/\(zq=zq/\YR .i64 (λx=>(d.4 (Zb x),vi (d.5 (Zb x)))) λk=>(d.4 (Zb k),vi (d.5 (Zb k))))/\(zq=zq/\YR .i64 (λx=>(d.6 (Zb x),vi (d.7 (Zb x)))) λk=>(d.6 (Zb k),vi (d.7 (Zb k))))/\zf (zV za 0 0 0 0) zh=zf (zV za 0 0 0 0) zh/\(yG=yG/\YR .u64 (λx=>(bif Zb x==(0:Int)then ze else za,zC za (bif Zb x==(0:Int)then ze else za))) λk=>(bif ZG k (zA .u64 (0:Int))then ze else za,zC (bif ZG k (zA .u64 (0:Int))then ze else ze) (bif ZG k (zA .u64 (0:Int))then ze else za)))/\zf (zZ 5) zh=zf (zZ 5) zh/\True) (zD (bif Zv (UM d) d.a.n6 then ze else za) (zx (zC ze za,q1)) (zx (zC ze ze,q1))))
theorem ZrW(d:Zf):evH (Zp P [ZaS,ZaL] [(Jm (d.a.n6=d.a.n4) (ZgP d))] ze) 400 37 (.cons (.ptr ze 0 0 0 0) .nil) (YA d)=vOwned_T d:=by kernel_rfl
def UY(d:Zf):Bool:=
  (bif bif ((d.a.n6:Nat):Int) != ((d.a.n4:Nat):Int)then ze else za then(za)else(bif bif Zv (UM d) d.a.n6 then ze else za then(za)else
  (ze)))
theorem vOwned_at(d:Zf)(h0:d.a.n3<=1000)(h1:d.a.n4<=1000)(h2:0<d.a.n4->∀j:Int,0<=(bif d.hh j then d.hg j else 0)/\(bif d.hh j then d.hg j else 0)<d.a.n3):YG P 37 (.cons (.ptr ze 0 0 0 0) .nil) (YA d) (.leaf (.bool za (UY d),YA d)):=by
 refine G8 (E:=(Zp P [ZaS,ZaL] [(Jm (d.a.n6=d.a.n4) (ZgP d))] ze)) (ZC hm hn (l:=[ZaS,ZaL]) ⟨Zkt,Zkg,trivial⟩ (ls:=[(Jm (d.a.n6=d.a.n4) (ZgP d))]) ⟨Zdc λhg=>ow1_lp_ok d h1 h0 hg h2,trivial⟩ ze) (ZrW d) ((cC rfl (cC rfl rfl))) ⟨⟨rfl,rfl⟩,⟨⟨rfl,rfl⟩,⟨rfl,rfl⟩⟩⟩ ?_
 refine⟨λhb0=>trivial,λhb0=>⟨?_,⟨λhb1=>trivial,λhb1=>trivial⟩⟩⟩
 all_goals((repeat'(first|exact ow1_fit d|exact rfl|exact λ_=>⟨rfl,rfl⟩|apply zB|intro _));all_goals(try simp only[decide_eq_true_eq,decide_eq_false_iff_not]at*);all_goals(first|omega|exact(by have h:=nf5 hb0;omega)|exact(λa=>by show(bif (a==0)then ze else za)=(bif (a==0)then((ze,zC ze ze):Bool×V)else(za,zC ze za)).1/\(zC ze (bif (a==0)then ze else za)).soft=(bif (a==0)then((ze,zC ze ze):Bool×V)else(za,zC ze za)).2.soft;cases(a==0)<;>exact⟨rfl,rfl⟩)|exact ow1_fit d))
def ZbU:HK:=λargs bl=>match args,bl with
 |(.cons (.ptr ze 0 0 0 0) .nil),[.var c,.Zm (.int .i64) _ fo _,.Zm (.int .i64) _ fn _,.Zm (.int .i64) _ fh _]=>some (c.Jj λc=>.need (UZ c fo fn fh/\(λ(d:Zf)=>d.a.n3<=1000/\d.a.n4<=1000/\(0<d.a.n4->∀j:Int,0<=(bif d.hh j then d.hg j else 0)/\(bif d.hh j then d.hg j else 0)<d.a.n3)) (XF c fo fn fh)) (.leaf (.bool za (UY (XF c fo fn fh)),YA (XF c fo fn fh))))
 |_,_=>zm
theorem vOwned_ok:Xj P 37 ZbU:=by
 intro args bl T hT
 unfold ZbU at hT
 split at hT
 ·rename_i c q1 fo q2 q3 fn q4 q5 fh q6
  injection hT with hT
  subst hT
  intro base mm F w xs Q KK h1 h2 hq hk
  simp only[V.JU]at hq
  obtain⟨hp,hq⟩:=hq
  exact YG.le (bl:=[.var c,.Zm (.int .i64) q1 fo q2,.Zm (.int .i64) q3 fn q4,.Zm (.int .i64) q5 fh q6]) (vOwned_at (XF c fo fn fh) hp.2.1 hp.2.2.1 hp.2.2.2) rfl (λb=>Zaw hp.1 b) base mm F w xs Q KK h1 h2 hq hk
 ·cases hT
end Go.Proofs.YthhbdbeglmkijaaGreatDoor
end
