/- view.ganged: its inner loop -/
import Derived.Test.YthhbdbeglmkijaaGreatDoorMAk
import Derived.Test.YthhbdbeglmkijaaGreatDoorMAf
import Derived.Test.YthhbdbeglmkijaaGreatDoorMAg
set_option maxRecDepth 100000
set_option linter.unusedVariables false
set_option linter.unusedSimpArgs false
noncomputable section
open Bool renaming true→ze,false→za,not_eq_true'→yj,not_eq_false'→yu
open Go.Fw.V renaming rsl→zl,nil→zh,cons→zf,bool→zC,int→zn,ptr→zV,mp→zZ
open Go.Fw.Tree renaming leaf→zx,need→zw,node→zD
open Prod renaming fst→zL,snd→zu
open Go.Fw.Blk renaming var→zN
open Int renaming toNat→zi
open Go.IntKind renaming wrap→zy,bits→zR,i64→zq
open Nat renaming beq→zo,le_refl→zJ,not_lt_zero→yB
open BitVec renaming toNat→yA,ofInt→zU
open And renaming intro→zB
open Go.Value renaming int→zA
namespace Go.Proofs.YthhbdbeglmkijaaGreatDoor
open Go.Fw
abbrev ga2_ts(d:Zf)(w:Int)(m:Nat)(r:Nat->DT3)(x0:Int)(i:Int)(z:Nat×(Nat->Zq)):V:=(.cons (.ptr ze 0 0 0 0) (.cons (.bool ze za) (.cons (.ptr ze 4 0 0 0) (.cons (.osl za 5 1 0 z.1) (.cons (.rsl za 2 d.a.n5 (λj=>Zw za (d.a.r5 j))) (.cons (.int za .i64 ((d.a.n5:Nat):Int)) (.cons (.int za .i64 w) (.cons (.rsl za 1 m (λj=>ZP za (r j))) (.cons (.int za .i64 ((m:Nat):Int)) (.cons (.int za .i64 i) .nil))))))))))
abbrev ga2_ys(d:Zf)(w:Int)(m:Nat)(r:Nat->DT3)(x0:Int)(i:Int)(z:Nat×(Nat->Zq)):List Blk:=[.var (YB d.a),mO d,mN d,mH d,.var (.cons (.int za .i64 x0) (.cons (.rsl za 1 m (λj=>ZP za (r j))) .nil)),.arr 1 z.1 (λj=>ZL za (z.2 j))]
def ga2_R(d:Zf)(w:Int)(m:Nat)(r:Nat->DT3)(x0:Int)(i:Int)(z:Nat×(Nat->Zq)):Tree Rd:=
 let q4:=(zl za 2 d.a.n5 λjj=>Zw za (d.a.r5 jj))
 let q3:=(zl za 1 m λjj=>ci (r jj).f0 zh)
 let q0:=(zx (Ex.ret,ze,zf (pt 0) (zf (zC ze za) (zf (pt 4) (zf (V.osl za 5 1 0 (zL z)) (zf q4 (ci ((d.a.n5:Nat):Int) (ci w (zf q3 (ci (m:Int) (ci i zh))))))))),[zN (YB d.a),mO d,mN d,mH d,zN (ci x0 (zf q3 zh)),Blk.arr 1 (zL z) λjj=>zf (zn za .u32 (z.2 jj).f0) zh]))
 let q1:=(bif d.6 (r (zi i)).f0 then d.7 (r (zi i)).f0 else(0:Int))
 let q2:=(zf (zl za 4 d.a.n3 λj=>Zr za (d.a.r3 j)) (zf (zl za 4 d.a.n4 λj=>Zn za (d.a.r4 j)) zh))
 let q5:=(ci (r (zi i)).f0 zh)
 zw ((0:Int)<=i/\i<(m:Int)) (zD (bif !d.2 (r (zi i)).f0 then ze else za) q0 (zw (((0:Int)<=bif d.2 (r (zi i)).f0 then d.3 (r (zi i)).f0 else(0:Int))/\(bif d.2 (r (zi i)).f0 then d.3 (r (zi i)).f0 else(0:Int))<((d.a.n6:Nat):Int)) (zw ((0:Int)<=(0:Int)/\(0:Int)<(m:Int)) (zD (bif q1 != bif d.6 (r (zi (0:Int))).f0 then d.7 (r (zi (0:Int))).f0 else(0:Int)then ze else za) q0 (zw (zf (V.agg q2) q5=zf (V.agg q2) q5/\d.a.n3<=(1000:Nat)/\d.a.n4<=(1000:Nat)) (zw (((0:Int)<=bif d.6 (r (zi i)).f0 then d.7 (r (zi i)).f0 else(0:Int))/\q1<((d.a.n3:Nat):Int)) (zw ((0:Int)<=(d.a.r3 (zi q1)).f3/\(d.a.r3 (zi q1)).f3<((d.a.n2:Nat):Int)) (zw (zL z<=zL z/\fits (zL z+(1:Nat)) (4:Nat)) (zx (Ex.normal,ze,zf (pt 0) (zf (zC ze za) (zf (pt 4) (zf (V.osl za 5 1 0 (zL z+(1:Nat))) (zf q4 (ci ((d.a.n5:Nat):Int) (ci w (zf q3 (ci (m:Int) (ci (zy .i64 (i+(1:Int))) zh))))))))),[zN (YB d.a),mO d,mN d,mH d,zN (ci x0 (zf q3 zh)),Blk.arr 1 (zL z+(1:Nat)) λjj=>bif zo jj (zL z+nat_lit 0)then zf (zn za .u32 (zy .u32 ((yA (zU (zR .u32) (X4 (ZH q2) (r (zi i)).f0)&&& zU (zR .u32) (d.a.r2 (zi (d.a.r3 (zi q1)).f3)).f0):Nat):Int))) zh else zf (zn za .u32 (z.2 jj).f0) zh]))))))))))
theorem ga2_round(d:Zf)(w:Int)(m:Nat)(r:Nat->DT3)(x0:Int):Yo P (Zp P [X9] [] ze) 38 6 5 6 59 [0,2,4,5,13,14,15,20,21,22] [(0,.own),(1,.own),(2,.own),(3,.own),(4,.own),(5,.tmp 5)] [] (ga2_ts d w m r x0) (ga2_ys d w m r x0) (λi=>(bif decide (i<(m:Int))then za else ze)) (.exit 2) (ga2_R d w m r x0):=λB i z=>by kernel_rfl
def Zbe(d:Zf)(m:Nat)(r:Nat->DT3)(k:Nat)(z:Nat×(Nat->Zq)):Nat×(Nat->Zq):=(λ(i:Int)(z:Nat×(Nat->Zq))=>(bif bif !d.2 (r (zi i)).f0 then ze else za then((z.1,z.2))else(bif bif (bif d.6 (r (zi i)).f0 then d.7 (r (zi i)).f0 else(0:Int)) != bif d.6 (r (zi (0:Int))).f0 then d.7 (r (zi (0:Int))).f0 else(0:Int)then ze else za then((z.1,z.2))else((((zL z+(1:Nat)):Nat),(λ(jj:Nat)=>Yq (bif zo jj (zL z+nat_lit 0)then zf (zn za .u32 (zy .u32 ((yA (zU (zR .u32) (X4 (ZH (zf (zl za 4 d.a.n3 λj=>Zr za (d.a.r3 j)) (zf (zl za 4 d.a.n4 λj=>Zn za (d.a.r4 j)) zh))) (r (zi i)).f0)&&& zU (zR .u32) (d.a.r2 (zi (d.a.r3 (zi (bif d.6 (r (zi i)).f0 then d.7 (r (zi i)).f0 else(0:Int)))).f3)).f0):Nat):Int))) zh else zf (zn za .u32 (z.2 jj).f0) zh))))))) k z
def WJ(d:Zf)(m:Nat)(r:Nat->DT3)(k:Nat):Nat×(Nat->Zq):=ZQ (0,(λ_=>Yq .nil)) (Zbe d m r) k
def VO(d:Zf)(m:Nat)(r:Nat->DT3)(k:Nat):Bool:=(λ(i:Int)(z:Nat×(Nat->Zq))=>(bif bif !d.2 (r (zi i)).f0 then ze else za then ze else(bif bif (bif d.6 (r (zi i)).f0 then d.7 (r (zi i)).f0 else(0:Int)) != bif d.6 (r (zi (0:Int))).f0 then d.7 (r (zi (0:Int))).f0 else(0:Int)then ze else za then ze else za))) k (WJ d m r k)
theorem ga2_cnt(d:Zf)(m:Nat)(r:Nat->DT3)(k:Nat):(WJ d m r k).1<=k:=Zeq (m:=λz:Nat×(Nat->Zq)=>z.1) (zJ _) (λk z=>((WI (p:=λy:Nat×(Nat->Zq)=>y.1<=z.1+1) (by show _<=_+1;first|omega|exact Nat.le_succ _|exact zJ _) (WI (p:=λy:Nat×(Nat->Zq)=>y.1<=z.1+1) (by show _<=_+1;first|omega|exact Nat.le_succ _|exact zJ _) (by show _<=_+1;first|omega|exact Nat.le_succ _|exact zJ _))):(λy:Nat×(Nat->Zq)=>y.1<=z.1+1) (Zbe d m r k z))) k
abbrev ga2_ets(d:Zf)(w:Int)(m:Nat)(r:Nat->DT3)(x0:Int)(i:Int)(z:Nat×(Nat->Zq)):V:=(.cons (zV ze 0 0 0 0) (.cons (zC ze za) (.cons (zV ze 4 0 0 0) (.cons .junk (.cons (zl za 2 d.a.n5 λjj=>Zw za (d.a.r5 jj)) (.cons (zn za .i64 ((d.a.n5:Nat):Int)) (.cons (zn za .i64 w) (.cons (zl za 1 m λjj=>zf (zn za .i64 (r jj).f0) zh) (.cons (zn za .i64 (m:Int)) (.cons .junk .nil))))))))))
abbrev ga2_eys(d:Zf)(w:Int)(m:Nat)(r:Nat->DT3)(x0:Int)(i:Int)(z:Nat×(Nat->Zq)):List Blk:=[.var (YB d.a),mO d,mN d,mH d,.var (.cons (.int za .i64 x0) (.cons (.rsl za 1 m (λj=>ZP za (r j))) .nil)),.any]
def ga2_lp(d:Zf)(w:Int)(m:Nat)(r:Nat->DT3)(x0:Int):Lp:=lpL 38 6 5 6 59 [0,2,4,5,13,14,15,20,21,22] [(0,.own),(1,.own),(2,.own),(3,.own),(4,.own),(5,.tmp 5)] [] (ga2_ts d w m r x0) (ga2_ys d w m r x0) (.exit 2) .ret (0,(λ_=>Yq .nil)) (WJ d m r) (VO d m r) (m) (ga2_ets d w m r x0) (ga2_eys d w m r x0)
theorem ga2_lp_ok(d:Zf)(w:Int)(m:Nat)(r:Nat->DT3)(x0:Int)(hl:m<=1000)(hO:∀j:Int,d.oh j=ze->0<=d.og j/\d.og j<d.a.n6)(h64:d.a.n6=d.a.n4)(hl3:d.a.n3<=1000)(hl4:d.a.n4<=1000)(hH:0<d.a.n4->∀j:Int,0<=(bif d.hh j then d.hg j else 0)/\(bif d.hh j then d.hg j else 0)<d.a.n3)(hP:0<d.a.n4->∀j:Int,0<=(d.a.r3 (bif d.hh j then d.hg j else 0).toNat).f3/\(d.a.r3 (bif d.hh j then d.hg j else 0).toNat).f3<d.a.n2):(ga2_lp d w m r x0).Ok P:=by
 refine Xg (ZC hm hn (l:=[X9]) ⟨Vy,trivial⟩ (ls:=[]) trivial ze) rfl (by kernel_rfl) (ga2_round d w m r x0) exN YK (λ_=>rfl) (rd:=(λ_ t y=>((t.nth 3).oslN,(λj=>Yq ((y.getD 5 .none).Kg j))))) (λi z=>(cC rfl (cC rfl rfl))) (λi=>(cC rfl (cC rfl rfl))) rfl (λi hlt hg=>?_) (λi z hi=>?_)
 ·have hltI:(i:Int)<((m:Nat):Int):=by omega
  refine⟨?_,⟨λhb0=>trivial,λhb0=>⟨?_,⟨?_,⟨λhb1=>trivial,λhb1=>⟨?_,⟨?_,⟨?_,⟨?_,trivial⟩⟩⟩⟩⟩⟩⟩⟩⟩
  all_goals(have hf0:=ga2_cnt d m r i)
  all_goals(repeat'(first|exact rfl|exact λ_=>⟨rfl,rfl⟩|apply zB|intro _))
  all_goals(try simp only[decide_eq_true_eq,decide_eq_false_iff_not,yj,yu]at*)
  all_goals(try simp(disch:=omega) only[IntWalk.i64_in])
  all_goals(first|omega|exact(hH (by have h2:=hO _ (nf hb0);omega) _).1|exact(hH (by have h2:=hO _ (nf hb0);omega) _).2|exact(hP (by have h2:=hO _ (nf hb0);omega) _).1|exact(hP (by have h2:=hO _ (nf hb0);omega) _).2|exact(by rw[nf hb0];exact(hO _ (nf hb0)).1)|exact(by rw[nf hb0];exact(hO _ (nf hb0)).2))
 ·have hw:=(IntWalk.i64_in ((i:Int)+1) ⟨by omega,by omega⟩)
  refine⟨?_,⟨?_,?_⟩⟩
  all_goals(first|exact⟨rfl,YL (ts:=ga2_ts d w m r x0) hw rfl,⟨LeK.refl _,LeK.refl _,LeK.refl _,LeK.refl _,LeK.refl _,LeK.QL rfl (λj hj=>by first|rfl|exact ZbN (g:=λv=>(ZL za (Yq v)).soft) rfl rfl),trivial⟩⟩|exact⟨rfl,rfl,(by repeat'(first|exact Le.refl _|exact Le.junk _ rfl|apply Le.cons)),⟨LeK.refl _,LeK.refl _,LeK.refl _,LeK.refl _,LeK.refl _,LeK.any _,trivial⟩⟩)
def ga2_in(d:Zf):Lp:=⟨38,6,λ_ s=>(s.tmp 15).VZ .stuck λw=>(s.tmp 20).Zam .stuck λm r20=>(s.blk 4).onVar .stuck λc4=>(c4.hd).VZ .stuck λx0=>.need ((λ(d:Zf)(w:Int)(m:Nat)(r:Nat->DT3)(x0:Int)=>m<=1000) d w m (λj=>ZM (r20 j)) x0) ((ga2_lp d w m (λj=>ZM (r20 j)) x0).g _ s)⟩
theorem ga2_in_ok(d:Zf)(hO:∀j:Int,d.oh j=ze->0<=d.og j/\d.og j<d.a.n6)(h64:d.a.n6=d.a.n4)(hl3:d.a.n3<=1000)(hl4:d.a.n4<=1000)(hH:0<d.a.n4->∀j:Int,0<=(bif d.hh j then d.hg j else 0)/\(bif d.hh j then d.hg j else 0)<d.a.n3)(hP:0<d.a.n4->∀j:Int,0<=(d.a.r3 (bif d.hh j then d.hg j else 0).toNat).f3/\(d.a.r3 (bif d.hh j then d.hg j else 0).toNat).f3<d.a.n2):(ga2_in d).Ok P:=by
 intro body hin hfr B s Q hq
 obtain⟨w,hq⟩:=UL hq
 obtain⟨m,r20,hq⟩:=Zby hq
 obtain⟨c4,hq⟩:=onVar_h hq
 obtain⟨x0,hq⟩:=UL hq
 exact ga2_lp_ok d w m (λj=>ZM (r20 j)) x0 hq.1 hO h64 hl3 hl4 hH hP body hin hfr B s Q hq.2
theorem u32_rng(x:Int):0<=zy .u32 x/\zy .u32 x<4294967296:=by
 have e:zy .u32 x=x%4294967296:=rfl
 rw[e]
 omega
theorem Zf3(d:Zf)(m:Nat)(r:Nat->DT3):∀k j,j<(WJ d m r k).1->0<=((WJ d m r k).2 j).f0/\((WJ d m r k).2 j).f0<4294967296:=by
 intro k
 induction k with
 |zero=>intro j hj;exact absurd hj (yB j)
 |succ k ih=>
  show ∀j,j<(Zbe d m r k (WJ d m r k)).1->0<=((Zbe d m r k (WJ d m r k)).2 j).f0/\((Zbe d m r k (WJ d m r k)).2 j).f0<4294967296
  generalize WJ d m r k=z at ih⊢
  refine WI (p:=λy:Nat×(Nat->Zq)=>∀j,j<y.1->0<=(y.2 j).f0/\(y.2 j).f0<4294967296) ih (WI (p:=λy:Nat×(Nat->Zq)=>∀j,j<y.1->0<=(y.2 j).f0/\(y.2 j).f0<4294967296) ih λj hj=>?_)
  have hj':j<z.1+1:=hj
  cases h:zo j (z.1+0)with
  |true=>
   dsimp only
   rw[h]
   exact u32_rng _
  |false=>
   dsimp only
   rw[h]
   have hne:j≠z.1:=λe=>by subst e;rw[Nat.add_zero,Nat.beq_refl]at h;cases h
   exact ih j (by omega)
abbrev Zbj(m:Nat)(r:Nat->Zc)(G:Int->S4->Bool×S4)(Pr:Int->S4->Prop)(L:Nat)(row:Nat->DT3)(w:Int)(z0:S4)(i:Int)(z:S4):V:=(.cons (.int za .i64 w) (.cons (.mp 0) (.cons (.ptr ze 1 0 0 0) (.cons (.ptr ze 2 0 0 0) (.cons (.ptr ze 3 0 0 0) (.cons (.bool ze za) (.cons (.rsl za 1 L (λj=>ZP za (row j))) (.cons (.int za .i64 ((L:Nat):Int)) (.cons (.int za .i64 i) .nil)))))))))
abbrev Zbk(m:Nat)(r:Nat->Zc)(G:Int->S4->Bool×S4)(Pr:Int->S4->Prop)(L:Nat)(row:Nat->DT3)(w:Int)(z0:S4)(i:Int)(z:S4):List Blk:=[.Zm (.int .i64) za (λx=>(z.1 (Zb x),.bool za (z.2.1 (Zb x)))) none,.var (.cons (.rsl za 1 m (λj=>Qz za (r j))) .nil),.var (.cons (.mp 4) .nil),.var (.cons (.fn (.func 167) .nil (.cons (.ptr ze 1 0 0 0) (.cons (.ptr ze 2 0 0 0) (.cons (.ptr ze 3 0 0 0) .nil)))) .nil),.Zm (.int .i64) za (λx=>(z.2.2.1 (Zb x),.int za .i64 (z.2.2.2 (Zb x)))) none]
def gv_T(m:Nat)(r:Nat->Zc)(G:Int->S4->Bool×S4)(Pr:Int->S4->Prop)(L:Nat)(row:Nat->DT3)(w:Int)(z0:S4)(i:Int)(z:S4):Tree (Ex×Bool×V×List Blk):=
 let q11:=zA .i64 (row (zi i)).f0
 let q23:=bif (zu (zu z)).1 (Zb q11)then(zu (zu z)).2 (Zb q11)else(0:Int)
 let q0:=G q23 (λj=>bif ZG (zA .i64 j) q11 then ze else z.1 j,λj=>bif ZG (zA .i64 j) q11 then ze else(zu z).1 j,λj=>(zu (zu z)).1 j,λj=>(zu (zu z)).2 j)
 let q19:=pt 1
 let q20:=pt 2
 let q21:=pt 3
 let q12:=zf (V.fn (Fn.func (167:FuncId)) zh (zf q19 (zf q20 (zf q21 zh)))) zh
 let q18:=zf (zl za 1 m λjj=>zf (zl za 1 (Zc.n0 (r jj)) λj=>ci ((r jj).2 j).f0 zh) zh) zh
 let q26:=zf (zZ 4) zh
 let q13:=[Blk.Zm (MK.int .i64) za (λk=>(z.1 (Zb k),zC za ((zu z).1 (Zb k)))) none,zN q18,zN q26,zN q12,Blk.Zm (MK.int .i64) za (λk=>((zu (zu z)).1 (Zb k),vi ((zu (zu z)).2 (Zb k)))) none]
 let q25:=zl za 1 L λjj=>ci (row jj).f0 zh
 let q14:=zf (zZ 0) (zf q19 (zf q20 (zf q21 (zf (zC ze za) (zf q25 (ci (L:Int) (ci (zy .i64 (i+(1:Int))) zh)))))))
 let q16:=zf q25 (ci (L:Int) (ci i zh))
 let q15:=zf (zZ 0) (zf q19 (zf q20 (zf q21 (zf (zC ze ze) q16))))
 let q17:=zf (zl za 1 m λj=>zf (zl za 1 (Zc.n0 (r j)) λj_1=>ci ((r j).2 j_1).f0 zh) zh) zh
 let q22:=zu (zu q0)
 let q24:=vi w
 zD (decide (i<(L:Int))) (zw ((0:Int)<=i/\i<(L:Int)) (zD (bif z.1 (Zb q11)then(zu z).1 (Zb q11)else za) (zx (Ex.normal,ze,zf q24 q14,q13)) (zD (!(zu (zu z)).1 (Zb q11)) (zx (Ex.ret,ze,zf q24 q15,[Blk.Zm (MK.int .i64) za (λk=>(bif ZG k q11 then ze else z.1 (Zb k),zC za (bif ZG k q11 then ze else(zu z).1 (Zb k)))) none,zN q18,zN q26,zN q12,Blk.Zm (MK.int .i64) za (λk=>(bif ZG k q11 then ze else(zu (zu z)).1 (Zb k),vi (bif ZG k q11 then w else(zu (zu z)).2 (Zb k)))) none])) (zw (m=m/\((λj=>zf (zl za 1 (Zc.n0 (r j)) λj_1=>ci ((r j).2 j_1).f0 zh) zh)=λj=>zf (zl za 1 (Zc.n0 (r j)) λj_1=>ci ((r j).2 j_1).f0 zh) zh)/\(YR .i64 (λx=>(bif ZG (zA .i64 (Zb x)) q11 then ze else z.1 (Zb x),zC za (bif ZG (zA .i64 (Zb x)) q11 then ze else(zu z).1 (Zb x)))) λk=>(bif ZG k q11 then ze else z.1 (Zb k),zC za (bif ZG k q11 then ze else(zu z).1 (Zb k))))/\(YR .i64 (λx=>((zu (zu z)).1 (Zb x),vi ((zu (zu z)).2 (Zb x)))) λk=>((zu (zu z)).1 (Zb k),vi ((zu (zu z)).2 (Zb k))))/\Pr q23 (λj=>bif ZG (zA .i64 j) q11 then ze else z.1 j,λj=>bif ZG (zA .i64 j) q11 then ze else(zu z).1 j,λj=>(zu (zu z)).1 j,λj=>(zu (zu z)).2 j)) (zD (zL q0) (zx (Ex.ret,ze,zf q24 q15,[Blk.Zm (MK.int .i64) za (λk=>((zu q0).1 (Zb k),zC za (q22.1 (Zb k)))) none,zN q17,zN q26,zN q12,Blk.Zm (MK.int .i64) za (λk=>(bif ZG k q11 then ze else(zu q22).1 (Zb k),vi (bif ZG k q11 then w else(zu q22).2 (Zb k)))) none])) (zx (Ex.normal,ze,zf q24 q14,[Blk.Zm (MK.int .i64) za (λk=>((zu q0).1 (Zb k),zC za (q22.1 (Zb k)))) none,zN q17,zN q26,zN q12,Blk.Zm (MK.int .i64) za (λk=>((zu q22).1 (Zb k),vi ((zu q22).2 (Zb k)))) none]))))))) (zx (Ex.exit 0,ze,zf q24 (zf (zZ 0) (zf q19 (zf q20 (zf q21 (zf (zC ze za) q16))))),q13))
theorem gv_round(B:Base)(m:Nat)(r:Nat->Zc)(G:Int->S4->Bool×S4)(Pr:Int->S4->Prop)(L:Nat)(row:Nat->DT3)(w:Int)(z0:S4)(i:Int)(z:S4):((ev { ZN P [] [167]with hk:=Wx [⟨167,Kv m r G Pr⟩] } 400 167 (JD P 167 2) B (YN 5 44 [0,1,2,3,4,7,15,16,17] [(0,.own),(1,.own),(2,.own),(3,.own),(4,.own)] (Zbj m r G Pr L row w z0 i z) (Zbk m r G Pr L row w z0 i z))).bind λx=>zx (x.1,vwN 5 5 44 [0,1,2,3,4,7,15,16,17] [(0,.own),(1,.own),(2,.own),(3,.own),(4,.own)] x.2))=gv_T m r G Pr L row w z0 i z:=by kernel_rfl
def ZiS(G:Int->S4->Bool×S4)(row:Nat->DT3)(w:Int)(z0:S4)(k:Nat)(z:S4):S4:=(λ(i:Int)(z:S4)=>(bif bif z.1 (Zb (zA zq (DT3.f0 (row (zi i)))))then(zu z).1 (Zb (zA zq (DT3.f0 (row (zi i)))))else za then(((λ(j_:Int)=>z.1 (j_)),(λ(j_:Int)=>(zu z).1 (j_)),(λ(j_:Int)=>(zu (zu z)).1 (j_)),(λ(j_:Int)=>(zu (zu z)).2 (j_))))else(bif !(zu (zu z)).1 (Zb (zA zq (DT3.f0 (row (zi i)))))then((z.1,z.2.1,z.2.2.1,z.2.2.2))else(bif zL (G (bif (zu (zu z)).1 (Zb (zA zq (DT3.f0 (row (zi i)))))then(zu (zu z)).2 (Zb (zA zq (DT3.f0 (row (zi i)))))else(0:Int)) (λj=>bif ZG (zA zq j) (zA zq (DT3.f0 (row (zi i))))then ze else z.1 (Zb (zA zq j)),λj=>bif ZG (zA zq j) (zA zq (DT3.f0 (row (zi i))))then ze else(zu z).1 (Zb (zA zq j)),λj=>(zu (zu z)).1 (Zb (zA zq j)),λj=>(zu (zu z)).2 (Zb (zA zq j))))then((z.1,z.2.1,z.2.2.1,z.2.2.2))else(((λ(j_:Int)=>(zu (G (bif (zu (zu z)).1 (Zb (zA zq (DT3.f0 (row (zi i)))))then(zu (zu z)).2 (Zb (zA zq (DT3.f0 (row (zi i)))))else(0:Int)) (λj=>bif ZG (zA zq j) (zA zq (DT3.f0 (row (zi i))))then ze else z.1 (Zb (zA zq j)),λj=>bif ZG (zA zq j) (zA zq (DT3.f0 (row (zi i))))then ze else(zu z).1 (Zb (zA zq j)),λj=>(zu (zu z)).1 (Zb (zA zq j)),λj=>(zu (zu z)).2 (Zb (zA zq j))))).1 (j_)),(λ(j_:Int)=>(zu (zu (G (bif (zu (zu z)).1 (Zb (zA zq (DT3.f0 (row (zi i)))))then(zu (zu z)).2 (Zb (zA zq (DT3.f0 (row (zi i)))))else(0:Int)) (λj=>bif ZG (zA zq j) (zA zq (DT3.f0 (row (zi i))))then ze else z.1 (Zb (zA zq j)),λj=>bif ZG (zA zq j) (zA zq (DT3.f0 (row (zi i))))then ze else(zu z).1 (Zb (zA zq j)),λj=>(zu (zu z)).1 (Zb (zA zq j)),λj=>(zu (zu z)).2 (Zb (zA zq j)))))).1 (j_)),(λ(j_:Int)=>(zu (zu (zu (G (bif (zu (zu z)).1 (Zb (zA zq (DT3.f0 (row (zi i)))))then(zu (zu z)).2 (Zb (zA zq (DT3.f0 (row (zi i)))))else(0:Int)) (λj=>bif ZG (zA zq j) (zA zq (DT3.f0 (row (zi i))))then ze else z.1 (Zb (zA zq j)),λj=>bif ZG (zA zq j) (zA zq (DT3.f0 (row (zi i))))then ze else(zu z).1 (Zb (zA zq j)),λj=>(zu (zu z)).1 (Zb (zA zq j)),λj=>(zu (zu z)).2 (Zb (zA zq j))))))).1 (j_)),(λ(j_:Int)=>(zu (zu (zu (G (bif (zu (zu z)).1 (Zb (zA zq (DT3.f0 (row (zi i)))))then(zu (zu z)).2 (Zb (zA zq (DT3.f0 (row (zi i)))))else(0:Int)) (λj=>bif ZG (zA zq j) (zA zq (DT3.f0 (row (zi i))))then ze else z.1 (Zb (zA zq j)),λj=>bif ZG (zA zq j) (zA zq (DT3.f0 (row (zi i))))then ze else(zu z).1 (Zb (zA zq j)),λj=>(zu (zu z)).1 (Zb (zA zq j)),λj=>(zu (zu z)).2 (Zb (zA zq j))))))).2 (j_)))))))) k z
def YQ(G:Int->S4->Bool×S4)(row:Nat->DT3)(w:Int)(z0:S4)(k:Nat):S4:=ZQ z0 (ZiS G row w z0) k
def Xx(G:Int->S4->Bool×S4)(row:Nat->DT3)(w:Int)(z0:S4)(k:Nat):Bool:=(λ(i:Int)(z:S4)=>(bif bif z.1 (Zb (zA zq (DT3.f0 (row (zi i)))))then(zu z).1 (Zb (zA zq (DT3.f0 (row (zi i)))))else za then za else(bif !(zu (zu z)).1 (Zb (zA zq (DT3.f0 (row (zi i)))))then ze else(bif zL (G (bif (zu (zu z)).1 (Zb (zA zq (DT3.f0 (row (zi i)))))then(zu (zu z)).2 (Zb (zA zq (DT3.f0 (row (zi i)))))else(0:Int)) (λj=>bif ZG (zA zq j) (zA zq (DT3.f0 (row (zi i))))then ze else z.1 (Zb (zA zq j)),λj=>bif ZG (zA zq j) (zA zq (DT3.f0 (row (zi i))))then ze else(zu z).1 (Zb (zA zq j)),λj=>(zu (zu z)).1 (Zb (zA zq j)),λj=>(zu (zu z)).2 (Zb (zA zq j))))then ze else za)))) k (YQ G row w z0 k)
def KS(G:Int->S4->Bool×S4)(row:Nat->DT3)(w:Int)(z0:S4)(k:Nat)(z:S4):S4:=(λ(i:Int)(z:S4)=>(bif bif z.1 (Zb (zA zq (DT3.f0 (row (zi i)))))then(zu z).1 (Zb (zA zq (DT3.f0 (row (zi i)))))else za then((z.1,z.2.1,z.2.2.1,z.2.2.2))else(bif !(zu (zu z)).1 (Zb (zA zq (DT3.f0 (row (zi i)))))then(((λ(j_:Int)=>bif j_==(DT3.f0 (row (zi i)))then ze else z.1 (j_)),(λ(j_:Int)=>bif j_==(DT3.f0 (row (zi i)))then ze else(zu z).1 (j_)),(λ(j_:Int)=>bif j_==(DT3.f0 (row (zi i)))then ze else(zu (zu z)).1 (j_)),(λ(j_:Int)=>bif j_==(DT3.f0 (row (zi i)))then w else(zu (zu z)).2 (j_))))else(bif zL (G (bif (zu (zu z)).1 (Zb (zA zq (DT3.f0 (row (zi i)))))then(zu (zu z)).2 (Zb (zA zq (DT3.f0 (row (zi i)))))else(0:Int)) (λj=>bif ZG (zA zq j) (zA zq (DT3.f0 (row (zi i))))then ze else z.1 (Zb (zA zq j)),λj=>bif ZG (zA zq j) (zA zq (DT3.f0 (row (zi i))))then ze else(zu z).1 (Zb (zA zq j)),λj=>(zu (zu z)).1 (Zb (zA zq j)),λj=>(zu (zu z)).2 (Zb (zA zq j))))then(((λ(j_:Int)=>(zu (G (bif (zu (zu z)).1 (Zb (zA zq (DT3.f0 (row (zi i)))))then(zu (zu z)).2 (Zb (zA zq (DT3.f0 (row (zi i)))))else(0:Int)) (λj=>bif ZG (zA zq j) (zA zq (DT3.f0 (row (zi i))))then ze else z.1 (Zb (zA zq j)),λj=>bif ZG (zA zq j) (zA zq (DT3.f0 (row (zi i))))then ze else(zu z).1 (Zb (zA zq j)),λj=>(zu (zu z)).1 (Zb (zA zq j)),λj=>(zu (zu z)).2 (Zb (zA zq j))))).1 (j_)),(λ(j_:Int)=>(zu (zu (G (bif (zu (zu z)).1 (Zb (zA zq (DT3.f0 (row (zi i)))))then(zu (zu z)).2 (Zb (zA zq (DT3.f0 (row (zi i)))))else(0:Int)) (λj=>bif ZG (zA zq j) (zA zq (DT3.f0 (row (zi i))))then ze else z.1 (Zb (zA zq j)),λj=>bif ZG (zA zq j) (zA zq (DT3.f0 (row (zi i))))then ze else(zu z).1 (Zb (zA zq j)),λj=>(zu (zu z)).1 (Zb (zA zq j)),λj=>(zu (zu z)).2 (Zb (zA zq j)))))).1 (j_)),(λ(j_:Int)=>bif j_==(DT3.f0 (row (zi i)))then ze else(zu (zu (zu (G (bif (zu (zu z)).1 (Zb (zA zq (DT3.f0 (row (zi i)))))then(zu (zu z)).2 (Zb (zA zq (DT3.f0 (row (zi i)))))else(0:Int)) (λj=>bif ZG (zA zq j) (zA zq (DT3.f0 (row (zi i))))then ze else z.1 (Zb (zA zq j)),λj=>bif ZG (zA zq j) (zA zq (DT3.f0 (row (zi i))))then ze else(zu z).1 (Zb (zA zq j)),λj=>(zu (zu z)).1 (Zb (zA zq j)),λj=>(zu (zu z)).2 (Zb (zA zq j))))))).1 (j_)),(λ(j_:Int)=>bif j_==(DT3.f0 (row (zi i)))then w else(zu (zu (zu (G (bif (zu (zu z)).1 (Zb (zA zq (DT3.f0 (row (zi i)))))then(zu (zu z)).2 (Zb (zA zq (DT3.f0 (row (zi i)))))else(0:Int)) (λj=>bif ZG (zA zq j) (zA zq (DT3.f0 (row (zi i))))then ze else z.1 (Zb (zA zq j)),λj=>bif ZG (zA zq j) (zA zq (DT3.f0 (row (zi i))))then ze else(zu z).1 (Zb (zA zq j)),λj=>(zu (zu z)).1 (Zb (zA zq j)),λj=>(zu (zu z)).2 (Zb (zA zq j))))))).2 (j_))))else((z.1,z.2.1,z.2.2.1,z.2.2.2)))))) k z
def gv_lp(m:Nat)(r:Nat->Zc)(G:Int->S4->Bool×S4)(Pr:Int->S4->Prop)(L:Nat)(row:Nat->DT3)(w:Int)(z0:S4):Lp:=⟨167,2,λ_ s=>match vwN 5 5 44 [0,1,2,3,4,7,15,16,17] [(0,.own),(1,.own),(2,.own),(3,.own),(4,.own)] s with
 |(ze,(.cons (.int _ .i64 t0) (.cons (.mp 0) (.cons (.ptr ze 1 0 0 0) (.cons (.ptr ze 2 0 0 0) (.cons (.ptr ze 3 0 0 0) (.cons (.bool _ t5) (.cons (.rsl _ 1 nt6 ft6) (.cons (.int _ .i64 t7) (.cons (.int _ .i64 t8) .nil))))))))),[.Zm (.int .i64) _ u0 _,.var (.cons (.rsl _ 1 nu10 fu10) .nil),.var (.cons (.mp 4) .nil),.var (.cons (.fn (.func 167) .nil (.cons (.ptr ze 1 0 0 0) (.cons (.ptr ze 2 0 0 0) (.cons (.ptr ze 3 0 0 0) .nil)))) .nil),.Zm (.int .i64) _ u4 _])=>bif zo s.n 5 then .need (w=t0/\za=t5/\L=nt6/\(λj=>ZP za (row j))=ft6/\((L:Nat):Int)=t7/\0=t8/\YR .i64 (λx=>(z0.1 (Zb x),zC za (z0.2.1 (Zb x)))) u0/\m=nu10/\(λj=>Qz za (r j))=fu10/\YR .i64 (λx=>(z0.2.2.1 (Zb x),zn za .i64 (z0.2.2.2 (Zb x)))) u4)
  (.node (Zv (Xx G row w z0) L) (.leaf (.ret,YN 5 44 [0,1,2,3,4,7,15,16,17] [(0,.own),(1,.own),(2,.own),(3,.own),(4,.own)] (.cons (zn za zq w) (.cons (zZ (0:Nat)) (.cons (zV ze (1:Nat) (0:Nat) (0:Nat) (0:Nat)) (.cons (zV ze (2:Nat) (0:Nat) (0:Nat) (0:Nat)) (.cons (zV ze (3:Nat) (0:Nat) (0:Nat) (0:Nat)) (.cons (zC ze ze) (.cons (zl za (1:Nat) L λjj=>zf (zn za zq (DT3.f0 (row jj))) zh) (.cons (zn za zq (L:Int)) (.cons .junk .nil))))))))) [.Zm (.int .i64) za (λx=>((KS G row w z0 (Yc (Xx G row w z0) L 0) (YQ G row w z0 (Yc (Xx G row w z0) L 0))).1 (Zb x),.bool za ((KS G row w z0 (Yc (Xx G row w z0) L 0) (YQ G row w z0 (Yc (Xx G row w z0) L 0))).2.1 (Zb x)))) none,.var (.cons (.rsl za 1 m (λj=>Qz za (r j))) .nil),.var (.cons (.mp 4) .nil),.var (.cons (.fn (.func 167) .nil (.cons (.ptr ze 1 0 0 0) (.cons (.ptr ze 2 0 0 0) (.cons (.ptr ze 3 0 0 0) .nil)))) .nil),.Zm (.int .i64) za (λx=>((KS G row w z0 (Yc (Xx G row w z0) L 0) (YQ G row w z0 (Yc (Xx G row w z0) L 0))).2.2.1 (Zb x),.int za .i64 ((KS G row w z0 (Yc (Xx G row w z0) L 0) (YQ G row w z0 (Yc (Xx G row w z0) L 0))).2.2.2 (Zb x)))) none])) (.leaf (.exit 0,YN 5 44 [0,1,2,3,4,7,15,16,17] [(0,.own),(1,.own),(2,.own),(3,.own),(4,.own)] (Zbj m r G Pr L row w z0 ((L:Nat):Int) (YQ G row w z0 L)) (Zbk m r G Pr L row w z0 ((L:Nat):Int) (YQ G row w z0 L)))))else .stuck
 |_=>.stuck⟩
theorem gv_lp_ok(m:Nat)(r:Nat->Zc)(G:Int->S4->Bool×S4)(Pr:Int->S4->Prop)(L:Nat)(row:Nat->DT3)(w:Int)(z0:S4)(hl:L<=1000)(hK:Xj P 167 (Kv m r G Pr))(hN:∀k:Nat,k<L->(∀j,j<k->Xx G row w z0 j=za)->(bif (YQ G row w z0 k).1 (row k).f0 then(YQ G row w z0 k).2.1 (row k).f0 else za)=za->(!(YQ G row w z0 k).2.2.1 (row k).f0)=za->Pr (K3 (YQ G row w z0 k) (row k).f0) (QX (YQ G row w z0 k) (row k).f0)):(gv_lp m r G Pr L row w z0).Ok P:=by
 refine VU (by kernel_rfl) λhin B s Q hq=>?_
 dsimp only[gv_lp]at hq hin⊢
 split at hq
 ·rename_i q1 t0 q2 t5 q3 nt6 ft6 q4 t7 q5 t8 q6 u0 q7 q8 nu10 fu10 q9 u4 q10 heq
  cases hsn:zo s.n 5
  ·rw[hsn]at hq;exact hq.elim
  ·rw[hsn]at hq
   obtain⟨⟨rfl,rfl,rfl,rfl,rfl,rfl,hmu0,rfl,rfl,hmu4⟩,hq⟩:=hq
   have hsame:Qv 5 5 44 [0,1,2,3,4,7,15,16,17] [(0,.own),(1,.own),(2,.own),(3,.own),(4,.own)] s (Zbj m r G Pr L row w z0 0 z0) (Zbk m r G Pr L row w z0 0 z0):=by
    refine⟨by rw[heq],by rw[heq];exact Le.soft rfl,by rw[heq];exact⟨Wd λa=>⟨(hmu0 a).1.symm,Le.soft (hmu0 a).2.symm⟩,LeK.var (Le.soft rfl),LeK.var (Le.soft rfl),LeK.var (Le.soft rfl),Wd λa=>⟨(hmu4 a).1.symm,Le.soft (hmu4 a).2.symm⟩,trivial⟩⟩
   refine Zi8 (k:=400) (f:=167) ((YJ hm hn (l:=[]) trivial).KJ (l:=[⟨167,Kv m r G Pr⟩]) ⟨hK,trivial⟩) rfl hin L (λi=>Zbj m r G Pr L row w z0 i (YQ G row w z0 i)) (λi=>Zbk m r G Pr L row w z0 i (YQ G row w z0 i)) (λi=>∀k,k<i->Xx G row w z0 k=za) Q (λi=>gv_round B m r G Pr L row w z0 i (YQ G row w z0 i)) (λi hi hg=>?_) (Nat.eq_of_beq_eq_true hsn) (λk hk=>absurd hk (yB k)) hsame
   refine And.symm ⟨λhc=>?_,λhc=>?_⟩
   ·have hge:¬((i:Int)<((L:Nat):Int)):=λh=>by rw[decide_eq_true h]at hc;cases hc
    have e:i=L:=by omega
    subst e
    exact⟨rfl,_,_,Le.refl _,by exact⟨LeK.refl _,LeK.refl _,LeK.refl _,LeK.refl _,LeK.refl _,trivial⟩,hq.2 (Zcj hg)⟩
   ·have hlt:(i:Int)<((L:Nat):Int):=by
     apply Classical.byContradiction;intro h;rw[decide_eq_false h]at hc;cases hc
    refine⟨?need0,?_⟩
    case need0=>
     clear hq hin
     repeat'(first|exact rfl|exact λ_=>⟨rfl,rfl⟩|apply zB|intro _)
     all_goals(try simp only[decide_eq_true_eq,decide_eq_false_iff_not,yj,yu]at*)
     all_goals(try simp(disch:=omega) only[IntWalk.i64_in])
     all_goals(first|omega|exact hN _ (by omega) hg hb0 hb1)
    refine⟨λhb0=>?_,λhb0=>?_⟩
    ·have hz:YQ G row w z0 (i+1)=(λ(i:Int)(z:S4)=>(((λ(j_:Int)=>z.1 (j_)),(λ(j_:Int)=>(zu z).1 (j_)),(λ(j_:Int)=>(zu (zu z)).1 (j_)),(λ(j_:Int)=>(zu (zu z)).2 (j_))))) ((i:Nat):Int) (YQ G row w z0 i):=(cT hb0 rfl)
     rw[IntWalk.i64_in ((i:Int)+1) ⟨by omega,by omega⟩]
     exact⟨rfl,by omega,Zlu hg (show Xx G row w z0 i=za from(cT hb0 rfl)),(by show Le _ _ (Zbj m r G Pr L row w z0 ((i+1:Nat):Int) (YQ G row w z0 (i+1)));rw[hz];exact Le.soft rfl),by show X8 _ _ (Zbk m r G Pr L row w z0 ((i+1:Nat):Int) (YQ G row w z0 (i+1)));rw[hz];exact⟨Wd λa=>⟨rfl,Le.soft rfl⟩,LeK.refl _,LeK.refl _,LeK.refl _,Wd λa=>⟨rfl,Le.soft rfl⟩,trivial⟩⟩
    ·refine⟨λhb1=>?_,λhb1=>?_⟩
     ·have hb:Xx G row w z0 i=ze:=(cF hb0 (cT hb1 rfl))
      have hf:=ZfX (f:=Xx G row w z0) (n:=L) (by omega) hg hb
      have hq1:=hq.1 (Zev (k:=i) (by omega) hb)
      try rw[hf]at hq1
      have he:KS G row w z0 i (YQ G row w z0 i)=(λ(i:Int)(z:S4)=>(((λ(j_:Int)=>bif j_==(DT3.f0 (row (zi i)))then ze else z.1 (j_)),(λ(j_:Int)=>bif j_==(DT3.f0 (row (zi i)))then ze else(zu z).1 (j_)),(λ(j_:Int)=>bif j_==(DT3.f0 (row (zi i)))then ze else(zu (zu z)).1 (j_)),(λ(j_:Int)=>bif j_==(DT3.f0 (row (zi i)))then w else(zu (zu z)).2 (j_))))) ((i:Nat):Int) (YQ G row w z0 i):=(cF hb0 (cT hb1 rfl))
      rw[he]at hq1
      exact⟨rfl,_,_,by exact Le.cons (Le.refl _) (Le.cons (Le.refl _) (Le.cons (Le.refl _) (Le.cons (Le.refl _) (Le.cons (Le.refl _) (Le.cons (Le.refl _) (Le.cons (Le.refl _) (Le.cons (Le.refl _) (Le.cons (Le.junk _ rfl) (Le.refl _))))))))),by exact⟨Wd λa=>⟨rfl,Le.soft rfl⟩,LeK.refl _,LeK.refl _,LeK.refl _,Wd λa=>⟨rfl,Le.soft rfl⟩,trivial⟩,hq1⟩
     ·refine⟨?need1,?_⟩
      case need1=>
       clear hq hin
       repeat'(first|exact rfl|exact λ_=>⟨rfl,rfl⟩|apply zB|intro _)
       all_goals(try simp only[decide_eq_true_eq,decide_eq_false_iff_not,yj,yu]at*)
       all_goals(try simp(disch:=omega) only[IntWalk.i64_in])
       all_goals(first|omega|exact hN _ (by omega) hg hb0 hb1)
      refine⟨λhb2=>?_,λhb2=>?_⟩
      ·have hb:Xx G row w z0 i=ze:=(cF hb0 (cF hb1 (cT hb2 rfl)))
       have hf:=ZfX (f:=Xx G row w z0) (n:=L) (by omega) hg hb
       have hq1:=hq.1 (Zev (k:=i) (by omega) hb)
       try rw[hf]at hq1
       have he:KS G row w z0 i (YQ G row w z0 i)=(λ(i:Int)(z:S4)=>(((λ(j_:Int)=>(zu (G (bif (zu (zu z)).1 (Zb (zA zq (DT3.f0 (row (zi i)))))then(zu (zu z)).2 (Zb (zA zq (DT3.f0 (row (zi i)))))else(0:Int)) (λj=>bif ZG (zA zq j) (zA zq (DT3.f0 (row (zi i))))then ze else z.1 (Zb (zA zq j)),λj=>bif ZG (zA zq j) (zA zq (DT3.f0 (row (zi i))))then ze else(zu z).1 (Zb (zA zq j)),λj=>(zu (zu z)).1 (Zb (zA zq j)),λj=>(zu (zu z)).2 (Zb (zA zq j))))).1 (j_)),(λ(j_:Int)=>(zu (zu (G (bif (zu (zu z)).1 (Zb (zA zq (DT3.f0 (row (zi i)))))then(zu (zu z)).2 (Zb (zA zq (DT3.f0 (row (zi i)))))else(0:Int)) (λj=>bif ZG (zA zq j) (zA zq (DT3.f0 (row (zi i))))then ze else z.1 (Zb (zA zq j)),λj=>bif ZG (zA zq j) (zA zq (DT3.f0 (row (zi i))))then ze else(zu z).1 (Zb (zA zq j)),λj=>(zu (zu z)).1 (Zb (zA zq j)),λj=>(zu (zu z)).2 (Zb (zA zq j)))))).1 (j_)),(λ(j_:Int)=>bif j_==(DT3.f0 (row (zi i)))then ze else(zu (zu (zu (G (bif (zu (zu z)).1 (Zb (zA zq (DT3.f0 (row (zi i)))))then(zu (zu z)).2 (Zb (zA zq (DT3.f0 (row (zi i)))))else(0:Int)) (λj=>bif ZG (zA zq j) (zA zq (DT3.f0 (row (zi i))))then ze else z.1 (Zb (zA zq j)),λj=>bif ZG (zA zq j) (zA zq (DT3.f0 (row (zi i))))then ze else(zu z).1 (Zb (zA zq j)),λj=>(zu (zu z)).1 (Zb (zA zq j)),λj=>(zu (zu z)).2 (Zb (zA zq j))))))).1 (j_)),(λ(j_:Int)=>bif j_==(DT3.f0 (row (zi i)))then w else(zu (zu (zu (G (bif (zu (zu z)).1 (Zb (zA zq (DT3.f0 (row (zi i)))))then(zu (zu z)).2 (Zb (zA zq (DT3.f0 (row (zi i)))))else(0:Int)) (λj=>bif ZG (zA zq j) (zA zq (DT3.f0 (row (zi i))))then ze else z.1 (Zb (zA zq j)),λj=>bif ZG (zA zq j) (zA zq (DT3.f0 (row (zi i))))then ze else(zu z).1 (Zb (zA zq j)),λj=>(zu (zu z)).1 (Zb (zA zq j)),λj=>(zu (zu z)).2 (Zb (zA zq j))))))).2 (j_))))) ((i:Nat):Int) (YQ G row w z0 i):=(cF hb0 (cF hb1 (cT hb2 rfl)))
       rw[he]at hq1
       exact⟨rfl,_,_,by exact Le.cons (Le.refl _) (Le.cons (Le.refl _) (Le.cons (Le.refl _) (Le.cons (Le.refl _) (Le.cons (Le.refl _) (Le.cons (Le.refl _) (Le.cons (Le.refl _) (Le.cons (Le.refl _) (Le.cons (Le.junk _ rfl) (Le.refl _))))))))),by exact⟨Wd λa=>⟨rfl,Le.soft rfl⟩,LeK.refl _,LeK.refl _,LeK.refl _,Wd λa=>⟨rfl,Le.soft rfl⟩,trivial⟩,hq1⟩
      ·have hz:YQ G row w z0 (i+1)=(λ(i:Int)(z:S4)=>(((λ(j_:Int)=>(zu (G (bif (zu (zu z)).1 (Zb (zA zq (DT3.f0 (row (zi i)))))then(zu (zu z)).2 (Zb (zA zq (DT3.f0 (row (zi i)))))else(0:Int)) (λj=>bif ZG (zA zq j) (zA zq (DT3.f0 (row (zi i))))then ze else z.1 (Zb (zA zq j)),λj=>bif ZG (zA zq j) (zA zq (DT3.f0 (row (zi i))))then ze else(zu z).1 (Zb (zA zq j)),λj=>(zu (zu z)).1 (Zb (zA zq j)),λj=>(zu (zu z)).2 (Zb (zA zq j))))).1 (j_)),(λ(j_:Int)=>(zu (zu (G (bif (zu (zu z)).1 (Zb (zA zq (DT3.f0 (row (zi i)))))then(zu (zu z)).2 (Zb (zA zq (DT3.f0 (row (zi i)))))else(0:Int)) (λj=>bif ZG (zA zq j) (zA zq (DT3.f0 (row (zi i))))then ze else z.1 (Zb (zA zq j)),λj=>bif ZG (zA zq j) (zA zq (DT3.f0 (row (zi i))))then ze else(zu z).1 (Zb (zA zq j)),λj=>(zu (zu z)).1 (Zb (zA zq j)),λj=>(zu (zu z)).2 (Zb (zA zq j)))))).1 (j_)),(λ(j_:Int)=>(zu (zu (zu (G (bif (zu (zu z)).1 (Zb (zA zq (DT3.f0 (row (zi i)))))then(zu (zu z)).2 (Zb (zA zq (DT3.f0 (row (zi i)))))else(0:Int)) (λj=>bif ZG (zA zq j) (zA zq (DT3.f0 (row (zi i))))then ze else z.1 (Zb (zA zq j)),λj=>bif ZG (zA zq j) (zA zq (DT3.f0 (row (zi i))))then ze else(zu z).1 (Zb (zA zq j)),λj=>(zu (zu z)).1 (Zb (zA zq j)),λj=>(zu (zu z)).2 (Zb (zA zq j))))))).1 (j_)),(λ(j_:Int)=>(zu (zu (zu (G (bif (zu (zu z)).1 (Zb (zA zq (DT3.f0 (row (zi i)))))then(zu (zu z)).2 (Zb (zA zq (DT3.f0 (row (zi i)))))else(0:Int)) (λj=>bif ZG (zA zq j) (zA zq (DT3.f0 (row (zi i))))then ze else z.1 (Zb (zA zq j)),λj=>bif ZG (zA zq j) (zA zq (DT3.f0 (row (zi i))))then ze else(zu z).1 (Zb (zA zq j)),λj=>(zu (zu z)).1 (Zb (zA zq j)),λj=>(zu (zu z)).2 (Zb (zA zq j))))))).2 (j_))))) ((i:Nat):Int) (YQ G row w z0 i):=(cF hb0 (cF hb1 (cF hb2 rfl)))
       rw[IntWalk.i64_in ((i:Int)+1) ⟨by omega,by omega⟩]
       exact⟨rfl,by omega,Zlu hg (show Xx G row w z0 i=za from(cF hb0 (cF hb1 (cF hb2 rfl)))),(by show Le _ _ (Zbj m r G Pr L row w z0 ((i+1:Nat):Int) (YQ G row w z0 (i+1)));rw[hz];exact Le.soft rfl),by show X8 _ _ (Zbk m r G Pr L row w z0 ((i+1:Nat):Int) (YQ G row w z0 (i+1)));rw[hz];exact⟨Wd λa=>⟨rfl,Le.soft rfl⟩,LeK.refl _,LeK.refl _,LeK.refl _,Wd λa=>⟨rfl,Le.soft rfl⟩,trivial⟩⟩
 ·exact hq.elim
def gvHN(G:Int->S4->Bool×S4)(Pr:Int->S4->Prop)(L:Nat)(row:Nat->DT3)(w:Int)(z0:S4):Prop:=∀k:Nat,k<L->(∀j,j<k->Xx G row w z0 j=za)->(bif (YQ G row w z0 k).1 (row k).f0 then(YQ G row w z0 k).2.1 (row k).f0 else za)=za->(!(YQ G row w z0 k).2.2.1 (row k).f0)=za->Pr (K3 (YQ G row w z0 k) (row k).f0) (QX (YQ G row w z0 k) (row k).f0)
def gv_in(m:Nat)(r:Nat->Zc)(G:Int->S4->Bool×S4)(Pr:Int->S4->Prop):Lp:=⟨167,2,λ_ s=>(s.tmp 0).VZ .stuck λw=>(s.tmp 15).Zam .stuck λL fr=>(s.blk 0).onMap .stuck λfa=>(s.blk 4).onMap .stuck λfh=>
 .need (L<=1000/\gvHN G Pr L (λj=>ZM (fr j)) w (λj=>(fa (.int .i64 j)).1,λj=>(fa (.int .i64 j)).2.toBool,λj=>(fh (.int .i64 j)).1,λj=>(fh (.int .i64 j)).2.toInt)) ((gv_lp m r G Pr L (λj=>ZM (fr j)) w (λj=>(fa (.int .i64 j)).1,λj=>(fa (.int .i64 j)).2.toBool,λj=>(fh (.int .i64 j)).1,λj=>(fh (.int .i64 j)).2.toInt)).g _ s)⟩
variable{m:Nat}{r:Nat->Zc}{G:Int->S4->Bool×S4}
theorem gv_in_ok{Pr:Int->S4->Prop}(hK:Xj P 167 (Kv m r G Pr)):(gv_in m r G Pr).Ok P:=by
 intro body hin hfr B s Q hq
 obtain⟨w,hq⟩:=UL hq
 obtain⟨L,fr,hq⟩:=Zby hq
 obtain⟨fa,hq⟩:=Zji hq
 obtain⟨fh,hq⟩:=Zji hq
 exact gv_lp_ok _ _ _ _ _ _ _ _ hq.1.1 hK hq.1.2 body hin hfr B s Q hq.2
abbrev gvEnv(m:Nat)(r:Nat->Zc)(G:Int->S4->Bool×S4)(Pr:Int->S4->Prop):Env:={ P,Γ:=Vl [],lp:=UA [gv_in m r G Pr],mg:=ze,nm:=λg=>zo g 167 }
variable{f:Nat->Bool}
theorem Zeu:∀{n:Nat},Zv f n=ze->∃k,k<n/\f k=ze:=by
 intro n
 induction n with
 |zero=>intro h;cases h
 |succ n ih=>
  intro h
  have h':(Zv f n||f n)=ze:=h
  rw[Bool.or_eq_true]at h'
  rcases h' with h'|h'
  ·obtain⟨k,a,b⟩:=ih h';exact⟨k,by omega,b⟩
  ·exact⟨n,by omega,h'⟩
theorem fstTo_in:∀{m k:Nat},(∃j,k<=j/\j<k+m/\f j=ze)->k<=Yc f m k/\Yc f m k<k+m/\f (Yc f m k)=ze:=by
 intro m
 induction m with
 |zero=>intro k ⟨j,a,b,_⟩;omega
 |succ m ih=>
  intro k ⟨j,a,b,c⟩
  unfold Yc
  cases hk:f k with
  |true=>exact⟨zJ _,by show k<k+(m+1);omega,hk⟩
  |false=>
   have hj:k≠j:=λe=>by rw[e,c]at hk;cases hk
   obtain⟨x,y,z⟩:=ih (k:=k+1) ⟨j,by omega,by omega,c⟩
   exact⟨by show k<=Yc f m (k+1);omega,by show Yc f m (k+1)<_;omega,z⟩
theorem ZcZ{n:Nat}(h:Zv f n=ze):Yc f n 0<n:=by
 obtain⟨k,a,b⟩:=Zeu h
 have:=(fstTo_in (f:=f) (m:=n) (k:=0) ⟨k,Nat.zero_le _,by omega,b⟩).2.1
 omega
def Ui(z:S4)(c:Int):Bool:=bif z.1 c then z.2.1 c else za
def Zg1(z:S4)(c w:Int):S4:=(λj=>z.1 j,λj=>z.2.1 j,λj=>bif j==c then ze else z.2.2.1 j,λj=>bif j==c then w else z.2.2.2 j)
theorem Zp1(G:Int->S4->Bool×S4)(row:Nat->DT3)(w:Int)(z0:S4)(k:Nat)(z:S4):ZiS G row w z0 k z=
  bif Ui z (row k).f0 then z else bif !z.2.2.1 (row k).f0 then z else bif (G (K3 z (row k).f0) (QX z (row k).f0)).1 then z else(G (K3 z (row k).f0) (QX z (row k).f0)).2:=by kernel_rfl
theorem gv_end_eq(G:Int->S4->Bool×S4)(row:Nat->DT3)(w:Int)(z0:S4)(k:Nat)(z:S4):KS G row w z0 k z=
  bif Ui z (row k).f0 then z else bif !z.2.2.1 (row k).f0 then Zg1 (QX z (row k).f0) (row k).f0 w else bif (G (K3 z (row k).f0) (QX z (row k).f0)).1 then Zg1 (G (K3 z (row k).f0) (QX z (row k).f0)).2 (row k).f0 w else z:=by kernel_rfl
def VP(r:Nat->Zc)(G:Int->S4->Bool×S4)(i:Int)(z:S4):Bool×S4:=
 bif Zv (Xx G (r i.toNat).r0 i z) (r i.toNat).n0 then(ze,KS G (r i.toNat).r0 i z (Yc (Xx G (r i.toNat).r0 i z) (r i.toNat).n0 0) (YQ G (r i.toNat).r0 i z (Yc (Xx G (r i.toNat).r0 i z) (r i.toNat).n0 0)))
 else(za,YQ G (r i.toNat).r0 i z (r i.toNat).n0)
def give(r:Nat->Zc):Nat->Int->S4->Bool×S4
 |0=>λ_ z=>(za,z)
 |q+1=>VP r (give r q)
def Kl(u:Int->Bool):Nat->Nat
 |0=>0
 |n+1=>Kl u n+(bif u n then 1 else 0)
variable{u v:Int->Bool}
theorem ZfB(h:∀c,u c=ze->v c=ze):∀n,Kl u n<=Kl v n:=by
 intro n
 induction n with
 |zero=>exact zJ _
 |succ n ih=>
  show Kl u n+_<=Kl v n+_
  cases hu:u n with
  |true=>rw[h _ hu];simp only[cond_true];omega
  |false=>simp only[cond_false];omega
variable{c:Int}
theorem cntTo_lt(h:∀c,u c=ze->v c=ze)(h1:u c=za)(h2:v c=ze):∀n:Nat,0<=c->c<n->Kl u n<Kl v n:=by
 intro n
 induction n with
 |zero=>intro a b;omega
 |succ n ih=>
  intro a b
  show Kl u n+_<Kl v n+_
  by_cases e:c=n
  ·subst e;rw[h1,h2];simp only[cond_true,cond_false];have:=ZfB h n;omega
  ·have:=ih a (by omega)
   cases hu:u n with
   |true=>rw[h _ hu];simp only[cond_true];omega
   |false=>simp only[cond_false];omega
def Ug(m:Nat)(r:Nat->Zc):Prop:=∀j,j<m->(r j).n0<=1000/\∀k,k<(r j).n0->0<=((r j).r0 k).f0/\((r j).r0 k).f0<8
def HasOk(m:Nat)(z:S4):Prop:=∀c,z.2.2.1 c=ze->0<=z.2.2.2 c/\z.2.2.2 c<m
def Y8(z:S4)(c:Int):Bool:=!Ui z c
def Pr(m q:Nat)(i:Int)(z:S4):Prop:=0<=i/\i<m/\HasOk m z/\Kl (Y8 z) 8<q
def Inv(m:Nat)(z z':S4):Prop:=HasOk m z'/\∀c,Y8 z' c=ze->Y8 z c=ze
variable{z:S4}
theorem ZfW{d:Int}(h:Y8 (QX z c) d=ze):Y8 z d=ze:=by
 unfold Y8 Ui QX at*
 dsimp only at h
 cases he:(d==c)with
 |true=>rw[he]at h;cases h
 |false=>rw[he]at h;exact h
theorem ZpO:Y8 (QX z c) c=za:=by
 unfold Y8 Ui QX
 dsimp only
 rw[show(c==c)=ze from by simp];rfl
theorem Zlx{w:Int}(h:HasOk m z)(h1:0<=w)(h2:w<m):HasOk m (Zg1 z c w):=by
 intro d hd
 unfold Zg1 at*
 dsimp only at hd⊢
 cases he:(d==c)with
 |true=>exact⟨h1,h2⟩
 |false=>rw[he]at hd;exact h d hd
variable{i:Int}
theorem pr_of{q:Nat}(hr:Ug m r){z':S4}(hp:Pr m (q+1) i z)(hi:Inv m z z'){k:Nat}(hk:k<(r i.toNat).n0)(h1:Ui z' ((r i.toNat).r0 k).f0=za)(h2:(!z'.2.2.1 ((r i.toNat).r0 k).f0)=za) :
  Pr m q (K3 z' ((r i.toNat).r0 k).f0) (QX z' ((r i.toNat).r0 k).f0):=by
 obtain⟨a,b,_,d⟩:=hp
 have hc:=(hr i.toNat (by omega)).2 k hk
 have hh:z'.2.2.1 ((r i.toNat).r0 k).f0=ze:=by
  cases e:z'.2.2.1 ((r i.toNat).r0 k).f0 with
  |true=>rfl
  |false=>rw[e]at h2;cases h2
 have ho:=hi.1 _ hh
 refine⟨?_,?_,λc hc'=>hi.1 c hc',?_⟩
 ·unfold K3;rw[hh];exact ho.1
 ·unfold K3;rw[hh];exact ho.2
 ·have h3:=cntTo_lt (u:=Y8 (QX z' ((r i.toNat).r0 k).f0)) (v:=Y8 z') (λc h=>ZfW h) ZpO (by unfold Y8;rw[h1];rfl) 8 hc.1 hc.2
  have h4:=ZfB (u:=Y8 z') (v:=Y8 z) hi.2 8
  omega
theorem acc_inv{q:Nat}(hr:Ug m r)(hG:∀i z,Pr m q i z->Inv m z (G i z).2)(hp:Pr m (q+1) i z):∀k,k<=(r i.toNat).n0->Inv m z (YQ G (r i.toNat).r0 i z k):=by
 intro k
 induction k with
 |zero=>intro _;exact⟨hp.2.2.1,λc h=>h⟩
 |succ k ih=>
  intro hk
  have hi:=ih (by omega)
  show Inv m z (ZiS G (r i.toNat).r0 i z k (YQ G (r i.toNat).r0 i z k))
  rw[Zp1]
  generalize YQ G (r i.toNat).r0 i z k=y at hi⊢
  cases h1:Ui y ((r i.toNat).r0 k).f0 with
  |true=>exact hi
  |false=>
   cases h2:(!y.2.2.1 ((r i.toNat).r0 k).f0)with
   |true=>exact hi
   |false=>
    have hp':=pr_of hr hp hi (by omega) h1 h2
    have hg:=hG _ _ hp'
    cases h3:(G (K3 y ((r i.toNat).r0 k).f0) (QX y ((r i.toNat).r0 k).f0)).1 with
    |true=>exact hi
    |false=>exact⟨hg.1,λc hc=>hi.2 c (ZfW (hg.2 c hc))⟩
theorem Zls(hr:Ug m r):∀q i z,Pr m q i z->Inv m z (give r q i z).2:=by
 intro q
 induction q with
 |zero=>intro i z h;exact absurd h.2.2.2 (by omega)
 |succ q ih=>
  intro i z hp
  show Inv m z (VP r (give r q) i z).2
  have ha:=acc_inv hr ih hp
  unfold VP
  cases hb:Zv (Xx (give r q) (r i.toNat).r0 i z) (r i.toNat).n0 with
  |false=>exact ha _ (zJ _)
  |true=>
   show Inv m z (KS (give r q) (r i.toNat).r0 i z (Yc (Xx (give r q) (r i.toNat).r0 i z) (r i.toNat).n0 0) (YQ (give r q) (r i.toNat).r0 i z (Yc (Xx (give r q) (r i.toNat).r0 i z) (r i.toNat).n0 0)))
   have hf:Yc (Xx (give r q) (r i.toNat).r0 i z) (r i.toNat).n0 0<(r i.toNat).n0:=ZcZ hb
   generalize Yc (Xx (give r q) (r i.toNat).r0 i z) (r i.toNat).n0 0=k at hf⊢
   have hi:=ha k (by omega)
   rw[gv_end_eq]
   generalize YQ (give r q) (r i.toNat).r0 i z k=y at hi⊢
   cases h1:Ui y ((r i.toNat).r0 k).f0 with
   |true=>exact hi
   |false=>
    cases h2:(!y.2.2.1 ((r i.toNat).r0 k).f0)with
    |true=>exact⟨Zlx (z:=QX y _) hi.1 hp.1 hp.2.1,λc hc=>hi.2 c (ZfW hc)⟩
    |false=>
     have hp':=pr_of hr hp hi (by omega) h1 h2
     have hg:=ih _ _ hp'
     cases h3:(give r q (K3 y ((r i.toNat).r0 k).f0) (QX y ((r i.toNat).r0 k).f0)).1 with
     |true=>exact⟨Zlx hg.1 hp.1 hp.2.1,λc hc=>hi.2 c (ZfW (hg.2 c hc))⟩
     |false=>exact hi
theorem gv_evH(m:Nat)(r:Nat->Zc)(G:Int->S4->Bool×S4)(Pq:Int->S4->Prop)(i:Int)(z:S4):evH (gvEnv m r G Pq) 400 167 (Zlr i) (Zbi m r z)=
  .need (0<=i/\i<(m:Int)) (.need ((r i.toNat).n0<=1000/\gvHN G Pq (r i.toNat).n0 (r i.toNat).r0 i z)
   (.need (i=i/\za=za/\(r i.toNat).n0=(r i.toNat).n0/\(λj=>ZP za ((r i.toNat).r0 j))=(λj=>ZP za ((r i.toNat).r0 j))/\(((r i.toNat).n0:Nat):Int)=(((r i.toNat).n0:Nat):Int)/\(0:Int)=0/\
     YR .i64 (λx=>(z.1 (Zb x),.bool za (z.2.1 (Zb x)))) (λx=>(z.1 (Zb x),.bool za (z.2.1 (Zb x))))/\m=m/\(λj=>Qz za (r j))=(λj=>Qz za (r j))/\
     YR .i64 (λx=>(z.2.2.1 (Zb x),.int za .i64 (z.2.2.2 (Zb x)))) (λx=>(z.2.2.1 (Zb x),.int za .i64 (z.2.2.2 (Zb x)))))
    (.node (Zv (Xx G (r i.toNat).r0 i z) (r i.toNat).n0)
     (.leaf (.bool ze ze,Zbi m r (KS G (r i.toNat).r0 i z (Yc (Xx G (r i.toNat).r0 i z) (r i.toNat).n0 0) (YQ G (r i.toNat).r0 i z (Yc (Xx G (r i.toNat).r0 i z) (r i.toNat).n0 0)))))
     (.leaf (.bool ze za,Zbi m r (YQ G (r i.toNat).r0 i z (r i.toNat).n0)))))):=by kernel_rfl
variable{Pq:Int->S4->Prop}
theorem gvEnv_ok(hK:Xj P 167 (Kv m r G Pq)):(gvEnv m r G Pq).Ok:=
 let e:=ZC hm hn (l:=[]) trivial (ls:=[gv_in m r G Pq]) ⟨gv_in_ok hK,trivial⟩ ze
 ⟨e.mixed,e.named,e.sure,e.where_,e.fork,e.lp,e.hk⟩
theorem give_at(hK:Xj P 167 (Kv m r G Pq))(hi:0<=i/\i<(m:Int))(hL:(r i.toNat).n0<=1000)(hN:gvHN G Pq (r i.toNat).n0 (r i.toNat).r0 i z) :
  YG P 167 (Zlr i) (Zbi m r z) (.leaf (.bool za (VP r G i z).1,Zbi m r (VP r G i z).2)):=by
 refine hk_at (gvEnv_ok hK) 400 λQ hQ=>?_
 rw[gv_evH]
 refine⟨hi,⟨hL,hN⟩,⟨rfl,rfl,rfl,rfl,rfl,rfl,λ_=>⟨rfl,rfl⟩,rfl,rfl,λ_=>⟨rfl,rfl⟩⟩,λh=>?_,λh=>?_⟩
 ·have e:VP r G i z=(ze,KS G (r i.toNat).r0 i z (Yc (Xx G (r i.toNat).r0 i z) (r i.toNat).n0 0) (YQ G (r i.toNat).r0 i z (Yc (Xx G (r i.toNat).r0 i z) (r i.toNat).n0 0))):=by unfold VP;rw[h];rfl
  rw[e]at hQ
  exact⟨_,hQ,rfl,rfl⟩
 ·have e:VP r G i z=(za,YQ G (r i.toNat).r0 i z (r i.toNat).n0):=by unfold VP;rw[h];rfl
  rw[e]at hQ
  exact⟨_,hQ,rfl,rfl⟩
theorem give_ok(hr:Ug m r):∀q,Xj P 167 (Kv m r (give r q) (Pr m q)):=by
 intro q
 induction q with
 |zero=>
  intro args bl T hT
  unfold Kv at hT
  split at hT
  ·injection hT with hT
   subst hT
   intro base mm F w xs Q KK h1 h2 hq
   exact absurd hq.1.2.2.2.2.2.2.2 (by omega)
  ·cases hT
 |succ q ih=>
  intro args bl T hT
  unfold Kv at hT
  split at hT
  ·rename_i i q1 fa q2 m' fr q3 fh q4
   injection hT with hT
   subst hT
   intro base mm F w xs Q KK h1 h2 hq hk
   obtain⟨⟨rfl,rfl,hA,hH,hp⟩,hq⟩:=hq
   refine YG.le (bl:=[.Zm (.int .i64) q1 fa q2,rowsB m r,.var (.cons (.mp 4) .nil),capB,.Zm (.int .i64) q3 fh q4]) (give_at (r:=r) (i:=i) (z:=(λj=>(fa (.int .i64 j)).1,λj=>(fa (.int .i64 j)).2.toBool,λj=>(fh (.int .i64 j)).1,λj=>(fh (.int .i64 j)).2.toInt)) ih ⟨hp.1,hp.2.1⟩ (hr _ (by have:=hp.1;have:=hp.2.1;omega)).1 (λk hk hg h3 h4=>pr_of hr hp (acc_inv hr (Zls hr q) hp k (by omega)) hk h3 h4)) rfl (λb=>?_) base mm F w xs Q KK h1 h2 hq hk
   match b with
   |0=>exact Wd λa=>⟨rfl,Le.soft (hA a).2.symm⟩
   |1=>exact LeK.refl _
   |2=>exact LeK.refl _
   |3=>exact LeK.refl _
   |4=>exact Wd λa=>⟨rfl,Le.soft (hH a).2.symm⟩
   |_+5=>exact LeK.refl _
  ·cases hT
abbrev gm0_ts(an:Nat)(a:Nat->Zc)(G:Int->S4->Bool×S4)(Pq:Int->S4->Prop)(i:Int)(z:(Int->Bool)×(Int->Int)):V:=(.cons (.bool ze za) (.cons (.ptr ze 3 0 0 0) (.cons (.int za .i64 ((an:Nat):Int)) (.cons (.int za .i64 i) .nil))))
abbrev gm0_ys(an:Nat)(a:Nat->Zc)(G:Int->S4->Bool×S4)(Pq:Int->S4->Prop)(i:Int)(z:(Int->Bool)×(Int->Int)):List Blk:=[.var (.cons (.rsl za 1 an (λj=>Qz za (a j))) .nil),.Zm (.int .i64) za (λx=>(z.1 (Zb x),.int za .i64 (z.2 (Zb x)))) none,.var (.cons (.mp 1) .nil),.var (.cons (.fn (.func 167) .nil (.cons (.ptr ze 0 0 0 0) (.cons (.ptr ze 2 0 0 0) (.cons (.ptr ze 3 0 0 0) .nil)))) .nil)]
def gm0_R(an:Nat)(a:Nat->Zc)(G:Int->S4->Bool×S4)(Pq:Int->S4->Prop)(i:Int)(z:(Int->Bool)×(Int->Int)):Tree Rd:=
 let q1:=(G i (λj=>za,λj=>za,λj=>z.1 j,λj=>z.2 j))
 let q0:=[zN (zf (zl za 1 an λj=>zf (zl za 1 (Zc.n0 (a j)) λj_1=>ci ((a j).2 j_1).f0 zh) zh) zh),Blk.Zm (MK.int .i64) za (λk=>((zu (zu (zu q1))).1 (Zb k),vi ((zu (zu (zu q1))).2 (Zb k)))) none,zN (zf (zZ 1) zh),zN (zf (V.fn (Fn.func (167:FuncId)) zh (zf (pt 0) (zf (pt 2) (zf (pt 3) zh)))) zh)]
 zw (an=an/\((λj=>zf (zl za 1 (Zc.n0 (a j)) λj_1=>ci ((a j).2 j_1).f0 zh) zh)=λj=>zf (zl za 1 (Zc.n0 (a j)) λj_1=>ci ((a j).2 j_1).f0 zh) zh)/\(YR .i64 (λx=>(za,zC za za)) λk=>(za,zC ze za))/\(YR .i64 (λx=>(z.1 (Zb x),vi (z.2 (Zb x)))) λk=>(z.1 (Zb k),vi (z.2 (Zb k))))/\Pq i (λj=>za,λj=>za,λj=>z.1 j,λj=>z.2 j)) (zD (bif bif !zL q1 then ze else za then ze else za) (zx (Ex.ret,ze,zf (zC ze za) (zf (pt 3) (ci (an:Int) (ci i zh))),q0)) (zx (Ex.normal,ze,zf (zC ze za) (zf (pt 3) (ci (an:Int) (ci (zy .i64 (i+(1:Int))) zh))),q0)))
theorem gm0_round(an:Nat)(a:Nat->Zc)(G:Int->S4->Bool×S4)(Pq:Int->S4->Prop):Yo P { Zp P [] [] ze with hk:=Wx [⟨167,Kv an a G Pq⟩] } 113 5 4 4 19 [2,4,9,10] [(0,.own),(1,.own),(2,.own),(3,.own)] [] (gm0_ts an a G Pq) (gm0_ys an a G Pq) (λi=>(bif decide (i<(an:Int))then za else ze)) (.exit 0) (gm0_R an a G Pq):=λB i z=>by kernel_rfl
def Zc5(G:Int->S4->Bool×S4)(k:Nat)(z:(Int->Bool)×(Int->Int)):(Int->Bool)×(Int->Int):=(λ(i:Int)(z:(Int->Bool)×(Int->Int))=>(bif bif bif !zL (G i (λj=>za,λj=>za,λj=>z.1 j,λj=>z.2 j))then ze else za then ze else za then((z.1,z.2))else(((λ(j_:Int)=>(zu (zu (zu (G i (λj=>za,λj=>za,λj=>z.1 j,λj=>z.2 j))))).1 (j_)),(λ(j_:Int)=>(zu (zu (zu (G i (λj=>za,λj=>za,λj=>z.1 j,λj=>z.2 j))))).2 (j_)))))) k z
def JV(G:Int->S4->Bool×S4)(k:Nat):(Int->Bool)×(Int->Int):=ZQ ((λ_=>za),(λ_=>0)) (Zc5 G) k
def ZiP(G:Int->S4->Bool×S4)(k:Nat):Bool:=(λ(i:Int)(z:(Int->Bool)×(Int->Int))=>(bif bif bif !zL (G i (λj=>za,λj=>za,λj=>z.1 j,λj=>z.2 j))then ze else za then ze else za then ze else za)) k (JV G k)
abbrev gm0_ets(an:Nat)(a:Nat->Zc)(G:Int->S4->Bool×S4)(Pq:Int->S4->Prop)(i:Int)(z:(Int->Bool)×(Int->Int)):V:=(.cons (zC ze za) (.cons (zV ze 3 0 0 0) (.cons (zn za .i64 (an:Int)) (.cons .junk .nil))))
abbrev gm0_eys(an:Nat)(a:Nat->Zc)(G:Int->S4->Bool×S4)(Pq:Int->S4->Prop)(i:Int)(z:(Int->Bool)×(Int->Int)):List Blk:=[.var (.cons (.rsl za 1 an (λj=>Qz za (a j))) .nil),.any,.var (.cons (.mp 1) .nil),.var (.cons (.fn (.func 167) .nil (.cons (.ptr ze 0 0 0 0) (.cons (.ptr ze 2 0 0 0) (.cons (.ptr ze 3 0 0 0) .nil)))) .nil)]
def gm0_lp(an:Nat)(a:Nat->Zc)(G:Int->S4->Bool×S4)(Pq:Int->S4->Prop):Lp:=lpL 113 5 4 4 19 [2,4,9,10] [(0,.own),(1,.own),(2,.own),(3,.own)] [] (gm0_ts an a G Pq) (gm0_ys an a G Pq) (.exit 0) .ret ((λ_=>za),(λ_=>0)) (JV G) (ZiP G) (an) (gm0_ets an a G Pq) (gm0_eys an a G Pq)
theorem gm0_lp_ok(an:Nat)(a:Nat->Zc)(G:Int->S4->Bool×S4)(Pq:Int->S4->Prop)(hl:an<=1000)(hK:Xj P 167 (Kv an a G Pq))(hN:∀k:Nat,k<an->Pq k ((λ(_:Int)=>za),(λ(_:Int)=>za),(λj=>(JV G k).1 j),(λj=>(JV G k).2 j))):(gm0_lp an a G Pq).Ok P:=by
 refine Xg ((ZC hm hn (l:=[]) trivial (ls:=[]) trivial ze).KJ (l:=[⟨167,Kv an a G Pq⟩]) ⟨hK,trivial⟩) rfl (by kernel_rfl) (gm0_round an a G Pq) exN YK (λ_=>rfl) (rd:=(λ_ t y=>((λj=>(y.getD 1 .none).hasK .i64 j),(λj=>(y.getD 1 .none).getI .i64 j)))) (λi z=>(cC rfl rfl)) (λi=>(cC rfl rfl)) rfl (λi hlt hg=>?_) (λi z hi=>?_)
 ·have hltI:(i:Int)<((an:Nat):Int):=by omega
  refine⟨?_,⟨λhb0=>trivial,λhb0=>trivial⟩⟩
  all_goals(repeat'(first|exact rfl|exact λ_=>⟨rfl,rfl⟩|apply zB|intro _))
  all_goals(try simp only[decide_eq_true_eq,decide_eq_false_iff_not,yj,yu]at*)
  all_goals(try simp(disch:=omega) only[IntWalk.i64_in])
  all_goals(first|omega|exact hN i (by omega))
 ·have hw:=(IntWalk.i64_in ((i:Int)+1) ⟨by omega,by omega⟩)
  refine⟨?_,?_⟩
  all_goals(first|exact⟨rfl,YL (ts:=gm0_ts an a G Pq) hw rfl,⟨LeK.refl _,Wd λa=>⟨rfl,Le.soft rfl⟩,LeK.refl _,LeK.refl _,trivial⟩⟩|exact⟨rfl,rfl,(by repeat'(first|exact Le.refl _|exact Le.junk _ rfl|apply Le.cons)),⟨LeK.refl _,LeK.any _,LeK.refl _,LeK.refl _,trivial⟩⟩)
def QC(r:Nat->Zc):Int->S4->Bool×S4:=give r 9
def Kt(z:(Int->Bool)×(Int->Int)):S4:=(λ_=>za,λ_=>za,λj=>z.1 j,λj=>z.2 j)
theorem ZpZ(G:Int->S4->Bool×S4)(k:Nat)(z:(Int->Bool)×(Int->Int)):Zc5 G k z=bif !(G k (Kt z)).1 then z else((G k (Kt z)).2.2.2.1,(G k (Kt z)).2.2.2.2):=by
 show(bif bif bif !(G k (Kt z)).1 then ze else za then ze else za then z else((G k (Kt z)).2.2.2.1,(G k (Kt z)).2.2.2.2))=_
 cases(G k (Kt z)).1<;>rfl
theorem gm_pr(hr:Ug m r):∀k:Nat,k<=m->∀c,(JV (QC r) k).1 c=ze->0<=(JV (QC r) k).2 c/\(JV (QC r) k).2 c<m:=by
 intro k
 induction k with
 |zero=>intro _ c h;cases h
 |succ k ih=>
  intro hk
  show ∀c,(Zc5 (QC r) k (JV (QC r) k)).1 c=ze->0<=(Zc5 (QC r) k (JV (QC r) k)).2 c/\(Zc5 (QC r) k (JV (QC r) k)).2 c<m
  rw[ZpZ]
  have hi:=ih (by omega)
  generalize JV (QC r) k=y at hi⊢
  cases h1:(!(QC r k (Kt y)).1)with
  |true=>exact hi
  |false=>
   have hp:Pr m 9 k (Kt y):=⟨by omega,by omega,hi,by
    have:=ZfB (u:=Y8 (Kt y)) (v:=λ_=>ze) (λ_ _=>rfl) 8
    have e:Kl (λ_=>ze) 8=8:=rfl
    omega⟩
   exact(Zls hr 9 _ _ hp).1
theorem gm_hN(hr:Ug m r)(k:Nat)(hk:k<m):Pr m 9 k (Kt (JV (QC r) k)):=
 ⟨by omega,by omega,gm_pr hr k (by omega),by
  have:=ZfB (u:=Y8 (Kt (JV (QC r) k))) (v:=λ_=>ze) (λ_ _=>rfl) 8
  have e:Kl (λ_=>ze) 8=8:=rfl
  omega⟩
abbrev gm_lp(m:Nat)(r:Nat->Zc):Lp:=gm0_lp m r (QC r) (Pr m 9)
theorem gm_lp_ok(m:Nat)(r:Nat->Zc)(hl:m<=1000)(hr:Ug m r):(gm_lp m r).Ok P:=gm0_lp_ok m r (QC r) (Pr m 9) hl (give_ok hr 9) (λk hk=>gm_hN hr k hk)
def gMatch_T(an:Nat)(a:Nat->Zc):Tree V:=
 let q0:=(zl za 1 an λj=>zf (zl za 1 (Zc.n0 (a j)) λj_1=>ci ((a j).2 j_1).f0 zh) zh)
 let q1:=(zf (zV za 3 0 0 0) (ci (an:Int) (ci (0:Int) zh)))
 let q2:=(zf (zV za 0 0 0 0) (zf (zV za 2 0 0 0) (zf (zV za 3 0 0 0) zh)))
 zw (zf (zC za za) q1=zf (zC za za) q1/\zf q0 zh=zf q0 zh/\(zq=zq/\YR .i64 (λx=>(za,vi (0:Int))) λk=>(za,zn ze .i64 (0:Int)))/\zf (zZ 1) zh=zf (zZ 1) zh/\zf (V.fn (Fn.func (167:Nat)) zh q2) zh=zf (V.fn (Fn.func (167:FuncId)) zh q2) zh/\True) (zD (bif Zv (ZiP (QC a)) an then ze else za) (zx (zC ze za)) (zx (zC ze ze)))
theorem ZpS(an:Nat)(a:Nat->Zc):ZU (Zp P [] [gm_lp an a] ze) 400 113 (.cons (.rsl za 1 an λj=>Qz za (a j)) .nil)=gMatch_T an a:=by kernel_rfl
def Xf(an:Nat)(a:Nat->Zc):Bool:=
  (bif bif Zv (ZiP (QC a)) an then ze else za then za else ze)
theorem Uu(an:Nat)(a:Nat->Zc)(h0:an<=1000)(h1:Ug an a):Zi P 113 (.cons (.rsl za 1 an λj=>Qz za (a j)) .nil) (.bool za (Xf an a)):=
 Xp (ZC hm hn (l:=[]) trivial (ls:=[gm_lp an a]) ⟨gm_lp_ok an a h0 h1,trivial⟩ ze) 400 (Has.of hn Tryz.func113 rfl) (ZpS an a) (Tree.Pre.mk (by refine⟨?_,⟨λ_=>trivial,λ_=>trivial⟩⟩;all_goals(first|exact gm_fit an a|(((repeat'(first|exact rfl|exact λ_=>⟨rfl,rfl⟩|apply zB|intro _));all_goals(try simp only[decide_eq_true_eq,decide_eq_false_iff_not]at*);all_goals omega))))) (by kernel_rfl) (by kernel_rfl)
end Go.Proofs.YthhbdbeglmkijaaGreatDoor
end
