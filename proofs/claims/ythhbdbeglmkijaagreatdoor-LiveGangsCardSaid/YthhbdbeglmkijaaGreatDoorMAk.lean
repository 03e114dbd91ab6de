/- slices.BinarySearchFunc (257) -/
import Derived.Test.YthhbdbeglmkijaaGreatDoorMAg
import Derived.Test.YthhbdbeglmkijaaGreatDoorMAj
import Derived.Test.YthhbdbeglmkijaaGreatDoorMAf
set_option maxRecDepth 100000
set_option linter.unusedVariables false
set_option linter.unusedSimpArgs false
noncomputable section
open Bool renaming false→za,true→ze,not_eq_true'→yg,not_eq_false'→yw,and_eq_true→zL,and_eq_false_iff→yE
open Go.Fw.V renaming nil→zh,int→zn,cons→zf,rsl→zl,bool→zC,soft→z8
open Go.Fw.Tree renaming node→zB,need→zu,leaf→zw
open Go.IntKind renaming wrap→zD,i64→zA,u32→yD,bits→zY
open Int renaming toNat→zk
open Nat renaming beq→zq,eq_of_beq_eq_true→zO,ble→zK,le_refl→zI,mul_le_mul_right→yx
open And renaming intro→zy
open Option renaming some→zi,none→zm
open True renaming intro→yj
open BitVec renaming toNat→yF,ofInt→yc
namespace Go.Proofs.YthhbdbeglmkijaaGreatDoor
open Go.Fw
abbrev ZeB(n:Nat)(r:Nat->ZI)(x:Int)(i j:Int):V:=(.cons (.rsl za 2 n (λj=>Zu za (r j))) (.cons (.int za .i64 x) (.cons (.fn (.func 258) .nil .nil) (.cons (.int ze .i64 0) (.cons (.bool ze za) (.cons (.int za .i64 ((n:Nat):Int)) (.cons (.int za .i64 i) (.cons (.int za .i64 j) .nil))))))))
abbrev ZeC(n:Nat)(r:Nat->ZI)(x:Int):List Blk:=[]
def bGang_T(n:Nat)(r:Nat->ZI)(x:Int)(i j:Int):Tree (Ex×Bool×V×List Blk):=
 let q0:=(V.fn (Fn.func (258:FuncId)) zh zh)
 let q8:=(zn ze .i64 (0:Int))
 zB (decide (i<j)) (zu ((0:Int)<=half i j/\half i j<(n:Int)) (zB (decide (zD .i64 ((r (zk (half i j))).f0-x)<(0:Int))) (zw (Ex.normal,ze,zf (zl za 2 n λjj=>ci (r jj).f0 (zf (zl za 1 (r jj).n1 λj=>ci ((r jj).3 j).f0 zh) zh)) (ci x (zf q0 (zf q8 (zf (zC ze za) (ci (n:Int) (ci (zD .i64 (half i j+(1:Int))) (ci j zh))))))),[])) (zw (Ex.normal,ze,zf (zl za 2 n λjj=>zf (zn za .i64 (r jj).f0) (zf (zl za 1 (r jj).n1 λj=>ci ((r jj).3 j).f0 zh) zh)) (zf (zn za .i64 x) (zf q0 (zf q8 (zf (zC ze za) (zf (zn za .i64 (n:Int)) (ci i (ci (half i j) zh))))))),[])))) (zw (Ex.exit 0,ze,zf (zl za (2:Nat) n λjj=>ci (r jj).f0 (zf (zl za 1 (r jj).n1 λj=>ci ((r jj).3 j).f0 zh) zh)) (ci x (zf q0 (zf q8 (zf (zC ze za) (ci (n:Int) (ci i (ci j zh))))))),[]))
theorem Znv(B:Base)(n:Nat)(r:Nat->ZI)(x:Int)(i j:Int):((ev (ZM P [] [257]) 400 257 (QZ P 257 3) B (Yl 1 49 [0,1,2,6,7,8,9,10] [] (ZeB n r x i j) (ZeC n r x))).bind λx=>zw (x.1,vwN 1 1 49 [0,1,2,6,7,8,9,10] [] x.2))=bGang_T n r x i j:=by kernel_rfl
def ZeA(n:Nat)(r:Nat->ZI)(x:Int)(k:Nat):Bool:=(λ(h:Int)=>decide (zD zA (ZI.f0 (r (zk (h)))-x)<(0:Int))) k
def Jj(n:Nat)(r:Nat->ZI)(x:Int):Nat:=Xp (ZeA n r x) n 0 n
def Zez(n:Nat)(r:Nat->ZI)(x:Int):Lp:=⟨257,3,λ_ s=>match vwN 1 1 49 [0,1,2,6,7,8,9,10] [] s with
 |(ze,(.cons (.rsl _ 2 nt0 ft0) (.cons (.int _ .i64 tx) (.cons (.fn (.func 258) .nil .nil) (.cons (.int _ .i64 t3) (.cons (.bool _ t4) (.cons (.int _ .i64 t5) (.cons (.int _ .i64 t6) (.cons (.int _ .i64 t7) .nil)))))))),[])=>bif zq s.n 1 then .need (n=nt0/\(λj=>Zu za (r j))=ft0/\x=tx/\0=t3/\za=t4/\((n:Nat):Int)=t5/\0=t6/\((n:Nat):Int)=t7)
  (.leaf (.exit 0,Yl 1 49 [0,1,2,6,7,8,9,10] [] (ZeB n r x ((Jj n r x:Nat):Int) ((Jj n r x:Nat):Int)) (ZeC n r x)))else .stuck
 |_=>.stuck⟩
theorem Znu(n:Nat)(r:Nat->ZI)(x:Int)(hl:n<=1000):(Zez n r x).Ok P:=by
 refine KW (by kernel_rfl) λhin B s Q hq=>?_
 simp only[Zez]at hq hin⊢
 split at hq
 ·rename_i q1 nt0 ft0 q2 tx q3 t3 q4 t4 q5 t5 q6 t6 q7 t7 heq
  cases hsn:zq s.n 1
  ·rw[hsn]at hq;exact hq.elim
  ·rw[hsn]at hq
   obtain⟨⟨rfl,rfl,rfl,rfl,rfl,rfl,rfl,rfl⟩,hq⟩:=hq
   have hsame:WT 1 1 49 [0,1,2,6,7,8,9,10] [] s (ZeB n r x 0 ((n:Nat):Int)) (ZeC n r x):=by
    refine⟨by rw[heq],by rw[heq];exact Le.soft rfl,by rw[heq];exact trivial⟩
   refine Zbl (k:=400) (f:=257) (Yz hm hn (l:=[]) trivial) rfl hin (ZeA n r x) n (λi j=>ZeB n r x i j) (ZeC n r x) Q (λi j=>Znv B n r x i j) (λi j hij hjn=>?_) hq (zO hsn) hsame
   refine⟨λhc=>?_,λhc=>?_⟩
   ·have hlt:i<j:=by have:=of_decide_eq_true hc;omega
    have hh:=Zbe (i:=i) (j:=j) (by omega)
    refine⟨by rw[hh];omega,λhb=>?_,λhb=>?_⟩
    ·rw[hh]at hb⊢
     rw[IntWalk.i64_in ((((i+j)/2:Nat):Int)+1) ⟨by omega,by omega⟩]
     exact⟨rfl,hlt,trivial,λ_=>Le.soft rfl,λhl=>Bool.noConfusion ((show ZeA n r x ((i+j)/2)=ze from hb).symm.trans hl)⟩
    ·rw[hh]at hb⊢
     exact⟨rfl,hlt,trivial,λhl=>Bool.noConfusion ((show ZeA n r x ((i+j)/2)=za from hb).symm.trans hl),λ_=>Le.soft rfl⟩
   ·have hge:¬(i:Int)<(j:Int):=λh=>by rw[decide_eq_true h]at hc;cases hc
    have e:i=j:=by omega
    subst e
    exact⟨rfl,rfl,trivial,Le.soft rfl,rfl⟩
 ·exact hq.elim
def gAt_T(a:Zc)(b:Int):Tree V:=
 let q0:=((Jj a.n0 a.r0 b:Nat):Int)
 let q1:=(q0<((a.n0:Nat):Int))
 zu (a.n0=a.n0/\((λj=>Zu za (a.2 j))=λj=>Zu za (a.2 j))/\b=b/\(0:Int)=(0:Int)/\za=za/\((a.n0:Nat):Int)=((a.n0:Nat):Int)/\(0:Int)=(0:Int)/\((a.n0:Nat):Int)=((a.n0:Nat):Int)) (zu (decide q1=ze->(0:Int)<=q0/\q0<((a.n0:Nat):Int)) (zw (V.tup (ci (bif decide q1 then q0 else q0) (zf (zC za (bif decide q1 then zD .i64 ((a.2 (zk q0)).f0-b)==(0:Int)else za)) zh)))))
theorem gAt_tree(a:Zc)(b:Int):ZT (Zl P [] [Zez a.n0 a.r0 b] ze) 400 228 (.cons (.agg (Y5 za a)) (.cons (.int za .i64 b) .nil))=gAt_T a b:=by kernel_rfl
def X9(a:Zc)(b:Int):Int:=
  (bif decide (((Jj a.n0 a.r0 b:Nat):Int)<((a.n0:Nat):Int))then((Jj a.n0 a.r0 b:Nat):Int)else((Jj a.n0 a.r0 b:Nat):Int))
def QW(a:Zc)(b:Int):Bool:=
  (bif decide (((Jj a.n0 a.r0 b:Nat):Int)<((a.n0:Nat):Int))then zD .i64 ((a.2 (zk ((Jj a.n0 a.r0 b:Nat):Int))).f0-b)==(0:Int)
  else za)
theorem gAt_meets(a:Zc)(b:Int)(h0:a.n0<=1000):Zh P 228 (.cons (.agg (Y5 za a)) (.cons (.int za .i64 b) .nil)) (.tup (.cons (.int za zA (X9 a b)) (.cons (.bool za (QW a b)) .nil))):=
 Xn (Zw hm hn (l:=[]) trivial (ls:=[Zez a.n0 a.r0 b]) ⟨Znu a.n0 a.r0 b h0,trivial⟩ ze) 400 (Has.of hn Tryz.func228 rfl) (gAt_tree a b) (Tree.Pre.mk (by refine⟨?_,⟨?_,trivial⟩⟩;all_goals(first|exact bGang_fit a.n0 a.r0 b|(((repeat'(first|exact rfl|exact λ_=>⟨rfl,rfl⟩|apply zy|intro _));all_goals(try simp only[decide_eq_true_eq,decide_eq_false_iff_not]at*);all_goals omega))))) (by kernel_rfl) (by kernel_rfl)
def c_gAt:Con:=Yd 228 (λx=>(.cons (.agg (Y5 za (ZG x.hd.inner))) (.cons (.int za .i64 x.tl.hd.toInt) .nil))) (λx=>(.tup (.cons (.int za zA (X9 (ZG x.hd.inner) x.tl.hd.toInt)) (.cons (.bool za (QW (ZG x.hd.inner) x.tl.hd.toInt)) .nil)))) (λx=>(ZG x.hd.inner).n0<=1000)
theorem c_gAt_ok:c_gAt.Ok P:=Yf (λx h=>gAt_meets _ _ h)
def Zfa(r0:Zc->Int->Int)(r1:Zc->Int->Bool):Con:=Yd 228 (λx=>(.cons (.agg (Y5 za (ZG x.hd.inner))) (.cons (.int za .i64 x.tl.hd.toInt) .nil))) (λx=>(.tup (.cons (.int za zA (r0 (ZG x.hd.inner) x.tl.hd.toInt)) (.cons (.bool za (r1 (ZG x.hd.inner) x.tl.hd.toInt)) .nil)))) (λx=>(ZG x.hd.inner).n0<=1000)
example:Zfa X9 QW=c_gAt:=rfl
end Go.Proofs.YthhbdbeglmkijaaGreatDoor
namespace Go.Fw
def Zd(v:Value):Int:=match v with
 | .int _ a=>a
 |_=>0
def Blk.hasK(b:Blk)(kd:IntKind)(j:Int):Bool:=match b with
 | .Zk _ _ f _=>(f (.int kd j)).1
 |_=>za
def Blk.getB(b:Blk)(kd:IntKind)(j:Int):Bool:=match b with
 | .Zk _ _ f _=>(f (.int kd j)).2.toBool
 |_=>za
def Blk.getI(b:Blk)(kd:IntKind)(j:Int):Int:=match b with
 | .Zk _ _ f _=>(f (.int kd j)).2.toInt
 |_=>0
def Blk.cells(b:Blk):V:=match b with
 | .var c=>c
 |_=>.nil
def YD(k:IntKind)(f g:Value->Bool×V):Prop:=∀a,(f (.int k a)).1=(g (.int k a)).1/\(f (.int k a)).2.soft=(g (.int k a)).2.soft
variable{β:Type 1}
def V.G7(v:V)(d:β)(k:Nat->(Nat->V)->β):β:=match v with
 | .rsl _ _ n f=>k n f
 |_=>d
def V.VH(v:V)(d:β)(k:Int->β):β:=match v with
 | .int _ _ x=>k x
 |_=>d
def Blk.onMap(b:Blk)(d:β)(k:(Value->Bool×V)->β):β:=match b with
 | .Zk _ _ f _=>k f
 |_=>d
def Blk.onVar(b:Blk)(d:β)(k:V->β):β:=match b with
 | .var c=>k c
 |_=>d
section
variable{P:Program}{α:Type}{Q:α->Prop}
theorem Zbu{v:V}{k:Nat->(Nat->V)->Tree α}(h:(v.G7 .stuck k).holds P Q):∃n f,(k n f).holds P Q:=by
 cases v<;>first|exact h.elim|exact⟨_,_,h⟩
theorem Uu{v:V}{k:Int->Tree α}(h:(v.VH .stuck k).holds P Q):∃x,(k x).holds P Q:=by
 cases v<;>first|exact h.elim|exact⟨_,h⟩
theorem Zi4{b:Blk}{k:(Value->Bool×V)->Tree α}(h:(b.onMap .stuck k).holds P Q):∃f,(k f).holds P Q:=by
 cases b<;>first|exact h.elim|exact⟨_,h⟩
theorem onVar_h{b:Blk}{k:V->Tree α}(h:(b.onVar .stuck k).holds P Q):∃c,(k c).holds P Q:=by
 cases b<;>first|exact h.elim|exact⟨_,h⟩
end
def YG(P:Program)(g:FuncId)(args:V)(bl:List Blk)(T:Tree (V×List Blk)):Prop:=
 ∀(base:Nat)(m:Nat->Option Nat)(F:Nat->Prop)(w:World)(xs:Array Value)(Q:V×List Blk->Prop)(KK:Ending->World->Prop),
  HR base m F (λb=>bl.getD b .none) bl.length w->RL F w args bl.length m xs.toList->T.holds P Q->
  (∀v bl',Q (v,bl')->∀m' F' w' x,Ext base m F bl.length w m' F' bl'.length w'->HR base m' F' (λb=>bl'.getD b .none) bl'.length w'->R F' w' v bl'.length m' x->KK (.returned x) w')->
  Has P g/\Calls P g xs w KK
variable{g:FuncId}{bl:List Blk}{T:Tree (V×List Blk)}
open Classical in
theorem hk_at{E:Env}(hE:E.Ok)(k:Nat){args:V}
  (h:∀Q:V×List Blk->Prop,T.holds E.P Q->(evH E k g args bl).holds E.P λr=>∃r',Q r'/\r.1.sof=r'.1.sof/\r.2.map Blk.sof=r'.2.map Blk.sof):YG E.P g args bl T:=by
 have H:=hk_of hE k (g:=g) (K:=λa b=>if a=args/\b=bl then zi T else zm) (λa b T' hT Q hq=>by
  by_cases e:a=args/\b=bl
  ·obtain⟨rfl,rfl⟩:=e
   rw[if_pos ⟨rfl,rfl⟩]at hT
   injection hT with hT
   subst hT
   exact h Q hq
  ·rw[if_neg e]at hT;cases hT)
 exact H args bl T (if_pos ⟨rfl,rfl⟩)
theorem YG.le{P:Program}{args:V}{bl0:List Blk}(H:YG P g args bl0 T)(hn:bl.length=bl0.length)(hle:∀b,LeK bl0.length (bl.getD b .none) (bl0.getD b .none)):YG P g args bl T:=by
 intro base m F w xs Q KK hr ha hq hk
 rw[hn]at hr ha hk
 exact H base m F w xs Q KK ⟨hr.low,hr.fdom,λi hi=>(hle i).2 _ _ _ _ (hr.blk i hi),hr.dom,hr.new,hr.gl,hr.own,λi j B e1 e2 hne=>(hr.inj i j B e1 e2 hne).imp (hle i).1 (hle j).1⟩ ha hq hk
def QB(p:Prop)(l:Lp):Lp:=⟨l.f,l.id,λB s=>.need p (l.g B s)⟩
theorem Zdd{P:Program}{p:Prop}{l:Lp}(h:p->l.Ok P):(QB p l).Ok P:=λbody hin hfr B s Q hq=>h hq.1 body hin hfr B s Q hq.2
variable{c:Bool}
theorem WO{α:Type}{p:α->Prop}{a b:α}(ha:p a)(hb:p b):p (bif c then a else b):=by cases c<;>assumption
theorem Zhp{A:Type}{m:A->Nat}{a0:A}{f:Nat->A->A}(h0:m a0<=0)(h:∀k z,m (f k z)<=m z+1):∀k,m (ZJ a0 f k)<=k:=by
 intro k
 induction k with
 |zero=>exact h0
 |succ k ih=>rw[Zep];have:=h k (ZJ a0 f k);omega
theorem softIf{a b:V}{g:V->V}(ha:a.soft=g a)(hb:b.soft=g b):(bif c then a else b).soft=g (bif c then a else b):=by cases c<;>assumption
theorem LeK.Jb{n es k k':Nat}{g g':Nat->V}(hn:k=k')(h:∀j,j<k->(g j).soft=(g' j).soft):LeK n (.arr es k g) (.arr es k' g'):=⟨λe=>(by cases e),λF w m B hb=>by
 subst hn
 rcases hb with h0|⟨b,c,el,k1,k2,k3,k4⟩
 ·exact .inl h0
 ·exact .inr ⟨b,c,el,k1,k2,k3,λj hj=>by obtain⟨xs,hx,hr⟩:=k4 j hj;have e:=((YM (g j) _ _).2 _).2 hx;rw[h j hj]at e;exact⟨xs,((YM (g' j) _ _).2 _).1 e,hr⟩⟩⟩
def V.QV(c:V)(k:V->β):β:=match c with
 | .cons h t=>match h with
  | .int s kd n=>t.QV λt'=>k (.cons (.int s kd n) t')
  | .bool s b=>t.QV λt'=>k (.cons (.bool s b) t')
  | .rsl s e n g=>t.QV λt'=>k (.cons (.rsl s e n g) t')
  | .mp b=>Vr b λb=>t.QV λt'=>k (.cons (.mp b) t')
  |h=>t.QV λt'=>k (.cons h t')
 |c=>k c
theorem V.Jp:∀(c:V)(k:V->β),c.QV k=k c:=by
 intro c
 induction c with
 |cons h t _ ih=>intro k;unfold V.QV;cases h<;>first|exact ih _|(show Vr _ _=_;rw[Za5];exact ih _)
 |_=>intro k;rfl
theorem Q5{x n:Int}(hb:(bif !c then ze else za)=za)(h:c=ze->0<=x/\x<n):0<=(bif c then x else 0)/\(bif c then x else 0)<n:=by
 cases c
 ·cases hb
 ·exact h rfl
theorem nf5{a b:Int}(h:(bif a != b then ze else za)=za):a=b:=by
 have h':(a != b)=za:=by cases e:(a != b)<;>rw[e]at h<;>first|rfl|cases h
 simpa using h'
theorem nf4{x:Bool}(h:(bif x then ze else za)=za):x=za:=by cases x;rfl;cases h
theorem nf3{p:Bool}{a b:Int}(h:(bif (bif p then ze else a != b)then ze else za)=za):a=b:=by
 cases p
 ·have h':(a != b)=za:=by cases e:(a != b)<;>rw[e]at h<;>first|rfl|cases h
  simpa using h'
 ·cases h
theorem Wd{n:Nat}{k:IntKind}{st st':Bool}{ks:Ks}{f f':Value->Bool×V}(h:∀a,(f (.int k a)).1=(f' (.int k a)).1/\Le n (f (.int k a)).2 (f' (.int k a)).2):LeK n (.Zk (.int k) st f ks) (.Zk (.int k) st' f' Option.none):=LeK.Zk λv hv=>by
 cases v with
 |int k' a=>have e:k=k':=of_decide_eq_true hv;subst e;exact h a
 |_=>cases hv
end Go.Fw
namespace Go.Fw
abbrev Rd:Type:=Ex×Bool×V×List Blk
def Tree.early:Tree Rd->Bool
 | .leaf y=>match y.1 with
  | .normal=>za
  |_=>ze
 | .node b t f=>bif b then t.early else f.early
 | .need _ t=>t.early
 |_=>ze
variable{A:Type}
def Tree.carry(rd:V->List Blk->A)(z:A):Tree Rd->A
 | .leaf y=>match y.1 with
  | .normal=>rd y.2.2.1 y.2.2.2
  |_=>z
 | .node b t f=>bif b then t.carry rd z else f.carry rd z
 | .need _ t=>t.carry rd z
 |_=>z
variable{α:Type}
def Tree.leaves(p:α->Prop):Tree α->Prop
 | .leaf y=>p y
 | .node _ t f=>t.leaves p/\f.leaves p
 | .need _ t=>t.leaves p
 |_=>True
theorem Tree.Zll{P:Program}{rd:V->List Blk->A}{z:A}{p:Rd->Prop}:∀T:Tree Rd,T.pre->T.leaves p->T.holds P λy=>p y/\(match y.1 with
  | .normal=>T.early=za/\T.carry rd z=rd y.2.2.1 y.2.2.2
  |_=>T.early=ze):=by
 intro T
 induction T with
 |leaf y=>
  intro _ h
  refine⟨h,?_⟩
  obtain⟨e,y⟩:=y
  cases e<;>first|exact⟨rfl,rfl⟩|rfl
 |node b t f iht ihf=>
  intro h hl
  refine⟨λhb=>Tree.XI t (λy hy=>⟨hy.1,?_⟩) (iht (h.1 hb) hl.1),λhb=>Tree.XI f (λy hy=>⟨hy.1,?_⟩) (ihf (h.2 hb) hl.2)⟩
  all_goals
   subst hb
   obtain⟨e,y⟩:=y
   have h2:=hy.2
   cases e<;>exact h2
 |need p t ih=>
  intro h hl
  refine⟨h.1,Tree.XI t (λy hy=>⟨hy.1,?_⟩) (ih h.2 hl)⟩
  obtain⟨e,y⟩:=y
  have h2:=hy.2
  cases e<;>exact h2
 |_=>intro h;exact h.elim
theorem cS{c:Bool}{x y v:α}(h1:x=v)(h2:y=v):(bif c then x else y)=v:=by cases c;exact h2;exact h1
theorem cC{c:Bool}{x y x' y':α}(h1:x=x')(h2:y=y'):(bif c then x else y)=bif c then x' else y':=by cases c;exact h2;exact h1
def UH(n0:Nat)(t1:A->V)(y1:A->List Blk)(rd:V->List Blk->A)(eex:Ex)(ets:V)(eys:List Blk)(y:Rd):Prop:=match y.1 with
 | .normal=>y.2.1=ze/\Le n0 y.2.2.1 (t1 (rd y.2.2.1 y.2.2.2))/\XL n0 y.2.2.2 (y1 (rd y.2.2.1 y.2.2.2))
 |e=>y.2.1=ze/\e=eex/\Le n0 y.2.2.1 ets/\XL n0 y.2.2.2 eys
theorem Z5{n:Nat}:∀ys:List Blk,XL n ys ys:=by
 intro ys
 induction ys with
 |nil=>trivial
 |cons y ys ih=>exact⟨LeK.refl _,ih⟩
theorem loop_gen{B:Base}{P:Program}{E:Env}(hE:E.Ok)(hP:E.P=P){k:Nat}{f:FuncId}{b:Code}(hin:∀b'∈YQ b,Wq P f b'){n1 n0 N0:Nat}{KT:List Nat}{KH:List (Nat×Src)}{KR:List Nat}(N:Nat)(ts:Int->A->V)(ys:Int->A->List Blk)(ex eex:Ex)(hex:ex≠.normal)
{c:Int->Bool}{R:Int->A->Tree Rd}(hT:∀(B:Base) i z,((ev E k f b B (Yl n0 N0 KT KH (ts i z) (ys i z))).bind λx=>zw (x.1,vwR n1 n0 N0 KT KH KR x.2))=.node (c i) (.leaf (ex,ze,ts i z,ys i z)) (R i z))
  (hc:∀i:Nat,i<=N->(c i=ze↔i=N)){a0:A}{step:Nat->A->A}{bad:Nat->Bool}{rd:Nat->A->V->List Blk->A}{ets:Int->A->V}{eys:Int->A->List Blk}
  (hstep:∀(i:Nat) z,(R i z).carry (rd i z) z=step i z)(hbad:∀i:Nat,(R i (ZJ a0 step i)).early=bad i)
  (hpre:∀i:Nat,i<N->(∀j,j<i->bad j=za)->(R i (ZJ a0 step i)).pre)
  (hlv:∀i:Nat,i<N->(∀j,j<i->bad j=za)->(R i (ZJ a0 step i)).leaves (UH n0 (ts ((i+1:Nat):Int)) (ys ((i+1:Nat):Int)) (rd i (ZJ a0 step i)) eex (ets i (ZJ a0 step i)) (eys i (ZJ a0 step i))))
  {Q:Ex×St B->Prop}(he:Zp bad N=ze->Q (eex,Yl n0 N0 KT KH (ets (ZN bad N 0:Nat) (ZJ a0 step (ZN bad N 0))) (eys (ZN bad N 0:Nat) (ZJ a0 step (ZN bad N 0)))))
  (hq:Zp bad N=za->Q (ex,Yl n0 N0 KT KH (ts (N:Nat) (ZJ a0 step N)) (ys (N:Nat) (ZJ a0 step N))))
  {s:St B}(hn:s.n=n1)(hs:WT n1 n0 N0 KT KH s (ts (0:Nat) a0) (ys (0:Nat) a0)):V3 P b s Q:=by
 refine ZlC hE hP hin N (λi=>ts i (ZJ a0 step i)) (λi=>ys i (ZJ a0 step i)) (λi=>∀j,j<i->bad j=za) Q (λi=>hT B i _) (λi hi hg=>?_) hn (λj hj=>absurd hj (Nat.not_lt_zero j)) hs
 refine⟨λh=>?_,λh=>?_⟩
 ·have e:=(hc i hi).1 h
  subst e
  have h1:=hq (Zar hg)
  cases ex with
  |normal=>grind
  |exit id=>exact⟨rfl,_,_,Le.refl _,Z5 _,h1⟩
  |ret=>exact⟨rfl,_,_,Le.refl _,Z5 _,h1⟩
 ·have hlt:i<N:=by
   grind
  refine Tree.XI _ (λy hy=>?_) (Tree.Zll (rd:=rd i (ZJ a0 step i)) (z:=ZJ a0 step i) _ (hpre i hlt hg) (hlv i hlt hg))
  obtain⟨e,y⟩:=y
  obtain⟨h1,h2⟩:=hy
  have early:e=eex->(R i (ZJ a0 step i)).early=ze->y.1=ze->Le n0 y.2.1 (ets i (ZJ a0 step i))->XL n0 y.2.2 (eys i (ZJ a0 step i))->y.1=ze/\∃ts' ys',Le n0 y.2.1 ts'/\XL n0 y.2.2 ys'/\Q (e,Yl n0 N0 KT KH ts' ys'):=λh3 h4 h5 h6 h7=>by
   grind[ZcY,Zcl]
  cases e with
  |normal=>
   obtain⟨h3,h4,h5⟩:=h1
   obtain⟨k1,k2⟩:=h2
   rw[hbad]at k1
   rw[hstep]at k2
   have e2:ZJ a0 step (i+1)=rd i (ZJ a0 step i) y.2.1 y.2.2:=k2
   grind
  |exit id=>exact early h1.2.1 h2 h1.1 h1.2.2.1 h1.2.2.2
  |ret=>exact early h1.2.1 h2 h1.1 h1.2.2.1 h1.2.2.2
end Go.Fw
namespace Go.Fw
def sEq(n0:Nat):V->V->Prop
 | .cons h t,.cons h' t'=>sEq n0 h h'/\sEq n0 t t'
 | .Zo,.osl _ b _ _ n=>n=0/\b<n0
 | .Zo,.rsl _ _ n _=>n=0
 |v,v'=>v.soft=v'.soft
variable{n0:Nat}
theorem sEq_le:∀v v':V,sEq n0 v v'->Le n0 v v':=by
 intro v
 induction v with
 |cons h t ih1 ih2=>
  intro v' e
  cases v'<;>first|exact Le.soft e|exact Le.cons (ih1 _ e.1) (ih2 _ e.2)
 |Zo=>
  intro v' e
  cases v'<;>first|exact Le.soft e|(obtain⟨rfl,h⟩:=e;exact Le.Zo h)|(obtain rfl:=e;exact λF w m=>⟨λx hx=>UM hx,λxs hx=>by simp only[RL]at hx⟩)
 |_=>intro v' e;cases v'<;>exact Le.soft e
def V.hasOsl:V->Bool
 | .cons h t=>h.hasOsl||t.hasOsl
 | .osl ..=>ze
 |_=>za
def vEq(n0:Nat)(v v':V):Prop:=match v'.hasOsl with
 |true=>sEq n0 v v'
 |false=>v.soft=v'.soft
theorem vEq_le{v v':V}(h:vEq n0 v v'):Le n0 v v':=by
 unfold vEq at h
 split at h
 ·exact sEq_le _ _ h
 ·exact Le.soft h
def blkEq(n0:Nat)(KR:List Nat):Blk->Blk->Prop
 | .var c,.var c'=>vEq n0 c c'
 | .Zk (.int k) _ f _,.Zk (.int k') _ f' zm=>k=k'/\YD k f' f
 | .none,.arr _ n _=>n=0
 | .arr es n g,.arr es' n' g'=>es=es'/\n=n'/\∀j,(g j).soft=(g' j).soft
 | .rng f ps asg bd row N st pd,.rng f' ps' asg' bd' row' N' st' pd'=>f=f'/\ps=ps'/\asg=asg'/\bd=bd'/\N=N'/\st=st'/\pd=pd'/\(rowOf (KR.map row)).soft=(rowOf (KR.map row')).soft
 |_,_=>False
variable{KR:List Nat}
theorem blkEq_le{b b':Blk}(h:blkEq n0 KR b b'):LeK n0 b (nfR KR b'):=by
 unfold blkEq at h
 split at h
 ·exact LeK.var (vEq_le h)
 ·obtain⟨rfl,hm⟩:=h
  exact Wd λa=>⟨(hm a).1.symm,Le.soft (hm a).2.symm⟩
 ·subst h;exact LeK.none
 ·obtain⟨rfl,rfl,hg⟩:=h
  exact LeK.Jb rfl λj _=>hg j
 ·obtain⟨rfl,rfl,rfl,rfl,rfl,rfl,rfl,hr⟩:=h
  exact LeK.rngS hr
 ·exact h.elim
def ZeV(n0:Nat)(KR:List Nat):List Blk->List Blk->Prop
 |[],[]=>True
 |b::l,b'::l'=>blkEq n0 KR b b'/\ZeV n0 KR l l'
 |_,_=>False
theorem ZjV:∀{l l':List Blk},ZeV n0 KR l l'->XL n0 l (l'.map (nfR KR)):=by
 intro l
 induction l with
 |nil=>intro l' h;cases l' with|nil=>trivial|cons=>exact h.elim
 |cons b l ih=>intro l' h;cases l' with|nil=>exact h.elim|cons b' l'=>exact⟨blkEq_le h.1,ih h.2⟩
def lpG(f:FuncId)(id n1 n0 N0:Nat)(KT:List Nat)(KH:List (Nat×Src))(KR:List Nat)(t0:V)(y0:List Blk)(R:(B:Base)->Tree (Ex×St B)):Lp:=⟨f,id,λB s=>match vwN n1 n0 N0 KT KH s with
 |(ze,t,bl)=>bif zq s.n n1 then .need (vEq n0 t t0/\ZeV n0 KR bl y0) (R B)else .stuck
 |_=>.stuck⟩
def V.oslN:V->Nat
 | .osl _ _ _ _ n=>n
 |_=>0
def Blk.arrG:Blk->Nat->V
 | .arr _ _ g=>g
 |_=>λ_=>.nil
theorem ZiU{P:Program}{E:Env}(hE:E.Ok)(hP:E.P=P){k:Nat}{f:FuncId}{id n1 N0:Nat}{KT:List Nat}{KH:List (Nat×Src)}(h1:G9 P f id=ze){A:Type}(N:Nat)(ts:Int->A->V)(ys:Int->A->List Blk)(ex eex:Ex)(hex:ex≠.normal)
{c:Int->Bool}{R:Int->A->Tree Rd}(hT:∀(B:Base) i z,((ev E k f (QZ P f id) B (Yl n0 N0 KT KH (ts i z) (ys i z))).bind λx=>zw (x.1,vwR n1 n0 N0 KT KH KR x.2))=.node (c i) (.leaf (ex,ze,ts i z,ys i z)) (R i z))
  (hc:∀i:Nat,i<=N->(c i=ze↔i=N)){a0:A}{step:Nat->A->A}{bad:Nat->Bool}{rd:Nat->A->V->List Blk->A}{ets:Int->A->V}{eys:Int->A->List Blk}
  (hstep:∀(i:Nat) z,(R i z).carry (rd i z) z=step i z)(hbad:∀i:Nat,(R i (ZJ a0 step i)).early=bad i)
  (hpre:∀i:Nat,i<N->(∀j,j<i->bad j=za)->(R i (ZJ a0 step i)).pre)
  (hlv:∀i:Nat,i<N->(∀j,j<i->bad j=za)->(R i (ZJ a0 step i)).leaves (UH n0 (ts ((i+1:Nat):Int)) (ys ((i+1:Nat):Int)) (rd i (ZJ a0 step i)) eex (ets i (ZJ a0 step i)) (eys i (ZJ a0 step i))))
{Rs:(B:Base)->Tree (Ex×St B)}(hR:∀B(Q:Ex×St B->Prop),(Rs B).holds P Q->(Zp bad N=ze->Q (eex,Yl n0 N0 KT KH (ets (ZN bad N 0:Nat) (ZJ a0 step (ZN bad N 0))) (eys (ZN bad N 0:Nat) (ZJ a0 step (ZN bad N 0)))))/\(Zp bad N=za->Q (ex,Yl n0 N0 KT KH (ts (N:Nat) (ZJ a0 step N)) (ys (N:Nat) (ZJ a0 step N)))))
  (hy:(ys (0:Nat) a0).map (nfR KR)=ys (0:Nat) a0):(lpG f id n1 n0 N0 KT KH KR (ts (0:Nat) a0) (ys (0:Nat) a0) Rs).Ok P:=by
 refine KW h1 λhin B s Q hq=>?_
 dsimp only[lpG]at hq hin⊢
 split at hq
 ·rename_i t bl heq
  cases hsn:zq s.n n1
  ·rw[hsn]at hq;exact hq.elim
  ·rw[hsn]at hq
   obtain⟨⟨h2,h3⟩,hq⟩:=hq
   have hr:=hR B Q hq
   exact loop_gen hE hP hin N ts ys ex eex hex hT hc hstep hbad hpre hlv hr.1 hr.2 (zO hsn) ⟨by rw[heq],by rw[heq];exact vEq_le h2,by rw[heq,<- hy];exact ZjV h3⟩
 ·exact hq.elim
theorem Yq{A:Type}{ts:Int->A->V}{x y:Int}(h:x=y){v:V}{a:A}(hv:v.soft=(ts x a).soft):Le n0 v (ts y a):=by subst h;exact Le.soft hv
theorem Yv{N:Nat}(i:Nat)(h:i<=N):(bif decide ((i:Int)<((N:Nat):Int))then za else ze)=ze↔i=N:=by
 by_cases e:(i:Int)<((N:Nat):Int)
 ·rw[decide_eq_true e];exact⟨λh=>(by cases h),λh=>by omega⟩
 ·rw[decide_eq_false e];exact⟨λ_=>by omega,λ_=>rfl⟩
section
variable{A:Type}(P:Program)(E:Env)(f:FuncId)(id n1 n0 N0:Nat)(KT:List Nat)(KH:List (Nat×Src))(KR:List Nat)(ts:Int->A->V)(ys:Int->A->List Blk)
def Yi(c:Int->Bool)(ex:Ex)(R:Int->A->Tree Rd):Prop:=∀(B:Base) i z,((ev E 400 f (QZ P f id) B (Yl n0 N0 KT KH (ts i z) (ys i z))).bind λx=>zw (x.1,vwR n1 n0 N0 KT KH KR x.2))=.node (c i) (.leaf (ex,ze,ts i z,ys i z)) (R i z)
def lpL(ex eex:Ex)(a0:A)(acc:Nat->A)(bad:Nat->Bool)(N:Nat)(ets:Int->A->V)(eys:Int->A->List Blk):Lp:=lpG f id n1 n0 N0 KT KH KR (ts (0:Nat) a0) (ys (0:Nat) a0) λ_=>
 .node (Zp bad N) (.leaf (eex,Yl n0 N0 KT KH (ets (ZN bad N 0:Nat) (acc (ZN bad N 0))) (eys (ZN bad N 0:Nat) (acc (ZN bad N 0))))) (.leaf (ex,Yl n0 N0 KT KH (ts (N:Nat) (acc N)) (ys (N:Nat) (acc N))))
def Js(ex:Ex)(a0:A)(acc:Nat->A)(N:Nat):Lp:=lpG f id n1 n0 N0 KT KH KR (ts (0:Nat) a0) (ys (0:Nat) a0) λ_=>.leaf (ex,Yl n0 N0 KT KH (ts (N:Nat) (acc N)) (ys (N:Nat) (acc N)))
def YC(a0:A)(t:V)(bl:List Blk):Prop:=vEq n0 t (ts (0:Nat) a0)/\ZeV n0 KR bl (ys (0:Nat) a0)
end
section
variable{P:Program}{E:Env}{f:FuncId}{id n1 n0 N0:Nat}{KT:List Nat}{KH:List (Nat×Src)}{KR:List Nat}
variable{A:Type}{ex:Ex}{bad:Nat->Bool}{N:Nat}{c:Int->Bool}
theorem YR{ts:Int->A->V}{ys:Int->A->List Blk}{eex:Ex}{a0:A}{acc:Nat->A}{ets:Int->A->V}{eys:Int->A->List Blk}(hE:E.Ok)(hP:E.P=P)(h1:G9 P f id=ze){R:Int->A->Tree Rd}(hT:Yi P E f id n1 n0 N0 KT KH KR ts ys c ex R)(hex:ex≠.normal)(hc:∀i:Nat,i<=N->(c i=ze↔i=N))
  {step:Nat->A->A}(hacc:∀n,acc n=ZJ a0 step n){rd:A->V->List Blk->A}(hstep:∀(i:Nat) z,(R i z).carry (rd z) z=step i z)(hbad:∀i:Nat,(R i (ZJ a0 step i)).early=bad i)(hy:(ys (0:Nat) a0).map (nfR KR)=ys (0:Nat) a0)
  (hpre:∀i:Nat,i<N->(∀j,j<i->bad j=za)->(R i (acc i)).pre)(hlv:∀(i:Nat)(z:A),i<N->(R i z).leaves (UH n0 (ts ((i+1:Nat):Int)) (ys ((i+1:Nat):Int)) (rd z) eex (ets i z) (eys i z))):(lpL f id n1 n0 N0 KT KH KR ts ys ex eex a0 acc bad N ets eys).Ok P:=by
 obtain rfl:acc=ZJ a0 step:=funext hacc
 exact ZiU hE hP h1 N ts ys ex eex hex hT hc (rd:=λ_=>rd) hstep hbad hpre (λi hi _=>hlv i _ hi) (λB Q h=>h) hy
theorem lpL_okA{ts:Int->A->V}{ys:Int->A->List Blk}{eex:Ex}{a0:A}{acc:Nat->A}{ets:Int->A->V}{eys:Int->A->List Blk}(hE:E.Ok)(hP:E.P=P)(h1:G9 P f id=ze){R:Int->A->Tree Rd}(hT:Yi P E f id n1 n0 N0 KT KH KR ts ys c ex R)(hex:ex≠.normal)(hc:∀i:Nat,i<=N->(c i=ze↔i=N))
  {step:Nat->A->A}(hacc:∀n,acc n=ZJ a0 step n){rd:A->V->List Blk->A}(hstep:∀(i:Nat) z,(R i z).carry (rd z) z=step i z)(hbad:∀i:Nat,(R i (ZJ a0 step i)).early=bad i)(hy:(ys (0:Nat) a0).map (nfR KR)=ys (0:Nat) a0)
  (hpre:∀i:Nat,i<N->(∀j,j<i->bad j=za)->(R i (acc i)).pre)(hlv:∀i:Nat,i<N->(∀j,j<i->bad j=za)->(R i (acc i)).leaves (UH n0 (ts ((i+1:Nat):Int)) (ys ((i+1:Nat):Int)) (rd (acc i)) eex (ets i (acc i)) (eys i (acc i)))):(lpL f id n1 n0 N0 KT KH KR ts ys ex eex a0 acc bad N ets eys).Ok P:=by
 obtain rfl:acc=ZJ a0 step:=funext hacc
 exact ZiU hE hP h1 N ts ys ex eex hex hT hc (rd:=λ_=>rd) hstep hbad hpre hlv (λB Q h=>h) hy
theorem JZ{ts:Int->A->V}{ys:Int->A->List Blk}{a0:A}{acc:Nat->A}(hE:E.Ok)(hP:E.P=P)(h1:G9 P f id=ze){R:Int->A->Tree Rd}(hT:Yi P E f id n1 n0 N0 KT KH KR ts ys c ex R)(hex:ex≠.normal)(hc:∀i:Nat,i<=N->(c i=ze↔i=N))
  {step:Nat->A->A}(hacc:∀n,acc n=ZJ a0 step n){rd:A->V->List Blk->A}(hstep:∀(i:Nat) z,(R i z).carry (rd z) z=step i z)(hbad:∀i:Nat,(R i (ZJ a0 step i)).early=za)(hy:(ys (0:Nat) a0).map (nfR KR)=ys (0:Nat) a0)
  (hpre:∀i:Nat,i<N->True->(R i (acc i)).pre)(hlv:∀(i:Nat)(z:A),i<N->(R i z).leaves (UH n0 (ts ((i+1:Nat):Int)) (ys ((i+1:Nat):Int)) (rd z) .ret .nil [])):(Js f id n1 n0 N0 KT KH KR ts ys ex a0 acc N).Ok P:=by
 obtain rfl:acc=ZJ a0 step:=funext hacc
 exact ZiU hE hP h1 N ts ys ex .ret hex hT hc (rd:=λ_=>rd) (ets:=λ_ _=>.nil) (eys:=λ_ _=>[]) (bad:=λ_=>za) hstep hbad (λi hi _=>hpre i hi trivial) (λi hi _=>hlv i _ hi) (λB Q h=>⟨λh2=>(by rw[Zar λ_ _=>rfl]at h2;cases h2),λ_=>h⟩) hy
theorem exN{i:Nat}:Ex.exit i≠.normal:=λh=>by cases h
theorem hcBy{q:Int->Prop}[∀i,Decidable (q i)](h:∀i:Nat,i<=N->(q i↔i<N))(i:Nat)(hi:i<=N):(bif decide (q i)then za else ze)=ze↔i=N:=by
 by_cases hx:q i
 ·rw[decide_eq_true hx]
  exact⟨λh=>(by cases h),λe=>absurd ((h i hi).1 hx) (by omega)⟩
 ·rw[decide_eq_false hx]
  exact⟨λ_=>(by
   have h2:¬i<N:=λh3=>hx ((h i hi).2 h3)
   omega),λ_=>rfl⟩
end
end Go.Fw
namespace Go.Fw
def Tree.yes:Tree (V×List Blk)->Bool
 | .leaf y=>y.1.toBool
 | .node b t f=>bif b then t.yes else f.yes
 | .need _ t=>t.yes
 |_=>za
variable{bl:List Blk}
theorem Tree.yes_holds{P:Program}{r:Bool}{Q:V×List Blk->Prop}:∀T:Tree (V×List Blk),T.yes=r->T.pre->T.leaves (λy=>y.1.sof=.bool za y.1.toBool/\y.2.map Blk.sof=bl.map Blk.sof)->Q (.bool za r,bl)->T.holds P λx=>∃x',Q x'/\x.1.sof=x'.1.sof/\x.2.map Blk.sof=x'.2.map Blk.sof:=by
 intro T
 induction T with
 |leaf y=>intro h _ hl hQ;exact⟨_,hQ,by rw[hl.1];exact congrArg (zC za) h,hl.2⟩
 |node b t f iht ihf=>
  intro h hp hl hQ
  refine⟨λhb=>iht ?_ (hp.1 hb) hl.1 hQ,λhb=>ihf ?_ (hp.2 hb) hl.2 hQ⟩
  ·rw[<- h,hb];rfl
  ·rw[<- h,hb];rfl
 |need p t ih=>intro h hp hl hQ;exact⟨hp.1,ih h hp.2 hl hQ⟩
 |_=>intro _ hp;exact hp.elim
theorem GH{E:Env}(hE:E.Ok){k:Nat}{g:FuncId}{args:V}{bl2:List Blk}{T:Tree (V×List Blk)}(hT:evH E k g args bl=T){r:Bool}(hr:T.yes=r)(hl:T.leaves (λy=>y.1.sof=.bool za y.1.toBool/\y.2.map Blk.sof=bl2.map Blk.sof))(hp:T.pre):YG E.P g args bl (.leaf (.bool za r,bl2)):=
 hk_at hE k λQ hQ=>by rw[hT];exact Tree.yes_holds T hr hp hl hQ
end Go.Fw
namespace Go.Fw
def Tree.valOf:Tree V->V
 | .leaf v=>v
 | .node b t f=>bif b then t.valOf else f.valOf
 | .need _ t=>t.valOf
 |_=>.junk
def Yh:V->V->V
 | .int _ k _,v=>.int za k v.toInt
 | .bool _ _,v=>.bool za v.toBool
 | .agg p,v=>.agg (Yh p v.inner)
 | .tup p,v=>.tup (Yh p v.inner)
 | .cons p q,v=>.cons (Yh p v.hd) (Yh q v.tl)
 | .rsl _ es _ pg,v=>.rsl za es v.Zi λj=>Yh (pg 0) (v.Zn j)
 |_,_=>.nil
def FitR:V->V->Prop
 | .rsl _ es _ pg,v=>match v with
  | .Zo=>True
  | .rsl _ es' n g=>es=es'/\∀j,j<n->(g j).soft=Yh (pg 0) (g j)
  |_=>False
 | .agg p,v=>match v with| .agg c=>FitR p c|_=>False
 | .tup p,v=>match v with| .tup c=>FitR p c|_=>False
 | .cons p q,v=>match v with| .cons a b=>FitR p a/\FitR q b|_=>False
 | .nil,v=>match v with| .nil=>True|_=>False
 |p,v=>v.soft=Yh p v
variable{F:Nat->Prop}{n:Nat}
theorem FitR_R{w:World}{m:Nat->Option Nat}:∀(p v:V),FitR p v->(∀x,R F w v n m x->R F w (Yh p v) n m x)/\(∀xs,RL F w v n m xs->RL F w (Yh p v) n m xs):=by
 have sf:∀p v:V,v.soft=Yh p v->(∀x,R F w v n m x->R F w (Yh p v) n m x)/\(∀xs,RL F w v n m xs->RL F w (Yh p v) n m xs):=λp v h=>by
  rw[<- h]
  exact⟨λx hx=>((YM v n m).1 x).2 hx,λxs hx=>((YM v n m).2 xs).2 hx⟩
 intro p
 induction p with
 |agg p ih=>
  intro v h
  cases v<;>try exact h.elim
  rename_i cs
  refine⟨λx hx=>?_,λxs hx=>by simp only[RL]at hx⟩
  simp only[Yh,V.inner,R]at hx⊢
  obtain⟨xs,e,h1⟩:=hx
  exact⟨xs,e,(ih cs h).2 _ h1⟩
 |tup p ih=>
  intro v h
  cases v<;>try exact h.elim
  rename_i cs
  refine⟨λx hx=>?_,λxs hx=>by simp only[RL]at hx⟩
  simp only[Yh,V.inner,R]at hx⊢
  obtain⟨xs,e,h1⟩:=hx
  exact⟨xs,e,(ih cs h).2 _ h1⟩
 |cons p q ih1 ih2=>
  intro v h
  cases v<;>try exact h.elim
  rename_i a b
  refine⟨λx hx=>by simp only[R]at hx,λxs hx=>?_⟩
  simp only[Yh,V.hd,V.tl,RL]at hx⊢
  obtain⟨x,r,e,h1,h2⟩:=hx
  exact⟨x,r,e,(ih1 a h.1).1 _ h1,(ih2 b h.2).2 _ h2⟩
 |nil=>
  intro v h
  cases v<;>try exact h.elim
  exact⟨λx hx=>by simp only[R]at hx,λxs hx=>by simp only[Yh,RL]at hx⊢;exact hx⟩
 |rsl st es k g ih=>
  intro v h
  cases v<;>try exact h.elim
  ·rename_i st' es' k' g'
   obtain⟨rfl,hg⟩:=h
   refine⟨λx hx=>?_,λxs hx=>by simp only[RL]at hx⟩
   show R F w (.rsl za _ k' λj=>Yh (g 0) (g' j)) n m x
   rw[Wi]at hx⊢
   obtain⟨a,cap,rfl,hk,hr⟩:=hx
   refine⟨a,cap,rfl,hk,hr.imp id λ⟨B,off,ha,hB,c,el,fr,hc,hrr⟩=>⟨B,off,ha,hB,c,el,fr,hc,λj hj=>?_⟩⟩
   obtain⟨xs,h1,h2⟩:=hrr j hj
   exact⟨xs,by show RL F w (Yh (g 0) (g' j)) 0 (λ_=>zm) xs;rw[<- hg j hj];exact((YM (g' j) 0 _).2 xs).2 h1,h2⟩
  ·exact⟨λx hx=>UM hx,λxs hx=>by simp only[RL]at hx⟩
 |_=>intro v h;exact sf _ v h
theorem Tree.holds_val{P:Program}{Q:V->Prop}:∀T:Tree V,T.pre->Q T.valOf->T.holds P Q:=by
 intro T
 induction T with
 |leaf v=>intro _ h;exact h
 |node b t f iht ihf=>
  intro hp h
  refine⟨λhb=>iht (hp.1 hb) ?_,λhb=>ihf (hp.2 hb) ?_⟩
  ·rw[show(zB b t f).valOf=bif b then t.valOf else f.valOf from rfl,hb]at h;exact h
  ·rw[show(zB b t f).valOf=bif b then t.valOf else f.valOf from rfl,hb]at h;exact h
 |need p t ih=>intro hp h;exact⟨hp.1,ih hp.2 h⟩
 |_=>intro hp;exact hp.elim
def Tree.Y8(p:V):Tree V->Prop
 | .leaf v=>v.clean=ze/\FitR p v
 | .node _ t f=>t.Y8 p/\f.Y8 p
 | .need _ t=>t.Y8 p
 |_=>False
theorem Tree.fitV_val{p:V}:∀T:Tree V,T.Y8 p->T.valOf.clean=ze/\FitR p T.valOf:=by
 intro T
 induction T with
 |leaf v=>exact λh=>h
 |node b t f iht ihf=>intro h;show(bif b then t.valOf else f.valOf).clean=ze/\FitR p (bif b then t.valOf else f.valOf);cases b;exact ihf h.2;exact iht h.1
 |need q t ih=>exact λh=>ih h
 |_=>exact λh=>h.elim
variable{E:Env}{g:FuncId}
theorem X4(hE:E.Ok){args:V}{T:Tree V}(p:V)(hhas:Has E.P g)(hT:ZT E 400 g args=T)(hp:T.pre)(hf:T.Y8 p):Zh E.P g args (Yh p T.valOf):=by
 refine Zgo hE (k:=400) hhas ?_
 rw[hT]
 have h:=Tree.fitV_val T hf
 exact Tree.holds_val T hp λF w n m x hx=>(FitR_R p _ h.2).1 x ((WS _ h.1 n 0 m _).1 x hx)
theorem cP{c:Bool}{a b:V}{p:V->Prop}(ha:c=ze->p a)(hb:c=za->p b):p (bif c then a else b):=by
 cases c
 ·exact hb rfl
 ·exact ha rfl
theorem notB{c:Bool}{p:Prop}(h:c=ze↔p):c=za↔¬p:=by rw[<- h];cases c<;>simp
variable{a b:Nat}
theorem XO:Nat.blt a b=za↔¬a<b:=notB YS
theorem XW:zK a b=ze↔a<=b:=by rw[Nat.ble_eq]
theorem X7:zK a b=za↔¬a<=b:=notB XW
theorem X6:zq a b=za↔¬a=b:=notB XV
def V.Zz:V->Nat->V
 | .rptr _ _ _ g _ _=>g
 |_=>λ_=>.junk
def V.rptrN:V->Nat
 | .rptr _ _ n _ _ _=>n
 |_=>0
def V.rptrI:V->Nat
 | .rptr _ _ _ _ i _=>i
 |_=>0
def V.Ye:V->V
 | .fn _ _ c=>c
 |_=>.nil
def V.at_(c:V)(k:Nat):V:=Nat.rec (λc=>c.hd) (λ_ ih c=>ih c.tl) k c
variable{f:Nat->Bool}
theorem Zck(h:Zp f n=ze):∃k,k<n/\f k=ze:=Classical.byContradiction λh2=>by
 rw[Zar λk hk=>by cases e:f k;rfl;exact absurd ⟨k,hk,e⟩ h2]at h
 cases h
theorem least:∀k,f k=ze->∃i,i<=k/\f i=ze/\∀j,j<i->f j=za:=by
 intro k
 induction k using Nat.strongRecOn with
 |_ k ih=>
  intro h
  by_cases h2:∃j,j<k/\f j=ze
  ·obtain⟨j,hj,hf⟩:=h2
   obtain⟨i,h1,h3⟩:=ih j hj hf
   exact⟨i,by omega,h3⟩
  ·exact⟨k,zI _,h,λj hj=>by cases e:f j;rfl;exact absurd ⟨j,hj,e⟩ h2⟩
theorem ZfL(h:Zp f n=ze):ZN f n 0<n/\f (ZN f n 0)=ze/\∀j,j<ZN f n 0->f j=za:=by
 obtain⟨k,hk,hf⟩:=Zck h
 obtain⟨i,h1,h2,h3⟩:=least k hf
 rw[ZcY (n:=n) (i:=i) (by omega) h3 h2]
 exact⟨by omega,h2,h3⟩
theorem ZfK(h:Zp f n=ze):ZN f n 0<n:=(ZfL h).1
def sR:V->V->Prop
 | .cons h t,.cons h' t'=>sR h h'/\sR t t'
 | .rptr _ es n g i o,.rptr _ es' n' g' i' o'=>es=es'/\n=n'/\i=i'/\o=o'/\∀j,sR (g j) (g' j)
 | .fn f a b,.fn f' a' b'=>f=f'/\sR a a'/\sR b b'
 | .Zo,.rsl _ _ n _=>n=0
 |v,v'=>v.soft=v'.soft
theorem WG:∀v:V,sR v v:=by
 intro v
 induction v with
 |cons h t ih1 ih2=>exact⟨ih1,ih2⟩
 |rptr st es n g i o ih=>exact⟨rfl,rfl,rfl,rfl,ih⟩
 |fn f a b ih1 ih2=>exact⟨rfl,ih1,ih2⟩
 |_=>exact rfl
theorem sR_R{w:World}:∀(v v':V),sR v v'->∀(n:Nat)(m:Nat->Option Nat),(∀x,R F w v n m x->R F w v' n m x)/\(∀xs,RL F w v n m xs->RL F w v' n m xs):=by
 have sf:∀v v':V,v.soft=v'.soft->∀(n:Nat)(m:Nat->Option Nat),(∀x,R F w v n m x->R F w v' n m x)/\(∀xs,RL F w v n m xs->RL F w v' n m xs):=λv v' h n m=>
  ⟨λx hx=>((YM v' n m).1 x).1 (h▸((YM v n m).1 x).2 hx),λxs hx=>((YM v' n m).2 xs).1 (h▸((YM v n m).2 xs).2 hx)⟩
 intro v
 induction v with
 |cons h t ih1 ih2=>
  intro v' hs n m
  cases v'<;>try exact sf _ _ hs n m
  refine⟨λx hx=>by simp only[R]at hx,λxs hx=>?_⟩
  simp only[RL]at hx⊢
  obtain⟨x,r,rfl,h1,h2⟩:=hx
  exact⟨x,r,rfl,(ih1 _ hs.1 n m).1 _ h1,(ih2 _ hs.2 n m).2 _ h2⟩
 |rptr st es k g i o ih=>
  intro v' hs n m
  cases v'<;>try exact sf _ _ hs n m
  obtain⟨rfl,rfl,rfl,rfl,hg⟩:=hs
  refine⟨λx hx=>?_,λxs hx=>by simp only[RL]at hx⟩
  simp only[R]at hx⊢
  obtain⟨hi,B,off,rfl,hB,c,el,fr,hc,hr⟩:=hx
  refine⟨hi,B,off,rfl,hB,c,el,fr,hc,λj hj=>?_⟩
  obtain⟨xs,h1,h2,h3⟩:=hr j hj
  exact⟨xs,(ih j _ (hg j) 0 _).2 _ h1,h2,h3⟩
 |fn f a b ih1 ih2=>
  intro v' hs n m
  cases v'<;>try exact sf _ _ hs n m
  obtain⟨rfl,ha,hb⟩:=hs
  refine⟨λx hx=>?_,λxs hx=>by simp only[RL]at hx⟩
  simp only[R]at hx⊢
  obtain⟨xs,ys,rfl,h1,h2⟩:=hx
  exact⟨xs,ys,rfl,(ih1 _ ha n m).2 _ h1,(ih2 _ hb n m).2 _ h2⟩
 |Zo=>
  intro v' hs n m
  cases v'<;>try exact sf _ _ hs n m
  obtain rfl:=hs
  exact⟨λx hx=>UM hx,λxs hx=>by simp only[RL]at hx⟩
 |_=>intro v' hs n m;exact sf _ _ hs n m
def conS(g:FuncId)(arg res:V->V)(pre:V->Prop):Con:=
 { g,al:=ze,ans:=λx=>bif x.known then zm else zi (.where_ (sR x (arg x)/\pre x) (res x)) }
theorem Vm{P:Program}{arg res:V->V}{pre:V->Prop}(h:∀x,pre x->Zh P g (arg x) (res x)):(conS g arg res pre).Ok P:=by
 intro x
 show match(bif x.known then zm else zi (Ans.where_ (sR x (arg x)/\pre x) (res x)))with
  |some (.sure v)=>Zh P g x v
  |some (.where_ p v)=>p->Zh P g x v
  |some (.fork b v v')=>(b=ze->Zh P g x v)/\(b=za->Zh P g x v')
  |none=>True
 cases x.known with
 |true=>trivial
 |false=>exact λhp=>⟨(h x hp.2).1,λF w xs hfd hgl ha=>(h x hp.2).2 F w xs hfd hgl ((sR_R x _ hp.1 0 _).2 _ ha)⟩
variable{n0:Nat}
theorem sEq_refl:∀v:V,sEq n0 v v:=by
 intro v
 induction v with
 |cons h t ih1 ih2=>exact⟨ih1,ih2⟩
 |_=>rfl
theorem vEq_refl(v:V):vEq n0 v v:=by
 unfold vEq
 split
 ·exact sEq_refl _
 ·rfl
theorem Kg{KR:List Nat}(c:V):blkEq n0 KR (.var c) (.var c):=by
 show vEq n0 c c
 exact vEq_refl c
theorem UN{A:Type}{c:A->V}{r:Nat->A}{k:Nat}(j:Nat):(bif zq j k then c (r k)else c (r j))=c (r j):=by
 cases h:zq j k
 ·rfl
 ·rw[zO h];rfl
def Tree.bare{α:Type}:Tree α->Tree α
 | .leaf a=>.leaf a
 | .node b t f=>.node b t.bare f.bare
 | .need _ t=>t.bare
 |t=>t
theorem Tree.ZnF{α:Type}{P:Program}{Q:α->Prop}:∀T:Tree α,T.pre->T.bare.holds P Q->T.holds P Q:=by
 intro T
 induction T with
 |leaf a=>exact λ_ h=>h
 |node b t f iht ihf=>exact λhp h=>⟨λhb=>iht (hp.1 hb) (h.1 hb),λhb=>ihf (hp.2 hb) (h.2 hb)⟩
 |need p t ih=>exact λhp h=>⟨hp.1,ih hp.2 h⟩
 |_=>exact λhp=>hp.elim
variable{T:Tree (V×List Blk)}{bl:List Blk}
theorem hk_bare(hE:E.Ok){args:V}(hT:evH E 400 g args bl=T)(hp:T.pre):YG E.P g args bl T.bare:=
 hk_at hE 400 λQ hQ=>by rw[hT];exact Tree.XI T (λr hr=>⟨r,hr,rfl,rfl⟩) (Tree.ZnF T hp hQ)
def hkBl:List Blk->List Blk->Prop
 |[],[]=>True
 | .var c::l,.var c'::l'=>sR c c'/\hkBl l l'
 | .arr es n g::l,.arr es' n' g'::l'=>es=es'/\n=n'/\(∀j,(g j).soft=(g' j).soft)/\hkBl l l'
 |_,_=>False
def hkEq(args:V)(bl:List Blk)(args':V)(bl':List Blk):Prop:=sR args args'/\hkBl bl bl'
theorem sR_le{v v':V}(h:sR v v'):Le n0 v v':=λF w m=>sR_R v v' h n0 m
theorem hkBl_le:∀{bl bl':List Blk},hkBl bl bl'->bl.length=bl'.length/\∀n0 b,LeK n0 (bl.getD b .none) (bl'.getD b .none):=by
 intro bl
 induction bl with
 |nil=>intro bl' h;cases bl' with|nil=>exact⟨rfl,λ_ _=>LeK.refl _⟩|cons=>exact h.elim
 |cons x l ih=>
  intro bl' h
  cases bl' with
  |nil=>cases x<;>exact h.elim
  |cons y l'=>
   cases x<;>cases y<;>try exact h.elim
   ·obtain⟨h1,h2⟩:=h
    obtain⟨e,h3⟩:=ih h2
    refine⟨by simp[e],λn0 b=>?_⟩
    cases b with
    |zero=>exact LeK.var (sR_le h1)
    |succ b=>exact h3 n0 b
   ·obtain⟨rfl,rfl,h1,h2⟩:=h
    obtain⟨e,h3⟩:=ih h2
    refine⟨by simp[e],λn0 b=>?_⟩
    cases b with
    |zero=>exact LeK.Jb rfl λj _=>h1 j
    |succ b=>exact h3 n0 b
theorem YG.eq{P:Program}{args args':V}{bl':List Blk}(H:YG P g args' bl' T)(h:hkEq args bl args' bl'):YG P g args bl T:=by
 obtain⟨e,hl⟩:=hkBl_le h.2
 refine YG.le (bl0:=bl') (λbase m F w xs Q KK hr ha hq hk=>H base m F w xs Q KK hr ((sR_R args args' h.1 _ m).2 _ ha) hq hk) e λb=>hl _ b
theorem hk_need{P:Program}{args:V}{p:Prop}(h:p->YG P g args bl T)(base:Nat)(m:Nat->Option Nat)(F:Nat->Prop)(w:World)(xs:Array Value)(Q:V×List Blk->Prop)(KK:Ending->World->Prop)
  (hr:HR base m F (λb=>bl.getD b .none) bl.length w)(ha:RL F w args bl.length m xs.toList)(hq:(zu p T).holds P Q)(hk:∀v bl',Q (v,bl')->∀m' F' w' x,Ext base m F bl.length w m' F' bl'.length w'->HR base m' F' (λb=>bl'.getD b .none) bl'.length w'->R F' w' v bl'.length m' x->KK (.returned x) w'):Has P g/\Calls P g xs w KK:=
 h hq.1 base m F w xs Q KK hr ha hq.2 hk
def KC:List (FuncId×Nat×Bool)->FuncId->Nat->Option Bool
 |[],_,_=>zm
 |(f,t,w)::l,g,u=>bif zq f g&&zq t u then zi w else KC l g u
theorem Env.Ok.Zjr(hE:E.Ok)(wy:FuncId->Nat->Option Bool):Env.Ok { E with way:=wy }:=⟨hE.mixed,hE.named,hE.sure,hE.where_,hE.fork,hE.lp,hE.hk⟩
end Go.Fw
namespace Go.Proofs.YthhbdbeglmkijaaGreatDoor
open Go.Fw
abbrev ZbZ(an:Nat)(a:Nat->DT3)(b:Int)(i:Int)(z:Unit):V:=(.cons (.rsl za 1 an (λjj=>zf (zn za zA (DT3.f0 (a jj))) zh)) (.cons (.int za .i64 (b)) (.cons (.int ze .i64 0) (.cons (.int za .i64 ((an:Nat):Int)) (.cons (.int za .i64 i) .nil)))))
abbrev Zb0(an:Nat)(a:Nat->DT3)(b:Int)(i:Int)(z:Unit):List Blk:=[]
def Lix3_R(an:Nat)(a:Nat->DT3)(b:Int)(i:Int)(z:Unit):Tree Rd:=
 let q0:=(zl za 1 an λjj=>ci (a jj).f0 zh)
 zu ((0:Int)<=i/\i<(an:Int)) (zB (bif bif b==(a (zk i)).f0 then ze else za then ze else za) (zw (Ex.ret,ze,zf q0 (ci b (ci i (ci (an:Int) (ci i zh)))),[])) (zw (Ex.normal,ze,zf q0 (ci b (zf (zn ze .i64 (0:Int)) (ci (an:Int) (ci (zD .i64 (i+(1:Int))) zh)))),[])))
theorem ZmX(an:Nat)(a:Nat->DT3)(b:Int):Yi P (Zl P [] [] ze) 193 2 0 0 19 [0,1,4,7,8] [] [] (ZbZ an a b) (Zb0 an a b) (λi=>(bif decide (i<(an:Int))then za else ze)) (.exit 0) (Lix3_R an a b):=λB i z=>by kernel_rfl
def Zeb(an:Nat)(a:Nat->DT3)(b:Int)(k:Nat):Bool:=(λ(i:Int)(z:Unit)=>(bif bif bif b==(a (zk i)).f0 then ze else za then ze else za then ze else za)) k ()
abbrev Lix3_ets(an:Nat)(a:Nat->DT3)(b:Int)(i:Int)(z:Unit):V:=(.cons (zl za 1 an λjj=>zf (zn za .i64 (a jj).f0) zh) (.cons (zn za .i64 b) (.cons (zn za .i64 i) (.cons (zn za .i64 (an:Int)) (.cons .junk .nil)))))
def Zec(an:Nat)(a:Nat->DT3)(b:Int):Lp:=lpL 193 2 0 0 19 [0,1,4,7,8] [] [] (ZbZ an a b) (Zb0 an a b) (.exit 0) .ret () (λ_=>()) (Zeb an a b) (an) (Lix3_ets an a b) (Zb0 an a b)
def Zjz(an:Nat)(a:Nat->DT3)(b:Int):Prop:=YC 0 [] (ZbZ an a b) (Zb0 an a b) () (ZbZ an a b (0:Nat) ()) (Zb0 an a b (0:Nat) ())
theorem Lix3_fit(an:Nat)(a:Nat->DT3)(b:Int):Zjz an a b:=⟨rfl,trivial⟩
theorem ZmW(an:Nat)(a:Nat->DT3)(b:Int)(hl:an<=1000):(Zec an a b).Ok P:=by
 refine YR (Zw hm hn (l:=[]) trivial (ls:=[]) trivial ze) rfl (by kernel_rfl) (ZmX an a b) exN Yv (λ_=>rfl) (step:=λ_ z=>z) (rd:=(λ_ t y=>())) (λi z=>rfl) (λi=>(cC rfl rfl)) rfl (λi hlt hg=>?_) (λi z hi=>?_)
 ·have hltI:(i:Int)<((an:Nat):Int):=by omega
  refine⟨?_,⟨λhb0=>trivial,λhb0=>trivial⟩⟩
  all_goals(repeat'(first|exact rfl|exact λ_=>⟨rfl,rfl⟩|apply zy|intro _))
  all_goals(try simp only[decide_eq_true_eq,decide_eq_false_iff_not,yg,yw]at*)
  all_goals(try simp(disch:=omega) only[IntWalk.i64_in])
  all_goals(first|omega)
 ·have hw:=(IntWalk.i64_in ((i:Int)+1) ⟨by omega,by omega⟩)
  refine⟨?_,?_⟩
  all_goals(first|exact⟨rfl,Yq (ts:=ZbZ an a b) (a:=()) hw rfl,Z5 _⟩|exact⟨rfl,rfl,(by repeat'(first|exact Le.refl _|exact Le.junk _ rfl|apply Le.cons)),Z5 _⟩)
def ix3_T(an:Nat)(a:Nat->DT3)(b:Int):Tree V:=
 zu (Zjz an a b) (zB (bif Zp (Zeb an a b) an then ze else za) (zw (vi ((ZN (Zeb an a b) an (0:Nat):Nat):Int))) (zw (zn ze .i64 (-1:Int))))
theorem ix3_tree(an:Nat)(a:Nat->DT3)(b:Int):ZT (Zl P [] [Zec an a b] ze) 400 193 (.cons (.rsl za 1 an λj=>ZK za (a j)) (.cons (.int za .i64 b) .nil))=ix3_T an a b:=by kernel_rfl
def Zbg(an:Nat)(a:Nat->DT3)(b:Int):Int:=(ix3_T an a b).valOf.toInt
theorem ix3_meets(an:Nat)(a:Nat->DT3)(b:Int)(h0:an<=1000):Zh P 193 (.cons (.rsl za 1 an λj=>ZK za (a j)) (.cons (.int za .i64 b) .nil)) (.int za .i64 (Zbg an a b)):=by
 refine X4 (E:=(Zl P [] [Zec an a b] ze)) (Zw hm hn (l:=[]) trivial (ls:=[Zec an a b]) ⟨ZmW an a b h0,trivial⟩ ze) (.int za .i64 0) (Has.of hn Tryz.func193 rfl) (ix3_tree an a b) ?_ ?_
 ·refine⟨?_,⟨λhb0=>trivial,λhb0=>trivial⟩⟩
  all_goals(first|exact Lix3_fit an a b|((repeat'(first|exact rfl|exact λ_=>⟨rfl,rfl⟩|apply zy|intro _));all_goals(try simp only[decide_eq_true_eq,decide_eq_false_iff_not]at*);all_goals(first|omega|(simp at*;omega))))
 ·refine⟨⟨rfl,?_⟩,⟨rfl,?_⟩⟩
  all_goals((repeat'(first|exact rfl|exact trivial|apply zy|intro _|(refine cP (p:=λv=>z8 v=Yh _ v) (λhc=>?_) (λhc=>?_))));all_goals(exfalso;simp only[YS,XO,XW,X7,XV,X6,zL,yE]at*;omega))
def c_ix3A(r0:Nat->(Nat->DT3)->Int->Int):Con:=Yd 193 (λx=>(.cons (.rsl za 1 x.hd.Zi λj=>ZK za ((λj=>Zx (x.hd.Zn j)) j)) (.cons (.int za .i64 x.tl.hd.toInt) .nil))) (λx=>(.int za .i64 (r0 x.hd.Zi (λj=>Zx (x.hd.Zn j)) x.tl.hd.toInt))) (λx=>(λ(an:Nat)(a:Nat->DT3)(b:Int)=>an<=1000) x.hd.Zi (λj=>Zx (x.hd.Zn j)) x.tl.hd.toInt)
abbrev c_ix3:Con:=c_ix3A Zbg
theorem c_ix3_ok:c_ix3.Ok P:=Yf (λx h=>ix3_meets _ _ _ h)
def ct3_T(an:Nat)(a:Nat->DT3)(b:Int):Tree V:=
 let q0:=(zl za 1 an λj=>ci (a j).f0 zh)
 zu (zf q0 (ci b zh)=zf q0 (ci b zh)/\an<=(1000:Nat)) (zw (zC za (decide (Zbg an (λj=>(a j)) b>=(0:Int)))))
theorem ct3_tree(an:Nat)(a:Nat->DT3)(b:Int):ZT (Zl P [c_ix3] [] ze) 400 148 (.cons (.rsl za 1 an λj=>ZK za (a j)) (.cons (.int za .i64 b) .nil))=ct3_T an a b:=by kernel_rfl
def YU(an:Nat)(a:Nat->DT3)(b:Int):Bool:=(ct3_T an a b).valOf.toBool
theorem ct3_meets(an:Nat)(a:Nat->DT3)(b:Int)(h0:an<=1000):Zh P 148 (.cons (.rsl za 1 an λj=>ZK za (a j)) (.cons (.int za .i64 b) .nil)) (.bool za (YU an a b)):=by
 refine X4 (E:=(Zl P [c_ix3] [] ze)) (Zw hm hn (l:=[c_ix3]) ⟨c_ix3_ok,trivial⟩ (ls:=[]) trivial ze) (.bool za za) (Has.of hn Tryz.func148 rfl) (ct3_tree an a b) ?_ ?_
 ·refine⟨?_,trivial⟩
  all_goals((repeat'(first|exact rfl|exact λ_=>⟨rfl,rfl⟩|apply zy|intro _));all_goals(try simp only[decide_eq_true_eq,decide_eq_false_iff_not]at*);all_goals(first|omega|(simp at*;omega)))
 ·refine⟨rfl,?_⟩
  all_goals((repeat'(first|exact rfl|exact trivial|apply zy|intro _|(refine cP (p:=λv=>z8 v=Yh _ v) (λhc=>?_) (λhc=>?_))));all_goals(exfalso;simp only[YS,XO,XW,X7,XV,X6,zL,yE]at*;omega))
def UQ(r0:Nat->(Nat->DT3)->Int->Bool):Con:=Yd 148 (λx=>(.cons (.rsl za 1 x.hd.Zi λj=>ZK za ((λj=>Zx (x.hd.Zn j)) j)) (.cons (.int za .i64 x.tl.hd.toInt) .nil))) (λx=>(.bool za (r0 x.hd.Zi (λj=>Zx (x.hd.Zn j)) x.tl.hd.toInt))) (λx=>(λ(an:Nat)(a:Nat->DT3)(b:Int)=>an<=1000) x.hd.Zi (λj=>Zx (x.hd.Zn j)) x.tl.hd.toInt)
abbrev Zaz:Con:=UQ YU
theorem Ze8:Zaz.Ok P:=Yf (λx h=>ct3_meets _ _ _ h)
abbrev Zb9(n:Nat)(r:Nat->ZI)(y:Int)(i:Int)(z:Unit):V:=(.cons (.rsl za 2 n (λjj=>zf (zn za zA (ZI.f0 (r jj))) (zf (zl za (1:Nat) (ZI.n1 (r jj)) λj=>zf (zn za zA (DT3.f0 ((r jj).3 j))) zh) zh))) (.cons (.fn (Fn.func (254:FuncId)) .nil (.cons (.rptr za (1:Nat) (1:Nat) (λjj=>.cons (.int za zA y) .nil) (0:Nat) (0:Nat)) .nil)) (.cons (.int ze .i64 0) (.cons (.int za .i64 ((n:Nat):Int)) (.cons (.int za .i64 i) .nil)))))
abbrev Zca(n:Nat)(r:Nat->ZI)(y:Int)(i:Int)(z:Unit):List Blk:=[]
def LixGang_R(n:Nat)(r:Nat->ZI)(y:Int)(i:Int)(z:Unit):Tree Rd:=
 let q0:=(V.fn (Fn.func (254:FuncId)) zh (zf (V.rptr za (1:Nat) (1:Nat) (λjj=>ci y zh) (0:Nat) (0:Nat)) zh))
 let q1:=(zl za 1 (r (zk i)).n1 λj=>ci ((r (zk i)).3 j).f0 zh)
 let q2:=(zl za 2 n λjj=>Zu za (r jj))
 zu (((0:Int)<=i/\i<(n:Int))/\zf q1 (ci y zh)=zf q1 (ci y zh)/\(r (zk i)).n1<=(1000:Nat)) (zB (bif bif YU (r (zk i)).n1 (λj=>Zx (ci ((r (zk i)).3 j).f0 zh)) y then ze else za then ze else za) (zw (Ex.ret,ze,zf q2 (zf q0 (ci i (ci (n:Int) (ci i zh)))),[])) (zw (Ex.normal,ze,zf q2 (zf q0 (zf (zn ze .i64 (0:Int)) (ci (n:Int) (ci (zD .i64 (i+(1:Int))) zh)))),[])))
theorem Znb(n:Nat)(r:Nat->ZI)(y:Int):Yi P (Zl P [Zaz] [] ze) 253 2 0 0 19 [0,1,4,7,8] [] [] (Zb9 n r y) (Zca n r y) (λi=>(bif decide (i<(n:Int))then za else ze)) (.exit 0) (LixGang_R n r y):=λB i z=>by kernel_rfl
def K7(n:Nat)(r:Nat->ZI)(y:Int)(k:Nat):Bool:=(λ(i:Int)(z:Unit)=>(bif bif bif YU (r (zk i)).n1 (λj=>Zx (zf (zn za .i64 ((r (zk i)).3 j).f0) zh)) y then ze else za then ze else za then ze else za)) k ()
abbrev Zm8(n:Nat)(r:Nat->ZI)(y:Int)(i:Int)(z:Unit):V:=(.cons (zl za 2 n λjj=>Zu za (r jj)) (.cons (V.fn (Fn.func (254:FuncId)) zh (zf (V.rptr za (1:Nat) (1:Nat) (λjj=>zf (zn za .i64 y) zh) (0:Nat) (0:Nat)) zh)) (.cons (zn za .i64 i) (.cons (zn za .i64 (n:Int)) (.cons .junk .nil)))))
def Zeh(n:Nat)(r:Nat->ZI)(y:Int):Lp:=lpL 253 2 0 0 19 [0,1,4,7,8] [] [] (Zb9 n r y) (Zca n r y) (.exit 0) .ret () (λ_=>()) (K7 n r y) (n) (Zm8 n r y) (Zca n r y)
def ZjE(n:Nat)(r:Nat->ZI)(y:Int):Prop:=YC 0 [] (Zb9 n r y) (Zca n r y) () (Zb9 n r y (0:Nat) ()) (Zca n r y (0:Nat) ())
theorem Zm9(n:Nat)(r:Nat->ZI)(y:Int):ZjE n r y:=⟨rfl,trivial⟩
theorem Zna(n:Nat)(r:Nat->ZI)(y:Int)(hl:n<=1000)(h0:∀j,(r j).n1<=1000):(Zeh n r y).Ok P:=by
 refine YR (Zw hm hn (l:=[Zaz]) ⟨Ze8,trivial⟩ (ls:=[]) trivial ze) rfl (by kernel_rfl) (Znb n r y) exN Yv (λ_=>rfl) (step:=λ_ z=>z) (rd:=(λ_ t y=>())) (λi z=>rfl) (λi=>(cC rfl rfl)) rfl (λi hlt hg=>?_) (λi z hi=>?_)
 ·have hltI:(i:Int)<((n:Nat):Int):=by omega
  refine⟨?_,⟨λhb0=>trivial,λhb0=>trivial⟩⟩
  all_goals(repeat'(first|exact rfl|exact λ_=>⟨rfl,rfl⟩|apply zy|intro _))
  all_goals(try simp only[decide_eq_true_eq,decide_eq_false_iff_not,yg,yw]at*)
  all_goals(try simp(disch:=omega) only[IntWalk.i64_in])
  all_goals(first|omega|exact h0 _)
 ·have hw:=(IntWalk.i64_in ((i:Int)+1) ⟨by omega,by omega⟩)
  refine⟨?_,?_⟩
  all_goals(first|exact⟨rfl,Yq (ts:=Zb9 n r y) (a:=()) hw rfl,Z5 _⟩|exact⟨rfl,rfl,(by repeat'(first|exact Le.refl _|exact Le.junk _ rfl|apply Le.cons)),Z5 _⟩)
def ZiF(y:Int)(an:Nat)(a:Nat->ZI):Tree V:=
 zu (ZjE an a y) (zB (bif Zp (K7 an a y) an then ze else za) (zw (vi ((ZN (K7 an a y) an (0:Nat):Nat):Int))) (zw (zn ze .i64 (-1:Int))))
theorem Zqg(y:Int)(an:Nat)(a:Nat->ZI):ZT (Zl P [Zaz] [Zeh an a y] ze) 400 253 (.cons (.rsl za 2 an λj=>Zu za (a j)) (.cons (.fn (.func 254) .nil (.cons (.rptr za 1 1 (λ_=>(.cons (.int za .i64 y) .nil)) 0 0) .nil)) .nil))=ZiF y an a:=by kernel_rfl
def GK(y:Int)(an:Nat)(a:Nat->ZI):Int:=(ZiF y an a).valOf.toInt
theorem Zqf(y:Int)(an:Nat)(a:Nat->ZI)(h0:an<=1000)(h1:∀j,(a j).n1<=1000):Zh P 253 (.cons (.rsl za 2 an λj=>Zu za (a j)) (.cons (.fn (.func 254) .nil (.cons (.rptr za 1 1 (λ_=>(.cons (.int za .i64 y) .nil)) 0 0) .nil)) .nil)) (.int za .i64 (GK y an a)):=by
 refine X4 (E:=(Zl P [Zaz] [Zeh an a y] ze)) (Zw hm hn (l:=[Zaz]) ⟨Ze8,trivial⟩ (ls:=[Zeh an a y]) ⟨Zna an a y h0 h1,trivial⟩ ze) (.int za .i64 0) (Has.of hn Tryz.func253 rfl) (Zqg y an a) ?_ ?_
 ·refine⟨?_,⟨λhb0=>trivial,λhb0=>trivial⟩⟩
  all_goals(first|exact Zm9 an a y|((repeat'(first|exact rfl|exact λ_=>⟨rfl,rfl⟩|apply zy|intro _));all_goals(try simp only[decide_eq_true_eq,decide_eq_false_iff_not]at*);all_goals(first|omega|(simp at*;omega))))
 ·refine⟨⟨rfl,?_⟩,⟨rfl,?_⟩⟩
  all_goals((repeat'(first|exact rfl|exact trivial|apply zy|intro _|(refine cP (p:=λv=>z8 v=Yh _ v) (λhc=>?_) (λhc=>?_))));all_goals(exfalso;simp only[YS,XO,XW,X7,XV,X6,zL,yE]at*;omega))
def c_ixGangA(r0:Int->Nat->(Nat->ZI)->Int):Con:=Yd 253 (λx=>(.cons (.rsl za 2 x.hd.Zi λj=>Zu za ((λj=>XC (x.hd.Zn j)) j)) (.cons (.fn (.func 254) .nil (.cons (.rptr za 1 1 (λ_=>(.cons (.int za .i64 ((x.tl.hd.Ye.hd.Zz 0).hd.toInt)) .nil)) 0 0) .nil)) .nil))) (λx=>(.int za .i64 (r0 ((x.tl.hd.Ye.hd.Zz 0).hd.toInt) x.hd.Zi (λj=>XC (x.hd.Zn j))))) (λx=>(λ(y:Int)(an:Nat)(a:Nat->ZI)=>an<=1000/\∀j,(a j).n1<=1000) ((x.tl.hd.Ye.hd.Zz 0).hd.toInt) x.hd.Zi (λj=>XC (x.hd.Zn j)))
abbrev ZaC:Con:=c_ixGangA GK
theorem Zj6:ZaC.Ok P:=Yf (λx h=>Zqf _ _ _ h.1 h.2)
theorem ixGang_eq(y:Int)(an:Nat)(a:Nat->ZI):GK y an a=bif Zp (K7 an a y) an then((ZN (K7 an a y) an 0:Nat):Int)else -1:=by
 unfold GK ZiF
 show V.toInt (bif (bif Zp (K7 an a y) an then ze else za)then _ else _)=_
 cases Zp (K7 an a y) an<;>rfl
theorem Zk2(a:Zc)(b:Int):0<=X9 a b/\X9 a b<=a.n0/\(QW a b=ze->X9 a b<a.n0):=by
 have h:Jj a.n0 a.r0 b<=a.n0:=Zcp _ _ _ (Nat.zero_le _)
 have e:X9 a b=(Jj a.n0 a.r0 b:Int):=by
  unfold X9;cases decide (((Jj a.n0 a.r0 b:Nat):Int)<(a.n0:Int))<;>rfl
 rw[e]
 refine⟨by omega,by omega,λh1=>?_⟩
 unfold QW at h1
 cases hc:decide (((Jj a.n0 a.r0 b:Nat):Int)<(a.n0:Int))with
 |true=>exact of_decide_eq_true hc
 |false=>rw[hc]at h1;cases h1
abbrev Zb3(n:Nat)(r:Nat->DT3)(g:Zc)(i:Int)(z:Unit):V:=(.cons (.rsl za 1 n (λjj=>zf (zn za zA (DT3.f0 (r jj))) zh)) (.cons (.fn (Fn.func (224:FuncId)) .nil (.cons (.rptr za (1:Nat) (1:Nat) (λjj=>.cons (.rptr za (1:Nat) (1:Nat) (λjj=>.cons (.rsl za (2:Nat) (Zc.n0 g) λj=>.cons (.int za zA (ZI.f0 (g.2 j))) (.cons (.rsl za (1:Nat) (ZI.n1 (g.2 j)) λj_1=>.cons (.int za zA (DT3.f0 (ZI.r1 (g.2 j) j_1))) .nil) .nil)) .nil) (0:Nat) (0:Nat)) .nil) (0:Nat) (0:Nat)) .nil)) (.cons (.int ze .i64 0) (.cons (.int za .i64 ((n:Nat):Int)) (.cons (.int za .i64 i) .nil)))))
abbrev Zb4(n:Nat)(r:Nat->DT3)(g:Zc)(i:Int)(z:Unit):List Blk:=[]
def LixFg_R(n:Nat)(r:Nat->DT3)(g:Zc)(i:Int)(z:Unit):Tree Rd:=
 let q0:=(V.fn (Fn.func (224:FuncId)) zh (zf (V.rptr za (1:Nat) (1:Nat) (λjj=>zf (V.rptr za (1:Nat) (1:Nat) (λjj=>zf (zl za 2 g.n0 λjj=>ci (g.2 jj).f0 (zf (zl za 1 (g.2 jj).n1 λjj_1=>ci ((g.2 jj).r1 jj_1).f0 zh) zh)) zh) (0:Nat) (0:Nat)) zh) (0:Nat) (0:Nat)) zh))
 let q1:=(zl za 1 n λjj=>ci (r jj).f0 zh)
 zu (((0:Int)<=i/\i<(n:Int))/\zf (zl za 2 g.n0 λj=>ci (g.2 j).f0 (zf (zl za 1 (g.2 j).n1 λj_1=>ci ((g.2 j).r1 j_1).f0 zh) zh)) (zf (V.fn (Fn.func (254:Nat)) zh (zf (V.rptr za (1:Nat) (1:Nat) (λj=>ci (r (zk i)).f0 zh) (0:Nat) (0:Nat)) zh)) zh)=zf (zl za 2 g.n0 λj=>ci (g.2 j).f0 (zf (zl za 1 (g.2 j).n1 λj_1=>ci (Zx (ci ((g.2 j).r1 j_1).f0 zh)).f0 zh) zh)) (zf (V.fn (Fn.func (254:FuncId)) zh (zf (V.rptr za (1:Nat) (1:Nat) (λjj=>ci (r (zk i)).f0 zh) (0:Nat) (0:Nat)) zh)) zh)/\g.1<=(1000:Nat)/\∀(j:Nat),(g.2 j).n1<=(1000:Nat)) (zB (bif bif decide ((GK (r (zk i)).f0 g.n0 λj=>XC (ci (g.2 j).f0 (zf (zl za 1 (g.2 j).n1 λj_1=>ci ((g.2 j).r1 j_1).f0 zh) zh)))>=(0:Int))then ze else za then ze else za) (zw (Ex.ret,ze,zf q1 (zf q0 (ci i (ci (n:Int) (ci i zh)))),[])) (zw (Ex.normal,ze,zf q1 (zf q0 (zf (zn ze .i64 (0:Int)) (ci (n:Int) (ci (zD .i64 (i+(1:Int))) zh)))),[])))
theorem Zm3(n:Nat)(r:Nat->DT3)(g:Zc):Yi P (Zl P [ZaC] [] ze) 220 2 0 0 19 [0,1,4,7,8] [] [] (Zb3 n r g) (Zb4 n r g) (λi=>(bif decide (i<(n:Int))then za else ze)) (.exit 0) (LixFg_R n r g):=λB i z=>by kernel_rfl
def K6(n:Nat)(r:Nat->DT3)(g:Zc)(k:Nat):Bool:=(λ(i:Int)(z:Unit)=>(bif bif bif decide ((GK (r (zk i)).f0 g.n0 λj=>XC (zf (zn za .i64 (g.2 j).f0) (zf (zl za 1 (g.2 j).n1 λj_1=>zf (zn za .i64 ((g.2 j).r1 j_1).f0) zh) zh)))>=(0:Int))then ze else za then ze else za then ze else za)) k ()
abbrev LixFg_ets(n:Nat)(r:Nat->DT3)(g:Zc)(i:Int)(z:Unit):V:=(.cons (zl za 1 n λjj=>zf (zn za .i64 (r jj).f0) zh) (.cons (V.fn (Fn.func (224:FuncId)) zh (zf (V.rptr za (1:Nat) (1:Nat) (λjj=>zf (V.rptr za (1:Nat) (1:Nat) (λjj=>zf (zl za 2 g.n0 λjj=>zf (zn za .i64 (g.2 jj).f0) (zf (zl za 1 (g.2 jj).n1 λjj_1=>zf (zn za .i64 ((g.2 jj).r1 jj_1).f0) zh) zh)) zh) (0:Nat) (0:Nat)) zh) (0:Nat) (0:Nat)) zh)) (.cons (zn za .i64 i) (.cons (zn za .i64 (n:Int)) (.cons .junk .nil)))))
def Zee(n:Nat)(r:Nat->DT3)(g:Zc):Lp:=lpL 220 2 0 0 19 [0,1,4,7,8] [] [] (Zb3 n r g) (Zb4 n r g) (.exit 0) .ret () (λ_=>()) (K6 n r g) (n) (LixFg_ets n r g) (Zb4 n r g)
def ZjB(n:Nat)(r:Nat->DT3)(g:Zc):Prop:=YC 0 [] (Zb3 n r g) (Zb4 n r g) () (Zb3 n r g (0:Nat) ()) (Zb4 n r g (0:Nat) ())
theorem LixFg_fit(n:Nat)(r:Nat->DT3)(g:Zc):ZjB n r g:=⟨rfl,trivial⟩
theorem Zm2(n:Nat)(r:Nat->DT3)(g:Zc)(hl:n<=1000)(h0:g.n0<=1000)(h1:∀j,(g.r0 j).n1<=1000):(Zee n r g).Ok P:=by
 refine YR (Zw hm hn (l:=[ZaC]) ⟨Zj6,trivial⟩ (ls:=[]) trivial ze) rfl (by kernel_rfl) (Zm3 n r g) exN Yv (λ_=>rfl) (step:=λ_ z=>z) (rd:=(λ_ t y=>())) (λi z=>rfl) (λi=>(cC rfl rfl)) rfl (λi hlt hg=>?_) (λi z hi=>?_)
 ·have hltI:(i:Int)<((n:Nat):Int):=by omega
  refine⟨?_,⟨λhb0=>trivial,λhb0=>trivial⟩⟩
  all_goals(repeat'(first|exact rfl|exact λ_=>⟨rfl,rfl⟩|apply zy|intro _))
  all_goals(try simp only[decide_eq_true_eq,decide_eq_false_iff_not,yg,yw]at*)
  all_goals(try simp(disch:=omega) only[IntWalk.i64_in])
  all_goals(first|omega|exact h1 _)
 ·have hw:=(IntWalk.i64_in ((i:Int)+1) ⟨by omega,by omega⟩)
  refine⟨?_,?_⟩
  all_goals(first|exact⟨rfl,Yq (ts:=Zb3 n r g) (a:=()) hw rfl,Z5 _⟩|exact⟨rfl,rfl,(by repeat'(first|exact Le.refl _|exact Le.junk _ rfl|apply Le.cons)),Z5 _⟩)
def ixFg_T(g:Zc)(an:Nat)(a:Nat->DT3):Tree V:=
 zu (ZjB an a g) (zB (bif Zp (K6 an a g) an then ze else za) (zw (vi ((ZN (K6 an a g) an (0:Nat):Nat):Int))) (zw (zn ze .i64 (-1:Int))))
theorem ixFg_tree(g:Zc)(an:Nat)(a:Nat->DT3):ZT (Zl P [ZaC] [Zee an a g] ze) 400 220 (.cons (.rsl za 1 an λj=>ZK za (a j)) (.cons (.fn (.func 224) .nil (.cons (.rptr za 1 1 (λ_=>(.cons (.rptr za 1 1 (λ_=>Y5 za g) 0 0) .nil)) 0 0) .nil)) .nil))=ixFg_T g an a:=by kernel_rfl
def Zbh(g:Zc)(an:Nat)(a:Nat->DT3):Int:=(ixFg_T g an a).valOf.toInt
theorem Zqc(g:Zc)(an:Nat)(a:Nat->DT3)(h0:an<=1000)(h1:g.n0<=1000)(h2:∀j,(g.r0 j).n1<=1000):Zh P 220 (.cons (.rsl za 1 an λj=>ZK za (a j)) (.cons (.fn (.func 224) .nil (.cons (.rptr za 1 1 (λ_=>(.cons (.rptr za 1 1 (λ_=>Y5 za g) 0 0) .nil)) 0 0) .nil)) .nil)) (.int za .i64 (Zbh g an a)):=by
 refine X4 (E:=(Zl P [ZaC] [Zee an a g] ze)) (Zw hm hn (l:=[ZaC]) ⟨Zj6,trivial⟩ (ls:=[Zee an a g]) ⟨Zm2 an a g h0 h1 h2,trivial⟩ ze) (.int za .i64 0) (Has.of hn Tryz.func220 rfl) (ixFg_tree g an a) ?_ ?_
 ·refine⟨?_,⟨λhb0=>trivial,λhb0=>trivial⟩⟩
  all_goals(first|exact LixFg_fit an a g|((repeat'(first|exact rfl|exact WG _|exact λ_=>⟨rfl,rfl⟩|apply zy|intro _));all_goals(try simp only[decide_eq_true_eq,decide_eq_false_iff_not]at*);all_goals(first|omega|(simp at*;omega))))
 ·refine⟨⟨rfl,?_⟩,⟨rfl,?_⟩⟩
  all_goals((repeat'(first|exact rfl|exact trivial|apply zy|intro _|(refine cP (p:=λv=>z8 v=Yh _ v) (λhc=>?_) (λhc=>?_))));all_goals(exfalso;simp only[YS,XO,XW,X7,XV,X6,zL,yE]at*;omega))
def c_ixFgA(r0:Zc->Nat->(Nat->DT3)->Int):Con:=Yd 220 (λx=>(.cons (.rsl za 1 x.hd.Zi λj=>ZK za ((λj=>Zx (x.hd.Zn j)) j)) (.cons (.fn (.func 224) .nil (.cons (.rptr za 1 1 (λ_=>(.cons (.rptr za 1 1 (λ_=>Y5 za (ZG ((x.tl.hd.Ye.hd.Zz 0).hd.Zz 0))) 0 0) .nil)) 0 0) .nil)) .nil))) (λx=>(.int za .i64 (r0 (ZG ((x.tl.hd.Ye.hd.Zz 0).hd.Zz 0)) x.hd.Zi (λj=>Zx (x.hd.Zn j))))) (λx=>(λ(g:Zc)(an:Nat)(a:Nat->DT3)=>an<=1000/\g.n0<=1000/\∀j,(g.r0 j).n1<=1000) (ZG ((x.tl.hd.Ye.hd.Zz 0).hd.Zz 0)) x.hd.Zi (λj=>Zx (x.hd.Zn j)))
abbrev Zfe:Con:=c_ixFgA Zbh
theorem c_ixFg_ok:Zfe.Ok P:=Yf (λx h=>Zqc _ _ _ h.1 h.2.1 h.2.2)
def cfFg_T(g:Zc)(an:Nat)(a:Nat->DT3):Tree V:=
 let q0:=(zl za 1 an λj=>ci (a j).f0 zh)
 zu (zf q0 (zf (V.fn (Fn.func (224:FuncId)) zh (zf (V.rptr za (1:Nat) (1:Nat) (λj=>zf (V.rptr za (1:Nat) (1:Nat) (λj=>zf (zl za 2 g.n0 λj=>ci (g.2 j).f0 (zf (zl za 1 (g.2 j).n1 λj_1=>ci ((g.2 j).r1 j_1).f0 zh) zh)) zh) (0:Nat) (0:Nat)) zh) (0:Nat) (0:Nat)) zh)) zh)=zf q0 (zf (V.fn (Fn.func (224:FuncId)) zh (zf (V.rptr za (1:Nat) (1:Nat) (λjj=>zf (V.rptr za (1:Nat) (1:Nat) (λjj=>zf (zl za 2 g.n0 λj=>ci (g.2 j).f0 (zf (zl za 1 (g.2 j).n1 λj_1=>ci ((g.2 j).r1 j_1).f0 zh) zh)) zh) (0:Nat) (0:Nat)) zh) (0:Nat) (0:Nat)) zh)) zh)/\an<=(1000:Nat)/\g.n0<=(1000:Nat)/\∀(j:Nat),(g.2 j).n1<=(1000:Nat)) (zw (zC za (decide ((Zbh (ZG (Y5 za g)) an λj=>(a j))>=(0:Int)))))
theorem cfFg_tree(g:Zc)(an:Nat)(a:Nat->DT3):ZT (Zl P [Zfe] [] ze) 400 180 (.cons (.rsl za 1 an λj=>ZK za (a j)) (.cons (.fn (.func 224) .nil (.cons (.rptr za 1 1 (λ_=>(.cons (.rptr za 1 1 (λ_=>Y5 za g) 0 0) .nil)) 0 0) .nil)) .nil))=cfFg_T g an a:=by kernel_rfl
def ZaP(g:Zc)(an:Nat)(a:Nat->DT3):Bool:=(cfFg_T g an a).valOf.toBool
theorem Zod(g:Zc)(an:Nat)(a:Nat->DT3)(h0:an<=1000)(h1:g.n0<=1000)(h2:∀j,(g.r0 j).n1<=1000):Zh P 180 (.cons (.rsl za 1 an λj=>ZK za (a j)) (.cons (.fn (.func 224) .nil (.cons (.rptr za 1 1 (λ_=>(.cons (.rptr za 1 1 (λ_=>Y5 za g) 0 0) .nil)) 0 0) .nil)) .nil)) (.bool za (ZaP g an a)):=by
 refine X4 (E:=(Zl P [Zfe] [] ze)) (Zw hm hn (l:=[Zfe]) ⟨c_ixFg_ok,trivial⟩ (ls:=[]) trivial ze) (.bool za za) (Has.of hn Tryz.func180 rfl) (cfFg_tree g an a) ?_ ?_
 ·refine⟨?_,trivial⟩
  all_goals((repeat'(first|exact rfl|exact WG _|exact λ_=>⟨rfl,rfl⟩|apply zy|intro _));all_goals(try simp only[decide_eq_true_eq,decide_eq_false_iff_not]at*);all_goals(first|exact h2 _|omega|(simp at*;omega)))
 ·refine⟨rfl,?_⟩
  all_goals((repeat'(first|exact rfl|exact trivial|apply zy|intro _|(refine cP (p:=λv=>z8 v=Yh _ v) (λhc=>?_) (λhc=>?_))));all_goals(exfalso;simp only[YS,XO,XW,X7,XV,X6,zL,yE]at*;omega))
def c_cfFgA(r0:Zc->Nat->(Nat->DT3)->Bool):Con:=Yd 180 (λx=>(.cons (.rsl za 1 x.hd.Zi λj=>ZK za ((λj=>Zx (x.hd.Zn j)) j)) (.cons (.fn (.func 224) .nil (.cons (.rptr za 1 1 (λ_=>(.cons (.rptr za 1 1 (λ_=>Y5 za (ZG ((x.tl.hd.Ye.hd.Zz 0).hd.Zz 0))) 0 0) .nil)) 0 0) .nil)) .nil))) (λx=>(.bool za (r0 (ZG ((x.tl.hd.Ye.hd.Zz 0).hd.Zz 0)) x.hd.Zi (λj=>Zx (x.hd.Zn j))))) (λx=>(λ(g:Zc)(an:Nat)(a:Nat->DT3)=>an<=1000/\g.n0<=1000/\∀j,(g.r0 j).n1<=1000) (ZG ((x.tl.hd.Ye.hd.Zz 0).hd.Zz 0)) x.hd.Zi (λj=>Zx (x.hd.Zn j)))
abbrev ZeY:Con:=c_cfFgA ZaP
theorem c_cfFg_ok:ZeY.Ok P:=Yf (λx h=>Zod _ _ _ h.1 h.2.1 h.2.2)
end Go.Proofs.YthhbdbeglmkijaaGreatDoor
namespace Go.Fw
def Wk(r r':V×List Blk):Prop:=∀(base:Nat)(m:Nat->Option Nat)(F:Nat->Prop)(w:World)(x:Value),HR base m F (λb=>r.2.getD b .none) r.2.length w->R F w r.1 r.2.length m x->
 ∃m',Ext base m F r.2.length w m' F r'.2.length w/\HR base m' F (λb=>r'.2.getD b .none) r'.2.length w/\R F w r'.1 r'.2.length m' x
theorem Wk.refl(r:V×List Blk):Wk r r:=λbase m F w x hr hx=>⟨m,Ext.refl _ _ _ _ _,hr,hx⟩
theorem Wk.nil(es:Nat)(g:Nat->V):Wk (.Zo,[]) (.osl za 0 es 0 0,[.arr es 0 g]):=by
 intro base m F w x hr hx
 refine⟨λc=>if c=0 then zm else m c,(Ext.refl base m F 0 w).name (B:=zm) (λk hk=>by cases hk),hr.name (n:=0) (B:=zm) (blk:=.arr es 0 g) (λk hk=>by cases hk) (λc=>?_) (.inl ⟨rfl,rfl⟩),?_⟩
 ·cases c with
  |zero=>rfl
  |succ c=>rfl
 ·simp only[R]at hx
  subst hx
  rw[Yp]
  exact⟨Nat.zero_lt_one,zm,0,rfl,zI _,.inl rfl⟩
variable{g:FuncId}
theorem YG.weak{P:Program}{args:V}{bl:List Blk}{T T':Tree (V×List Blk)}(H:YG P g args bl T)(hw:∀Q:V×List Blk->Prop,T'.holds P Q->T.holds P λr=>∃r',Q r'/\Wk r r'):YG P g args bl T':=by
 intro base m F w xs Q KK hr ha hq hk
 refine H base m F w xs _ KK hr ha (hw Q hq) ?_
 rintro v bl' ⟨⟨v',bl''⟩,hQ,hwk⟩ m' F' w' x he hr' hx
 obtain⟨m2,h1,h2,h3⟩:=hwk base m' F' w' x hr' hx
 exact hk v' bl'' hQ m2 F' w' x (he.trans h1) h2 h3
theorem Vl{E:Env}(hE:E.Ok){es by_ n:Nat}{get:Nat->V}(hhas:Has E.P g)
  (hT:ZT E 400 g (.cons (.rsl za es n get) .nil)=.both (.given (n=0) (.leaf .Zo)) (.need (True/\fits n by_/\∀j,j<n->(get j).YN=ze/\(get j).clean=ze) (.need (0+n<=n) (.leaf (.rsl za es n λj=>get (0+j))))))
  (hl:n<=1000)(hb:1000*by_<=140737488355328)(hc:∀j,(get j).YN=ze/\(get j).clean=ze):Zh E.P g (.cons (.rsl za es n get) .nil) (.rsl za es n get):=by
 refine Zgo hE (k:=400) hhas ?_
 rw[hT]
 have hcl:(zl za es n get).clean=ze:=rfl
 refine⟨λh0 F w k m x hx=>?_,⟨trivial,⟨Nat.le_trans (yx _ hl) hb,by omega⟩,λj _=>hc j⟩,by omega,λF w k m x hx=>?_⟩
 ·simp only[R]at hx
  subst hx h0
  rw[Wi]
  exact⟨zm,0,rfl,zI _,.inl rfl⟩
 ·rw[show(λj=>get (0+j))=get from funext λj=>by rw[Nat.zero_add]]at hx
  exact(WS _ hcl k 0 m _).1 x hx
def Zcx{A:Type}(es:Nat)(cells:A->V)(rd:V->A):HK:=λargs bl=>match args,bl with
 | .cons (.rsl _ es' n get) .nil,[]=>bif zq es es' then zi (.need (n<=1000/\∀j,(get j).soft=cells (rd (get j))) (.leaf (.osl za 0 es 0 n,[.arr es n λj=>cells (rd (get j))])))else zm
 |_,_=>zm
theorem Zh1{E:Env}(hE:E.Ok){A:Type}{es by_:Nat}{cells:A->V}{rd:V->A}
  (hT:∀(n:Nat)(r:Nat->A),evH E 400 g (.cons (.rsl za es n λj=>cells (r j)) .nil) []=.both (.given (n=0) (.leaf (.Zo,[]))) (.need (True/\fits n by_/\∀j,j<n->(cells (r j)).YN=ze/\(cells (r j)).clean=ze) (.leaf (.osl za 0 es 0 n,[.arr es n λj=>cells (r j)]))))
  (hb:1000*by_<=140737488355328)(hc:∀a,(cells a).YN=ze/\(cells a).clean=ze):Xo E.P g (Zcx es cells rd):=by
 intro args bl T h
 unfold Zcx at h
 split at h
 case h_2=>cases h
 rename_i st es' n get
 cases he:zq es es'
 ·rw[he]at h;cases h
 rw[he]at h
 obtain rfl:=zO he
 injection h with h
 subst h
 intro base m F w xs Q KK h1 h2 hq hk
 obtain⟨⟨hl,hs⟩,hq⟩:=hq
 have h2':=((YM (.cons (.rsl st es n get) .nil) 0 m).2 xs.toList).2 h2
 rw[show z8 (.cons (.rsl st es n get) .nil)=.cons (.rsl za es n λj=>(get j).soft) .nil from rfl,show(λj=>(get j).soft)=λj=>cells (rd (get j))from funext hs]at h2'
 refine YG.weak (hk_at hE 400 (T:=evH E 400 g (.cons (.rsl za es n λj=>cells (rd (get j))) .nil) []) λQ hQ=>Tree.XI _ (λr hr=>⟨r,hr,rfl,rfl⟩) hQ) (T':=.leaf (.osl za 0 es 0 n,[.arr es n λj=>cells (rd (get j))])) (λQ hQ=>?_) base m F w xs Q KK h1 h2' hq hk
 rw[hT]
 refine⟨λh0=>?_,⟨trivial,⟨Nat.le_trans (yx _ hl) hb,by omega⟩,λj _=>hc _⟩,_,hQ,Wk.refl _⟩
 subst h0
 exact⟨_,hQ,Wk.nil _ _⟩
end Go.Fw
namespace Go.Proofs.YthhbdbeglmkijaaGreatDoor
open Go.Fw
theorem Zop(n:Nat)(r:Nat->VU)(h:n<=1000):Zh P 130 (.cons (.rsl za 2 n λj=>Z9 za (r j)) .nil) (.rsl za 2 n λj=>Z9 za (r j)):=Vl (E:=Zl P [] [] ze) (by_:=16) (Zw hm hn (l:=[]) trivial (ls:=[]) trivial ze) (Has.of hn Tryz.func130 rfl) (by kernel_rfl) h (by decide) (λ_=>⟨rfl,rfl⟩)
def Ze5:Con:=Yd 130 (λx=>.cons (.rsl za 2 x.hd.Zi λj=>Z9 za (Zba (x.hd.Zn j))) .nil) (λx=>.rsl za 2 x.hd.Zi λj=>Z9 za (Zba (x.hd.Zn j))) (λx=>x.hd.Zi<=1000)
theorem ZnQ:Ze5.Ok P:=Yf λx h=>Zop _ _ h
theorem Zom(n:Nat)(r:Nat->ZE)(h:n<=1000):Zh P 131 (.cons (.rsl za 1 n λj=>Z8 za (r j)) .nil) (.rsl za 1 n λj=>Z8 za (r j)):=Vl (E:=Zl P [] [] ze) (by_:=4) (Zw hm hn (l:=[]) trivial (ls:=[]) trivial ze) (Has.of hn Tryz.func131 rfl) (by kernel_rfl) h (by decide) (λ_=>⟨rfl,rfl⟩)
def Ze2:Con:=Yd 131 (λx=>.cons (.rsl za 1 x.hd.Zi λj=>Z8 za (X0 (x.hd.Zn j))) .nil) (λx=>.rsl za 1 x.hd.Zi λj=>Z8 za (X0 (x.hd.Zn j))) (λx=>x.hd.Zi<=1000)
theorem ZnN:Ze2.Ok P:=Yf λx h=>Zom _ _ h
theorem Zon(n:Nat)(r:Nat->Z6)(h:n<=1000):Zh P 132 (.cons (.rsl za 4 n λj=>Zv za (r j)) .nil) (.rsl za 4 n λj=>Zv za (r j)):=Vl (E:=Zl P [] [] ze) (by_:=32) (Zw hm hn (l:=[]) trivial (ls:=[]) trivial ze) (Has.of hn Tryz.func132 rfl) (by kernel_rfl) h (by decide) (λ_=>⟨rfl,rfl⟩)
def Ze3:Con:=Yd 132 (λx=>.cons (.rsl za 4 x.hd.Zi λj=>Zv za (XQ (x.hd.Zn j))) .nil) (λx=>.rsl za 4 x.hd.Zi λj=>Zv za (XQ (x.hd.Zn j))) (λx=>x.hd.Zi<=1000)
theorem ZnO:Ze3.Ok P:=Yf λx h=>Zon _ _ h
theorem Zos(n:Nat)(r:Nat->ZH)(h:n<=1000):Zh P 133 (.cons (.rsl za 4 n λj=>Zt za (r j)) .nil) (.rsl za 4 n λj=>Zt za (r j)):=Vl (E:=Zl P [] [] ze) (by_:=24) (Zw hm hn (l:=[]) trivial (ls:=[]) trivial ze) (Has.of hn Tryz.func133 rfl) (by kernel_rfl) h (by decide) (λ_=>⟨rfl,rfl⟩)
def Ze7:Con:=Yd 133 (λx=>.cons (.rsl za 4 x.hd.Zi λj=>Zt za (YK (x.hd.Zn j))) .nil) (λx=>.rsl za 4 x.hd.Zi λj=>Zt za (YK (x.hd.Zn j))) (λx=>x.hd.Zi<=1000)
theorem ZnS:Ze7.Ok P:=Yf λx h=>Zos _ _ h
abbrev KJ:HK:=Zcx 2 (Zu za) XC
theorem Zh0:Xo P 134 KJ:=Zh1 (E:=Zl P [] [] ze) (Zw hm hn (l:=[]) trivial (ls:=[]) trivial ze) (by_:=32) (λn r=>by kernel_rfl) (by decide) (λ_=>⟨rfl,rfl⟩)
theorem Zoo(n:Nat)(r:Nat->XE)(h:n<=1000):Zh P 135 (.cons (.rsl za 5 n λj=>ZP za (r j)) .nil) (.rsl za 5 n λj=>ZP za (r j)):=Vl (E:=Zl P [] [] ze) (by_:=32) (Zw hm hn (l:=[]) trivial (ls:=[]) trivial ze) (Has.of hn Tryz.func135 rfl) (by kernel_rfl) h (by decide) (λ_=>⟨rfl,rfl⟩)
def Ze4:Con:=Yd 135 (λx=>.cons (.rsl za 5 x.hd.Zi λj=>ZP za (Vx (x.hd.Zn j))) .nil) (λx=>.rsl za 5 x.hd.Zi λj=>ZP za (Vx (x.hd.Zn j))) (λx=>x.hd.Zi<=1000)
theorem ZnP:Ze4.Ok P:=Yf λx h=>Zoo _ _ h
theorem Zoq(n:Nat)(r:Nat->DT3)(h:n<=1000):Zh P 136 (.cons (.rsl za 1 n λj=>ZK za (r j)) .nil) (.rsl za 1 n λj=>ZK za (r j)):=Vl (E:=Zl P [] [] ze) (by_:=8) (Zw hm hn (l:=[]) trivial (ls:=[]) trivial ze) (Has.of hn Tryz.func136 rfl) (by kernel_rfl) h (by decide) (λ_=>⟨rfl,rfl⟩)
def Ws:Con:=Yd 136 (λx=>.cons (.rsl za 1 x.hd.Zi λj=>ZK za (Zx (x.hd.Zn j))) .nil) (λx=>.rsl za 1 x.hd.Zi λj=>ZK za (Zx (x.hd.Zn j))) (λx=>x.hd.Zi<=1000)
theorem V7:Ws.Ok P:=Yf λx h=>Zoq _ _ h
theorem Zok(n:Nat)(r:Nat->Y0)(h:n<=1000):Zh P 137 (.cons (.rsl za 3 n λj=>ZF za (r j)) .nil) (.rsl za 3 n λj=>ZF za (r j)):=Vl (E:=Zl P [] [] ze) (by_:=24) (Zw hm hn (l:=[]) trivial (ls:=[]) trivial ze) (Has.of hn Tryz.func137 rfl) (by kernel_rfl) h (by decide) (λ_=>⟨rfl,rfl⟩)
def Ze0:Con:=Yd 137 (λx=>.cons (.rsl za 3 x.hd.Zi λj=>ZF za (XH (x.hd.Zn j))) .nil) (λx=>.rsl za 3 x.hd.Zi λj=>ZF za (XH (x.hd.Zn j))) (λx=>x.hd.Zi<=1000)
theorem ZnL:Ze0.Ok P:=Yf λx h=>Zok _ _ h
theorem Zor(n:Nat)(r:Nat->J9)(h:n<=1000):Zh P 138 (.cons (.rsl za 2 n λj=>ZC za (r j)) .nil) (.rsl za 2 n λj=>ZC za (r j)):=Vl (E:=Zl P [] [] ze) (by_:=16) (Zw hm hn (l:=[]) trivial (ls:=[]) trivial ze) (Has.of hn Tryz.func138 rfl) (by kernel_rfl) h (by decide) (λ_=>⟨rfl,rfl⟩)
def Ze6:Con:=Yd 138 (λx=>.cons (.rsl za 2 x.hd.Zi λj=>ZC za (GA (x.hd.Zn j))) .nil) (λx=>.rsl za 2 x.hd.Zi λj=>ZC za (GA (x.hd.Zn j))) (λx=>x.hd.Zi<=1000)
theorem ZnR:Ze6.Ok P:=Yf λx h=>Zor _ _ h
abbrev Zfk:HK:=Zcx 11 (Zy za) Xx
theorem clOwn_ok:Xo P 139 Zfk:=Zh1 (E:=Zl P [] [] ze) (Zw hm hn (l:=[]) trivial (ls:=[]) trivial ze) (by_:=88) (λn r=>by kernel_rfl) (by decide) (λ_=>⟨rfl,rfl⟩)
theorem Zol(n:Nat)(r:Nat->Q9)(h:n<=1000):Zh P 140 (.cons (.rsl za 2 n λj=>Z0 za (r j)) .nil) (.rsl za 2 n λj=>Z0 za (r j)):=Vl (E:=Zl P [] [] ze) (by_:=16) (Zw hm hn (l:=[]) trivial (ls:=[]) trivial ze) (Has.of hn Tryz.func140 rfl) (by kernel_rfl) h (by decide) (λ_=>⟨rfl,rfl⟩)
def Ze1:Con:=Yd 140 (λx=>.cons (.rsl za 2 x.hd.Zi λj=>Z0 za (Vw (x.hd.Zn j))) .nil) (λx=>.rsl za 2 x.hd.Zi λj=>Z0 za (Vw (x.hd.Zn j))) (λx=>x.hd.Zi<=1000)
theorem ZnM:Ze1.Ok P:=Yf λx h=>Zol _ _ h
abbrev Zfl:HK:=Zcx 2 (ZB za) Wo
theorem clPut_ok:Xo P 141 Zfl:=Zh1 (E:=Zl P [] [] ze) (Zw hm hn (l:=[]) trivial (ls:=[]) trivial ze) (by_:=16) (λn r=>by kernel_rfl) (by decide) (λ_=>⟨rfl,rfl⟩)
structure Zb where mk::
 (n0:Nat) (r0:Nat->DT3)
def Qk(st:Bool)(d:Zb):V:=(.cons (.rsl st 1 d.n0 λj=>ZK st (d.r0 j)) .nil)
def Ui(v:V):Zb:=⟨v.hd.Zi,λj=>Zx (v.hd.Zn j)⟩
def patDT119:V:=(.cons (.rsl ze 1 0 λ_=>patDT3) .nil)
abbrev S4:Type:=(Int->Bool)×(Int->Bool)×(Int->Bool)×(Int->Int)
def QF(z:S4)(c:Int):S4:=(λj=>bif j==c then ze else z.1 j,λj=>bif j==c then ze else z.2.1 j,λj=>z.2.2.1 j,λj=>z.2.2.2 j)
def Ku(z:S4)(c:Int):Int:=bif z.2.2.1 c then z.2.2.2 c else 0
abbrev askB(z:S4):Blk:=.Zk (.int .i64) za (λx=>(z.1 (Zd x),.bool za (z.2.1 (Zd x)))) zm
abbrev hasB(z:S4):Blk:=.Zk (.int .i64) za (λx=>(z.2.2.1 (Zd x),.int za .i64 (z.2.2.2 (Zd x)))) zm
abbrev rowsB(m:Nat)(r:Nat->Zb):Blk:=.var (.cons (.rsl za 1 m λj=>Qk za (r j)) .nil)
abbrev capB:Blk:=.var (.cons (.fn (.func 167) .nil (.cons (.ptr ze 1 0 0 0) (.cons (.ptr ze 2 0 0 0) (.cons (.ptr ze 3 0 0 0) .nil)))) .nil)
abbrev Zbb(m:Nat)(r:Nat->Zb)(z:S4):List Blk:=[askB z,rowsB m r,.var (.cons (.mp 4) .nil),capB,hasB z]
abbrev Zle(i:Int):V:=.cons (.int za .i64 i) (.cons (.mp 0) (.cons (.ptr ze 1 0 0 0) (.cons (.ptr ze 2 0 0 0) (.cons (.ptr ze 3 0 0 0) .nil))))
def JV(m:Nat)(r:Nat->Zb)(G:Int->S4->Bool×S4)(Pr:Int->S4->Prop):HK:=λargs bl=>match args,bl with
 | .cons (.int za .i64 i) (.cons (.mp 0) (.cons (.ptr ze 1 0 0 0) (.cons (.ptr ze 2 0 0 0) (.cons (.ptr ze 3 0 0 0) .nil)))),[.Zk (.int .i64) _ fa _,.var (.cons (.rsl za 1 m' fr) .nil),.var (.cons (.mp 4) .nil),.var (.cons (.fn (.func 167) .nil (.cons (.ptr ze 1 0 0 0) (.cons (.ptr ze 2 0 0 0) (.cons (.ptr ze 3 0 0 0) .nil)))) .nil),.Zk (.int .i64) _ fh _]=>
  zi (.need (m=m'/\(λj=>Qk za (r j))=fr/\YD .i64 (λx=>((fa (.int .i64 (Zd x))).1,.bool za (fa (.int .i64 (Zd x))).2.toBool)) fa/\YD .i64 (λx=>((fh (.int .i64 (Zd x))).1,.int za .i64 (fh (.int .i64 (Zd x))).2.toInt)) fh/\Pr i (λj=>(fa (.int .i64 j)).1,λj=>(fa (.int .i64 j)).2.toBool,λj=>(fh (.int .i64 j)).1,λj=>(fh (.int .i64 j)).2.toInt))
   (.leaf (.bool za (G i (λj=>(fa (.int .i64 j)).1,λj=>(fa (.int .i64 j)).2.toBool,λj=>(fh (.int .i64 j)).1,λj=>(fh (.int .i64 j)).2.toInt)).1,Zbb m r (G i (λj=>(fa (.int .i64 j)).1,λj=>(fa (.int .i64 j)).2.toBool,λj=>(fh (.int .i64 j)).1,λj=>(fh (.int .i64 j)).2.toInt)).2)))
 |_,_=>zm
def chV(d:Za)(gn:Nat)(gr:Nat->DT3)(sa:Int)(p:Zj)(gu:Zf)(ga:Zc):V:=(.cons (.int za .i64 d.f0) (.cons (.rsl za 2 d.n1 λj=>Z9 za (d.r1 j)) (.cons (.rsl za 1 p.n0 λj=>Z8 za (p.r0 j)) (.cons (.rsl za 4 gu.n0 λj=>Zv za (gu.r0 j)) (.cons (.rsl za 4 gu.n1 λj=>Zt za (gu.r1 j)) (.cons (.rsl za 2 ga.n0 λj=>Zu za (ga.r0 j)) (.cons (.rsl za 11 d.n6 λj=>Zy za (d.r6 j)) (.cons (.rsl za 2 d.n7 λj=>Z0 za (d.r7 j)) (.cons (.rsl za 5 d.n8 λj=>ZP za (d.r8 j)) (.cons (.int za .i64 d.f9) (.cons (.rsl za 2 d.n10 λj=>ZC za (d.r10 j)) (.cons (.rsl za 3 d.n11 λj=>ZF za (d.r11 j)) (.cons (.rsl za 2 d.n12 λj=>ZB za (d.r12 j)) (.cons (.int za .u64 d.f13) (.cons (.rsl za 1 gn λj=>ZK za (gr j)) (.cons (.int za .i64 sa) .nil))))))))))))))))
abbrev zcPt(d:Za)(gn:Nat)(gr:Nat->DT3)(sa:Int)(p:Zj)(gu:Zf)(ga:Zc):V:=.rptr za 16 1 (λ_=>chV d gn gr sa p gu ga) 0 0
abbrev zcF1(k:FuncId)(d:Za)(gn:Nat)(gr:Nat->DT3)(sa:Int)(p:Zj)(gu:Zf)(ga:Zc):V:=.fn (.func k) .nil (.cons (.rptr za 1 1 (λ_=>.cons (zcPt d gn gr sa p gu ga) .nil) 0 0) .nil)
abbrev zcF2(k:FuncId)(d:Za)(gn:Nat)(gr:Nat->DT3)(sa:Int)(p:Zj)(gu:Zf)(ga:Zc)(mn:Nat)(mr:Nat->DT3):V:=.fn (.func k) .nil (.cons (.rptr za 1 1 (λ_=>.cons (zcPt d gn gr sa p gu ga) .nil) 0 0) (.cons (.rptr za 13 1 (λ_=>(.cons (.int ze .i64 5) (.cons (.int ze .i64 0) (.cons (.int ze .i64 0) (.cons (.int ze .i64 0) (.cons (.int ze .i64 0) (.cons (.int ze .i64 0) (.cons (.int ze .i64 0) (.cons (.int ze .i64 0) (.cons (.int ze .i64 0) (.cons (.int ze .u32 0) (.cons (.int ze .u32 0) (.cons (.int ze .u32 0) (.cons (.rsl za 1 mn λj=>ZK za (mr j)) .nil)))))))))))))) 0 0) .nil))
abbrev zcRd(e:V):V:=chV (Yb e) (e.tl.tl.tl.tl.tl.tl.tl.tl.tl.tl.tl.tl.tl.tl.hd.Zi) (λj=>Zx (e.tl.tl.tl.tl.tl.tl.tl.tl.tl.tl.tl.tl.tl.tl.hd.Zn j)) (e.tl.tl.tl.tl.tl.tl.tl.tl.tl.tl.tl.tl.tl.tl.tl.hd.toInt) (Ym (.cons e.tl.tl.hd .nil)) (ZQ (.cons e.tl.tl.tl.hd (.cons e.tl.tl.tl.tl.hd .nil))) (ZG (.cons e.tl.tl.tl.tl.tl.hd .nil))
abbrev zcPr(e:V):V:=.rptr za 16 1 (λ_=>zcRd e) 0 0
abbrev zcR1(k:FuncId)(e:V):V:=.fn (.func k) .nil (.cons (.rptr za 1 1 (λ_=>.cons (zcPr e) .nil) 0 0) .nil)
abbrev zcR2(k:FuncId)(e:V)(mn:Nat)(mr:Nat->DT3):V:=.fn (.func k) .nil (.cons (.rptr za 1 1 (λ_=>.cons (zcPr e) .nil) 0 0) (.cons (.rptr za 13 1 (λ_=>(.cons (.int ze .i64 5) (.cons (.int ze .i64 0) (.cons (.int ze .i64 0) (.cons (.int ze .i64 0) (.cons (.int ze .i64 0) (.cons (.int ze .i64 0) (.cons (.int ze .i64 0) (.cons (.int ze .i64 0) (.cons (.int ze .i64 0) (.cons (.int ze .u32 0) (.cons (.int ze .u32 0) (.cons (.int ze .u32 0) (.cons (.rsl za 1 mn λj=>ZK za (mr j)) .nil)))))))))))))) 0 0) .nil))
abbrev Zb1(n:Nat)(r:Nat->Z6)(y:ZH)(i:Int)(z:Unit):V:=(.cons (.rsl za 4 n (λjj=>zf (zn za zA (Z6.f0 (r jj))) (zf (zn za zA (Z6.f1 (r jj))) (zf (zn za zA (Z6.f2 (r jj))) (zf (zn za zA (Z6.f3 (r jj))) zh))))) (.cons (.fn (Fn.func (221:FuncId)) .nil (.cons (.rptr za (4:Nat) (1:Nat) (λjj=>.cons (.int za zA (ZH.f0 y)) (.cons (.int za zA (ZH.f1 y)) (.cons (.int za yD (ZH.f2 y)) (.cons (.int za yD (ZH.f3 y)) .nil)))) (0:Nat) (0:Nat)) .nil)) (.cons (.int ze .i64 0) (.cons (.int za .i64 ((n:Nat):Int)) (.cons (.int za .i64 i) .nil)))))
abbrev Zb2(n:Nat)(r:Nat->Z6)(y:ZH)(i:Int)(z:Unit):List Blk:=[]
def LixDom_R(n:Nat)(r:Nat->Z6)(y:ZH)(i:Int)(z:Unit):Tree Rd:=
 let q0:=(V.fn (Fn.func (221:FuncId)) zh (zf (V.rptr za (4:Nat) (1:Nat) (λjj=>Zt za y) (0:Nat) (0:Nat)) zh))
 let q1:=(zl za 4 n λjj=>Zv za (r jj))
 zu ((0:Int)<=i/\i<(n:Int)) (zB (bif bif (r (zk i)).f0==y.f1 then ze else za then ze else za) (zw (Ex.ret,ze,zf q1 (zf q0 (ci i (ci (n:Int) (ci i zh)))),[])) (zw (Ex.normal,ze,zf q1 (zf q0 (zf (zn ze .i64 (0:Int)) (ci (n:Int) (ci (zD .i64 (i+(1:Int))) zh)))),[])))
theorem Zm1(n:Nat)(r:Nat->Z6)(y:ZH):Yi P (Zl P [] [] ze) 206 2 0 0 19 [0,1,4,7,8] [] [] (Zb1 n r y) (Zb2 n r y) (λi=>(bif decide (i<(n:Int))then za else ze)) (.exit 0) (LixDom_R n r y):=λB i z=>by kernel_rfl
def JB(n:Nat)(r:Nat->Z6)(y:ZH)(k:Nat):Bool:=(λ(i:Int)(z:Unit)=>(bif bif bif (r (zk i)).f0==y.f1 then ze else za then ze else za then ze else za)) k ()
abbrev ZmY(n:Nat)(r:Nat->Z6)(y:ZH)(i:Int)(z:Unit):V:=(.cons (zl za 4 n λjj=>Zv za (r jj)) (.cons (V.fn (Fn.func (221:FuncId)) zh (zf (V.rptr za (4:Nat) (1:Nat) (λjj=>Zt za y) (0:Nat) (0:Nat)) zh)) (.cons (zn za .i64 i) (.cons (zn za .i64 (n:Int)) (.cons .junk .nil)))))
def Zed(n:Nat)(r:Nat->Z6)(y:ZH):Lp:=lpL 206 2 0 0 19 [0,1,4,7,8] [] [] (Zb1 n r y) (Zb2 n r y) (.exit 0) .ret () (λ_=>()) (JB n r y) (n) (ZmY n r y) (Zb2 n r y)
def ZjA(n:Nat)(r:Nat->Z6)(y:ZH):Prop:=YC 0 [] (Zb1 n r y) (Zb2 n r y) () (Zb1 n r y (0:Nat) ()) (Zb2 n r y (0:Nat) ())
theorem ZmZ(n:Nat)(r:Nat->Z6)(y:ZH):ZjA n r y:=⟨rfl,trivial⟩
theorem Zm0(n:Nat)(r:Nat->Z6)(y:ZH)(hl:n<=1000):(Zed n r y).Ok P:=by
 refine YR (Zw hm hn (l:=[]) trivial (ls:=[]) trivial ze) rfl (by kernel_rfl) (Zm1 n r y) exN Yv (λ_=>rfl) (step:=λ_ z=>z) (rd:=(λ_ t y=>())) (λi z=>rfl) (λi=>(cC rfl rfl)) rfl (λi hlt hg=>?_) (λi z hi=>?_)
 ·have hltI:(i:Int)<((n:Nat):Int):=by omega
  refine⟨?_,⟨λhb0=>trivial,λhb0=>trivial⟩⟩
  all_goals(repeat'(first|exact rfl|exact λ_=>⟨rfl,rfl⟩|apply zy|intro _))
  all_goals(try simp only[decide_eq_true_eq,decide_eq_false_iff_not,yg,yw]at*)
  all_goals(try simp(disch:=omega) only[IntWalk.i64_in])
  all_goals(first|omega)
 ·have hw:=(IntWalk.i64_in ((i:Int)+1) ⟨by omega,by omega⟩)
  refine⟨?_,?_⟩
  all_goals(first|exact⟨rfl,Yq (ts:=Zb1 n r y) (a:=()) hw rfl,Z5 _⟩|exact⟨rfl,rfl,(by repeat'(first|exact Le.refl _|exact Le.junk _ rfl|apply Le.cons)),Z5 _⟩)
def ZiE(y:ZH)(an:Nat)(a:Nat->Z6):Tree V:=
 zu (ZjA an a y) (zB (bif Zp (JB an a y) an then ze else za) (zw (vi ((ZN (JB an a y) an (0:Nat):Nat):Int))) (zw (zn ze .i64 (-1:Int))))
theorem Zqb(y:ZH)(an:Nat)(a:Nat->Z6):ZT (Zl P [] [Zed an a y] ze) 400 206 (.cons (.rsl za 4 an λj=>Zv za (a j)) (.cons (.fn (.func 221) .nil (.cons (.rptr za 4 1 (λ_=>Zt za y) 0 0) .nil)) .nil))=ZiE y an a:=by kernel_rfl
def VA(y:ZH)(an:Nat)(a:Nat->Z6):Int:=(ZiE y an a).valOf.toInt
theorem Zqa(y:ZH)(an:Nat)(a:Nat->Z6)(h0:an<=1000):Zh P 206 (.cons (.rsl za 4 an λj=>Zv za (a j)) (.cons (.fn (.func 221) .nil (.cons (.rptr za 4 1 (λ_=>Zt za y) 0 0) .nil)) .nil)) (.int za .i64 (VA y an a)):=by
 refine X4 (E:=(Zl P [] [Zed an a y] ze)) (Zw hm hn (l:=[]) trivial (ls:=[Zed an a y]) ⟨Zm0 an a y h0,trivial⟩ ze) (.int za .i64 0) (Has.of hn Tryz.func206 rfl) (Zqb y an a) ?_ ?_
 ·refine⟨?_,⟨λhb0=>trivial,λhb0=>trivial⟩⟩
  all_goals(first|exact ZmZ an a y|((repeat'(first|exact rfl|exact λ_=>⟨rfl,rfl⟩|apply zy|intro _));all_goals(try simp only[decide_eq_true_eq,decide_eq_false_iff_not]at*);all_goals(first|omega|(simp at*;omega))))
 ·refine⟨⟨rfl,?_⟩,⟨rfl,?_⟩⟩
  all_goals((repeat'(first|exact rfl|exact trivial|apply zy|intro _|(refine cP (p:=λv=>z8 v=Yh _ v) (λhc=>?_) (λhc=>?_))));all_goals(exfalso;simp only[YS,XO,XW,X7,XV,X6,zL,yE]at*;omega))
def c_ixDomA(r0:ZH->Nat->(Nat->Z6)->Int):Con:=Yd 206 (λx=>(.cons (.rsl za 4 x.hd.Zi λj=>Zv za ((λj=>XQ (x.hd.Zn j)) j)) (.cons (.fn (.func 221) .nil (.cons (.rptr za 4 1 (λ_=>Zt za (YK (x.tl.hd.Ye.hd.Zz 0))) 0 0) .nil)) .nil))) (λx=>(.int za .i64 (r0 (YK (x.tl.hd.Ye.hd.Zz 0)) x.hd.Zi (λj=>XQ (x.hd.Zn j))))) (λx=>(λ(y:ZH)(an:Nat)(a:Nat->Z6)=>an<=1000) (YK (x.tl.hd.Ye.hd.Zz 0)) x.hd.Zi (λj=>XQ (x.hd.Zn j)))
abbrev U2:Con:=c_ixDomA VA
theorem Zj5:U2.Ok P:=Yf (λx h=>Zqa _ _ _ h)
abbrev rd_ts(an:Nat)(a:Nat->Z6)(i:Int)(z:Unit):V:=(.cons (.rsl za 4 an (λjj=>zf (zn za zA (Z6.f0 (a jj))) (zf (zn za zA (Z6.f1 (a jj))) (zf (zn za zA (Z6.f2 (a jj))) (zf (zn za zA (Z6.f3 (a jj))) zh))))) (.cons (.fn (Fn.func (91:FuncId)) .nil .nil) (.cons (.bool ze za) (.cons (.int za .i64 (i+1)) .nil))))
abbrev rd_ys(an:Nat)(a:Nat->Z6)(i:Int)(z:Unit):List Blk:=[]
def rd_R(an:Nat)(a:Nat->Z6)(i:Int)(z:Unit):Tree Rd:=
 let q0:=(zl za 4 an λjj=>Zv za (a jj))
 let q1:=(i+(1:Int)-(1:Int))
 zu (((0:Int)<=zD .i64 q1/\zD .i64 q1<(an:Int))/\(0:Int)<=i+(1:Int)/\i+(1:Int)<(an:Int)) (zB (bif bif decide ((a (zk (zD .i64 q1))).f0>=(a (zk (i+(1:Int)))).f0)then ze else za then ze else za) (zw (Ex.ret,ze,zf q0 (zf (V.fn (Fn.func (91:FuncId)) zh zh) (zf (zC ze za) (ci (i+(1:Int)) zh))),[])) (zw (Ex.normal,ze,zf q0 (zf (V.fn (Fn.func (91:FuncId)) zh zh) (zf (zC ze za) (ci (zD .i64 (i+(1:Int)+(1:Int))) zh))),[])))
theorem rd_round(an:Nat)(a:Nat->Z6):Yi P (Zl P [] [] ze) 90 2 0 0 26 [0,1,4,5] [] [] (rd_ts an a) (rd_ys an a) (λi=>(bif decide (i+(1:Int)<(an:Int))then za else ze)) (.exit 0) (rd_R an a):=λB i z=>by kernel_rfl
def ZgM(an:Nat)(a:Nat->Z6)(k:Nat):Bool:=(rd_R an a k ()).early
abbrev rd_ets(an:Nat)(a:Nat->Z6)(i:Int)(z:Unit):V:=(.cons (zl za 4 an λjj=>Zv za (a jj)) (.cons (V.fn (Fn.func (91:FuncId)) zh zh) (.cons (zC ze za) (.cons .junk .nil))))
def rd_lp(an:Nat)(a:Nat->Z6):Lp:=lpL 90 2 0 0 26 [0,1,4,5] [] [] (rd_ts an a) (rd_ys an a) (.exit 0) .ret () (λ_=>()) (ZgM an a) (an-1) (rd_ets an a) (rd_ys an a)
def rd_need(an:Nat)(a:Nat->Z6):Prop:=YC 0 [] (rd_ts an a) (rd_ys an a) () (rd_ts an a (0:Nat) ()) (rd_ys an a (0:Nat) ())
theorem rd_fit(an:Nat)(a:Nat->Z6):rd_need an a:=⟨rfl,trivial⟩
theorem rd_lp_ok(an:Nat)(a:Nat->Z6)(hl:an<=1000):(rd_lp an a).Ok P:=by
 refine YR (Zw hm hn (l:=[]) trivial (ls:=[]) trivial ze) rfl (by kernel_rfl) (rd_round an a) exN (hcBy (q:=λi:Int=>(i:Int)+1<((an:Nat):Int)) λi hi=>⟨λh=>(by have h2:(i:Int)+1<((an:Nat):Int):=h;omega),λ_=>(by show(i:Int)+1<((an:Nat):Int);omega)⟩) (λ_=>rfl) (step:=λ_ z=>z) (rd:=(λ_ t y=>())) (λi z=>rfl) (λi=>rfl) rfl (λi hlt hg=>?_) (λi z hi=>?_)
 ·have hltI:(i:Int)+1<((an:Nat):Int):=by omega
  refine⟨?_,⟨λhb0=>trivial,λhb0=>trivial⟩⟩
  all_goals(repeat'(first|exact rfl|exact λ_=>⟨rfl,rfl⟩|apply zy|intro _))
  all_goals(try simp only[decide_eq_true_eq,decide_eq_false_iff_not,yg,yw]at*)
  all_goals(try simp(disch:=omega) only[IntWalk.i64_in])
  all_goals(first|omega)
 ·have hw:=(IntWalk.i64_in (((i:Int)+1)+1) ⟨by omega,by omega⟩)
  refine⟨?_,?_⟩
  all_goals(first|(rw[hw];exact⟨rfl,Le.soft rfl,Z5 _⟩)|exact⟨rfl,rfl,(by repeat'(first|exact Le.refl _|exact Le.junk _ rfl|apply Le.cons)),Z5 _⟩)
def dRisD_T(an:Nat)(a:Nat->Z6):Tree V:=
 zu (rd_need an a) (zB (bif Zp (ZgM an a) (an-(1:Nat))then ze else za) (zw (zC ze za)) (zw (zC ze ze)))
theorem ZoS(an:Nat)(a:Nat->Z6):ZT (Zl P [] [rd_lp an a] ze) 400 90 (.cons (.rsl za 4 an λj=>Zv za (a j)) (.cons (.fn (.func 91) .nil .nil) .nil))=dRisD_T an a:=by kernel_rfl
def ZaS(an:Nat)(a:Nat->Z6):Bool:=
  (bif bif Zp (ZgM an a) (an-(1:Nat))then ze else za then za else ze)
theorem ZoR(an:Nat)(a:Nat->Z6)(h0:an<=1000):Zh P 90 (.cons (.rsl za 4 an λj=>Zv za (a j)) (.cons (.fn (.func 91) .nil .nil) .nil)) (.bool za (ZaS an a)):=
 Xn (Zw hm hn (l:=[]) trivial (ls:=[rd_lp an a]) ⟨rd_lp_ok an a h0,trivial⟩ ze) 400 (Has.of hn Tryz.func90 rfl) (ZoS an a) (Tree.Pre.mk (by refine⟨?_,⟨λ_=>trivial,λ_=>trivial⟩⟩;all_goals(first|exact rd_fit an a|(repeat'(first|exact rfl|apply zy))))) (by kernel_rfl) (by kernel_rfl)
def UZ:Con:=Yd 90 (λx=>(.cons (.rsl za 4 x.hd.Zi λj=>Zv za ((λj=>XQ (x.hd.Zn j)) j)) (.cons (.fn (.func 91) .nil .nil) .nil))) (λx=>(.bool za (ZaS x.hd.Zi (λj=>XQ (x.hd.Zn j))))) (λx=>x.hd.Zi<=1000)
theorem ZhM:UZ.Ok P:=Yf (λx h=>ZoR _ _ h)
abbrev rv_ts(an:Nat)(a:Nat->ZH)(i:Int)(z:Unit):V:=(.cons (.rsl za 4 an (λjj=>zf (zn za zA (ZH.f0 (a jj))) (zf (zn za zA (ZH.f1 (a jj))) (zf (zn za yD (ZH.f2 (a jj))) (zf (zn za yD (ZH.f3 (a jj))) zh))))) (.cons (.fn (Fn.func (93:FuncId)) .nil .nil) (.cons (.bool ze za) (.cons (.int za .i64 (i+1)) .nil))))
abbrev rv_ys(an:Nat)(a:Nat->ZH)(i:Int)(z:Unit):List Blk:=[]
def rv_R(an:Nat)(a:Nat->ZH)(i:Int)(z:Unit):Tree Rd:=
 let q0:=(zl za 4 an λjj=>Zt za (a jj))
 let q1:=(i+(1:Int)-(1:Int))
 zu (((0:Int)<=zD .i64 q1/\zD .i64 q1<(an:Int))/\(0:Int)<=i+(1:Int)/\i+(1:Int)<(an:Int)) (zB (bif bif decide ((a (zk (zD .i64 q1))).f0>=(a (zk (i+(1:Int)))).f0)then ze else za then ze else za) (zw (Ex.ret,ze,zf q0 (zf (V.fn (Fn.func (93:FuncId)) zh zh) (zf (zC ze za) (ci (i+(1:Int)) zh))),[])) (zw (Ex.normal,ze,zf q0 (zf (V.fn (Fn.func (93:FuncId)) zh zh) (zf (zC ze za) (ci (zD .i64 (i+(1:Int)+(1:Int))) zh))),[])))
theorem rv_round(an:Nat)(a:Nat->ZH):Yi P (Zl P [] [] ze) 92 2 0 0 26 [0,1,4,5] [] [] (rv_ts an a) (rv_ys an a) (λi=>(bif decide (i+(1:Int)<(an:Int))then za else ze)) (.exit 0) (rv_R an a):=λB i z=>by kernel_rfl
def ZgR(an:Nat)(a:Nat->ZH)(k:Nat):Bool:=(λ(i:Int)(z:Unit)=>(bif bif bif decide ((a (zk (zD .i64 (i+(1:Int)-(1:Int))))).f0>=(a (zk (i+(1:Int)))).f0)then ze else za then ze else za then ze else za)) k ()
abbrev rv_ets(an:Nat)(a:Nat->ZH)(i:Int)(z:Unit):V:=(.cons (zl za 4 an λjj=>Zt za (a jj)) (.cons (V.fn (Fn.func (93:FuncId)) zh zh) (.cons (zC ze za) (.cons .junk .nil))))
def rv_lp(an:Nat)(a:Nat->ZH):Lp:=lpL 92 2 0 0 26 [0,1,4,5] [] [] (rv_ts an a) (rv_ys an a) (.exit 0) .ret () (λ_=>()) (ZgR an a) (an-1) (rv_ets an a) (rv_ys an a)
def rv_need(an:Nat)(a:Nat->ZH):Prop:=YC 0 [] (rv_ts an a) (rv_ys an a) () (rv_ts an a (0:Nat) ()) (rv_ys an a (0:Nat) ())
theorem rv_fit(an:Nat)(a:Nat->ZH):rv_need an a:=⟨rfl,trivial⟩
theorem rv_lp_ok(an:Nat)(a:Nat->ZH)(hl:an<=1000):(rv_lp an a).Ok P:=by
 refine YR (Zw hm hn (l:=[]) trivial (ls:=[]) trivial ze) rfl (by kernel_rfl) (rv_round an a) exN (hcBy (q:=λi:Int=>(i:Int)+1<((an:Nat):Int)) λi hi=>⟨λh=>(by have h2:(i:Int)+1<((an:Nat):Int):=h;omega),λ_=>(by show(i:Int)+1<((an:Nat):Int);omega)⟩) (λ_=>rfl) (step:=λ_ z=>z) (rd:=(λ_ t y=>())) (λi z=>rfl) (λi=>(cC rfl rfl)) rfl (λi hlt hg=>?_) (λi z hi=>?_)
 ·have hltI:(i:Int)+1<((an:Nat):Int):=by omega
  refine⟨?_,⟨λhb0=>trivial,λhb0=>trivial⟩⟩
  all_goals(repeat'(first|exact rfl|exact λ_=>⟨rfl,rfl⟩|apply zy|intro _))
  all_goals(try simp only[decide_eq_true_eq,decide_eq_false_iff_not,yg,yw]at*)
  all_goals(try simp(disch:=omega) only[IntWalk.i64_in])
  all_goals(first|omega)
 ·have hw:=(IntWalk.i64_in (((i:Int)+1)+1) ⟨by omega,by omega⟩)
  refine⟨?_,?_⟩
  all_goals(first|(rw[hw];exact⟨rfl,Le.soft rfl,Z5 _⟩)|exact⟨rfl,rfl,(by repeat'(first|exact Le.refl _|exact Le.junk _ rfl|apply Le.cons)),Z5 _⟩)
def dRisV_T(an:Nat)(a:Nat->ZH):Tree V:=
 zu (rv_need an a) (zB (bif Zp (ZgR an a) (an-(1:Nat))then ze else za) (zw (zC ze za)) (zw (zC ze ze)))
theorem ZoU(an:Nat)(a:Nat->ZH):ZT (Zl P [] [rv_lp an a] ze) 400 92 (.cons (.rsl za 4 an λj=>Zt za (a j)) (.cons (.fn (.func 93) .nil .nil) .nil))=dRisV_T an a:=by kernel_rfl
def Zcz(an:Nat)(a:Nat->ZH):Bool:=
  (bif bif Zp (ZgR an a) (an-(1:Nat))then ze else za then za else ze)
theorem ZoT(an:Nat)(a:Nat->ZH)(h0:an<=1000):Zh P 92 (.cons (.rsl za 4 an λj=>Zt za (a j)) (.cons (.fn (.func 93) .nil .nil) .nil)) (.bool za (Zcz an a)):=
 Xn (Zw hm hn (l:=[]) trivial (ls:=[rv_lp an a]) ⟨rv_lp_ok an a h0,trivial⟩ ze) 400 (Has.of hn Tryz.func92 rfl) (ZoU an a) (Tree.Pre.mk (by refine⟨?_,⟨λ_=>trivial,λ_=>trivial⟩⟩;all_goals(first|exact rv_fit an a|(repeat'(first|exact rfl|apply zy))))) (by kernel_rfl) (by kernel_rfl)
def U0:Con:=Yd 92 (λx=>(.cons (.rsl za 4 x.hd.Zi λj=>Zt za ((λj=>YK (x.hd.Zn j)) j)) (.cons (.fn (.func 93) .nil .nil) .nil))) (λx=>(.bool za (Zcz x.hd.Zi (λj=>YK (x.hd.Zn j))))) (λx=>x.hd.Zi<=1000)
theorem ZhN:U0.Ok P:=Yf (λx h=>ZoT _ _ h)
abbrev ZcF(d:Zf)(b:Int)(i:Int)(z:Int):V:=(.cons (.int za .i64 b) (.cons (.int za .i64 (z)) (.cons (.rsl za 4 d.n1 (λj=>Zt za (d.r1 j))) (.cons (.int za .i64 ((d.n1:Nat):Int)) (.cons (.int za .i64 i) .nil)))))
abbrev Zfs(d:Zf)(b:Int)(i:Int)(z:Int):List Blk:=[]
def dcn_R(d:Zf)(b:Int)(i:Int)(z:Int):Tree Rd:=
 zu ((0:Int)<=i/\i<((d.n1:Nat):Int)) (zw (Ex.normal,ze,ci b (ci (bif (d.r1 (zk i)).f1==b then zD .i64 (z+(1:Int))else z) (zf (zl za 4 d.n1 λjj=>Zt za (d.r1 jj)) (ci ((d.n1:Nat):Int) (ci (zD .i64 (i+(1:Int))) zh)))),[]))
theorem dcn_round(d:Zf)(b:Int):Yi P (Zl P [] [] ze) 95 3 1 1 23 [1,5,9,10,11] [] [] (ZcF d b) (Zfs d b) (λi=>(bif decide (i<((d.n1:Nat):Int))then za else ze)) (.exit 0) (dcn_R d b):=λB i z=>by kernel_rfl
def dcn_step(d:Zf)(b:Int)(k:Nat)(z:Int):Int:=(dcn_R d b k z).carry ((λt y=>(t.nth 1).toInt)) z
def Zh5(d:Zf)(b:Int)(k:Nat):Int:=ZJ 0 (dcn_step d b) k
def dcn_lp(d:Zf)(b:Int):Lp:=Js 95 3 1 1 23 [1,5,9,10,11] [] [] (ZcF d b) (Zfs d b) (.exit 0) 0 (Zh5 d b) (d.n1)
def Zkw(d:Zf)(b:Int):Prop:=YC 1 [] (ZcF d b) (Zfs d b) 0 (ZcF d b (0:Nat) 0) (Zfs d b (0:Nat) 0)
theorem dcn_fit(d:Zf)(b:Int):Zkw d b:=⟨rfl,trivial⟩
theorem dcn_lp_ok(d:Zf)(b:Int)(hl:d.n1<=1000):(dcn_lp d b).Ok P:=by
 refine JZ (Zw hm hn (l:=[]) trivial (ls:=[]) trivial ze) rfl (by kernel_rfl) (dcn_round d b) exN Yv (λ_=>rfl) (rd:=(λ_ t y=>(t.nth 1).toInt)) (λi z=>rfl) (λi=>rfl) rfl (λi hlt hg=>?_) (λi z hi=>?_)
 ·have hltI:(i:Int)<((d.n1:Nat):Int):=by omega
  refine⟨?_,trivial⟩
  all_goals(repeat'(first|exact rfl|exact λ_=>⟨rfl,rfl⟩|apply zy|intro _))
  all_goals(try simp only[decide_eq_true_eq,decide_eq_false_iff_not,yg,yw]at*)
  all_goals(try simp(disch:=omega) only[IntWalk.i64_in])
  all_goals(first|omega)
 ·have hw:=(IntWalk.i64_in ((i:Int)+1) ⟨by omega,by omega⟩)
  all_goals exact⟨rfl,Yq (ts:=ZcF d b) hw rfl,Z5 _⟩
def dCountL_T(a:Zf)(b:Int):Tree V:=
 zu (Zkw a b) (zw (vi (Zh5 a b a.n1)))
theorem ZoN(a:Zf)(b:Int):ZT (Zl P [] [dcn_lp a b] ze) 400 95 (.cons (.agg (Vj za a)) (.cons (.int za .i64 b) .nil))=dCountL_T a b:=by kernel_rfl
def Zfq(a:Zf)(b:Int):Int:=
  (Zh5 a b a.n1)
theorem ZoM(a:Zf)(b:Int)(h0:a.n1<=1000):Zh P 95 (.cons (.agg (Vj za a)) (.cons (.int za .i64 b) .nil)) (.int za zA (Zfq a b)):=
 Xn (Zw hm hn (l:=[]) trivial (ls:=[dcn_lp a b]) ⟨dcn_lp_ok a b h0,trivial⟩ ze) 400 (Has.of hn Tryz.func95 rfl) (ZoN a b) (Tree.Pre.mk (by refine⟨?_,trivial⟩;all_goals(first|exact dcn_fit a b|(repeat'(first|exact rfl|apply zy))))) (by kernel_rfl) (by kernel_rfl)
def UU:Con:=Yd 95 (λx=>(.cons (.agg (Vj za (ZQ x.hd.inner))) (.cons (.int za .i64 x.tl.hd.toInt) .nil))) (λx=>(.int za zA (Zfq (ZQ x.hd.inner) x.tl.hd.toInt))) (λx=>(ZQ x.hd.inner).n1<=1000)
theorem ZhJ:UU.Ok P:=Yf (λx h=>ZoM _ _ h)
def cmpI_T(a:Int)(b:Int):Tree V:=
 zB (bif a != a then bif bif b != b then ze else za then ze else ze else za) (zw (vi (bif bif b != b then ze else za then(0:Int)else(-1:Int)))) (zB (bif b != b then ze else za) (zw (zn ze .i64 (1:Int))) (zB (bif decide (a<b)then ze else za) (zw (zn ze .i64 (-1:Int))) (zB (bif decide (a>b)then ze else za) (zw (zn ze .i64 (1:Int))) (zw (zn ze .i64 (0:Int))))))
theorem cmpI_tree(a:Int)(b:Int):ZT (Zl P [] [] ze) 400 158 (.cons (.int za .i64 a) (.cons (.int za .i64 b) .nil))=cmpI_T a b:=by kernel_rfl
def XY(a:Int)(b:Int):Int:=
  (bif bif a != a then bif bif b != b then ze else za then ze else ze else za then bif bif b != b then ze else za then(0:Int)else(-1:Int)else bif bif b
  != b then ze else za then(1:Int)else bif bif decide (a<b)then ze else za then(-1:Int)else bif bif decide (a>b)then ze else za then(1:Int)else
  (0:Int))
theorem Zov(a:Int)(b:Int) : Zh P 158 (.cons (.int za .i64 a) (.cons (.int za .i64 b) .nil)) (.int za zA (XY a b)):=
 Xn (Zw hm hn (l:=[]) trivial (ls:=[]) trivial ze) 400 (Has.of hn Tryz.func158 rfl) (cmpI_tree a b) (Tree.Pre.mk (zy (λ_=>yj) (λ_=>(zy (λ_=>yj) (λ_=>(zy (λ_=>yj) (λ_=>(zy (λ_=>yj) (λ_=>yj))))))))) (by kernel_rfl) (by kernel_rfl)
def Jm:Con:=Qy 158 (.cons (.int za .i64 0) (.cons (.int za .i64 0) .nil)) (λx=>ze) (λx=>(.int za zA (XY x.hd.toInt x.tl.hd.toInt))) (λx=>(.cons (.int za .i64 x.hd.toInt) (.cons (.int za .i64 x.tl.hd.toInt) .nil))) (λx=>True)
theorem Zay:Jm.Ok P:=QO (λ_=>rfl) (λx h=>yj) (λx h=>Zov _ _)
abbrev ZeF(n:Nat)(r:Nat->Z6)(x:Int)(i j:Int):V:=(.cons (.rsl za 4 n (λj=>Zv za (r j))) (.cons (.int za .i64 x) (.cons (.fn (.func 157) .nil (.cons (.ptr ze 0 0 0 0) .nil)) (.cons (.int ze .i64 0) (.cons (.bool ze za) (.cons (.int za .i64 ((n:Nat):Int)) (.cons (.int za .i64 i) (.cons (.int za .i64 j) .nil))))))))
abbrev ZeG(n:Nat)(r:Nat->Z6)(x:Int):List Blk:=[.var (.cons (.fn (.func 91) .nil .nil) .nil)]
def bPlD_T(n:Nat)(r:Nat->Z6)(x:Int)(i j:Int):Tree (Ex×Bool×V×List Blk):=
 let q0:=zl za 4 n λj=>Zv za (r j)
 let q8:=V.fn (Fn.func (157:FuncId)) zh (zf (pt 0) zh)
 let q9:=[Blk.var (zf (V.fn (Fn.func (91:FuncId)) zh zh) zh)]
 let q10:=vi (n:Int)
 let q11:=zn ze .i64 (0:Int)
 let q12:=vi x
 zB (decide (i<j)) (zu ((0:Int)<=half i j/\half i j<(n:Int)) (zB (decide (XY (r (zk (half i j))).f0 x<(0:Int))) (zw (Ex.normal,ze,zf q0 (zf q12 (zf q8 (zf q11 (zf (zC ze za) (zf q10 (ci (zD .i64 (half i j+(1:Int))) (ci j zh))))))),q9)) (zw (Ex.normal,ze,zf q0 (zf q12 (zf q8 (zf q11 (zf (zC ze za) (zf q10 (ci i (ci (half i j) zh))))))),q9)))) (zw (Ex.exit 0,ze,zf q0 (zf q12 (zf q8 (zf q11 (zf (zC ze za) (zf q10 (ci i (ci j zh))))))),q9))
theorem Znx(B:Base)(n:Nat)(r:Nat->Z6)(x:Int)(i j:Int):((ev (ZM P [Jm] [156]) 400 156 (QZ P 156 3) B (Yl 1 49 [0,1,2,6,7,8,9,10] [(0,.own)] (ZeF n r x i j) (ZeG n r x))).bind λx=>zw (x.1,vwN 1 1 49 [0,1,2,6,7,8,9,10] [(0,.own)] x.2))=bPlD_T n r x i j:=by kernel_rfl
def ZeE(n:Nat)(r:Nat->Z6)(x:Int)(k:Nat):Bool:=(λ(h:Int)=>decide (XY (Z6.f0 (r (zk (h)))) x<(0:Int))) k
def Qi(n:Nat)(r:Nat->Z6)(x:Int):Nat:=Xp (ZeE n r x) n 0 n
def ZeD(n:Nat)(r:Nat->Z6)(x:Int):Lp:=⟨156,3,λ_ s=>match vwN 1 1 49 [0,1,2,6,7,8,9,10] [(0,.own)] s with
 |(ze,(.cons (.rsl _ 4 nt0 ft0) (.cons (.int _ .i64 tx) (.cons (.fn (.func 157) .nil (.cons (.ptr ze 0 0 0 0) .nil)) (.cons (.int _ .i64 t3) (.cons (.bool _ t4) (.cons (.int _ .i64 t5) (.cons (.int _ .i64 t6) (.cons (.int _ .i64 t7) .nil)))))))),[.var (.cons (.fn (.func 91) .nil .nil) .nil)])=>bif zq s.n 1 then .need (n=nt0/\(λj=>Zv za (r j))=ft0/\x=tx/\0=t3/\za=t4/\((n:Nat):Int)=t5/\0=t6/\((n:Nat):Int)=t7)
  (.leaf (.exit 0,Yl 1 49 [0,1,2,6,7,8,9,10] [(0,.own)] (ZeF n r x ((Qi n r x:Nat):Int) ((Qi n r x:Nat):Int)) (ZeG n r x)))else .stuck
 |_=>.stuck⟩
theorem Znw(n:Nat)(r:Nat->Z6)(x:Int)(hl:n<=1000):(ZeD n r x).Ok P:=by
 refine KW (by kernel_rfl) λhin B s Q hq=>?_
 simp only[ZeD]at hq hin⊢
 split at hq
 ·rename_i q1 nt0 ft0 q2 tx q3 t3 q4 t4 q5 t5 q6 t6 q7 t7 heq
  cases hsn:zq s.n 1
  ·rw[hsn]at hq;exact hq.elim
  ·rw[hsn]at hq
   obtain⟨⟨rfl,rfl,rfl,rfl,rfl,rfl,rfl,rfl⟩,hq⟩:=hq
   have hsame:WT 1 1 49 [0,1,2,6,7,8,9,10] [(0,.own)] s (ZeF n r x 0 ((n:Nat):Int)) (ZeG n r x):=by
    refine⟨by rw[heq],by rw[heq];exact Le.soft rfl,by rw[heq];exact⟨LeK.var (Le.soft rfl),trivial⟩⟩
   refine Zbl (k:=400) (f:=156) (Yz hm hn (l:=[Jm]) ⟨Zay,trivial⟩) rfl hin (ZeE n r x) n (λi j=>ZeF n r x i j) (ZeG n r x) Q (λi j=>Znx B n r x i j) (λi j hij hjn=>?_) hq (zO hsn) hsame
   refine⟨λhc=>?_,λhc=>?_⟩
   ·have hlt:i<j:=by have:=of_decide_eq_true hc;omega
    have hh:=Zbe (i:=i) (j:=j) (by omega)
    refine⟨by rw[hh];omega,λhb=>?_,λhb=>?_⟩
    ·rw[hh]at hb⊢
     rw[IntWalk.i64_in ((((i+j)/2:Nat):Int)+1) ⟨by omega,by omega⟩]
     exact⟨rfl,hlt,⟨LeK.refl _,trivial⟩,λ_=>Le.soft rfl,λhl=>Bool.noConfusion ((show ZeE n r x ((i+j)/2)=ze from hb).symm.trans hl)⟩
    ·rw[hh]at hb⊢
     exact⟨rfl,hlt,⟨LeK.refl _,trivial⟩,λhl=>Bool.noConfusion ((show ZeE n r x ((i+j)/2)=za from hb).symm.trans hl),λ_=>Le.soft rfl⟩
   ·have hge:¬(i:Int)<(j:Int):=λh=>by rw[decide_eq_true h]at hc;cases hc
    have e:i=j:=by omega
    subst e
    exact⟨rfl,rfl,⟨LeK.refl _,trivial⟩,Le.soft rfl,rfl⟩
 ·exact hq.elim
def dPlD_T(an:Nat)(a:Nat->Z6)(b:Int):Tree V:=
 let q0:=((Qi an a b:Nat):Int)
 zu (an=an/\((λj=>Zv za (a j))=λj=>Zv za (a j))/\b=b/\(0:Int)=(0:Int)/\za=za/\(an:Int)=(an:Int)/\(0:Int)=(0:Int)/\(an:Int)=(an:Int)) (zu (decide (q0<(an:Int))=ze->(0:Int)<=q0/\q0<(an:Int)) (zw (V.tup (ci (bif decide (q0<(an:Int))then q0 else q0) (zf (zC za (bif decide (q0<(an:Int))then XY (a (zk q0)).f0 b==(0:Int)else za)) zh)))))
theorem dPlD_tree(an:Nat)(a:Nat->Z6)(b:Int):ZT (Zl P [Jm] [ZeD an a b] ze) 400 96 (.cons (.rsl za 4 an λj=>Zv za (a j)) (.cons (.int za .i64 b) (.cons (.fn (.func 91) .nil .nil) .nil)))=dPlD_T an a b:=by kernel_rfl
def Vn(an:Nat)(a:Nat->Z6)(b:Int):Int:=
  (bif decide (((Qi an a b:Nat):Int)<(an:Int))then((Qi an a b:Nat):Int)else((Qi an a b:Nat):Int))
def U9(an:Nat)(a:Nat->Z6)(b:Int):Bool:=
  (bif decide (((Qi an a b:Nat):Int)<(an:Int))then XY (a (zk ((Qi an a b:Nat):Int))).f0 b==(0:Int)else za)
theorem ZoP(an:Nat)(a:Nat->Z6)(b:Int)(h0:an<=1000):Zh P 96 (.cons (.rsl za 4 an λj=>Zv za (a j)) (.cons (.int za .i64 b) (.cons (.fn (.func 91) .nil .nil) .nil))) (.tup (.cons (.int za zA (Vn an a b)) (.cons (.bool za (U9 an a b)) .nil))):=
 Xn (Zw hm hn (l:=[Jm]) ⟨Zay,trivial⟩ (ls:=[ZeD an a b]) ⟨Znw an a b h0,trivial⟩ ze) 400 (Has.of hn Tryz.func96 rfl) (dPlD_tree an a b) (Tree.Pre.mk (by refine⟨?_,⟨?_,trivial⟩⟩;all_goals(first|exact bPlD_fit an a b|(((repeat'(first|exact rfl|exact λ_=>⟨rfl,rfl⟩|apply zy|intro _));all_goals(try simp only[decide_eq_true_eq,decide_eq_false_iff_not]at*);all_goals omega))))) (by kernel_rfl) (by kernel_rfl)
def UY:Con:=Yd 96 (λx=>(.cons (.rsl za 4 x.hd.Zi λj=>Zv za ((λj=>XQ (x.hd.Zn j)) j)) (.cons (.int za .i64 x.tl.hd.toInt) (.cons (.fn (.func 91) .nil .nil) .nil)))) (λx=>(.tup (.cons (.int za zA (Vn x.hd.Zi (λj=>XQ (x.hd.Zn j)) x.tl.hd.toInt)) (.cons (.bool za (U9 x.hd.Zi (λj=>XQ (x.hd.Zn j)) x.tl.hd.toInt)) .nil)))) (λx=>x.hd.Zi<=1000)
theorem ZhL:UY.Ok P:=Yf (λx h=>ZoP _ _ _ h)
abbrev ZcB(a:Zf)(i:Int)(z:Unit):V:=(.cons (.ptr ze 0 0 0 0) (.cons (.int ze .i64 0) (.cons (.rsl za 4 (Zf.n0 a) (λj=>Zv za (a.r0 j))) (.cons (.int za .i64 (((Zf.n0 a):Nat):Int)) (.cons (.int za .i64 i) .nil)))))
abbrev ZcC(a:Zf)(i:Int)(z:Unit):List Blk:=[.var (.cons (.rsl za 4 (Zf.n0 a) (λj=>Zv za (a.r0 j))) (.cons (.rsl za 4 (Zf.n1 a) (λj=>Zt za (a.r1 j))) .nil))]
def dc1_R(a:Zf)(i:Int)(z:Unit):Tree Rd:=
 let q0:=(zf (zl za 4 a.n0 λj=>Zv za (a.2 j)) (zf (zl za 4 a.n1 λj=>Zt za (a.4 j)) zh))
 let q1:=(zl za 4 a.n0 λjj=>Zv za (a.2 jj))
 let q2:=[Blk.var (zf q1 (zf (zl za 4 a.n1 λjj=>Zt za (a.4 jj)) zh))]
 let q3:=(ci (a.2 (zk i)).f0 zh)
 zu (((0:Int)<=i/\i<((a.n0:Nat):Int))/\((!bif decide ((a.2 (zk i)).f0>=(1:Int))then bif decide ((a.2 (zk i)).f0<=(8:Int))then bif decide ((a.2 (zk i)).f1>=(1:Int))then bif decide ((a.2 (zk i)).f1<=(65535:Int))then bif decide ((a.2 (zk i)).f2>=(0:Int))then bif decide ((a.2 (zk i)).f2<=(800:Int))then bif decide ((a.2 (zk i)).f3>=(0:Int))then decide ((a.2 (zk i)).f3<(4:Int))else za else za else za else za else za else za else za)=za->zf (V.agg q0) q3=zf (V.agg q0) q3/\a.n1<=(1000:Nat))) (zB (bif bif bif !bif decide ((a.2 (zk i)).f0>=(1:Int))then bif decide ((a.2 (zk i)).f0<=(8:Int))then bif decide ((a.2 (zk i)).f1>=(1:Int))then bif decide ((a.2 (zk i)).f1<=(65535:Int))then bif decide ((a.2 (zk i)).f2>=(0:Int))then bif decide ((a.2 (zk i)).f2<=(800:Int))then bif decide ((a.2 (zk i)).f3>=(0:Int))then decide ((a.2 (zk i)).f3<(4:Int))else za else za else za else za else za else za else za then ze else decide (Zfq (ZQ q0) (a.2 (zk i)).f0>(8:Int))then ze else za then ze else za) (zw (Ex.ret,ze,zf (pt 0) (zf (zn ze .i64 (190:Int)) (zf q1 (ci ((a.n0:Nat):Int) (ci i zh)))),q2)) (zw (Ex.normal,ze,zf (pt 0) (zf (zn ze .i64 (0:Int)) (zf q1 (ci ((a.n0:Nat):Int) (ci (zD .i64 (i+(1:Int))) zh)))),q2)))
theorem dc1_round(a:Zf):Yi P (Zl P [UZ,U0,UW,UU,UY,U4] [] ze) 57 4 1 1 71 [1,2,20,21,22] [(0,.own)] [] (ZcB a) (ZcC a) (λi=>(bif decide (i<((a.n0:Nat):Int))then za else ze)) (.exit 0) (dc1_R a):=λB i z=>by kernel_rfl
def Zfr(a:Zf)(k:Nat):Bool:=(λ(i:Int)(z:Unit)=>(bif bif bif bif !bif decide ((a.2 (zk i)).f0>=(1:Int))then bif decide ((a.2 (zk i)).f0<=(8:Int))then bif decide ((a.2 (zk i)).f1>=(1:Int))then bif decide ((a.2 (zk i)).f1<=(65535:Int))then bif decide ((a.2 (zk i)).f2>=(0:Int))then bif decide ((a.2 (zk i)).f2<=(800:Int))then bif decide ((a.2 (zk i)).f3>=(0:Int))then decide ((a.2 (zk i)).f3<(4:Int))else za else za else za else za else za else za else za then ze else decide (Zfq (ZQ (zf (zl za 4 a.n0 λj=>Zv za (a.2 j)) (zf (zl za 4 a.n1 λj=>Zt za (a.4 j)) zh))) (a.2 (zk i)).f0>(8:Int))then ze else za then ze else za then ze else za)) k ()
abbrev dc1_ets(a:Zf)(i:Int)(z:Unit):V:=(.cons (V.ptr ze 0 0 0 0) (.cons (zn ze .i64 (190:Int)) (.cons (zl za 4 a.n0 λjj=>Zv za (a.2 jj)) (.cons (zn za .i64 ((a.n0:Nat):Int)) (.cons .junk .nil)))))
def dc1_lp(a:Zf):Lp:=lpL 57 4 1 1 71 [1,2,20,21,22] [(0,.own)] [] (ZcB a) (ZcC a) (.exit 0) .ret () (λ_=>()) (Zfr a) (Zf.n0 a) (dc1_ets a) (ZcC a)
def Zku(a:Zf):Prop:=YC 1 [] (ZcB a) (ZcC a) () (ZcB a (0:Nat) ()) (ZcC a (0:Nat) ())
theorem dc1_fit(a:Zf):Zku a:=⟨rfl,⟨rfl,trivial⟩⟩
theorem dc1_lp_ok(a:Zf)(hl:a.n0<=1000)(hl2:a.n1<=1000):(dc1_lp a).Ok P:=by
 refine YR (Zw hm hn (l:=[UZ,U0,UW,UU,UY,U4]) ⟨ZhM,ZhN,ZhK,ZhJ,ZhL,ZhR,trivial⟩ (ls:=[]) trivial ze) rfl (by kernel_rfl) (dc1_round a) exN Yv (λ_=>rfl) (step:=λ_ z=>z) (rd:=(λ_ t y=>())) (λi z=>rfl) (λi=>(cC rfl rfl)) rfl (λi hlt hg=>?_) (λi z hi=>?_)
 ·have hltI:(i:Int)<(((Zf.n0 a):Nat):Int):=by omega
  refine⟨?_,⟨λhb0=>trivial,λhb0=>trivial⟩⟩
  all_goals(repeat'(first|exact rfl|exact λ_=>⟨rfl,rfl⟩|apply zy|intro _))
  all_goals(try simp only[decide_eq_true_eq,decide_eq_false_iff_not,yg,yw]at*)
  all_goals(try simp(disch:=omega) only[IntWalk.i64_in])
  all_goals(first|omega)
 ·have hw:=(IntWalk.i64_in ((i:Int)+1) ⟨by omega,by omega⟩)
  refine⟨?_,?_⟩
  all_goals(first|exact⟨rfl,Yq (ts:=ZcB a) (a:=()) hw rfl,Z5 _⟩|exact⟨rfl,rfl,(by repeat'(first|exact Le.refl _|exact Le.junk _ rfl|apply Le.cons)),Z5 _⟩)
abbrev ZcD(a:Zf)(i:Int)(z:Unit):V:=(.cons (.ptr ze 0 0 0 0) (.cons (.int ze .i64 0) (.cons (.rsl za 4 (Zf.n1 a) (λj=>Zt za (a.r1 j))) (.cons (.int za .i64 (((Zf.n1 a):Nat):Int)) (.cons (.int za .i64 i) .nil)))))
abbrev ZcE(a:Zf)(i:Int)(z:Unit):List Blk:=[.var (.cons (.rsl za 4 (Zf.n0 a) (λj=>Zv za (a.r0 j))) (.cons (.rsl za 4 (Zf.n1 a) (λj=>Zt za (a.r1 j))) .nil))]
def dc2_R(a:Zf)(i:Int)(z:Unit):Tree Rd:=
 let q0:=(zl za 4 a.n1 λjj=>Zt za (a.4 jj))
 let q1:=[Blk.var (zf (zl za 4 a.n0 λjj=>Zv za (a.2 jj)) (zf q0 zh))]
 let q2:=(zl za 4 a.n0 λj=>Zv za (a.2 j))
 zu (((0:Int)<=i/\i<((a.n1:Nat):Int))/\zf q2 (ci (a.4 (zk i)).f1 (zf (V.fn (Fn.func (91:Nat)) zh zh) zh))=zf q2 (ci (a.4 (zk i)).f1 (zf (V.fn (Fn.func (91:FuncId)) zh zh) zh))/\a.n0<=(1000:Nat)) (zB (bif bif bif decide ((a.4 (zk i)).f0<(1:Int))then ze else bif decide ((a.4 (zk i)).f0>(16:Int))then ze else bif (bif bif bif bif bif bif zD .u32 ((yF (yc (zY .u32) (a.4 (zk i)).f2&&& ~~~yc (zY .u32) (255:Int)):Nat):Int) != (0:Int)then ze else za then ze else bif bif zD .u32 ((yF (yc (zY .u32) (a.4 (zk i)).f3&&& ~~~yc (zY .u32) (255:Int)):Nat):Int) != (0:Int)then ze else za then ze else(a.4 (zk i)).f2==(0:Int)then ze else za then ze else za then ze else za then(170:Int)else(0:Int)) != (0:Int)then ze else !U9 a.n0 (λj=>(a.2 j)) (a.4 (zk i)).f1 then ze else za then ze else za) (zw (Ex.ret,ze,zf (pt 0) (zf (zn ze .i64 (190:Int)) (zf q0 (ci ((a.n1:Nat):Int) (ci i zh)))),q1)) (zw (Ex.normal,ze,zf (pt 0) (zf (zn ze .i64 (0:Int)) (zf q0 (ci ((a.n1:Nat):Int) (ci (zD .i64 (i+(1:Int))) zh)))),q1)))
theorem dc2_round(a:Zf):Yi P (Zl P [UZ,U0,UW,UU,UY,U4] [] ze) 57 10 1 1 71 [1,2,38,39,40] [(0,.own)] [] (ZcD a) (ZcE a) (λi=>(bif decide (i<((a.n1:Nat):Int))then za else ze)) (.exit 2) (dc2_R a):=λB i z=>by kernel_rfl
def Zh4(a:Zf)(k:Nat):Bool:=(λ(i:Int)(z:Unit)=>(bif bif bif bif decide ((a.4 (zk i)).f0<(1:Int))then ze else bif decide ((a.4 (zk i)).f0>(16:Int))then ze else bif (bif bif bif bif bif bif zD .u32 ((yF (yc (zY .u32) (a.4 (zk i)).f2&&& ~~~yc (zY .u32) (255:Int)):Nat):Int) != (0:Int)then ze else za then ze else bif bif zD .u32 ((yF (yc (zY .u32) (a.4 (zk i)).f3&&& ~~~yc (zY .u32) (255:Int)):Nat):Int) != (0:Int)then ze else za then ze else(a.4 (zk i)).f2==(0:Int)then ze else za then ze else za then ze else za then(170:Int)else(0:Int)) != (0:Int)then ze else !U9 a.n0 (λj=>XQ (Zv za (a.2 j))) (a.4 (zk i)).f1 then ze else za then ze else za then ze else za)) k ()
abbrev dc2_ets(a:Zf)(i:Int)(z:Unit):V:=(.cons (V.ptr ze 0 0 0 0) (.cons (zn ze .i64 (190:Int)) (.cons (zl za 4 a.n1 λjj=>Zt za (a.4 jj)) (.cons (zn za .i64 ((a.n1:Nat):Int)) (.cons .junk .nil)))))
def dc2_lp(a:Zf):Lp:=lpL 57 10 1 1 71 [1,2,38,39,40] [(0,.own)] [] (ZcD a) (ZcE a) (.exit 2) .ret () (λ_=>()) (Zh4 a) (Zf.n1 a) (dc2_ets a) (ZcE a)
def Zkv(a:Zf):Prop:=YC 1 [] (ZcD a) (ZcE a) () (ZcD a (0:Nat) ()) (ZcE a (0:Nat) ())
theorem dc2_fit(a:Zf):Zkv a:=⟨rfl,⟨rfl,trivial⟩⟩
theorem dc2_lp_ok(a:Zf)(hl:a.n0<=1000)(hl2:a.n1<=1000):(dc2_lp a).Ok P:=by
 refine YR (Zw hm hn (l:=[UZ,U0,UW,UU,UY,U4]) ⟨ZhM,ZhN,ZhK,ZhJ,ZhL,ZhR,trivial⟩ (ls:=[]) trivial ze) rfl (by kernel_rfl) (dc2_round a) exN Yv (λ_=>rfl) (step:=λ_ z=>z) (rd:=(λ_ t y=>())) (λi z=>rfl) (λi=>(cC rfl rfl)) rfl (λi hlt hg=>?_) (λi z hi=>?_)
 ·have hltI:(i:Int)<(((Zf.n1 a):Nat):Int):=by omega
  refine⟨?_,⟨λhb0=>trivial,λhb0=>trivial⟩⟩
  all_goals(repeat'(first|exact rfl|exact λ_=>⟨rfl,rfl⟩|apply zy|intro _))
  all_goals(try simp only[decide_eq_true_eq,decide_eq_false_iff_not,yg,yw]at*)
  all_goals(try simp(disch:=omega) only[IntWalk.i64_in])
  all_goals(first|omega)
 ·have hw:=(IntWalk.i64_in ((i:Int)+1) ⟨by omega,by omega⟩)
  refine⟨?_,?_⟩
  all_goals(first|exact⟨rfl,Yq (ts:=ZcD a) (a:=()) hw rfl,Z5 _⟩|exact⟨rfl,rfl,(by repeat'(first|exact Le.refl _|exact Le.junk _ rfl|apply Le.cons)),Z5 _⟩)
def dCheck_T(a:Zf):Tree V:=
 let q0:=(zw (zn ze .i64 (190:Int)))
 let q1:=(zl za 4 a.n0 λj=>Zv za (a.2 j))
 let q2:=(zl za 4 a.n1 λj=>Zt za (a.4 j))
 zu ((zf q1 (zf (V.fn (Fn.func (91:Nat)) zh zh) zh)=zf q1 (zf (V.fn (Fn.func (91:FuncId)) zh zh) zh)/\a.n0<=(1000:Nat))/\((!ZaS a.n0 λj=>(a.2 j))=za->zf q2 (zf (V.fn (Fn.func (93:Nat)) zh zh) zh)=zf q2 (zf (V.fn (Fn.func (93:FuncId)) zh zh) zh)/\a.n1<=(1000:Nat))) (zB (bif bif !ZaS a.n0 λj=>(a.2 j)then ze else !Zcz a.n1 λj=>(a.4 j)then ze else za) q0 (zu (Zku a) (zB (bif Zp (Zfr a) a.n0 then ze else za) q0 (zu (Zkv a) (zB (bif Zp (Zh4 a) a.n1 then ze else za) q0 (zw (zn ze .i64 (0:Int))))))))
theorem ZoL(a:Zf):ZT (Zl P [UZ,U0,UW,UU,UY,U4] [dc1_lp a,dc2_lp a] ze) 400 57 (.cons (.agg (Vj za a)) .nil)=dCheck_T a:=by kernel_rfl
def Wy(a:Zf):Int:=
  (bif bif bif !ZaS a.n0 λj=>XQ (Zv za (a.2 j))then ze else !Zcz a.n1 λj=>YK (Zt za (a.4 j))then ze else za
  then(190:Int)else bif bif Zp (Zfr a) a.n0 then ze else za then(190:Int)else bif bif Zp (Zh4 a) a.n1 then ze else za then(190:Int)else(0 :
  Int))
theorem ZoJ(a:Zf)(h0:a.n0<=1000)(h1:a.n1<=1000):Zh P 57 (.cons (.agg (Vj za a)) .nil) (.int za zA (Wy a)):=
 Xn (Zw hm hn (l:=[UZ,U0,UW,UU,UY,U4]) ⟨ZhM,ZhN,ZhK,ZhJ,ZhL,ZhR,trivial⟩ (ls:=[dc1_lp a,dc2_lp a]) ⟨dc1_lp_ok a h0 h1,dc2_lp_ok a h0 h1,trivial⟩ ze) 400 (Has.of hn Tryz.func57 rfl) (ZoL a) (Tree.Pre.mk (by refine⟨?_,⟨λ_=>trivial,λ_=>⟨?_,⟨λ_=>trivial,λ_=>⟨?_,⟨λ_=>trivial,λ_=>trivial⟩⟩⟩⟩⟩⟩;all_goals(first|exact dc1_fit a|exact dc2_fit a|(((repeat'(first|exact rfl|exact λ_=>⟨rfl,rfl⟩|apply zy|intro _));all_goals(try simp only[decide_eq_true_eq,decide_eq_false_iff_not]at*);all_goals omega))))) (by kernel_rfl) (by kernel_rfl)
def ZaA:Con:=Yd 57 (λx=>(.cons (.agg (Vj za (ZQ x.hd.inner))) .nil)) (λx=>(.int za zA (Wy (ZQ x.hd.inner)))) (λx=>(ZQ x.hd.inner).n0<=1000/\(ZQ x.hd.inner).n1<=1000)
theorem Zj1:ZaA.Ok P:=Yf (λx h=>ZoJ _ h.1 h.2)
abbrev ZeJ(n:Nat)(r:Nat->ZH)(x:Int)(i j:Int):V:=(.cons (.rsl za 4 n (λj=>Zt za (r j))) (.cons (.int za .i64 x) (.cons (.fn (.func 245) .nil (.cons (.ptr ze 0 0 0 0) .nil)) (.cons (.int ze .i64 0) (.cons (.bool ze za) (.cons (.int za .i64 ((n:Nat):Int)) (.cons (.int za .i64 i) (.cons (.int za .i64 j) .nil))))))))
abbrev ZeK(n:Nat)(r:Nat->ZH)(x:Int):List Blk:=[.var (.cons (.fn (.func 93) .nil .nil) .nil)]
def bPlV_T(n:Nat)(r:Nat->ZH)(x:Int)(i j:Int):Tree (Ex×Bool×V×List Blk):=
 let q0:=zl za 4 n λj=>Zt za (r j)
 let q8:=V.fn (Fn.func (245:FuncId)) zh (zf (pt 0) zh)
 let q9:=[Blk.var (zf (V.fn (Fn.func (93:FuncId)) zh zh) zh)]
 let q10:=vi (n:Int)
 let q11:=zn ze .i64 (0:Int)
 let q12:=vi x
 zB (decide (i<j)) (zu ((0:Int)<=half i j/\half i j<(n:Int)) (zB (decide (XY (r (zk (half i j))).f0 x<(0:Int))) (zw (Ex.normal,ze,zf q0 (zf q12 (zf q8 (zf q11 (zf (zC ze za) (zf q10 (ci (zD .i64 (half i j+(1:Int))) (ci j zh))))))),q9)) (zw (Ex.normal,ze,zf q0 (zf q12 (zf q8 (zf q11 (zf (zC ze za) (zf q10 (ci i (ci (half i j) zh))))))),q9)))) (zw (Ex.exit 0,ze,zf q0 (zf q12 (zf q8 (zf q11 (zf (zC ze za) (zf q10 (ci i (ci j zh))))))),q9))
theorem Znz(B:Base)(n:Nat)(r:Nat->ZH)(x:Int)(i j:Int):((ev (ZM P [Jm] [244]) 400 244 (QZ P 244 3) B (Yl 1 49 [0,1,2,6,7,8,9,10] [(0,.own)] (ZeJ n r x i j) (ZeK n r x))).bind λx=>zw (x.1,vwN 1 1 49 [0,1,2,6,7,8,9,10] [(0,.own)] x.2))=bPlV_T n r x i j:=by kernel_rfl
def ZeI(n:Nat)(r:Nat->ZH)(x:Int)(k:Nat):Bool:=(λ(h:Int)=>decide (XY (ZH.f0 (r (zk (h)))) x<(0:Int))) k
def Jk(n:Nat)(r:Nat->ZH)(x:Int):Nat:=Xp (ZeI n r x) n 0 n
def ZeH(n:Nat)(r:Nat->ZH)(x:Int):Lp:=⟨244,3,λ_ s=>match vwN 1 1 49 [0,1,2,6,7,8,9,10] [(0,.own)] s with
 |(ze,(.cons (.rsl _ 4 nt0 ft0) (.cons (.int _ .i64 tx) (.cons (.fn (.func 245) .nil (.cons (.ptr ze 0 0 0 0) .nil)) (.cons (.int _ .i64 t3) (.cons (.bool _ t4) (.cons (.int _ .i64 t5) (.cons (.int _ .i64 t6) (.cons (.int _ .i64 t7) .nil)))))))),[.var (.cons (.fn (.func 93) .nil .nil) .nil)])=>bif zq s.n 1 then .need (n=nt0/\(λj=>Zt za (r j))=ft0/\x=tx/\0=t3/\za=t4/\((n:Nat):Int)=t5/\0=t6/\((n:Nat):Int)=t7)
  (.leaf (.exit 0,Yl 1 49 [0,1,2,6,7,8,9,10] [(0,.own)] (ZeJ n r x ((Jk n r x:Nat):Int) ((Jk n r x:Nat):Int)) (ZeK n r x)))else .stuck
 |_=>.stuck⟩
theorem Zny(n:Nat)(r:Nat->ZH)(x:Int)(hl:n<=1000):(ZeH n r x).Ok P:=by
 refine KW (by kernel_rfl) λhin B s Q hq=>?_
 simp only[ZeH]at hq hin⊢
 split at hq
 ·rename_i q1 nt0 ft0 q2 tx q3 t3 q4 t4 q5 t5 q6 t6 q7 t7 heq
  cases hsn:zq s.n 1
  ·rw[hsn]at hq;exact hq.elim
  ·rw[hsn]at hq
   obtain⟨⟨rfl,rfl,rfl,rfl,rfl,rfl,rfl,rfl⟩,hq⟩:=hq
   have hsame:WT 1 1 49 [0,1,2,6,7,8,9,10] [(0,.own)] s (ZeJ n r x 0 ((n:Nat):Int)) (ZeK n r x):=by
    refine⟨by rw[heq],by rw[heq];exact Le.soft rfl,by rw[heq];exact⟨LeK.var (Le.soft rfl),trivial⟩⟩
   refine Zbl (k:=400) (f:=244) (Yz hm hn (l:=[Jm]) ⟨Zay,trivial⟩) rfl hin (ZeI n r x) n (λi j=>ZeJ n r x i j) (ZeK n r x) Q (λi j=>Znz B n r x i j) (λi j hij hjn=>?_) hq (zO hsn) hsame
   refine⟨λhc=>?_,λhc=>?_⟩
   ·have hlt:i<j:=by have:=of_decide_eq_true hc;omega
    have hh:=Zbe (i:=i) (j:=j) (by omega)
    refine⟨by rw[hh];omega,λhb=>?_,λhb=>?_⟩
    ·rw[hh]at hb⊢
     rw[IntWalk.i64_in ((((i+j)/2:Nat):Int)+1) ⟨by omega,by omega⟩]
     exact⟨rfl,hlt,⟨LeK.refl _,trivial⟩,λ_=>Le.soft rfl,λhl=>Bool.noConfusion ((show ZeI n r x ((i+j)/2)=ze from hb).symm.trans hl)⟩
    ·rw[hh]at hb⊢
     exact⟨rfl,hlt,⟨LeK.refl _,trivial⟩,λhl=>Bool.noConfusion ((show ZeI n r x ((i+j)/2)=za from hb).symm.trans hl),λ_=>Le.soft rfl⟩
   ·have hge:¬(i:Int)<(j:Int):=λh=>by rw[decide_eq_true h]at hc;cases hc
    have e:i=j:=by omega
    subst e
    exact⟨rfl,rfl,⟨LeK.refl _,trivial⟩,Le.soft rfl,rfl⟩
 ·exact hq.elim
def dPlV_T(an:Nat)(a:Nat->ZH)(b:Int):Tree V:=
 let q0:=((Jk an a b:Nat):Int)
 zu (an=an/\((λj=>Zt za (a j))=λj=>Zt za (a j))/\b=b/\(0:Int)=(0:Int)/\za=za/\(an:Int)=(an:Int)/\(0:Int)=(0:Int)/\(an:Int)=(an:Int)) (zu (decide (q0<(an:Int))=ze->(0:Int)<=q0/\q0<(an:Int)) (zw (V.tup (ci (bif decide (q0<(an:Int))then q0 else q0) (zf (zC za (bif decide (q0<(an:Int))then XY (a (zk q0)).f0 b==(0:Int)else za)) zh)))))
theorem dPlV_tree(an:Nat)(a:Nat->ZH)(b:Int):ZT (Zl P [Jm] [ZeH an a b] ze) 400 203 (.cons (.rsl za 4 an λj=>Zt za (a j)) (.cons (.int za .i64 b) (.cons (.fn (.func 93) .nil .nil) .nil)))=dPlV_T an a b:=by kernel_rfl
def WZ(an:Nat)(a:Nat->ZH)(b:Int):Int:=
  (bif decide (((Jk an a b:Nat):Int)<(an:Int))then((Jk an a b:Nat):Int)else((Jk an a b:Nat):Int))
def QA(an:Nat)(a:Nat->ZH)(b:Int):Bool:=
  (bif decide (((Jk an a b:Nat):Int)<(an:Int))then XY (a (zk ((Jk an a b:Nat):Int))).f0 b==(0:Int)else za)
theorem ZoQ(an:Nat)(a:Nat->ZH)(b:Int)(h0:an<=1000):Zh P 203 (.cons (.rsl za 4 an λj=>Zt za (a j)) (.cons (.int za .i64 b) (.cons (.fn (.func 93) .nil .nil) .nil))) (.tup (.cons (.int za zA (WZ an a b)) (.cons (.bool za (QA an a b)) .nil))):=
 Xn (Zw hm hn (l:=[Jm]) ⟨Zay,trivial⟩ (ls:=[ZeH an a b]) ⟨Zny an a b h0,trivial⟩ ze) 400 (Has.of hn Tryz.func203 rfl) (dPlV_tree an a b) (Tree.Pre.mk (by refine⟨?_,⟨?_,trivial⟩⟩;all_goals(first|exact bPlV_fit an a b|(((repeat'(first|exact rfl|exact λ_=>⟨rfl,rfl⟩|apply zy|intro _));all_goals(try simp only[decide_eq_true_eq,decide_eq_false_iff_not]at*);all_goals omega))))) (by kernel_rfl) (by kernel_rfl)
def c_dPlV:Con:=Yd 203 (λx=>(.cons (.rsl za 4 x.hd.Zi λj=>Zt za ((λj=>YK (x.hd.Zn j)) j)) (.cons (.int za .i64 x.tl.hd.toInt) (.cons (.fn (.func 93) .nil .nil) .nil)))) (λx=>(.tup (.cons (.int za zA (WZ x.hd.Zi (λj=>YK (x.hd.Zn j)) x.tl.hd.toInt)) (.cons (.bool za (QA x.hd.Zi (λj=>YK (x.hd.Zn j)) x.tl.hd.toInt)) .nil)))) (λx=>x.hd.Zi<=1000)
theorem c_dPlV_ok:c_dPlV.Ok P:=Yf (λx h=>ZoQ _ _ _ h)
theorem nf2{x y:Bool}(h:(bif (bif !x then ze else y)then ze else za)=za):x=ze:=by cases x;cases h;rfl
theorem Zks(n:Nat)(r:Nat->ZH)(b:Int):0<=WZ n r b/\WZ n r b<=n/\(QA n r b=ze->WZ n r b<n):=by
 have h:Jk n r b<=n:=Zcp _ _ _ (Nat.zero_le _)
 have e:WZ n r b=(Jk n r b:Int):=by
  unfold WZ;cases decide (((Jk n r b:Nat):Int)<(n:Int))<;>rfl
 rw[e]
 refine⟨by omega,by omega,λh1=>?_⟩
 unfold QA at h1
 cases hc:decide (((Jk n r b:Nat):Int)<(n:Int))with
 |true=>exact of_decide_eq_true hc
 |false=>rw[hc]at h1;cases h1
end Go.Proofs.YthhbdbeglmkijaaGreatDoor
end
