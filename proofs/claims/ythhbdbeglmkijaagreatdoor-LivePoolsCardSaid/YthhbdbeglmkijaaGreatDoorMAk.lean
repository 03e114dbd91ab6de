/- slices.Clone at each type -/
import Derived.Test.YthhbdbeglmkijaaGreatDoorMAg
import Derived.Test.YthhbdbeglmkijaaGreatDoorMAj
import Derived.Test.YthhbdbeglmkijaaGreatDoorMAf
set_option maxRecDepth 100000
set_option linter.unusedVariables false
set_option linter.unusedSimpArgs false
noncomputable section
open Bool renaming false→za,true→ze,not_eq_true'→yj,not_eq_false'→yu,and_eq_true→zM,and_eq_false_iff→yF
open Go.Fw.V renaming bool→zC,cons→zf,int→zn,nil→zh,rsl→zl,soft→yg,agg→zH,mp→zZ
open Option renaming none→zm
open Go.Fw.Tree renaming node→zD,need→zw,leaf→zx
open Nat renaming ble→zK,beq→zo,le_refl→zJ,eq_of_beq_eq_true→zP
open Go.IntKind renaming i64→zq,u32→yC,wrap→zy,bits→zR,u64→yG
open Int renaming toNat→zi
open And renaming intro→zB
open True renaming intro→yc
open Go.Fw.Blk renaming var→zN
open BitVec renaming toNat→yA,ofInt→zU
open Prod renaming fst→zL
open Go.Value renaming int→zA
namespace Go.Proofs.YthhbdbeglmkijaaGreatDoor
open Go.Fw
theorem Zot(n:Nat)(r:Nat->K9)(h:n<=1000):Zi P 130 (.cons (.rsl za 2 n λj=>ZR za (r j)) .nil) (.rsl za 2 n λj=>ZR za (r j)):=VF (E:=Zp P [] [] ze) (by_:=16) (ZC hm hn (l:=[]) trivial (ls:=[]) trivial ze) (Has.of hn Tryz.func130 rfl) (by kernel_rfl) h (by decide) (λ_=>⟨rfl,rfl⟩)
def Zfd:Con:=Yh 130 (λx=>.cons (.rsl za 2 x.hd.Zy λj=>ZR za (Jl (x.hd.ZB j))) .nil) (λx=>.rsl za 2 x.hd.Zy λj=>ZR za (Jl (x.hd.ZB j))) (λx=>x.hd.Zy<=1000)
theorem ZnT:Zfd.Ok P:=Yi λx h=>Zot _ _ h
abbrev Gt:HK:=Za0 1 (ZL za) Yq
theorem ZkB:Xj P 131 Gt:=ZfA (E:=Zp P [] [] ze) (ZC hm hn (l:=[]) trivial (ls:=[]) trivial ze) (by_:=4) (λn r=>by kernel_rfl) (by decide) (λ_=>⟨rfl,rfl⟩)
theorem Zoq(n:Nat)(r:Nat->Zq)(h:n<=1000):Zi P 131 (.cons (.rsl za 1 n λj=>ZL za (r j)) .nil) (.rsl za 1 n λj=>ZL za (r j)):=VF (E:=Zp P [] [] ze) (by_:=4) (ZC hm hn (l:=[]) trivial (ls:=[]) trivial ze) (Has.of hn Tryz.func131 rfl) (by kernel_rfl) h (by decide) (λ_=>⟨rfl,rfl⟩)
def Zfa:Con:=Yh 131 (λx=>.cons (.rsl za 1 x.hd.Zy λj=>ZL za (Yq (x.hd.ZB j))) .nil) (λx=>.rsl za 1 x.hd.Zy λj=>ZL za (Yq (x.hd.ZB j))) (λx=>x.hd.Zy<=1000)
theorem ZnQ:Zfa.Ok P:=Yi λx h=>Zoq _ _ h
theorem Zor(n:Nat)(r:Nat->Z6)(h:n<=1000):Zi P 132 (.cons (.rsl za 4 n λj=>Zr za (r j)) .nil) (.rsl za 4 n λj=>Zr za (r j)):=VF (E:=Zp P [] [] ze) (by_:=32) (ZC hm hn (l:=[]) trivial (ls:=[]) trivial ze) (Has.of hn Tryz.func132 rfl) (by kernel_rfl) h (by decide) (λ_=>⟨rfl,rfl⟩)
def Zfb:Con:=Yh 132 (λx=>.cons (.rsl za 4 x.hd.Zy λj=>Zr za (YT (x.hd.ZB j))) .nil) (λx=>.rsl za 4 x.hd.Zy λj=>Zr za (YT (x.hd.ZB j))) (λx=>x.hd.Zy<=1000)
theorem ZnR:Zfb.Ok P:=Yi λx h=>Zor _ _ h
theorem Zow(n:Nat)(r:Nat->ZJ)(h:n<=1000):Zi P 133 (.cons (.rsl za 4 n λj=>Zn za (r j)) .nil) (.rsl za 4 n λj=>Zn za (r j)):=VF (E:=Zp P [] [] ze) (by_:=24) (ZC hm hn (l:=[]) trivial (ls:=[]) trivial ze) (Has.of hn Tryz.func133 rfl) (by kernel_rfl) h (by decide) (λ_=>⟨rfl,rfl⟩)
def Zff:Con:=Yh 133 (λx=>.cons (.rsl za 4 x.hd.Zy λj=>Zn za (Yk (x.hd.ZB j))) .nil) (λx=>.rsl za 4 x.hd.Zy λj=>Zn za (Yk (x.hd.ZB j))) (λx=>x.hd.Zy<=1000)
theorem ZnV:Zff.Ok P:=Yi λx h=>Zow _ _ h
abbrev Zfv:HK:=Za0 2 (Zw za) YV
theorem clGang_ok:Xj P 134 Zfv:=ZfA (E:=Zp P [] [] ze) (ZC hm hn (l:=[]) trivial (ls:=[]) trivial ze) (by_:=32) (λn r=>by kernel_rfl) (by decide) (λ_=>⟨rfl,rfl⟩)
theorem Zos(n:Nat)(r:Nat->Xi)(h:n<=1000):Zi P 135 (.cons (.rsl za 5 n λj=>ZI za (r j)) .nil) (.rsl za 5 n λj=>ZI za (r j)):=VF (E:=Zp P [] [] ze) (by_:=32) (ZC hm hn (l:=[]) trivial (ls:=[]) trivial ze) (Has.of hn Tryz.func135 rfl) (by kernel_rfl) h (by decide) (λ_=>⟨rfl,rfl⟩)
def Zfc:Con:=Yh 135 (λx=>.cons (.rsl za 5 x.hd.Zy λj=>ZI za (Ww (x.hd.ZB j))) .nil) (λx=>.rsl za 5 x.hd.Zy λj=>ZI za (Ww (x.hd.ZB j))) (λx=>x.hd.Zy<=1000)
theorem ZnS:Zfc.Ok P:=Yi λx h=>Zos _ _ h
theorem Zou(n:Nat)(r:Nat->DT3)(h:n<=1000):Zi P 136 (.cons (.rsl za 1 n λj=>ZP za (r j)) .nil) (.rsl za 1 n λj=>ZP za (r j)):=VF (E:=Zp P [] [] ze) (by_:=8) (ZC hm hn (l:=[]) trivial (ls:=[]) trivial ze) (Has.of hn Tryz.func136 rfl) (by kernel_rfl) h (by decide) (λ_=>⟨rfl,rfl⟩)
def Jz:Con:=Yh 136 (λx=>.cons (.rsl za 1 x.hd.Zy λj=>ZP za (ZM (x.hd.ZB j))) .nil) (λx=>.rsl za 1 x.hd.Zy λj=>ZP za (ZM (x.hd.ZB j))) (λx=>x.hd.Zy<=1000)
theorem Zco:Jz.Ok P:=Yi λx h=>Zou _ _ h
theorem Zoo(n:Nat)(r:Nat->YZ)(h:n<=1000):Zi P 137 (.cons (.rsl za 3 n λj=>Zx za (r j)) .nil) (.rsl za 3 n λj=>Zx za (r j)):=VF (E:=Zp P [] [] ze) (by_:=24) (ZC hm hn (l:=[]) trivial (ls:=[]) trivial ze) (Has.of hn Tryz.func137 rfl) (by kernel_rfl) h (by decide) (λ_=>⟨rfl,rfl⟩)
def Ze8:Con:=Yh 137 (λx=>.cons (.rsl za 3 x.hd.Zy λj=>Zx za (Ya (x.hd.ZB j))) .nil) (λx=>.rsl za 3 x.hd.Zy λj=>Zx za (Ya (x.hd.ZB j))) (λx=>x.hd.Zy<=1000)
theorem ZnO:Ze8.Ok P:=Yi λx h=>Zoo _ _ h
theorem Zov(n:Nat)(r:Nat->JK)(h:n<=1000):Zi P 138 (.cons (.rsl za 2 n λj=>ZE za (r j)) .nil) (.rsl za 2 n λj=>ZE za (r j)):=VF (E:=Zp P [] [] ze) (by_:=16) (ZC hm hn (l:=[]) trivial (ls:=[]) trivial ze) (Has.of hn Tryz.func138 rfl) (by kernel_rfl) h (by decide) (λ_=>⟨rfl,rfl⟩)
def Zfe:Con:=Yh 138 (λx=>.cons (.rsl za 2 x.hd.Zy λj=>ZE za (QS (x.hd.ZB j))) .nil) (λx=>.rsl za 2 x.hd.Zy λj=>ZE za (QS (x.hd.ZB j))) (λx=>x.hd.Zy<=1000)
theorem ZnU:Zfe.Ok P:=Yi λx h=>Zov _ _ h
abbrev Zfw:HK:=Za0 11 (Zo za) ZV
theorem clOwn_ok:Xj P 139 Zfw:=ZfA (E:=Zp P [] [] ze) (ZC hm hn (l:=[]) trivial (ls:=[]) trivial ze) (by_:=88) (λn r=>by kernel_rfl) (by decide) (λ_=>⟨rfl,rfl⟩)
theorem Zop(n:Nat)(r:Nat->QK)(h:n<=1000):Zi P 140 (.cons (.rsl za 2 n λj=>ZO za (r j)) .nil) (.rsl za 2 n λj=>ZO za (r j)):=VF (E:=Zp P [] [] ze) (by_:=16) (ZC hm hn (l:=[]) trivial (ls:=[]) trivial ze) (Has.of hn Tryz.func140 rfl) (by kernel_rfl) h (by decide) (λ_=>⟨rfl,rfl⟩)
def Ze9:Con:=Yh 140 (λx=>.cons (.rsl za 2 x.hd.Zy λj=>ZO za (Qn (x.hd.ZB j))) .nil) (λx=>.rsl za 2 x.hd.Zy λj=>ZO za (Qn (x.hd.ZB j))) (λx=>x.hd.Zy<=1000)
theorem ZnP:Ze9.Ok P:=Yi λx h=>Zop _ _ h
abbrev Zfx:HK:=Za0 2 (Zt za) Ye
theorem clPut_ok:Xj P 141 Zfx:=ZfA (E:=Zp P [] [] ze) (ZC hm hn (l:=[]) trivial (ls:=[]) trivial ze) (by_:=16) (λn r=>by kernel_rfl) (by decide) (λ_=>⟨rfl,rfl⟩)
end Go.Proofs.YthhbdbeglmkijaaGreatDoor
namespace Go.Fw
def Tree.yes:Tree (V×List Blk)->Bool
 | .leaf y=>y.1.toBool
 | .node b t f=>bif b then t.yes else f.yes
 | .need _ t=>t.yes
 |_=>za
variable{bl:List Blk}
theorem Tree.yes_holds{P:Program}{r:Bool}{Q:V×List Blk->Prop}:∀T:Tree (V×List Blk),T.yes=r->T.pre->T.leaves (λy=>y.1.sof=.bool za y.1.toBool/\y.2.map Blk.sof=bl.map Blk.sof)->Q (.bool za r,bl)->T.holds P λx=>∃x',Q x'/\x.1.sof=x'.1.sof/\x.2.map Blk.sof=x'.2.map Blk.sof:=by
 intro T
 induction T with
 |leaf y=>intro h _ hl hQ;exact⟨_,hQ,by rw[hl.1];exact congrArg (zC za) h,hl.2⟩
 |node b t f iht ihf=>
  intro h hp hl hQ
  refine⟨λhb=>iht ?_ (hp.1 hb) hl.1 hQ,λhb=>ihf ?_ (hp.2 hb) hl.2 hQ⟩
  ·rw[<- h,hb];rfl
  ·rw[<- h,hb];rfl
 |need p t ih=>intro h hp hl hQ;exact⟨hp.1,ih h hp.2 hl hQ⟩
 |_=>intro _ hp;exact hp.elim
theorem G8{E:Env}(hE:E.Ok){k:Nat}{g:FuncId}{args:V}{bl2:List Blk}{T:Tree (V×List Blk)}(hT:evH E k g args bl=T){r:Bool}(hr:T.yes=r)(hl:T.leaves (λy=>y.1.sof=.bool za y.1.toBool/\y.2.map Blk.sof=bl2.map Blk.sof))(hp:T.pre):YG E.P g args bl (.leaf (.bool za r,bl2)):=
 hk_at hE k λQ hQ=>by rw[hT];exact Tree.yes_holds T hr hp hl hQ
end Go.Fw
namespace Go.Fw
def Tree.valOf:Tree V->V
 | .leaf v=>v
 | .node b t f=>bif b then t.valOf else f.valOf
 | .need _ t=>t.valOf
 |_=>.junk
def Yr:V->V->V
 | .int _ k _,v=>.int za k v.toInt
 | .bool _ _,v=>.bool za v.toBool
 | .agg p,v=>.agg (Yr p v.inner)
 | .tup p,v=>.tup (Yr p v.inner)
 | .cons p q,v=>.cons (Yr p v.hd) (Yr q v.tl)
 | .rsl _ es _ pg,v=>.rsl za es v.Zy λj=>Yr (pg 0) (v.ZB j)
 |_,_=>.nil
def FitR:V->V->Prop
 | .rsl _ es _ pg,v=>match v with
  | .Zl=>True
  | .rsl _ es' n g=>es=es'/\∀j,j<n->(g j).soft=Yr (pg 0) (g j)
  |_=>False
 | .agg p,v=>match v with| .agg c=>FitR p c|_=>False
 | .tup p,v=>match v with| .tup c=>FitR p c|_=>False
 | .cons p q,v=>match v with| .cons a b=>FitR p a/\FitR q b|_=>False
 | .nil,v=>match v with| .nil=>True|_=>False
 |p,v=>v.soft=Yr p v
variable{F:Nat->Prop}{n:Nat}
theorem FitR_R{w:World}{m:Nat->Option Nat}:∀(p v:V),FitR p v->(∀x,R F w v n m x->R F w (Yr p v) n m x)/\(∀xs,RL F w v n m xs->RL F w (Yr p v) n m xs):=by
 have sf:∀p v:V,v.soft=Yr p v->(∀x,R F w v n m x->R F w (Yr p v) n m x)/\(∀xs,RL F w v n m xs->RL F w (Yr p v) n m xs):=λp v h=>by
  rw[<- h]
  exact⟨λx hx=>((Y0 v n m).1 x).2 hx,λxs hx=>((Y0 v n m).2 xs).2 hx⟩
 intro p
 induction p with
 |agg p ih=>
  intro v h
  cases v<;>try exact h.elim
  rename_i cs
  refine⟨λx hx=>?_,λxs hx=>by simp only[RL]at hx⟩
  simp only[Yr,V.inner,R]at hx⊢
  obtain⟨xs,e,h1⟩:=hx
  exact⟨xs,e,(ih cs h).2 _ h1⟩
 |tup p ih=>
  intro v h
  cases v<;>try exact h.elim
  rename_i cs
  refine⟨λx hx=>?_,λxs hx=>by simp only[RL]at hx⟩
  simp only[Yr,V.inner,R]at hx⊢
  obtain⟨xs,e,h1⟩:=hx
  exact⟨xs,e,(ih cs h).2 _ h1⟩
 |cons p q ih1 ih2=>
  intro v h
  cases v<;>try exact h.elim
  rename_i a b
  refine⟨λx hx=>by simp only[R]at hx,λxs hx=>?_⟩
  simp only[Yr,V.hd,V.tl,RL]at hx⊢
  obtain⟨x,r,e,h1,h2⟩:=hx
  exact⟨x,r,e,(ih1 a h.1).1 _ h1,(ih2 b h.2).2 _ h2⟩
 |nil=>
  intro v h
  cases v<;>try exact h.elim
  exact⟨λx hx=>by simp only[R]at hx,λxs hx=>by simp only[Yr,RL]at hx⊢;exact hx⟩
 |rsl st es k g ih=>
  intro v h
  cases v<;>try exact h.elim
  ·rename_i st' es' k' g'
   obtain⟨rfl,hg⟩:=h
   refine⟨λx hx=>?_,λxs hx=>by simp only[RL]at hx⟩
   show R F w (.rsl za _ k' λj=>Yr (g 0) (g' j)) n m x
   rw[Wi]at hx⊢
   obtain⟨a,cap,rfl,hk,hr⟩:=hx
   refine⟨a,cap,rfl,hk,hr.imp id λ⟨B,off,ha,hB,c,el,fr,hc,hrr⟩=>⟨B,off,ha,hB,c,el,fr,hc,λj hj=>?_⟩⟩
   obtain⟨xs,h1,h2⟩:=hrr j hj
   exact⟨xs,by show RL F w (Yr (g 0) (g' j)) 0 (λ_=>zm) xs;rw[<- hg j hj];exact((Y0 (g' j) 0 _).2 xs).2 h1,h2⟩
  ·exact⟨λx hx=>U4 hx,λxs hx=>by simp only[RL]at hx⟩
 |_=>intro v h;exact sf _ v h
theorem Tree.holds_val{P:Program}{Q:V->Prop}:∀T:Tree V,T.pre->Q T.valOf->T.holds P Q:=by
 intro T
 induction T with
 |leaf v=>intro _ h;exact h
 |node b t f iht ihf=>
  intro hp h
  refine⟨λhb=>iht (hp.1 hb) ?_,λhb=>ihf (hp.2 hb) ?_⟩
  ·rw[show(zD b t f).valOf=bif b then t.valOf else f.valOf from rfl,hb]at h;exact h
  ·rw[show(zD b t f).valOf=bif b then t.valOf else f.valOf from rfl,hb]at h;exact h
 |need p t ih=>intro hp h;exact⟨hp.1,ih hp.2 h⟩
 |_=>intro hp;exact hp.elim
def Tree.Xe(p:V):Tree V->Prop
 | .leaf v=>v.clean=ze/\FitR p v
 | .node _ t f=>t.Xe p/\f.Xe p
 | .need _ t=>t.Xe p
 |_=>False
theorem Tree.fitV_val{p:V}:∀T:Tree V,T.Xe p->T.valOf.clean=ze/\FitR p T.valOf:=by
 intro T
 induction T with
 |leaf v=>exact λh=>h
 |node b t f iht ihf=>intro h;show(bif b then t.valOf else f.valOf).clean=ze/\FitR p (bif b then t.valOf else f.valOf);cases b;exact ihf h.2;exact iht h.1
 |need q t ih=>exact λh=>ih h
 |_=>exact λh=>h.elim
variable{E:Env}{g:FuncId}
theorem Wy(hE:E.Ok){args:V}{T:Tree V}(p:V)(hhas:Has E.P g)(hT:ZU E 400 g args=T)(hp:T.pre)(hf:T.Xe p):Zi E.P g args (Yr p T.valOf):=by
 refine ZgB hE (k:=400) hhas ?_
 rw[hT]
 have h:=Tree.fitV_val T hf
 exact Tree.holds_val T hp λF w n m x hx=>(FitR_R p _ h.2).1 x ((Qf _ h.1 n 0 m _).1 x hx)
theorem cP{c:Bool}{a b:V}{p:V->Prop}(ha:c=ze->p a)(hb:c=za->p b):p (bif c then a else b):=by
 cases c
 ·exact hb rfl
 ·exact ha rfl
theorem notB{c:Bool}{p:Prop}(h:c=ze↔p):c=za↔¬p:=by rw[<- h];cases c<;>simp
variable{a b:Nat}
theorem Wj:Nat.blt a b=za↔¬a<b:=notB XQ
theorem Ws:zK a b=ze↔a<=b:=by rw[Nat.ble_eq]
theorem WE:zK a b=za↔¬a<=b:=notB Ws
theorem WC:zo a b=za↔¬a=b:=notB Wq
def V.ZF:V->Nat->V
 | .rptr _ _ _ g _ _=>g
 |_=>λ_=>.junk
def V.rptrN:V->Nat
 | .rptr _ _ n _ _ _=>n
 |_=>0
def V.rptrI:V->Nat
 | .rptr _ _ _ _ i _=>i
 |_=>0
def V.Xk:V->V
 | .fn _ _ c=>c
 |_=>.nil
variable{f:Nat->Bool}
theorem Zeu(h:Zv f n=ze):∃k,k<n/\f k=ze:=Classical.byContradiction λh2=>by
 rw[Zcj λk hk=>by cases e:f k;rfl;exact absurd ⟨k,hk,e⟩ h2]at h
 cases h
theorem least:∀k,f k=ze->∃i,i<=k/\f i=ze/\∀j,j<i->f j=za:=by
 intro k
 induction k using Nat.strongRecOn with
 |_ k ih=>
  intro h
  by_cases h2:∃j,j<k/\f j=ze
  ·obtain⟨j,hj,hf⟩:=h2
   obtain⟨i,h1,h3⟩:=ih j hj hf
   exact⟨i,by omega,h3⟩
  ·exact⟨k,zJ _,h,λj hj=>by cases e:f j;rfl;exact absurd ⟨j,hj,e⟩ h2⟩
theorem ZfY(h:Zv f n=ze):Yc f n 0<n/\f (Yc f n 0)=ze/\∀j,j<Yc f n 0->f j=za:=by
 obtain⟨k,hk,hf⟩:=Zeu h
 obtain⟨i,h1,h2,h3⟩:=least k hf
 rw[ZfX (n:=n) (i:=i) (by omega) h3 h2]
 exact⟨by omega,h2,h3⟩
theorem ZcZ(h:Zv f n=ze):Yc f n 0<n:=(ZfY h).1
def sR:V->V->Prop
 | .cons h t,.cons h' t'=>sR h h'/\sR t t'
 | .rptr _ es n g i o,.rptr _ es' n' g' i' o'=>es=es'/\n=n'/\i=i'/\o=o'/\∀j,sR (g j) (g' j)
 | .fn f a b,.fn f' a' b'=>f=f'/\sR a a'/\sR b b'
 | .Zl,.rsl _ _ n _=>n=0
 |v,v'=>v.soft=v'.soft
theorem QZ:∀v:V,sR v v:=by
 intro v
 induction v with
 |cons h t ih1 ih2=>exact⟨ih1,ih2⟩
 |rptr st es n g i o ih=>exact⟨rfl,rfl,rfl,rfl,ih⟩
 |fn f a b ih1 ih2=>exact⟨rfl,ih1,ih2⟩
 |_=>exact rfl
theorem sR_R{w:World}:∀(v v':V),sR v v'->∀(n:Nat)(m:Nat->Option Nat),(∀x,R F w v n m x->R F w v' n m x)/\(∀xs,RL F w v n m xs->RL F w v' n m xs):=by
 have sf:∀v v':V,v.soft=v'.soft->∀(n:Nat)(m:Nat->Option Nat),(∀x,R F w v n m x->R F w v' n m x)/\(∀xs,RL F w v n m xs->RL F w v' n m xs):=λv v' h n m=>
  ⟨λx hx=>((Y0 v' n m).1 x).1 (h▸((Y0 v n m).1 x).2 hx),λxs hx=>((Y0 v' n m).2 xs).1 (h▸((Y0 v n m).2 xs).2 hx)⟩
 intro v
 induction v with
 |cons h t ih1 ih2=>
  intro v' hs n m
  cases v'<;>try exact sf _ _ hs n m
  refine⟨λx hx=>by simp only[R]at hx,λxs hx=>?_⟩
  simp only[RL]at hx⊢
  obtain⟨x,r,rfl,h1,h2⟩:=hx
  exact⟨x,r,rfl,(ih1 _ hs.1 n m).1 _ h1,(ih2 _ hs.2 n m).2 _ h2⟩
 |rptr st es k g i o ih=>
  intro v' hs n m
  cases v'<;>try exact sf _ _ hs n m
  obtain⟨rfl,rfl,rfl,rfl,hg⟩:=hs
  refine⟨λx hx=>?_,λxs hx=>by simp only[RL]at hx⟩
  simp only[R]at hx⊢
  obtain⟨hi,B,off,rfl,hB,c,el,fr,hc,hr⟩:=hx
  refine⟨hi,B,off,rfl,hB,c,el,fr,hc,λj hj=>?_⟩
  obtain⟨xs,h1,h2,h3⟩:=hr j hj
  exact⟨xs,(ih j _ (hg j) 0 _).2 _ h1,h2,h3⟩
 |fn f a b ih1 ih2=>
  intro v' hs n m
  cases v'<;>try exact sf _ _ hs n m
  obtain⟨rfl,ha,hb⟩:=hs
  refine⟨λx hx=>?_,λxs hx=>by simp only[RL]at hx⟩
  simp only[R]at hx⊢
  obtain⟨xs,ys,rfl,h1,h2⟩:=hx
  exact⟨xs,ys,rfl,(ih1 _ ha n m).2 _ h1,(ih2 _ hb n m).2 _ h2⟩
 |Zl=>
  intro v' hs n m
  cases v'<;>try exact sf _ _ hs n m
  obtain rfl:=hs
  exact⟨λx hx=>U4 hx,λxs hx=>by simp only[RL]at hx⟩
 |_=>intro v' hs n m;exact sf _ _ hs n m
def conS(g:FuncId)(arg res:V->V)(pre:V->Prop):Con:=
 { g,al:=ze,ans:=λx=>bif x.known then zm else some (.where_ (sR x (arg x)/\pre x) (res x)) }
theorem Gv{P:Program}{arg res:V->V}{pre:V->Prop}(h:∀x,pre x->Zi P g (arg x) (res x)):(conS g arg res pre).Ok P:=by
 intro x
 show match(bif x.known then zm else some (Ans.where_ (sR x (arg x)/\pre x) (res x)))with
  |some (.sure v)=>Zi P g x v
  |some (.where_ p v)=>p->Zi P g x v
  |some (.fork b v v')=>(b=ze->Zi P g x v)/\(b=za->Zi P g x v')
  |none=>True
 cases x.known with
 |true=>trivial
 |false=>exact λhp=>⟨(h x hp.2).1,λF w xs hfd hgl ha=>(h x hp.2).2 F w xs hfd hgl ((sR_R x _ hp.1 0 _).2 _ ha)⟩
variable{n0:Nat}
theorem sEq_refl:∀v:V,sEq n0 v v:=by
 intro v
 induction v with
 |cons h t ih1 ih2=>exact⟨ih1,ih2⟩
 |_=>rfl
theorem vEq_refl(v:V):vEq n0 v v:=by
 unfold vEq
 split
 ·exact sEq_refl _
 ·rfl
theorem Ze0{KR:List Nat}(c:V):blkEq n0 KR (.var c) (.var c):=by
 show vEq n0 c c
 exact vEq_refl c
theorem ZaE{A:Type}{c:A->V}{r:Nat->A}{k:Nat}(j:Nat):(bif zo j k then c (r k)else c (r j))=c (r j):=by
 cases h:zo j k
 ·rfl
 ·rw[zP h];rfl
def Tree.bare{α:Type}:Tree α->Tree α
 | .leaf a=>.leaf a
 | .node b t f=>.node b t.bare f.bare
 | .need _ t=>t.bare
 |t=>t
theorem Tree.ZnH{α:Type}{P:Program}{Q:α->Prop}:∀T:Tree α,T.pre->T.bare.holds P Q->T.holds P Q:=by
 intro T
 induction T with
 |leaf a=>exact λ_ h=>h
 |node b t f iht ihf=>exact λhp h=>⟨λhb=>iht (hp.1 hb) (h.1 hb),λhb=>ihf (hp.2 hb) (h.2 hb)⟩
 |need p t ih=>exact λhp h=>⟨hp.1,ih hp.2 h⟩
 |_=>exact λhp=>hp.elim
variable{T:Tree (V×List Blk)}{bl:List Blk}
theorem Zga(hE:E.Ok){args:V}(hT:evH E 400 g args bl=T)(hp:T.pre):YG E.P g args bl T.bare:=
 hk_at hE 400 λQ hQ=>by rw[hT];exact Tree.XT T (λr hr=>⟨r,hr,rfl,rfl⟩) (Tree.ZnH T hp hQ)
def hkBl:List Blk->List Blk->Prop
 |[],[]=>True
 | .var c::l,.var c'::l'=>sR c c'/\hkBl l l'
 | .arr es n g::l,.arr es' n' g'::l'=>es=es'/\n=n'/\(∀j,(g j).soft=(g' j).soft)/\hkBl l l'
 |_,_=>False
def hkEq(args:V)(bl:List Blk)(args':V)(bl':List Blk):Prop:=sR args args'/\hkBl bl bl'
theorem sR_le{v v':V}(h:sR v v'):Le n0 v v':=λF w m=>sR_R v v' h n0 m
theorem hkBl_le:∀{bl bl':List Blk},hkBl bl bl'->bl.length=bl'.length/\∀n0 b,LeK n0 (bl.getD b .none) (bl'.getD b .none):=by
 intro bl
 induction bl with
 |nil=>intro bl' h;cases bl' with|nil=>exact⟨rfl,λ_ _=>LeK.refl _⟩|cons=>exact h.elim
 |cons x l ih=>
  intro bl' h
  cases bl' with
  |nil=>cases x<;>exact h.elim
  |cons y l'=>
   cases x<;>cases y<;>try exact h.elim
   ·obtain⟨h1,h2⟩:=h
    obtain⟨e,h3⟩:=ih h2
    refine⟨by simp[e],λn0 b=>?_⟩
    cases b with
    |zero=>exact LeK.var (sR_le h1)
    |succ b=>exact h3 n0 b
   ·obtain⟨rfl,rfl,h1,h2⟩:=h
    obtain⟨e,h3⟩:=ih h2
    refine⟨by simp[e],λn0 b=>?_⟩
    cases b with
    |zero=>exact LeK.QL rfl λj _=>h1 j
    |succ b=>exact h3 n0 b
theorem YG.eq{P:Program}{args args':V}{bl':List Blk}(H:YG P g args' bl' T)(h:hkEq args bl args' bl'):YG P g args bl T:=by
 obtain⟨e,hl⟩:=hkBl_le h.2
 refine YG.le (bl0:=bl') (λbase m F w xs Q KK hr ha hq hk=>H base m F w xs Q KK hr ((sR_R args args' h.1 _ m).2 _ ha) hq hk) e λb=>hl _ b
theorem Zgb{P:Program}{args:V}{p:Prop}(h:p->YG P g args bl T)(base:Nat)(m:Nat->Option Nat)(F:Nat->Prop)(w:World)(xs:Array Value)(Q:V×List Blk->Prop)(KK:Ending->World->Prop)
  (hr:HR base m F (λb=>bl.getD b .none) bl.length w)(ha:RL F w args bl.length m xs.toList)(hq:(zw p T).holds P Q)(hk:∀v bl',Q (v,bl')->∀m' F' w' x,Ext base m F bl.length w m' F' bl'.length w'->HR base m' F' (λb=>bl'.getD b .none) bl'.length w'->R F' w' v bl'.length m' x->KK (.returned x) w'):Has P g/\Calls P g xs w KK:=
 h hq.1 base m F w xs Q KK hr ha hq.2 hk
def WV:List (FuncId×Nat×Bool)->FuncId->Nat->Option Bool
 |[],_,_=>zm
 |(f,t,w)::l,g,u=>bif zo f g&&zo t u then some w else WV l g u
theorem Env.Ok.ZbY(hE:E.Ok)(wy:FuncId->Nat->Option Bool):Env.Ok { E with way:=wy }:=⟨hE.mixed,hE.named,hE.sure,hE.where_,hE.fork,hE.lp,hE.hk⟩
end Go.Fw
namespace Go.Proofs.YthhbdbeglmkijaaGreatDoor
open Go.Fw
structure Zc where mk::
 (n0:Nat) (r0:Nat->DT3)
def Qz(st:Bool)(d:Zc):V:=(.cons (.rsl st 1 d.n0 λj=>ZP st (d.r0 j)) .nil)
def Ux(v:V):Zc:=⟨v.hd.Zy,λj=>ZM (v.hd.ZB j)⟩
def patDT119:V:=(.cons (.rsl ze 1 0 λ_=>patDT3) .nil)
abbrev S4:Type:=(Int->Bool)×(Int->Bool)×(Int->Bool)×(Int->Int)
def QX(z:S4)(c:Int):S4:=(λj=>bif j==c then ze else z.1 j,λj=>bif j==c then ze else z.2.1 j,λj=>z.2.2.1 j,λj=>z.2.2.2 j)
def K3(z:S4)(c:Int):Int:=bif z.2.2.1 c then z.2.2.2 c else 0
abbrev askB(z:S4):Blk:=.Zm (.int .i64) za (λx=>(z.1 (Zb x),.bool za (z.2.1 (Zb x)))) zm
abbrev hasB(z:S4):Blk:=.Zm (.int .i64) za (λx=>(z.2.2.1 (Zb x),.int za .i64 (z.2.2.2 (Zb x)))) zm
abbrev rowsB(m:Nat)(r:Nat->Zc):Blk:=.var (.cons (.rsl za 1 m λj=>Qz za (r j)) .nil)
abbrev capB:Blk:=.var (.cons (.fn (.func 167) .nil (.cons (.ptr ze 1 0 0 0) (.cons (.ptr ze 2 0 0 0) (.cons (.ptr ze 3 0 0 0) .nil)))) .nil)
abbrev Zbi(m:Nat)(r:Nat->Zc)(z:S4):List Blk:=[askB z,rowsB m r,.var (.cons (.mp 4) .nil),capB,hasB z]
abbrev Zlr(i:Int):V:=.cons (.int za .i64 i) (.cons (.mp 0) (.cons (.ptr ze 1 0 0 0) (.cons (.ptr ze 2 0 0 0) (.cons (.ptr ze 3 0 0 0) .nil))))
def Kv(m:Nat)(r:Nat->Zc)(G:Int->S4->Bool×S4)(Pr:Int->S4->Prop):HK:=λargs bl=>match args,bl with
 | .cons (.int za .i64 i) (.cons (.mp 0) (.cons (.ptr ze 1 0 0 0) (.cons (.ptr ze 2 0 0 0) (.cons (.ptr ze 3 0 0 0) .nil)))),[.Zm (.int .i64) _ fa _,.var (.cons (.rsl za 1 m' fr) .nil),.var (.cons (.mp 4) .nil),.var (.cons (.fn (.func 167) .nil (.cons (.ptr ze 1 0 0 0) (.cons (.ptr ze 2 0 0 0) (.cons (.ptr ze 3 0 0 0) .nil)))) .nil),.Zm (.int .i64) _ fh _]=>
  some (.need (m=m'/\(λj=>Qz za (r j))=fr/\YR .i64 (λx=>((fa (.int .i64 (Zb x))).1,.bool za (fa (.int .i64 (Zb x))).2.toBool)) fa/\YR .i64 (λx=>((fh (.int .i64 (Zb x))).1,.int za .i64 (fh (.int .i64 (Zb x))).2.toInt)) fh/\Pr i (λj=>(fa (.int .i64 j)).1,λj=>(fa (.int .i64 j)).2.toBool,λj=>(fh (.int .i64 j)).1,λj=>(fh (.int .i64 j)).2.toInt))
   (.leaf (.bool za (G i (λj=>(fa (.int .i64 j)).1,λj=>(fa (.int .i64 j)).2.toBool,λj=>(fh (.int .i64 j)).1,λj=>(fh (.int .i64 j)).2.toInt)).1,Zbi m r (G i (λj=>(fa (.int .i64 j)).1,λj=>(fa (.int .i64 j)).2.toBool,λj=>(fh (.int .i64 j)).1,λj=>(fh (.int .i64 j)).2.toInt)).2)))
 |_,_=>zm
def chV(d:Za)(gn:Nat)(gr:Nat->DT3)(sa:Int)(p:Zg)(gu:Ze)(ga:Zd):V:=(.cons (.int za .i64 d.f0) (.cons (.rsl za 2 d.n1 λj=>ZR za (d.r1 j)) (.cons (.rsl za 1 p.n0 λj=>ZL za (p.r0 j)) (.cons (.rsl za 4 gu.n0 λj=>Zr za (gu.r0 j)) (.cons (.rsl za 4 gu.n1 λj=>Zn za (gu.r1 j)) (.cons (.rsl za 2 ga.n0 λj=>Zw za (ga.r0 j)) (.cons (.rsl za 11 d.n6 λj=>Zo za (d.r6 j)) (.cons (.rsl za 2 d.n7 λj=>ZO za (d.r7 j)) (.cons (.rsl za 5 d.n8 λj=>ZI za (d.r8 j)) (.cons (.int za .i64 d.f9) (.cons (.rsl za 2 d.n10 λj=>ZE za (d.r10 j)) (.cons (.rsl za 3 d.n11 λj=>Zx za (d.r11 j)) (.cons (.rsl za 2 d.n12 λj=>Zt za (d.r12 j)) (.cons (.int za .u64 d.f13) (.cons (.rsl za 1 gn λj=>ZP za (gr j)) (.cons (.int za .i64 sa) .nil))))))))))))))))
abbrev Zb4(n:Nat)(r:Nat->Z6)(y:ZJ)(i:Int)(z:Unit):V:=(.cons (.rsl za 4 n (λjj=>zf (zn za zq (Z6.f0 (r jj))) (zf (zn za zq (Z6.f1 (r jj))) (zf (zn za zq (Z6.f2 (r jj))) (zf (zn za zq (Z6.f3 (r jj))) zh))))) (.cons (.fn (Fn.func (221:FuncId)) .nil (.cons (.rptr za (4:Nat) (1:Nat) (λjj=>.cons (.int za zq (ZJ.f0 y)) (.cons (.int za zq (ZJ.f1 y)) (.cons (.int za yC (ZJ.f2 y)) (.cons (.int za yC (ZJ.f3 y)) .nil)))) (0:Nat) (0:Nat)) .nil)) (.cons (.int ze .i64 0) (.cons (.int za .i64 ((n:Nat):Int)) (.cons (.int za .i64 i) .nil)))))
abbrev Zb5(n:Nat)(r:Nat->Z6)(y:ZJ)(i:Int)(z:Unit):List Blk:=[]
def LixDom_R(n:Nat)(r:Nat->Z6)(y:ZJ)(i:Int)(z:Unit):Tree Rd:=
 let q0:=(V.fn (Fn.func (221:FuncId)) zh (zf (V.rptr za (4:Nat) (1:Nat) (λjj=>Zn za y) (0:Nat) (0:Nat)) zh))
 let q1:=(zl za 4 n λjj=>Zr za (r jj))
 zw ((0:Int)<=i/\i<(n:Int)) (zD (bif bif (r (zi i)).f0==y.f1 then ze else za then ze else za) (zx (Ex.ret,ze,zf q1 (zf q0 (ci i (ci (n:Int) (ci i zh)))),[])) (zx (Ex.normal,ze,zf q1 (zf q0 (zf (zn ze .i64 (0:Int)) (ci (n:Int) (ci (zy .i64 (i+(1:Int))) zh)))),[])))
theorem Zm8(n:Nat)(r:Nat->Z6)(y:ZJ):Yo P (Zp P [] [] ze) 206 2 0 0 19 [0,1,4,7,8] [] [] (Zb4 n r y) (Zb5 n r y) (λi=>(bif decide (i<(n:Int))then za else ze)) (.exit 0) (LixDom_R n r y):=λB i z=>by kernel_rfl
def J8(n:Nat)(r:Nat->Z6)(y:ZJ)(k:Nat):Bool:=(λ(i:Int)(z:Unit)=>(bif bif bif (r (zi i)).f0==y.f1 then ze else za then ze else za then ze else za)) k ()
abbrev Zm5(n:Nat)(r:Nat->Z6)(y:ZJ)(i:Int)(z:Unit):V:=(.cons (zl za 4 n λjj=>Zr za (r jj)) (.cons (V.fn (Fn.func (221:FuncId)) zh (zf (V.rptr za (4:Nat) (1:Nat) (λjj=>Zn za y) (0:Nat) (0:Nat)) zh)) (.cons (zn za .i64 i) (.cons (zn za .i64 (n:Int)) (.cons .junk .nil)))))
def Zed(n:Nat)(r:Nat->Z6)(y:ZJ):Lp:=lpL 206 2 0 0 19 [0,1,4,7,8] [] [] (Zb4 n r y) (Zb5 n r y) (.exit 0) .ret () (λ_=>()) (J8 n r y) (n) (Zm5 n r y) (Zb5 n r y)
def ZjQ(n:Nat)(r:Nat->Z6)(y:ZJ):Prop:=YW 0 [] (Zb4 n r y) (Zb5 n r y) () (Zb4 n r y (0:Nat) ()) (Zb5 n r y (0:Nat) ())
theorem Zm6(n:Nat)(r:Nat->Z6)(y:ZJ):ZjQ n r y:=⟨rfl,trivial⟩
theorem Zm7(n:Nat)(r:Nat->Z6)(y:ZJ)(hl:n<=1000):(Zed n r y).Ok P:=by
 refine Xg (ZC hm hn (l:=[]) trivial (ls:=[]) trivial ze) rfl (by kernel_rfl) (Zm8 n r y) exN YK (λ_=>rfl) (step:=λ_ z=>z) (rd:=(λ_ t y=>())) (λi z=>rfl) (λi=>(cC rfl rfl)) rfl (λi hlt hg=>?_) (λi z hi=>?_)
 ·have hltI:(i:Int)<((n:Nat):Int):=by omega
  refine⟨?_,⟨λhb0=>trivial,λhb0=>trivial⟩⟩
  all_goals(repeat'(first|exact rfl|exact λ_=>⟨rfl,rfl⟩|apply zB|intro _))
  all_goals(try simp only[decide_eq_true_eq,decide_eq_false_iff_not,yj,yu]at*)
  all_goals(try simp(disch:=omega) only[IntWalk.i64_in])
  all_goals(first|omega)
 ·have hw:=(IntWalk.i64_in ((i:Int)+1) ⟨by omega,by omega⟩)
  refine⟨?_,?_⟩
  all_goals(first|exact⟨rfl,YL (ts:=Zb4 n r y) (a:=()) hw rfl,Yg _⟩|exact⟨rfl,rfl,(by repeat'(first|exact Le.refl _|exact Le.junk _ rfl|apply Le.cons)),Yg _⟩)
def ZiU(y:ZJ)(an:Nat)(a:Nat->Z6):Tree V:=
 zw (ZjQ an a y) (zD (bif Zv (J8 an a y) an then ze else za) (zx (vi ((Yc (J8 an a y) an (0:Nat):Nat):Int))) (zx (zn ze .i64 (-1:Int))))
theorem Zp6(y:ZJ)(an:Nat)(a:Nat->Z6):ZU (Zp P [] [Zed an a y] ze) 400 206 (.cons (.rsl za 4 an λj=>Zr za (a j)) (.cons (.fn (.func 221) .nil (.cons (.rptr za 4 1 (λ_=>Zn za y) 0 0) .nil)) .nil))=ZiU y an a:=by kernel_rfl
def VQ(y:ZJ)(an:Nat)(a:Nat->Z6):Int:=(ZiU y an a).valOf.toInt
theorem Zp5(y:ZJ)(an:Nat)(a:Nat->Z6)(h0:an<=1000):Zi P 206 (.cons (.rsl za 4 an λj=>Zr za (a j)) (.cons (.fn (.func 221) .nil (.cons (.rptr za 4 1 (λ_=>Zn za y) 0 0) .nil)) .nil)) (.int za .i64 (VQ y an a)):=by
 refine Wy (E:=(Zp P [] [Zed an a y] ze)) (ZC hm hn (l:=[]) trivial (ls:=[Zed an a y]) ⟨Zm7 an a y h0,trivial⟩ ze) (.int za .i64 0) (Has.of hn Tryz.func206 rfl) (Zp6 y an a) ?_ ?_
 ·refine⟨?_,⟨λhb0=>trivial,λhb0=>trivial⟩⟩
  all_goals(first|exact Zm6 an a y|((repeat'(first|exact rfl|exact λ_=>⟨rfl,rfl⟩|apply zB|intro _));all_goals(try simp only[decide_eq_true_eq,decide_eq_false_iff_not]at*);all_goals(first|omega|(simp at*;omega))))
 ·refine⟨⟨rfl,?_⟩,⟨rfl,?_⟩⟩
  all_goals((repeat'(first|exact rfl|exact trivial|apply zB|intro _|(refine cP (p:=λv=>yg v=Yr _ v) (λhc=>?_) (λhc=>?_))));all_goals(exfalso;simp only[XQ,Wj,Ws,WE,Wq,WC,zM,yF]at*;omega))
def c_ixDomA(r0:ZJ->Nat->(Nat->Z6)->Int):Con:=Yh 206 (λx=>(.cons (.rsl za 4 x.hd.Zy λj=>Zr za ((λj=>YT (x.hd.ZB j)) j)) (.cons (.fn (.func 221) .nil (.cons (.rptr za 4 1 (λ_=>Zn za (Yk (x.tl.hd.Xk.hd.ZF 0))) 0 0) .nil)) .nil))) (λx=>(.int za .i64 (r0 (Yk (x.tl.hd.Xk.hd.ZF 0)) x.hd.Zy (λj=>YT (x.hd.ZB j))))) (λx=>(λ(y:ZJ)(an:Nat)(a:Nat->Z6)=>an<=1000) (Yk (x.tl.hd.Xk.hd.ZF 0)) x.hd.Zy (λj=>YT (x.hd.ZB j)))
abbrev Gi:Con:=c_ixDomA VQ
theorem Zki:Gi.Ok P:=Yi (λx h=>Zp5 _ _ _ h)
abbrev rd_ts(an:Nat)(a:Nat->Z6)(i:Int)(z:Unit):V:=(.cons (.rsl za 4 an (λjj=>zf (zn za zq (Z6.f0 (a jj))) (zf (zn za zq (Z6.f1 (a jj))) (zf (zn za zq (Z6.f2 (a jj))) (zf (zn za zq (Z6.f3 (a jj))) zh))))) (.cons (.fn (Fn.func (91:FuncId)) .nil .nil) (.cons (.bool ze za) (.cons (.int za .i64 (i+1)) .nil))))
abbrev rd_ys(an:Nat)(a:Nat->Z6)(i:Int)(z:Unit):List Blk:=[]
def rd_R(an:Nat)(a:Nat->Z6)(i:Int)(z:Unit):Tree Rd:=
 let q0:=(zl za 4 an λjj=>Zr za (a jj))
 let q1:=(i+(1:Int)-(1:Int))
 zw (((0:Int)<=zy .i64 q1/\zy .i64 q1<(an:Int))/\(0:Int)<=i+(1:Int)/\i+(1:Int)<(an:Int)) (zD (bif bif decide ((a (zi (zy .i64 q1))).f0>=(a (zi (i+(1:Int)))).f0)then ze else za then ze else za) (zx (Ex.ret,ze,zf q0 (zf (V.fn (Fn.func (91:FuncId)) zh zh) (zf (zC ze za) (ci (i+(1:Int)) zh))),[])) (zx (Ex.normal,ze,zf q0 (zf (V.fn (Fn.func (91:FuncId)) zh zh) (zf (zC ze za) (ci (zy .i64 (i+(1:Int)+(1:Int))) zh))),[])))
theorem rd_round(an:Nat)(a:Nat->Z6):Yo P (Zp P [] [] ze) 90 2 0 0 26 [0,1,4,5] [] [] (rd_ts an a) (rd_ys an a) (λi=>(bif decide (i+(1:Int)<(an:Int))then za else ze)) (.exit 0) (rd_R an a):=λB i z=>by kernel_rfl
def Zg3(an:Nat)(a:Nat->Z6)(k:Nat):Bool:=(rd_R an a k ()).early
abbrev rd_ets(an:Nat)(a:Nat->Z6)(i:Int)(z:Unit):V:=(.cons (zl za 4 an λjj=>Zr za (a jj)) (.cons (V.fn (Fn.func (91:FuncId)) zh zh) (.cons (zC ze za) (.cons .junk .nil))))
def rd_lp(an:Nat)(a:Nat->Z6):Lp:=lpL 90 2 0 0 26 [0,1,4,5] [] [] (rd_ts an a) (rd_ys an a) (.exit 0) .ret () (λ_=>()) (Zg3 an a) (an-1) (rd_ets an a) (rd_ys an a)
def rd_need(an:Nat)(a:Nat->Z6):Prop:=YW 0 [] (rd_ts an a) (rd_ys an a) () (rd_ts an a (0:Nat) ()) (rd_ys an a (0:Nat) ())
theorem rd_fit(an:Nat)(a:Nat->Z6):rd_need an a:=⟨rfl,trivial⟩
theorem rd_lp_ok(an:Nat)(a:Nat->Z6)(hl:an<=1000):(rd_lp an a).Ok P:=by
 refine Xg (ZC hm hn (l:=[]) trivial (ls:=[]) trivial ze) rfl (by kernel_rfl) (rd_round an a) exN (hcBy (q:=λi:Int=>(i:Int)+1<((an:Nat):Int)) λi hi=>⟨λh=>(by have h2:(i:Int)+1<((an:Nat):Int):=h;omega),λ_=>(by show(i:Int)+1<((an:Nat):Int);omega)⟩) (λ_=>rfl) (step:=λ_ z=>z) (rd:=(λ_ t y=>())) (λi z=>rfl) (λi=>rfl) rfl (λi hlt hg=>?_) (λi z hi=>?_)
 ·have hltI:(i:Int)+1<((an:Nat):Int):=by omega
  refine⟨?_,⟨λhb0=>trivial,λhb0=>trivial⟩⟩
  all_goals(repeat'(first|exact rfl|exact λ_=>⟨rfl,rfl⟩|apply zB|intro _))
  all_goals(try simp only[decide_eq_true_eq,decide_eq_false_iff_not,yj,yu]at*)
  all_goals(try simp(disch:=omega) only[IntWalk.i64_in])
  all_goals(first|omega)
 ·have hw:=(IntWalk.i64_in (((i:Int)+1)+1) ⟨by omega,by omega⟩)
  refine⟨?_,?_⟩
  all_goals(first|(rw[hw];exact⟨rfl,Le.soft rfl,Yg _⟩)|exact⟨rfl,rfl,(by repeat'(first|exact Le.refl _|exact Le.junk _ rfl|apply Le.cons)),Yg _⟩)
def dRisD_T(an:Nat)(a:Nat->Z6):Tree V:=
 zw (rd_need an a) (zD (bif Zv (Zg3 an a) (an-(1:Nat))then ze else za) (zx (zC ze za)) (zx (zC ze ze)))
theorem ZoV(an:Nat)(a:Nat->Z6):ZU (Zp P [] [rd_lp an a] ze) 400 90 (.cons (.rsl za 4 an λj=>Zr za (a j)) (.cons (.fn (.func 91) .nil .nil) .nil))=dRisD_T an a:=by kernel_rfl
def Za1(an:Nat)(a:Nat->Z6):Bool:=
  (bif bif Zv (Zg3 an a) (an-(1:Nat))then ze else za then za else ze)
theorem ZoU(an:Nat)(a:Nat->Z6)(h0:an<=1000):Zi P 90 (.cons (.rsl za 4 an λj=>Zr za (a j)) (.cons (.fn (.func 91) .nil .nil) .nil)) (.bool za (Za1 an a)):=
 Xp (ZC hm hn (l:=[]) trivial (ls:=[rd_lp an a]) ⟨rd_lp_ok an a h0,trivial⟩ ze) 400 (Has.of hn Tryz.func90 rfl) (ZoV an a) (Tree.Pre.mk (by refine⟨?_,⟨λ_=>trivial,λ_=>trivial⟩⟩;all_goals(first|exact rd_fit an a|(repeat'(first|exact rfl|apply zB))))) (by kernel_rfl) (by kernel_rfl)
def Gf:Con:=Yh 90 (λx=>(.cons (.rsl za 4 x.hd.Zy λj=>Zr za ((λj=>YT (x.hd.ZB j)) j)) (.cons (.fn (.func 91) .nil .nil) .nil))) (λx=>(.bool za (Za1 x.hd.Zy (λj=>YT (x.hd.ZB j))))) (λx=>x.hd.Zy<=1000)
theorem Zh1:Gf.Ok P:=Yi (λx h=>ZoU _ _ h)
abbrev rv_ts(an:Nat)(a:Nat->ZJ)(i:Int)(z:Unit):V:=(.cons (.rsl za 4 an (λjj=>zf (zn za zq (ZJ.f0 (a jj))) (zf (zn za zq (ZJ.f1 (a jj))) (zf (zn za yC (ZJ.f2 (a jj))) (zf (zn za yC (ZJ.f3 (a jj))) zh))))) (.cons (.fn (Fn.func (93:FuncId)) .nil .nil) (.cons (.bool ze za) (.cons (.int za .i64 (i+1)) .nil))))
abbrev rv_ys(an:Nat)(a:Nat->ZJ)(i:Int)(z:Unit):List Blk:=[]
def rv_R(an:Nat)(a:Nat->ZJ)(i:Int)(z:Unit):Tree Rd:=
 let q0:=(zl za 4 an λjj=>Zn za (a jj))
 let q1:=(i+(1:Int)-(1:Int))
 zw (((0:Int)<=zy .i64 q1/\zy .i64 q1<(an:Int))/\(0:Int)<=i+(1:Int)/\i+(1:Int)<(an:Int)) (zD (bif bif decide ((a (zi (zy .i64 q1))).f0>=(a (zi (i+(1:Int)))).f0)then ze else za then ze else za) (zx (Ex.ret,ze,zf q0 (zf (V.fn (Fn.func (93:FuncId)) zh zh) (zf (zC ze za) (ci (i+(1:Int)) zh))),[])) (zx (Ex.normal,ze,zf q0 (zf (V.fn (Fn.func (93:FuncId)) zh zh) (zf (zC ze za) (ci (zy .i64 (i+(1:Int)+(1:Int))) zh))),[])))
theorem rv_round(an:Nat)(a:Nat->ZJ):Yo P (Zp P [] [] ze) 92 2 0 0 26 [0,1,4,5] [] [] (rv_ts an a) (rv_ys an a) (λi=>(bif decide (i+(1:Int)<(an:Int))then za else ze)) (.exit 0) (rv_R an a):=λB i z=>by kernel_rfl
def Zg8(an:Nat)(a:Nat->ZJ)(k:Nat):Bool:=(λ(i:Int)(z:Unit)=>(bif bif bif decide ((a (zi (zy .i64 (i+(1:Int)-(1:Int))))).f0>=(a (zi (i+(1:Int)))).f0)then ze else za then ze else za then ze else za)) k ()
abbrev rv_ets(an:Nat)(a:Nat->ZJ)(i:Int)(z:Unit):V:=(.cons (zl za 4 an λjj=>Zn za (a jj)) (.cons (V.fn (Fn.func (93:FuncId)) zh zh) (.cons (zC ze za) (.cons .junk .nil))))
def rv_lp(an:Nat)(a:Nat->ZJ):Lp:=lpL 92 2 0 0 26 [0,1,4,5] [] [] (rv_ts an a) (rv_ys an a) (.exit 0) .ret () (λ_=>()) (Zg8 an a) (an-1) (rv_ets an a) (rv_ys an a)
def rv_need(an:Nat)(a:Nat->ZJ):Prop:=YW 0 [] (rv_ts an a) (rv_ys an a) () (rv_ts an a (0:Nat) ()) (rv_ys an a (0:Nat) ())
theorem rv_fit(an:Nat)(a:Nat->ZJ):rv_need an a:=⟨rfl,trivial⟩
theorem rv_lp_ok(an:Nat)(a:Nat->ZJ)(hl:an<=1000):(rv_lp an a).Ok P:=by
 refine Xg (ZC hm hn (l:=[]) trivial (ls:=[]) trivial ze) rfl (by kernel_rfl) (rv_round an a) exN (hcBy (q:=λi:Int=>(i:Int)+1<((an:Nat):Int)) λi hi=>⟨λh=>(by have h2:(i:Int)+1<((an:Nat):Int):=h;omega),λ_=>(by show(i:Int)+1<((an:Nat):Int);omega)⟩) (λ_=>rfl) (step:=λ_ z=>z) (rd:=(λ_ t y=>())) (λi z=>rfl) (λi=>(cC rfl rfl)) rfl (λi hlt hg=>?_) (λi z hi=>?_)
 ·have hltI:(i:Int)+1<((an:Nat):Int):=by omega
  refine⟨?_,⟨λhb0=>trivial,λhb0=>trivial⟩⟩
  all_goals(repeat'(first|exact rfl|exact λ_=>⟨rfl,rfl⟩|apply zB|intro _))
  all_goals(try simp only[decide_eq_true_eq,decide_eq_false_iff_not,yj,yu]at*)
  all_goals(try simp(disch:=omega) only[IntWalk.i64_in])
  all_goals(first|omega)
 ·have hw:=(IntWalk.i64_in (((i:Int)+1)+1) ⟨by omega,by omega⟩)
  refine⟨?_,?_⟩
  all_goals(first|(rw[hw];exact⟨rfl,Le.soft rfl,Yg _⟩)|exact⟨rfl,rfl,(by repeat'(first|exact Le.refl _|exact Le.junk _ rfl|apply Le.cons)),Yg _⟩)
def dRisV_T(an:Nat)(a:Nat->ZJ):Tree V:=
 zw (rv_need an a) (zD (bif Zv (Zg8 an a) (an-(1:Nat))then ze else za) (zx (zC ze za)) (zx (zC ze ze)))
theorem ZoX(an:Nat)(a:Nat->ZJ):ZU (Zp P [] [rv_lp an a] ze) 400 92 (.cons (.rsl za 4 an λj=>Zn za (a j)) (.cons (.fn (.func 93) .nil .nil) .nil))=dRisV_T an a:=by kernel_rfl
def Zcx(an:Nat)(a:Nat->ZJ):Bool:=
  (bif bif Zv (Zg8 an a) (an-(1:Nat))then ze else za then za else ze)
theorem ZoW(an:Nat)(a:Nat->ZJ)(h0:an<=1000):Zi P 92 (.cons (.rsl za 4 an λj=>Zn za (a j)) (.cons (.fn (.func 93) .nil .nil) .nil)) (.bool za (Zcx an a)):=
 Xp (ZC hm hn (l:=[]) trivial (ls:=[rv_lp an a]) ⟨rv_lp_ok an a h0,trivial⟩ ze) 400 (Has.of hn Tryz.func92 rfl) (ZoX an a) (Tree.Pre.mk (by refine⟨?_,⟨λ_=>trivial,λ_=>trivial⟩⟩;all_goals(first|exact rv_fit an a|(repeat'(first|exact rfl|apply zB))))) (by kernel_rfl) (by kernel_rfl)
def Gg:Con:=Yh 92 (λx=>(.cons (.rsl za 4 x.hd.Zy λj=>Zn za ((λj=>Yk (x.hd.ZB j)) j)) (.cons (.fn (.func 93) .nil .nil) .nil))) (λx=>(.bool za (Zcx x.hd.Zy (λj=>Yk (x.hd.ZB j))))) (λx=>x.hd.Zy<=1000)
theorem Zh2:Gg.Ok P:=Yi (λx h=>ZoW _ _ h)
abbrev ZcD(d:Ze)(b:Int)(i:Int)(z:Int):V:=(.cons (.int za .i64 b) (.cons (.int za .i64 (z)) (.cons (.rsl za 4 d.n1 (λj=>Zn za (d.r1 j))) (.cons (.int za .i64 ((d.n1:Nat):Int)) (.cons (.int za .i64 i) .nil)))))
abbrev ZfF(d:Ze)(b:Int)(i:Int)(z:Int):List Blk:=[]
def dcn_R(d:Ze)(b:Int)(i:Int)(z:Int):Tree Rd:=
 zw ((0:Int)<=i/\i<((d.n1:Nat):Int)) (zx (Ex.normal,ze,ci b (ci (bif (d.r1 (zi i)).f1==b then zy .i64 (z+(1:Int))else z) (zf (zl za 4 d.n1 λjj=>Zn za (d.r1 jj)) (ci ((d.n1:Nat):Int) (ci (zy .i64 (i+(1:Int))) zh)))),[]))
theorem dcn_round(d:Ze)(b:Int):Yo P (Zp P [] [] ze) 95 3 1 1 23 [1,5,9,10,11] [] [] (ZcD d b) (ZfF d b) (λi=>(bif decide (i<((d.n1:Nat):Int))then za else ze)) (.exit 0) (dcn_R d b):=λB i z=>by kernel_rfl
def dcn_step(d:Ze)(b:Int)(k:Nat)(z:Int):Int:=(dcn_R d b k z).carry ((λt y=>(t.nth 1).toInt)) z
def Zik(d:Ze)(b:Int)(k:Nat):Int:=ZQ 0 (dcn_step d b) k
def dcn_lp(d:Ze)(b:Int):Lp:=JE 95 3 1 1 23 [1,5,9,10,11] [] [] (ZcD d b) (ZfF d b) (.exit 0) 0 (Zik d b) (d.n1)
def ZkM(d:Ze)(b:Int):Prop:=YW 1 [] (ZcD d b) (ZfF d b) 0 (ZcD d b (0:Nat) 0) (ZfF d b (0:Nat) 0)
theorem dcn_fit(d:Ze)(b:Int):ZkM d b:=⟨rfl,trivial⟩
theorem dcn_lp_ok(d:Ze)(b:Int)(hl:d.n1<=1000):(dcn_lp d b).Ok P:=by
 refine JY (ZC hm hn (l:=[]) trivial (ls:=[]) trivial ze) rfl (by kernel_rfl) (dcn_round d b) exN YK (λ_=>rfl) (rd:=(λ_ t y=>(t.nth 1).toInt)) (λi z=>rfl) (λi=>rfl) rfl (λi hlt hg=>?_) (λi z hi=>?_)
 ·have hltI:(i:Int)<((d.n1:Nat):Int):=by omega
  refine⟨?_,trivial⟩
  all_goals(repeat'(first|exact rfl|exact λ_=>⟨rfl,rfl⟩|apply zB|intro _))
  all_goals(try simp only[decide_eq_true_eq,decide_eq_false_iff_not,yj,yu]at*)
  all_goals(try simp(disch:=omega) only[IntWalk.i64_in])
  all_goals(first|omega)
 ·have hw:=(IntWalk.i64_in ((i:Int)+1) ⟨by omega,by omega⟩)
  all_goals exact⟨rfl,YL (ts:=ZcD d b) hw rfl,Yg _⟩
def dCountL_T(a:Ze)(b:Int):Tree V:=
 zw (ZkM a b) (zx (vi (Zik a b a.n1)))
theorem ZoQ(a:Ze)(b:Int):ZU (Zp P [] [dcn_lp a b] ze) 400 95 (.cons (.agg (Kj za a)) (.cons (.int za .i64 b) .nil))=dCountL_T a b:=by kernel_rfl
def ZfD(a:Ze)(b:Int):Int:=
  (Zik a b a.n1)
theorem ZoP(a:Ze)(b:Int)(h0:a.n1<=1000):Zi P 95 (.cons (.agg (Kj za a)) (.cons (.int za .i64 b) .nil)) (.int za zq (ZfD a b)):=
 Xp (ZC hm hn (l:=[]) trivial (ls:=[dcn_lp a b]) ⟨dcn_lp_ok a b h0,trivial⟩ ze) 400 (Has.of hn Tryz.func95 rfl) (ZoQ a b) (Tree.Pre.mk (by refine⟨?_,trivial⟩;all_goals(first|exact dcn_fit a b|(repeat'(first|exact rfl|apply zB))))) (by kernel_rfl) (by kernel_rfl)
def Gb:Con:=Yh 95 (λx=>(.cons (.agg (Kj za (ZH x.hd.inner))) (.cons (.int za .i64 x.tl.hd.toInt) .nil))) (λx=>(.int za zq (ZfD (ZH x.hd.inner) x.tl.hd.toInt))) (λx=>(ZH x.hd.inner).n1<=1000)
theorem ZhY:Gb.Ok P:=Yi (λx h=>ZoP _ _ h)
def cmpI_T(a:Int)(b:Int):Tree V:=
 zD (bif a != a then bif bif b != b then ze else za then ze else ze else za) (zx (vi (bif bif b != b then ze else za then(0:Int)else(-1:Int)))) (zD (bif b != b then ze else za) (zx (zn ze .i64 (1:Int))) (zD (bif decide (a<b)then ze else za) (zx (zn ze .i64 (-1:Int))) (zD (bif decide (a>b)then ze else za) (zx (zn ze .i64 (1:Int))) (zx (zn ze .i64 (0:Int))))))
theorem cmpI_tree(a:Int)(b:Int):ZU (Zp P [] [] ze) 400 158 (.cons (.int za .i64 a) (.cons (.int za .i64 b) .nil))=cmpI_T a b:=by kernel_rfl
def X3(a:Int)(b:Int):Int:=
  (bif bif a != a then bif bif b != b then ze else za then ze else ze else za then bif bif b != b then ze else za then(0:Int)else(-1:Int)else bif bif b
  != b then ze else za then(1:Int)else bif bif decide (a<b)then ze else za then(-1:Int)else bif bif decide (a>b)then ze else za then(1:Int)else
  (0:Int))
theorem Zoz(a:Int)(b:Int) : Zi P 158 (.cons (.int za .i64 a) (.cons (.int za .i64 b) .nil)) (.int za zq (X3 a b)):=
 Xp (ZC hm hn (l:=[]) trivial (ls:=[]) trivial ze) 400 (Has.of hn Tryz.func158 rfl) (cmpI_tree a b) (Tree.Pre.mk (zB (λ_=>yc) (λ_=>(zB (λ_=>yc) (λ_=>(zB (λ_=>yc) (λ_=>(zB (λ_=>yc) (λ_=>yc))))))))) (by kernel_rfl) (by kernel_rfl)
def JO:Con:=QA 158 (.cons (.int za .i64 0) (.cons (.int za .i64 0) .nil)) (λx=>ze) (λx=>(.int za zq (X3 x.hd.toInt x.tl.hd.toInt))) (λx=>(.cons (.int za .i64 x.hd.toInt) (.cons (.int za .i64 x.tl.hd.toInt) .nil))) (λx=>True)
theorem ZaJ:JO.Ok P:=Jf (λ_=>rfl) (λx h=>yc) (λx h=>Zoz _ _)
abbrev ZeK(n:Nat)(r:Nat->Z6)(x:Int)(i j:Int):V:=(.cons (.rsl za 4 n (λj=>Zr za (r j))) (.cons (.int za .i64 x) (.cons (.fn (.func 157) .nil (.cons (.ptr ze 0 0 0 0) .nil)) (.cons (.int ze .i64 0) (.cons (.bool ze za) (.cons (.int za .i64 ((n:Nat):Int)) (.cons (.int za .i64 i) (.cons (.int za .i64 j) .nil))))))))
abbrev ZeL(n:Nat)(r:Nat->Z6)(x:Int):List Blk:=[.var (.cons (.fn (.func 91) .nil .nil) .nil)]
def bPlD_T(n:Nat)(r:Nat->Z6)(x:Int)(i j:Int):Tree (Ex×Bool×V×List Blk):=
 let q0:=zl za 4 n λj=>Zr za (r j)
 let q8:=V.fn (Fn.func (157:FuncId)) zh (zf (pt 0) zh)
 let q9:=[zN (zf (V.fn (Fn.func (91:FuncId)) zh zh) zh)]
 let q10:=vi (n:Int)
 let q11:=zn ze .i64 (0:Int)
 let q12:=vi x
 zD (decide (i<j)) (zw ((0:Int)<=half i j/\half i j<(n:Int)) (zD (decide (X3 (r (zi (half i j))).f0 x<(0:Int))) (zx (Ex.normal,ze,zf q0 (zf q12 (zf q8 (zf q11 (zf (zC ze za) (zf q10 (ci (zy .i64 (half i j+(1:Int))) (ci j zh))))))),q9)) (zx (Ex.normal,ze,zf q0 (zf q12 (zf q8 (zf q11 (zf (zC ze za) (zf q10 (ci i (ci (half i j) zh))))))),q9)))) (zx (Ex.exit 0,ze,zf q0 (zf q12 (zf q8 (zf q11 (zf (zC ze za) (zf q10 (ci i (ci j zh))))))),q9))
theorem Znz(B:Base)(n:Nat)(r:Nat->Z6)(x:Int)(i j:Int):((ev (ZN P [JO] [156]) 400 156 (JD P 156 3) B (YN 1 49 [0,1,2,6,7,8,9,10] [(0,.own)] (ZeK n r x i j) (ZeL n r x))).bind λx=>zx (x.1,vwN 1 1 49 [0,1,2,6,7,8,9,10] [(0,.own)] x.2))=bPlD_T n r x i j:=by kernel_rfl
def ZeJ(n:Nat)(r:Nat->Z6)(x:Int)(k:Nat):Bool:=(λ(h:Int)=>decide (X3 (Z6.f0 (r (zi (h)))) x<(0:Int))) k
def Qw(n:Nat)(r:Nat->Z6)(x:Int):Nat:=XB (ZeJ n r x) n 0 n
def ZeI(n:Nat)(r:Nat->Z6)(x:Int):Lp:=⟨156,3,λ_ s=>match vwN 1 1 49 [0,1,2,6,7,8,9,10] [(0,.own)] s with
 |(ze,(.cons (.rsl _ 4 nt0 ft0) (.cons (.int _ .i64 tx) (.cons (.fn (.func 157) .nil (.cons (.ptr ze 0 0 0 0) .nil)) (.cons (.int _ .i64 t3) (.cons (.bool _ t4) (.cons (.int _ .i64 t5) (.cons (.int _ .i64 t6) (.cons (.int _ .i64 t7) .nil)))))))),[.var (.cons (.fn (.func 91) .nil .nil) .nil)])=>bif zo s.n 1 then .need (n=nt0/\(λj=>Zr za (r j))=ft0/\x=tx/\0=t3/\za=t4/\((n:Nat):Int)=t5/\0=t6/\((n:Nat):Int)=t7)
  (.leaf (.exit 0,YN 1 49 [0,1,2,6,7,8,9,10] [(0,.own)] (ZeK n r x ((Qw n r x:Nat):Int) ((Qw n r x:Nat):Int)) (ZeL n r x)))else .stuck
 |_=>.stuck⟩
theorem Zny(n:Nat)(r:Nat->Z6)(x:Int)(hl:n<=1000):(ZeI n r x).Ok P:=by
 refine VU (by kernel_rfl) λhin B s Q hq=>?_
 simp only[ZeI]at hq hin⊢
 split at hq
 ·rename_i q1 nt0 ft0 q2 tx q3 t3 q4 t4 q5 t5 q6 t6 q7 t7 heq
  cases hsn:zo s.n 1
  ·rw[hsn]at hq;exact hq.elim
  ·rw[hsn]at hq
   obtain⟨⟨rfl,rfl,rfl,rfl,rfl,rfl,rfl,rfl⟩,hq⟩:=hq
   have hsame:Qv 1 1 49 [0,1,2,6,7,8,9,10] [(0,.own)] s (ZeK n r x 0 ((n:Nat):Int)) (ZeL n r x):=by
    refine⟨by rw[heq],by rw[heq];exact Le.soft rfl,by rw[heq];exact⟨LeK.var (Le.soft rfl),trivial⟩⟩
   refine Zbp (k:=400) (f:=156) (YJ hm hn (l:=[JO]) ⟨ZaJ,trivial⟩) rfl hin (ZeJ n r x) n (λi j=>ZeK n r x i j) (ZeL n r x) Q (λi j=>Znz B n r x i j) (λi j hij hjn=>?_) hq (zP hsn) hsame
   refine⟨λhc=>?_,λhc=>?_⟩
   ·have hlt:i<j:=by have:=of_decide_eq_true hc;omega
    have hh:=Zbl (i:=i) (j:=j) (by omega)
    refine⟨by rw[hh];omega,λhb=>?_,λhb=>?_⟩
    ·rw[hh]at hb⊢
     rw[IntWalk.i64_in ((((i+j)/2:Nat):Int)+1) ⟨by omega,by omega⟩]
     exact⟨rfl,hlt,⟨LeK.refl _,trivial⟩,λ_=>Le.soft rfl,λhl=>Bool.noConfusion ((show ZeJ n r x ((i+j)/2)=ze from hb).symm.trans hl)⟩
    ·rw[hh]at hb⊢
     exact⟨rfl,hlt,⟨LeK.refl _,trivial⟩,λhl=>Bool.noConfusion ((show ZeJ n r x ((i+j)/2)=za from hb).symm.trans hl),λ_=>Le.soft rfl⟩
   ·have hge:¬(i:Int)<(j:Int):=λh=>by rw[decide_eq_true h]at hc;cases hc
    have e:i=j:=by omega
    subst e
    exact⟨rfl,rfl,⟨LeK.refl _,trivial⟩,Le.soft rfl,rfl⟩
 ·exact hq.elim
def dPlD_T(an:Nat)(a:Nat->Z6)(b:Int):Tree V:=
 let q0:=((Qw an a b:Nat):Int)
 zw (an=an/\((λj=>Zr za (a j))=λj=>Zr za (a j))/\b=b/\(0:Int)=(0:Int)/\za=za/\(an:Int)=(an:Int)/\(0:Int)=(0:Int)/\(an:Int)=(an:Int)) (zw (decide (q0<(an:Int))=ze->(0:Int)<=q0/\q0<(an:Int)) (zx (V.tup (ci (bif decide (q0<(an:Int))then q0 else q0) (zf (zC za (bif decide (q0<(an:Int))then X3 (a (zi q0)).f0 b==(0:Int)else za)) zh)))))
theorem dPlD_tree(an:Nat)(a:Nat->Z6)(b:Int):ZU (Zp P [JO] [ZeI an a b] ze) 400 96 (.cons (.rsl za 4 an λj=>Zr za (a j)) (.cons (.int za .i64 b) (.cons (.fn (.func 91) .nil .nil) .nil)))=dPlD_T an a b:=by kernel_rfl
def VG(an:Nat)(a:Nat->Z6)(b:Int):Int:=
  (bif decide (((Qw an a b:Nat):Int)<(an:Int))then((Qw an a b:Nat):Int)else((Qw an a b:Nat):Int))
def Gw(an:Nat)(a:Nat->Z6)(b:Int):Bool:=
  (bif decide (((Qw an a b:Nat):Int)<(an:Int))then X3 (a (zi ((Qw an a b:Nat):Int))).f0 b==(0:Int)else za)
theorem ZoS(an:Nat)(a:Nat->Z6)(b:Int)(h0:an<=1000):Zi P 96 (.cons (.rsl za 4 an λj=>Zr za (a j)) (.cons (.int za .i64 b) (.cons (.fn (.func 91) .nil .nil) .nil))) (.tup (.cons (.int za zq (VG an a b)) (.cons (.bool za (Gw an a b)) .nil))):=
 Xp (ZC hm hn (l:=[JO]) ⟨ZaJ,trivial⟩ (ls:=[ZeI an a b]) ⟨Zny an a b h0,trivial⟩ ze) 400 (Has.of hn Tryz.func96 rfl) (dPlD_tree an a b) (Tree.Pre.mk (by refine⟨?_,⟨?_,trivial⟩⟩;all_goals(first|exact bPlD_fit an a b|(((repeat'(first|exact rfl|exact λ_=>⟨rfl,rfl⟩|apply zB|intro _));all_goals(try simp only[decide_eq_true_eq,decide_eq_false_iff_not]at*);all_goals omega))))) (by kernel_rfl) (by kernel_rfl)
def Gd:Con:=Yh 96 (λx=>(.cons (.rsl za 4 x.hd.Zy λj=>Zr za ((λj=>YT (x.hd.ZB j)) j)) (.cons (.int za .i64 x.tl.hd.toInt) (.cons (.fn (.func 91) .nil .nil) .nil)))) (λx=>(.tup (.cons (.int za zq (VG x.hd.Zy (λj=>YT (x.hd.ZB j)) x.tl.hd.toInt)) (.cons (.bool za (Gw x.hd.Zy (λj=>YT (x.hd.ZB j)) x.tl.hd.toInt)) .nil)))) (λx=>x.hd.Zy<=1000)
theorem Zh0:Gd.Ok P:=Yi (λx h=>ZoS _ _ _ h)
abbrev Zcz(a:Ze)(i:Int)(z:Unit):V:=(.cons (.ptr ze 0 0 0 0) (.cons (.int ze .i64 0) (.cons (.rsl za 4 (Ze.n0 a) (λj=>Zr za (a.r0 j))) (.cons (.int za .i64 (((Ze.n0 a):Nat):Int)) (.cons (.int za .i64 i) .nil)))))
abbrev ZcA(a:Ze)(i:Int)(z:Unit):List Blk:=[.var (.cons (.rsl za 4 (Ze.n0 a) (λj=>Zr za (a.r0 j))) (.cons (.rsl za 4 (Ze.n1 a) (λj=>Zn za (a.r1 j))) .nil))]
def dc1_R(a:Ze)(i:Int)(z:Unit):Tree Rd:=
 let q0:=(zf (zl za 4 a.n0 λj=>Zr za (a.2 j)) (zf (zl za 4 a.n1 λj=>Zn za (a.4 j)) zh))
 let q1:=(zl za 4 a.n0 λjj=>Zr za (a.2 jj))
 let q2:=[zN (zf q1 (zf (zl za 4 a.n1 λjj=>Zn za (a.4 jj)) zh))]
 let q3:=(ci (a.2 (zi i)).f0 zh)
 zw (((0:Int)<=i/\i<((a.n0:Nat):Int))/\((!bif decide ((a.2 (zi i)).f0>=(1:Int))then bif decide ((a.2 (zi i)).f0<=(8:Int))then bif decide ((a.2 (zi i)).f1>=(1:Int))then bif decide ((a.2 (zi i)).f1<=(65535:Int))then bif decide ((a.2 (zi i)).f2>=(0:Int))then bif decide ((a.2 (zi i)).f2<=(800:Int))then bif decide ((a.2 (zi i)).f3>=(0:Int))then decide ((a.2 (zi i)).f3<(4:Int))else za else za else za else za else za else za else za)=za->zf (zH q0) q3=zf (zH q0) q3/\a.n1<=(1000:Nat))) (zD (bif bif bif !bif decide ((a.2 (zi i)).f0>=(1:Int))then bif decide ((a.2 (zi i)).f0<=(8:Int))then bif decide ((a.2 (zi i)).f1>=(1:Int))then bif decide ((a.2 (zi i)).f1<=(65535:Int))then bif decide ((a.2 (zi i)).f2>=(0:Int))then bif decide ((a.2 (zi i)).f2<=(800:Int))then bif decide ((a.2 (zi i)).f3>=(0:Int))then decide ((a.2 (zi i)).f3<(4:Int))else za else za else za else za else za else za else za then ze else decide (ZfD (ZH q0) (a.2 (zi i)).f0>(8:Int))then ze else za then ze else za) (zx (Ex.ret,ze,zf (pt 0) (zf (zn ze .i64 (190:Int)) (zf q1 (ci ((a.n0:Nat):Int) (ci i zh)))),q2)) (zx (Ex.normal,ze,zf (pt 0) (zf (zn ze .i64 (0:Int)) (zf q1 (ci ((a.n0:Nat):Int) (ci (zy .i64 (i+(1:Int))) zh)))),q2)))
theorem dc1_round(a:Ze):Yo P (Zp P [Gf,Gg,Gc,Gb,Gd,Gl] [] ze) 57 4 1 1 71 [1,2,20,21,22] [(0,.own)] [] (Zcz a) (ZcA a) (λi=>(bif decide (i<((a.n0:Nat):Int))then za else ze)) (.exit 0) (dc1_R a):=λB i z=>by kernel_rfl
def ZfE(a:Ze)(k:Nat):Bool:=(λ(i:Int)(z:Unit)=>(bif bif bif bif !bif decide ((a.2 (zi i)).f0>=(1:Int))then bif decide ((a.2 (zi i)).f0<=(8:Int))then bif decide ((a.2 (zi i)).f1>=(1:Int))then bif decide ((a.2 (zi i)).f1<=(65535:Int))then bif decide ((a.2 (zi i)).f2>=(0:Int))then bif decide ((a.2 (zi i)).f2<=(800:Int))then bif decide ((a.2 (zi i)).f3>=(0:Int))then decide ((a.2 (zi i)).f3<(4:Int))else za else za else za else za else za else za else za then ze else decide (ZfD (ZH (zf (zl za 4 a.n0 λj=>Zr za (a.2 j)) (zf (zl za 4 a.n1 λj=>Zn za (a.4 j)) zh))) (a.2 (zi i)).f0>(8:Int))then ze else za then ze else za then ze else za)) k ()
abbrev dc1_ets(a:Ze)(i:Int)(z:Unit):V:=(.cons (V.ptr ze 0 0 0 0) (.cons (zn ze .i64 (190:Int)) (.cons (zl za 4 a.n0 λjj=>Zr za (a.2 jj)) (.cons (zn za .i64 ((a.n0:Nat):Int)) (.cons .junk .nil)))))
def dc1_lp(a:Ze):Lp:=lpL 57 4 1 1 71 [1,2,20,21,22] [(0,.own)] [] (Zcz a) (ZcA a) (.exit 0) .ret () (λ_=>()) (ZfE a) (Ze.n0 a) (dc1_ets a) (ZcA a)
def ZkK(a:Ze):Prop:=YW 1 [] (Zcz a) (ZcA a) () (Zcz a (0:Nat) ()) (ZcA a (0:Nat) ())
theorem dc1_fit(a:Ze):ZkK a:=⟨rfl,⟨rfl,trivial⟩⟩
theorem dc1_lp_ok(a:Ze)(hl:a.n0<=1000)(hl2:a.n1<=1000):(dc1_lp a).Ok P:=by
 refine Xg (ZC hm hn (l:=[Gf,Gg,Gc,Gb,Gd,Gl]) ⟨Zh1,Zh2,ZhZ,ZhY,Zh0,Zh5,trivial⟩ (ls:=[]) trivial ze) rfl (by kernel_rfl) (dc1_round a) exN YK (λ_=>rfl) (step:=λ_ z=>z) (rd:=(λ_ t y=>())) (λi z=>rfl) (λi=>(cC rfl rfl)) rfl (λi hlt hg=>?_) (λi z hi=>?_)
 ·have hltI:(i:Int)<(((Ze.n0 a):Nat):Int):=by omega
  refine⟨?_,⟨λhb0=>trivial,λhb0=>trivial⟩⟩
  all_goals(repeat'(first|exact rfl|exact λ_=>⟨rfl,rfl⟩|apply zB|intro _))
  all_goals(try simp only[decide_eq_true_eq,decide_eq_false_iff_not,yj,yu]at*)
  all_goals(try simp(disch:=omega) only[IntWalk.i64_in])
  all_goals(first|omega)
 ·have hw:=(IntWalk.i64_in ((i:Int)+1) ⟨by omega,by omega⟩)
  refine⟨?_,?_⟩
  all_goals(first|exact⟨rfl,YL (ts:=Zcz a) (a:=()) hw rfl,Yg _⟩|exact⟨rfl,rfl,(by repeat'(first|exact Le.refl _|exact Le.junk _ rfl|apply Le.cons)),Yg _⟩)
abbrev ZcB(a:Ze)(i:Int)(z:Unit):V:=(.cons (.ptr ze 0 0 0 0) (.cons (.int ze .i64 0) (.cons (.rsl za 4 (Ze.n1 a) (λj=>Zn za (a.r1 j))) (.cons (.int za .i64 (((Ze.n1 a):Nat):Int)) (.cons (.int za .i64 i) .nil)))))
abbrev ZcC(a:Ze)(i:Int)(z:Unit):List Blk:=[.var (.cons (.rsl za 4 (Ze.n0 a) (λj=>Zr za (a.r0 j))) (.cons (.rsl za 4 (Ze.n1 a) (λj=>Zn za (a.r1 j))) .nil))]
def dc2_R(a:Ze)(i:Int)(z:Unit):Tree Rd:=
 let q0:=(zl za 4 a.n1 λjj=>Zn za (a.4 jj))
 let q1:=[zN (zf (zl za 4 a.n0 λjj=>Zr za (a.2 jj)) (zf q0 zh))]
 let q2:=(zl za 4 a.n0 λj=>Zr za (a.2 j))
 zw (((0:Int)<=i/\i<((a.n1:Nat):Int))/\zf q2 (ci (a.4 (zi i)).f1 (zf (V.fn (Fn.func (91:Nat)) zh zh) zh))=zf q2 (ci (a.4 (zi i)).f1 (zf (V.fn (Fn.func (91:FuncId)) zh zh) zh))/\a.n0<=(1000:Nat)) (zD (bif bif bif decide ((a.4 (zi i)).f0<(1:Int))then ze else bif decide ((a.4 (zi i)).f0>(16:Int))then ze else bif (bif bif bif bif bif bif zy .u32 ((yA (zU (zR .u32) (a.4 (zi i)).f2&&& ~~~zU (zR .u32) (255:Int)):Nat):Int) != (0:Int)then ze else za then ze else bif bif zy .u32 ((yA (zU (zR .u32) (a.4 (zi i)).f3&&& ~~~zU (zR .u32) (255:Int)):Nat):Int) != (0:Int)then ze else za then ze else(a.4 (zi i)).f2==(0:Int)then ze else za then ze else za then ze else za then(170:Int)else(0:Int)) != (0:Int)then ze else !Gw a.n0 (λj=>YT (Zr za (a.2 j))) (a.4 (zi i)).f1 then ze else za then ze else za) (zx (Ex.ret,ze,zf (pt 0) (zf (zn ze .i64 (190:Int)) (zf q0 (ci ((a.n1:Nat):Int) (ci i zh)))),q1)) (zx (Ex.normal,ze,zf (pt 0) (zf (zn ze .i64 (0:Int)) (zf q0 (ci ((a.n1:Nat):Int) (ci (zy .i64 (i+(1:Int))) zh)))),q1)))
theorem dc2_round(a:Ze):Yo P (Zp P [Gf,Gg,Gc,Gb,Gd,Gl] [] ze) 57 10 1 1 71 [1,2,38,39,40] [(0,.own)] [] (ZcB a) (ZcC a) (λi=>(bif decide (i<((a.n1:Nat):Int))then za else ze)) (.exit 2) (dc2_R a):=λB i z=>by kernel_rfl
def Zij(a:Ze)(k:Nat):Bool:=(λ(i:Int)(z:Unit)=>(bif bif bif bif decide ((a.4 (zi i)).f0<(1:Int))then ze else bif decide ((a.4 (zi i)).f0>(16:Int))then ze else bif (bif bif bif bif bif bif zy .u32 ((yA (zU (zR .u32) (a.4 (zi i)).f2&&& ~~~zU (zR .u32) (255:Int)):Nat):Int) != (0:Int)then ze else za then ze else bif bif zy .u32 ((yA (zU (zR .u32) (a.4 (zi i)).f3&&& ~~~zU (zR .u32) (255:Int)):Nat):Int) != (0:Int)then ze else za then ze else(a.4 (zi i)).f2==(0:Int)then ze else za then ze else za then ze else za then(170:Int)else(0:Int)) != (0:Int)then ze else !Gw a.n0 (λj=>YT (Zr za (a.2 j))) (a.4 (zi i)).f1 then ze else za then ze else za then ze else za)) k ()
abbrev dc2_ets(a:Ze)(i:Int)(z:Unit):V:=(.cons (V.ptr ze 0 0 0 0) (.cons (zn ze .i64 (190:Int)) (.cons (zl za 4 a.n1 λjj=>Zn za (a.4 jj)) (.cons (zn za .i64 ((a.n1:Nat):Int)) (.cons .junk .nil)))))
def dc2_lp(a:Ze):Lp:=lpL 57 10 1 1 71 [1,2,38,39,40] [(0,.own)] [] (ZcB a) (ZcC a) (.exit 2) .ret () (λ_=>()) (Zij a) (Ze.n1 a) (dc2_ets a) (ZcC a)
def ZkL(a:Ze):Prop:=YW 1 [] (ZcB a) (ZcC a) () (ZcB a (0:Nat) ()) (ZcC a (0:Nat) ())
theorem dc2_fit(a:Ze):ZkL a:=⟨rfl,⟨rfl,trivial⟩⟩
theorem dc2_lp_ok(a:Ze)(hl:a.n0<=1000)(hl2:a.n1<=1000):(dc2_lp a).Ok P:=by
 refine Xg (ZC hm hn (l:=[Gf,Gg,Gc,Gb,Gd,Gl]) ⟨Zh1,Zh2,ZhZ,ZhY,Zh0,Zh5,trivial⟩ (ls:=[]) trivial ze) rfl (by kernel_rfl) (dc2_round a) exN YK (λ_=>rfl) (step:=λ_ z=>z) (rd:=(λ_ t y=>())) (λi z=>rfl) (λi=>(cC rfl rfl)) rfl (λi hlt hg=>?_) (λi z hi=>?_)
 ·have hltI:(i:Int)<(((Ze.n1 a):Nat):Int):=by omega
  refine⟨?_,⟨λhb0=>trivial,λhb0=>trivial⟩⟩
  all_goals(repeat'(first|exact rfl|exact λ_=>⟨rfl,rfl⟩|apply zB|intro _))
  all_goals(try simp only[decide_eq_true_eq,decide_eq_false_iff_not,yj,yu]at*)
  all_goals(try simp(disch:=omega) only[IntWalk.i64_in])
  all_goals(first|omega)
 ·have hw:=(IntWalk.i64_in ((i:Int)+1) ⟨by omega,by omega⟩)
  refine⟨?_,?_⟩
  all_goals(first|exact⟨rfl,YL (ts:=ZcB a) (a:=()) hw rfl,Yg _⟩|exact⟨rfl,rfl,(by repeat'(first|exact Le.refl _|exact Le.junk _ rfl|apply Le.cons)),Yg _⟩)
def dCheck_T(a:Ze):Tree V:=
 let q0:=(zx (zn ze .i64 (190:Int)))
 let q1:=(zl za 4 a.n0 λj=>Zr za (a.2 j))
 let q2:=(zl za 4 a.n1 λj=>Zn za (a.4 j))
 zw ((zf q1 (zf (V.fn (Fn.func (91:Nat)) zh zh) zh)=zf q1 (zf (V.fn (Fn.func (91:FuncId)) zh zh) zh)/\a.n0<=(1000:Nat))/\((!Za1 a.n0 λj=>YT (Zr za (a.2 j)))=za->zf q2 (zf (V.fn (Fn.func (93:Nat)) zh zh) zh)=zf q2 (zf (V.fn (Fn.func (93:FuncId)) zh zh) zh)/\a.n1<=(1000:Nat))) (zD (bif bif !Za1 a.n0 λj=>YT (Zr za (a.2 j))then ze else !Zcx a.n1 λj=>Yk (Zn za (a.4 j))then ze else za) q0 (zw (ZkK a) (zD (bif Zv (ZfE a) a.n0 then ze else za) q0 (zw (ZkL a) (zD (bif Zv (Zij a) a.n1 then ze else za) q0 (zx (zn ze .i64 (0:Int))))))))
theorem ZoO(a:Ze):ZU (Zp P [Gf,Gg,Gc,Gb,Gd,Gl] [dc1_lp a,dc2_lp a] ze) 400 57 (.cons (.agg (Kj za a)) .nil)=dCheck_T a:=by kernel_rfl
def Wu(a:Ze):Int:=
  (bif bif bif !Za1 a.n0 λj=>YT (Zr za (a.2 j))then ze else !Zcx a.n1 λj=>Yk (Zn za (a.4 j))then ze else za
  then(190:Int)else bif bif Zv (ZfE a) a.n0 then ze else za then(190:Int)else bif bif Zv (Zij a) a.n1 then ze else za then(190:Int)else(0 :
  Int))
theorem ZoN(a:Ze)(h0:a.n0<=1000)(h1:a.n1<=1000):Zi P 57 (.cons (.agg (Kj za a)) .nil) (.int za zq (Wu a)):=
 Xp (ZC hm hn (l:=[Gf,Gg,Gc,Gb,Gd,Gl]) ⟨Zh1,Zh2,ZhZ,ZhY,Zh0,Zh5,trivial⟩ (ls:=[dc1_lp a,dc2_lp a]) ⟨dc1_lp_ok a h0 h1,dc2_lp_ok a h0 h1,trivial⟩ ze) 400 (Has.of hn Tryz.func57 rfl) (ZoO a) (Tree.Pre.mk (by refine⟨?_,⟨λ_=>trivial,λ_=>⟨?_,⟨λ_=>trivial,λ_=>⟨?_,⟨λ_=>trivial,λ_=>trivial⟩⟩⟩⟩⟩⟩;all_goals(first|exact dc1_fit a|exact dc2_fit a|(((repeat'(first|exact rfl|exact λ_=>⟨rfl,rfl⟩|apply zB|intro _));all_goals(try simp only[decide_eq_true_eq,decide_eq_false_iff_not]at*);all_goals omega))))) (by kernel_rfl) (by kernel_rfl)
def Ve:Con:=Yh 57 (λx=>(.cons (.agg (Kj za (ZH x.hd.inner))) .nil)) (λx=>(.int za zq (Wu (ZH x.hd.inner)))) (λx=>(ZH x.hd.inner).n0<=1000/\(ZH x.hd.inner).n1<=1000)
theorem Zfh:Ve.Ok P:=Yi (λx h=>ZoN _ h.1 h.2)
abbrev ZeO(n:Nat)(r:Nat->ZJ)(x:Int)(i j:Int):V:=(.cons (.rsl za 4 n (λj=>Zn za (r j))) (.cons (.int za .i64 x) (.cons (.fn (.func 245) .nil (.cons (.ptr ze 0 0 0 0) .nil)) (.cons (.int ze .i64 0) (.cons (.bool ze za) (.cons (.int za .i64 ((n:Nat):Int)) (.cons (.int za .i64 i) (.cons (.int za .i64 j) .nil))))))))
abbrev ZeP(n:Nat)(r:Nat->ZJ)(x:Int):List Blk:=[.var (.cons (.fn (.func 93) .nil .nil) .nil)]
def bPlV_T(n:Nat)(r:Nat->ZJ)(x:Int)(i j:Int):Tree (Ex×Bool×V×List Blk):=
 let q0:=zl za 4 n λj=>Zn za (r j)
 let q8:=V.fn (Fn.func (245:FuncId)) zh (zf (pt 0) zh)
 let q9:=[zN (zf (V.fn (Fn.func (93:FuncId)) zh zh) zh)]
 let q10:=vi (n:Int)
 let q11:=zn ze .i64 (0:Int)
 let q12:=vi x
 zD (decide (i<j)) (zw ((0:Int)<=half i j/\half i j<(n:Int)) (zD (decide (X3 (r (zi (half i j))).f0 x<(0:Int))) (zx (Ex.normal,ze,zf q0 (zf q12 (zf q8 (zf q11 (zf (zC ze za) (zf q10 (ci (zy .i64 (half i j+(1:Int))) (ci j zh))))))),q9)) (zx (Ex.normal,ze,zf q0 (zf q12 (zf q8 (zf q11 (zf (zC ze za) (zf q10 (ci i (ci (half i j) zh))))))),q9)))) (zx (Ex.exit 0,ze,zf q0 (zf q12 (zf q8 (zf q11 (zf (zC ze za) (zf q10 (ci i (ci j zh))))))),q9))
theorem ZnB(B:Base)(n:Nat)(r:Nat->ZJ)(x:Int)(i j:Int):((ev (ZN P [JO] [244]) 400 244 (JD P 244 3) B (YN 1 49 [0,1,2,6,7,8,9,10] [(0,.own)] (ZeO n r x i j) (ZeP n r x))).bind λx=>zx (x.1,vwN 1 1 49 [0,1,2,6,7,8,9,10] [(0,.own)] x.2))=bPlV_T n r x i j:=by kernel_rfl
def ZeN(n:Nat)(r:Nat->ZJ)(x:Int)(k:Nat):Bool:=(λ(h:Int)=>decide (X3 (ZJ.f0 (r (zi (h)))) x<(0:Int))) k
def JM(n:Nat)(r:Nat->ZJ)(x:Int):Nat:=XB (ZeN n r x) n 0 n
def ZeM(n:Nat)(r:Nat->ZJ)(x:Int):Lp:=⟨244,3,λ_ s=>match vwN 1 1 49 [0,1,2,6,7,8,9,10] [(0,.own)] s with
 |(ze,(.cons (.rsl _ 4 nt0 ft0) (.cons (.int _ .i64 tx) (.cons (.fn (.func 245) .nil (.cons (.ptr ze 0 0 0 0) .nil)) (.cons (.int _ .i64 t3) (.cons (.bool _ t4) (.cons (.int _ .i64 t5) (.cons (.int _ .i64 t6) (.cons (.int _ .i64 t7) .nil)))))))),[.var (.cons (.fn (.func 93) .nil .nil) .nil)])=>bif zo s.n 1 then .need (n=nt0/\(λj=>Zn za (r j))=ft0/\x=tx/\0=t3/\za=t4/\((n:Nat):Int)=t5/\0=t6/\((n:Nat):Int)=t7)
  (.leaf (.exit 0,YN 1 49 [0,1,2,6,7,8,9,10] [(0,.own)] (ZeO n r x ((JM n r x:Nat):Int) ((JM n r x:Nat):Int)) (ZeP n r x)))else .stuck
 |_=>.stuck⟩
theorem ZnA(n:Nat)(r:Nat->ZJ)(x:Int)(hl:n<=1000):(ZeM n r x).Ok P:=by
 refine VU (by kernel_rfl) λhin B s Q hq=>?_
 simp only[ZeM]at hq hin⊢
 split at hq
 ·rename_i q1 nt0 ft0 q2 tx q3 t3 q4 t4 q5 t5 q6 t6 q7 t7 heq
  cases hsn:zo s.n 1
  ·rw[hsn]at hq;exact hq.elim
  ·rw[hsn]at hq
   obtain⟨⟨rfl,rfl,rfl,rfl,rfl,rfl,rfl,rfl⟩,hq⟩:=hq
   have hsame:Qv 1 1 49 [0,1,2,6,7,8,9,10] [(0,.own)] s (ZeO n r x 0 ((n:Nat):Int)) (ZeP n r x):=by
    refine⟨by rw[heq],by rw[heq];exact Le.soft rfl,by rw[heq];exact⟨LeK.var (Le.soft rfl),trivial⟩⟩
   refine Zbp (k:=400) (f:=244) (YJ hm hn (l:=[JO]) ⟨ZaJ,trivial⟩) rfl hin (ZeN n r x) n (λi j=>ZeO n r x i j) (ZeP n r x) Q (λi j=>ZnB B n r x i j) (λi j hij hjn=>?_) hq (zP hsn) hsame
   refine⟨λhc=>?_,λhc=>?_⟩
   ·have hlt:i<j:=by have:=of_decide_eq_true hc;omega
    have hh:=Zbl (i:=i) (j:=j) (by omega)
    refine⟨by rw[hh];omega,λhb=>?_,λhb=>?_⟩
    ·rw[hh]at hb⊢
     rw[IntWalk.i64_in ((((i+j)/2:Nat):Int)+1) ⟨by omega,by omega⟩]
     exact⟨rfl,hlt,⟨LeK.refl _,trivial⟩,λ_=>Le.soft rfl,λhl=>Bool.noConfusion ((show ZeN n r x ((i+j)/2)=ze from hb).symm.trans hl)⟩
    ·rw[hh]at hb⊢
     exact⟨rfl,hlt,⟨LeK.refl _,trivial⟩,λhl=>Bool.noConfusion ((show ZeN n r x ((i+j)/2)=za from hb).symm.trans hl),λ_=>Le.soft rfl⟩
   ·have hge:¬(i:Int)<(j:Int):=λh=>by rw[decide_eq_true h]at hc;cases hc
    have e:i=j:=by omega
    subst e
    exact⟨rfl,rfl,⟨LeK.refl _,trivial⟩,Le.soft rfl,rfl⟩
 ·exact hq.elim
def dPlV_T(an:Nat)(a:Nat->ZJ)(b:Int):Tree V:=
 let q0:=((JM an a b:Nat):Int)
 zw (an=an/\((λj=>Zn za (a j))=λj=>Zn za (a j))/\b=b/\(0:Int)=(0:Int)/\za=za/\(an:Int)=(an:Int)/\(0:Int)=(0:Int)/\(an:Int)=(an:Int)) (zw (decide (q0<(an:Int))=ze->(0:Int)<=q0/\q0<(an:Int)) (zx (V.tup (ci (bif decide (q0<(an:Int))then q0 else q0) (zf (zC za (bif decide (q0<(an:Int))then X3 (a (zi q0)).f0 b==(0:Int)else za)) zh)))))
theorem dPlV_tree(an:Nat)(a:Nat->ZJ)(b:Int):ZU (Zp P [JO] [ZeM an a b] ze) 400 203 (.cons (.rsl za 4 an λj=>Zn za (a j)) (.cons (.int za .i64 b) (.cons (.fn (.func 93) .nil .nil) .nil)))=dPlV_T an a b:=by kernel_rfl
def Qk(an:Nat)(a:Nat->ZJ)(b:Int):Int:=
  (bif decide (((JM an a b:Nat):Int)<(an:Int))then((JM an a b:Nat):Int)else((JM an a b:Nat):Int))
def QO(an:Nat)(a:Nat->ZJ)(b:Int):Bool:=
  (bif decide (((JM an a b:Nat):Int)<(an:Int))then X3 (a (zi ((JM an a b:Nat):Int))).f0 b==(0:Int)else za)
theorem ZoT(an:Nat)(a:Nat->ZJ)(b:Int)(h0:an<=1000):Zi P 203 (.cons (.rsl za 4 an λj=>Zn za (a j)) (.cons (.int za .i64 b) (.cons (.fn (.func 93) .nil .nil) .nil))) (.tup (.cons (.int za zq (Qk an a b)) (.cons (.bool za (QO an a b)) .nil))):=
 Xp (ZC hm hn (l:=[JO]) ⟨ZaJ,trivial⟩ (ls:=[ZeM an a b]) ⟨ZnA an a b h0,trivial⟩ ze) 400 (Has.of hn Tryz.func203 rfl) (dPlV_tree an a b) (Tree.Pre.mk (by refine⟨?_,⟨?_,trivial⟩⟩;all_goals(first|exact bPlV_fit an a b|(((repeat'(first|exact rfl|exact λ_=>⟨rfl,rfl⟩|apply zB|intro _));all_goals(try simp only[decide_eq_true_eq,decide_eq_false_iff_not]at*);all_goals omega))))) (by kernel_rfl) (by kernel_rfl)
def c_dPlV:Con:=Yh 203 (λx=>(.cons (.rsl za 4 x.hd.Zy λj=>Zn za ((λj=>Yk (x.hd.ZB j)) j)) (.cons (.int za .i64 x.tl.hd.toInt) (.cons (.fn (.func 93) .nil .nil) .nil)))) (λx=>(.tup (.cons (.int za zq (Qk x.hd.Zy (λj=>Yk (x.hd.ZB j)) x.tl.hd.toInt)) (.cons (.bool za (QO x.hd.Zy (λj=>Yk (x.hd.ZB j)) x.tl.hd.toInt)) .nil)))) (λx=>x.hd.Zy<=1000)
theorem c_dPlV_ok:c_dPlV.Ok P:=Yi (λx h=>ZoT _ _ _ h)
theorem nf2{x y:Bool}(h:(bif (bif !x then ze else y)then ze else za)=za):x=ze:=by cases x;cases h;rfl
theorem ZkI(n:Nat)(r:Nat->ZJ)(b:Int):0<=Qk n r b/\Qk n r b<=n/\(QO n r b=ze->Qk n r b<n):=by
 have h:JM n r b<=n:=Zcm _ _ _ (Nat.zero_le _)
 have e:Qk n r b=(JM n r b:Int):=by
  unfold Qk;cases decide (((JM n r b:Nat):Int)<(n:Int))<;>rfl
 rw[e]
 refine⟨by omega,by omega,λh1=>?_⟩
 unfold QO at h1
 cases hc:decide (((JM n r b:Nat):Int)<(n:Int))with
 |true=>exact of_decide_eq_true hc
 |false=>rw[hc]at h1;cases h1
def dVcpu_T(a:Ze)(b:Int):Tree V:=
 let q1:=(zl za 4 a.n1 λj=>Zn za (a.4 j))
 let q0:=(zf (zl za 4 a.n0 λj=>Zr za (a.2 j)) (zf q1 zh))
 zw (zf q1 (ci b (zf (V.fn (Fn.func (93:Nat)) zh zh) zh))=zf q1 (ci b (zf (V.fn (Fn.func (93:FuncId)) zh zh) zh))/\a.n1<=(1000:Nat)) (zw ((!QO a.n1 (λj=>Yk (Zn za (a.4 j))) b)=za->zf (zH q0) zh=zf (zH q0) zh/\a.n0<=(1000:Nat)/\a.n1<=(1000:Nat)) (zD (bif bif !QO a.n1 (λj=>Yk (Zn za (a.4 j))) b then ze else Wu (ZH q0) != (0:Int)then ze else za) (zx (V.tup (zf (zH (zf (zn ze .i64 (0:Int)) (zf (zn ze .i64 (0:Int)) (zf (zn ze .u32 (0:Int)) (zf (zn ze .u32 (0:Int)) zh))))) (zf (zC ze za) zh)))) (zw ((0:Int)<=Qk a.n1 (λj=>Yk (Zn za (a.4 j))) b/\Qk a.n1 (λj=>Yk (Zn za (a.4 j))) b<((a.n1:Nat):Int)) (zx (V.tup (zf (zH (Zn za (a.4 (zi (Qk a.n1 (λj=>Yk (Zn za (a.4 j))) b))))) (zf (zC ze ze) zh)))))))
theorem ZoZ(a:Ze)(b:Int):ZU (Zp P [c_dPlV,Ve] [] ze) 400 110 (.cons (.agg (Kj za a)) (.cons (.int za .i64 b) .nil))=dVcpu_T a b:=by kernel_rfl
def Za2(a:Ze)(b:Int):Int:=
  (bif bif bif !QO a.n1 (λj=>Yk (Zn za (a.4 j))) b then ze else Wu (ZH (zf (zl za 4 a.n0 λj=>Zr za (a.2
  j)) (zf (zl za 4 a.n1 λj=>Zn za (a.4 j)) zh))) != (0:Int)then ze else za then(0:Int)else(a.4 (zi (Qk a.n1 (λj=>
  Yk (Zn za (a.4 j))) b))).f0)
def Gx(a:Ze)(b:Int):Int:=
  (bif bif bif !QO a.n1 (λj=>Yk (Zn za (a.4 j))) b then ze else Wu (ZH (zf (zl za 4 a.n0 λj=>Zr za (a.2
  j)) (zf (zl za 4 a.n1 λj=>Zn za (a.4 j)) zh))) != (0:Int)then ze else za then(0:Int)else(a.4 (zi (Qk a.n1 (λj=>
  Yk (Zn za (a.4 j))) b))).f1)
def X4(a:Ze)(b:Int):Int:=
  (bif bif bif !QO a.n1 (λj=>Yk (Zn za (a.4 j))) b then ze else Wu (ZH (zf (zl za 4 a.n0 λj=>Zr za (a.2
  j)) (zf (zl za 4 a.n1 λj=>Zn za (a.4 j)) zh))) != (0:Int)then ze else za then(0:Int)else(a.4 (zi (Qk a.n1 (λj=>
  Yk (Zn za (a.4 j))) b))).f2)
def Zcy(a:Ze)(b:Int):Int:=
  (bif bif bif !QO a.n1 (λj=>Yk (Zn za (a.4 j))) b then ze else Wu (ZH (zf (zl za 4 a.n0 λj=>Zr za (a.2
  j)) (zf (zl za 4 a.n1 λj=>Zn za (a.4 j)) zh))) != (0:Int)then ze else za then(0:Int)else(a.4 (zi (Qk a.n1 (λj=>
  Yk (Zn za (a.4 j))) b))).f3)
def ZkJ(a:Ze)(b:Int):Bool:=
  (bif bif bif !QO a.n1 (λj=>Yk (Zn za (a.4 j))) b then ze else Wu (ZH (zf (zl za 4 a.n0 λj=>Zr za (a.2
  j)) (zf (zl za 4 a.n1 λj=>Zn za (a.4 j)) zh))) != (0:Int)then ze else za then za else ze)
theorem ZoY(a:Ze)(b:Int)(h0:a.n0<=1000)(h1:a.n1<=1000):Zi P 110 (.cons (.agg (Kj za a)) (.cons (.int za .i64 b) .nil)) (.tup (.cons (.agg (.cons (.int za zq (Za2 a b)) (.cons (.int za zq (Gx a b)) (.cons (.int za yC (X4 a b)) (.cons (.int za yC (Zcy a b)) .nil))))) (.cons (.bool za (ZkJ a b)) .nil))):=
 Xp (ZC hm hn (l:=[c_dPlV,Ve]) ⟨c_dPlV_ok,Zfh,trivial⟩ (ls:=[]) trivial ze) 400 (Has.of hn Tryz.func110 rfl) (ZoZ a b) (Tree.Pre.mk (by refine⟨?_,⟨?_,⟨λ_=>trivial,λ_=>⟨?_,trivial⟩⟩⟩⟩;all_goals(((repeat'(first|exact rfl|exact λ_=>⟨rfl,rfl⟩|apply zB|intro _));all_goals(try simp only[decide_eq_true_eq,decide_eq_false_iff_not]at*);all_goals(first|omega|exact(ZkI _ _ _).1|exact(ZkI _ _ _).2.2 (nf2 ‹_›)))))) (by kernel_rfl) (by kernel_rfl)
def X9:Con:=Yh 110 (λx=>(.cons (.agg (Kj za (ZH x.hd.inner))) (.cons (.int za .i64 x.tl.hd.toInt) .nil))) (λx=>(.tup (.cons (.agg (.cons (.int za zq (Za2 (ZH x.hd.inner) x.tl.hd.toInt)) (.cons (.int za zq (Gx (ZH x.hd.inner) x.tl.hd.toInt)) (.cons (.int za yC (X4 (ZH x.hd.inner) x.tl.hd.toInt)) (.cons (.int za yC (Zcy (ZH x.hd.inner) x.tl.hd.toInt)) .nil))))) (.cons (.bool za (ZkJ (ZH x.hd.inner) x.tl.hd.toInt)) .nil)))) (λx=>(ZH x.hd.inner).n0<=1000/\(ZH x.hd.inner).n1<=1000)
theorem Vy:X9.Ok P:=Yi (λx h=>ZoY _ _ h.1 h.2)
def Zid(d:Za)(gn:Nat)(gr:Nat->DT3)(sa:Int)(p:Zg)(gu:Ze)(ga:Zd)(b:Int):Tree V:=
 let q2:=(zl za 4 gu.n0 λj=>Zr za (gu.2 j))
 let q0:=(zf q2 (zf (zl za 4 gu.n1 λj=>Zn za (gu.4 j)) zh))
 let q1:=(ci (Gx (ZH q0) b) (zf (zn za .u32 (X4 (ZH q0) b)) (zf (zn za .u32 (Zcy (ZH q0) b)) zh)))
 let q3:=(vi (Za2 (ZH q0) b))
 zw (zf (zH q0) (ci b zh)=zf (zH q0) (ci b zh)/\gu.n0<=(1000:Nat)/\gu.n1<=(1000:Nat)) (zw (zf q2 (zf (V.fn (Fn.func (221:Nat)) zh (zf (V.rptr za (4:Nat) (1:Nat) (λj=>zf q3 q1) (0:Nat) (0:Nat)) zh)) zh)=zf q2 (zf (V.fn (Fn.func (221:FuncId)) zh (zf (V.rptr za (4:Nat) (1:Nat) (λjj=>zf q3 q1) (0:Nat) (0:Nat)) zh)) zh)/\gu.n0<=(1000:Nat)) (zx (vi (VQ (Yk (zf q3 q1)) gu.n0 λj=>YT (Zr za (gu.2 j))))))
theorem Zoj(d:Za)(gn:Nat)(gr:Nat->DT3)(sa:Int)(p:Zg)(gu:Ze)(ga:Zd)(b:Int):ZU (Zp P [X9,Gi] [] ze) 400 183 (.cons (.rptr za 16 1 (λ_=>chV d gn gr sa p gu ga) 0 0) (.cons (.int za .i64 b) .nil))=Zid d gn gr sa p gu ga b:=by kernel_rfl
def Zk(gu:Ze)(b:Int):Int:=(Zid (Z4 .nil) 0 (λ_=>ZM .nil) 0 (Z0 .nil) gu (ZT .nil) b).valOf.toInt
theorem Zoi(d:Za)(gn:Nat)(gr:Nat->DT3)(sa:Int)(p:Zg)(gu:Ze)(ga:Zd)(b:Int)(h0:gu.n0<=1000)(h1:gu.n1<=1000):Zi P 183 (.cons (.rptr za 16 1 (λ_=>chV d gn gr sa p gu ga) 0 0) (.cons (.int za .i64 b) .nil)) (.int za .i64 (Zk gu b)):=by
 refine(show Yr (.int za .i64 0) (Zid d gn gr sa p gu ga b).valOf=(.int za .i64 (Zk gu b))from by kernel_rfl)▸ ?_
 refine Wy (E:=(Zp P [X9,Gi] [] ze)) (ZC hm hn (l:=[X9,Gi]) ⟨Vy,Zki,trivial⟩ (ls:=[]) trivial ze) (.int za .i64 0) (Has.of hn Tryz.func183 rfl) (Zoj d gn gr sa p gu ga b) ?_ ?_
 ·refine⟨?_,⟨?_,trivial⟩⟩
  all_goals((repeat'(first|exact rfl|exact QZ _|exact λ_=>⟨rfl,rfl⟩|apply zB|intro _));all_goals(try simp only[decide_eq_true_eq,decide_eq_false_iff_not]at*);all_goals(first|omega|(simp at*;omega)))
 ·refine⟨rfl,?_⟩
  all_goals((repeat'(first|exact rfl|exact trivial|apply zB|intro _|(refine cP (p:=λv=>yg v=Yr _ v) (λhc=>?_) (λhc=>?_))));all_goals(exfalso;simp only[XQ,Wj,Ws,WE,Wq,WC,zM,yF]at*;omega))
def c_chHomeA(r0:Ze->Int->Int):Con:=conS 183 (λx=>(.cons (.rptr za 16 1 (λ_=>chV (Z4 (x.hd.ZF 0)) ((x.hd.ZF 0).tl.tl.tl.tl.tl.tl.tl.tl.tl.tl.tl.tl.tl.tl.hd.Zy) (λj=>ZM ((x.hd.ZF 0).tl.tl.tl.tl.tl.tl.tl.tl.tl.tl.tl.tl.tl.tl.hd.ZB j)) ((x.hd.ZF 0).tl.tl.tl.tl.tl.tl.tl.tl.tl.tl.tl.tl.tl.tl.tl.hd.toInt) (Z0 (.cons (x.hd.ZF 0).tl.tl.hd .nil)) (ZH (.cons (x.hd.ZF 0).tl.tl.tl.hd (.cons (x.hd.ZF 0).tl.tl.tl.tl.hd .nil))) (ZT (.cons (x.hd.ZF 0).tl.tl.tl.tl.tl.hd .nil))) 0 0) (.cons (.int za .i64 x.tl.hd.toInt) .nil))) (λx=>(.int za .i64 (r0 (ZH (.cons (x.hd.ZF 0).tl.tl.tl.hd (.cons (x.hd.ZF 0).tl.tl.tl.tl.hd .nil))) x.tl.hd.toInt))) (λx=>(λ(gu:Ze)(b:Int)=>gu.n0<=1000/\gu.n1<=1000) (ZH (.cons (x.hd.ZF 0).tl.tl.tl.hd (.cons (x.hd.ZF 0).tl.tl.tl.tl.hd .nil))) x.tl.hd.toInt)
abbrev Vx:Con:=c_chHomeA Zk
theorem ZhM:Vx.Ok P:=Gv (λx h=>Zoi _ _ _ _ _ _ _ _ h.1 h.2)
def Zie(d:Za)(gn:Nat)(gr:Nat->DT3)(sa:Int)(p:Zg)(gu:Ze)(ga:Zd)(b:Int):Tree V:=
 let q5:=(zl za 4 gu.n0 λj=>Zr za (gu.2 j))
 let q0:=(zf q5 (zf (zl za 4 gu.n1 λj=>Zn za (gu.4 j)) zh))
 let q1:=(ci (Gx (ZH q0) b) (zf (zn za .u32 (X4 (ZH q0) b)) (zf (zn za .u32 (Zcy (ZH q0) b)) zh)))
 let q4:=(vi (Za2 (ZH q0) b))
 let q2:=(VQ (Yk (zf q4 q1)) gu.n0 λj=>YT (Zr za (gu.2 j)))
 let q3:=(zf (zH q0) (ci b zh)=zf (zH q0) (ci b zh)/\gu.n0<=(1000:Nat)/\gu.n1<=(1000:Nat))
 zw q3 (zw q3 (zw (zf q5 (zf (V.fn (Fn.func (221:Nat)) zh (zf (V.rptr za (4:Nat) (1:Nat) (λj=>zf q4 q1) (0:Nat) (0:Nat)) zh)) zh)=zf q5 (zf (V.fn (Fn.func (221:FuncId)) zh (zf (V.rptr za (4:Nat) (1:Nat) (λjj=>zf q4 q1) (0:Nat) (0:Nat)) zh)) zh)/\gu.n0<=(1000:Nat)) (zw (((0:Int)<=VQ (Yk (zf q4 q1)) gu.n0 λj=>YT (Zr za (gu.2 j)))/\q2<((gu.n0:Nat):Int)) (zw ((0:Int)<=(gu.2 (zi q2)).f3/\(gu.2 (zi q2)).f3<((p.n0:Nat):Int)) (zx (zn za .u32 (zy .u32 ((yA (zU (zR .u32) (X4 (ZH q0) b)&&& zU (zR .u32) (p.2 (zi (gu.2 (zi q2)).f3)).f0):Nat):Int))))))))
theorem Zol(d:Za)(gn:Nat)(gr:Nat->DT3)(sa:Int)(p:Zg)(gu:Ze)(ga:Zd)(b:Int):ZU (Zp P [X9,Gi] [] ze) 400 143 (.cons (.rptr za 16 1 (λ_=>chV d gn gr sa p gu ga) 0 0) (.cons (.int za .i64 b) .nil))=Zie d gn gr sa p gu ga b:=by kernel_rfl
def Yb(p:Zg)(gu:Ze)(b:Int):Int:=(Zie (Z4 .nil) 0 (λ_=>ZM .nil) 0 p gu (ZT .nil) b).valOf.toInt
theorem Zok(d:Za)(gn:Nat)(gr:Nat->DT3)(sa:Int)(p:Zg)(gu:Ze)(ga:Zd)(b:Int)(h0:gu.n0<=1000)(h1:gu.n1<=1000)(h2:0<=Zk gu b/\Zk gu b<gu.n0)(h3:0<=(gu.r0 (Zk gu b).toNat).f3/\(gu.r0 (Zk gu b).toNat).f3<p.n0):Zi P 143 (.cons (.rptr za 16 1 (λ_=>chV d gn gr sa p gu ga) 0 0) (.cons (.int za .i64 b) .nil)) (.int za .u32 (Yb p gu b)):=by
 refine(show Yr (.int za .u32 0) (Zie d gn gr sa p gu ga b).valOf=(.int za .u32 (Yb p gu b))from by kernel_rfl)▸ ?_
 refine Wy (E:=(Zp P [X9,Gi] [] ze)) (ZC hm hn (l:=[X9,Gi]) ⟨Vy,Zki,trivial⟩ (ls:=[]) trivial ze) (.int za .u32 0) (Has.of hn Tryz.func143 rfl) (Zol d gn gr sa p gu ga b) ?_ ?_
 ·refine⟨?_,⟨?_,⟨?_,⟨?_,⟨?_,trivial⟩⟩⟩⟩⟩
  all_goals((repeat'(first|exact rfl|exact QZ _|exact λ_=>⟨rfl,rfl⟩|apply zB|intro _));all_goals(try simp only[decide_eq_true_eq,decide_eq_false_iff_not]at*);all_goals(first|exact h2.1|exact h2.2|exact h3.1|exact h3.2|omega|(simp at*;omega)))
 ·refine⟨rfl,?_⟩
  all_goals((repeat'(first|exact rfl|exact trivial|apply zB|intro _|(refine cP (p:=λv=>yg v=Yr _ v) (λhc=>?_) (λhc=>?_))));all_goals(exfalso;simp only[XQ,Wj,Ws,WE,Wq,WC,zM,yF]at*;omega))
def Ze6(r0:Zg->Ze->Int->Int):Con:=conS 143 (λx=>(.cons (.rptr za 16 1 (λ_=>chV (Z4 (x.hd.ZF 0)) ((x.hd.ZF 0).tl.tl.tl.tl.tl.tl.tl.tl.tl.tl.tl.tl.tl.tl.hd.Zy) (λj=>ZM ((x.hd.ZF 0).tl.tl.tl.tl.tl.tl.tl.tl.tl.tl.tl.tl.tl.tl.hd.ZB j)) ((x.hd.ZF 0).tl.tl.tl.tl.tl.tl.tl.tl.tl.tl.tl.tl.tl.tl.tl.hd.toInt) (Z0 (.cons (x.hd.ZF 0).tl.tl.hd .nil)) (ZH (.cons (x.hd.ZF 0).tl.tl.tl.hd (.cons (x.hd.ZF 0).tl.tl.tl.tl.hd .nil))) (ZT (.cons (x.hd.ZF 0).tl.tl.tl.tl.tl.hd .nil))) 0 0) (.cons (.int za .i64 x.tl.hd.toInt) .nil))) (λx=>(.int za .u32 (r0 (Z0 (.cons (x.hd.ZF 0).tl.tl.hd .nil)) (ZH (.cons (x.hd.ZF 0).tl.tl.tl.hd (.cons (x.hd.ZF 0).tl.tl.tl.tl.hd .nil))) x.tl.hd.toInt))) (λx=>(λ(p:Zg)(gu:Ze)(b:Int)=>gu.n0<=1000/\gu.n1<=1000/\(0<=Zk gu b/\Zk gu b<gu.n0)/\0<=(gu.r0 (Zk gu b).toNat).f3/\(gu.r0 (Zk gu b).toNat).f3<p.n0) (Z0 (.cons (x.hd.ZF 0).tl.tl.hd .nil)) (ZH (.cons (x.hd.ZF 0).tl.tl.tl.hd (.cons (x.hd.ZF 0).tl.tl.tl.tl.hd .nil))) x.tl.hd.toInt)
abbrev Uk:Con:=Ze6 Yb
theorem Ze7:Uk.Ok P:=Gv (λx h=>Zok _ _ _ _ _ _ _ _ h.1 h.2.1 h.2.2.1 h.2.2.2)
abbrev Zca(n:Nat)(r:Nat->Zj)(y:Int)(i:Int)(z:Unit):V:=(.cons (.rsl za 11 n (λjj=>zf (zn za zq (Zj.f0 (r jj))) (zf (zn za zq (Zj.f1 (r jj))) (zf (zn za zq (Zj.f2 (r jj))) (zf (zn za yC (Zj.f3 (r jj))) (zf (zn za zq (Zj.f4 (r jj))) (zf (zn za yG (Zj.f5 (r jj))) (zf (zn za yG (Zj.f6 (r jj))) (zf (zn za yG (Zj.f7 (r jj))) (zf (zn za yG (Zj.f8 (r jj))) (zf (zn za zq (Zj.f9 (r jj))) (zf (zn za zq (Zj.f10 (r jj))) zh)))))))))))) (.cons (.fn (Fn.func (212:FuncId)) .nil (.cons (.rptr za (1:Nat) (1:Nat) (λjj=>.cons (.int za zq y) .nil) (0:Nat) (0:Nat)) .nil)) (.cons (.int ze .i64 0) (.cons (.int za .i64 ((n:Nat):Int)) (.cons (.int za .i64 i) .nil)))))
abbrev Zcb(n:Nat)(r:Nat->Zj)(y:Int)(i:Int)(z:Unit):List Blk:=[]
def LixOwn_R(n:Nat)(r:Nat->Zj)(y:Int)(i:Int)(z:Unit):Tree Rd:=
 let q0:=(V.fn (Fn.func (212:FuncId)) zh (zf (V.rptr za (1:Nat) (1:Nat) (λjj=>ci y zh) (0:Nat) (0:Nat)) zh))
 let q1:=(zl za 11 n λjj=>Zo za (r jj))
 zw ((0:Int)<=i/\i<(n:Int)) (zD (bif bif (r (zi i)).f0==y then ze else za then ze else za) (zx (Ex.ret,ze,zf q1 (zf q0 (ci i (ci (n:Int) (ci i zh)))),[])) (zx (Ex.normal,ze,zf q1 (zf q0 (zf (zn ze .i64 (0:Int)) (ci (n:Int) (ci (zy .i64 (i+(1:Int))) zh)))),[])))
theorem Znk(n:Nat)(r:Nat->Zj)(y:Int):Yo P (Zp P [] [] ze) 211 2 0 0 19 [0,1,4,7,8] [] [] (Zca n r y) (Zcb n r y) (λi=>(bif decide (i<(n:Int))then za else ze)) (.exit 0) (LixOwn_R n r y):=λB i z=>by kernel_rfl
def Va(n:Nat)(r:Nat->Zj)(y:Int)(k:Nat):Bool:=(λ(i:Int)(z:Unit)=>(bif bif bif (r (zi i)).f0==y then ze else za then ze else za then ze else za)) k ()
abbrev Znh(n:Nat)(r:Nat->Zj)(y:Int)(i:Int)(z:Unit):V:=(.cons (zl za 11 n λjj=>Zo za (r jj)) (.cons (V.fn (Fn.func (212:FuncId)) zh (zf (V.rptr za (1:Nat) (1:Nat) (λjj=>zf (zn za .i64 y) zh) (0:Nat) (0:Nat)) zh)) (.cons (zn za .i64 i) (.cons (zn za .i64 (n:Int)) (.cons .junk .nil)))))
def Zeh(n:Nat)(r:Nat->Zj)(y:Int):Lp:=lpL 211 2 0 0 19 [0,1,4,7,8] [] [] (Zca n r y) (Zcb n r y) (.exit 0) .ret () (λ_=>()) (Va n r y) (n) (Znh n r y) (Zcb n r y)
def ZjT(n:Nat)(r:Nat->Zj)(y:Int):Prop:=YW 0 [] (Zca n r y) (Zcb n r y) () (Zca n r y (0:Nat) ()) (Zcb n r y (0:Nat) ())
theorem Zni(n:Nat)(r:Nat->Zj)(y:Int):ZjT n r y:=⟨rfl,trivial⟩
theorem Znj(n:Nat)(r:Nat->Zj)(y:Int)(hl:n<=1000):(Zeh n r y).Ok P:=by
 refine Xg (ZC hm hn (l:=[]) trivial (ls:=[]) trivial ze) rfl (by kernel_rfl) (Znk n r y) exN YK (λ_=>rfl) (step:=λ_ z=>z) (rd:=(λ_ t y=>())) (λi z=>rfl) (λi=>(cC rfl rfl)) rfl (λi hlt hg=>?_) (λi z hi=>?_)
 ·have hltI:(i:Int)<((n:Nat):Int):=by omega
  refine⟨?_,⟨λhb0=>trivial,λhb0=>trivial⟩⟩
  all_goals(repeat'(first|exact rfl|exact λ_=>⟨rfl,rfl⟩|apply zB|intro _))
  all_goals(try simp only[decide_eq_true_eq,decide_eq_false_iff_not,yj,yu]at*)
  all_goals(try simp(disch:=omega) only[IntWalk.i64_in])
  all_goals(first|omega)
 ·have hw:=(IntWalk.i64_in ((i:Int)+1) ⟨by omega,by omega⟩)
  refine⟨?_,?_⟩
  all_goals(first|exact⟨rfl,YL (ts:=Zca n r y) (a:=()) hw rfl,Yg _⟩|exact⟨rfl,rfl,(by repeat'(first|exact Le.refl _|exact Le.junk _ rfl|apply Le.cons)),Yg _⟩)
def ZiX(y:Int)(an:Nat)(a:Nat->Zj):Tree V:=
 zw (ZjT an a y) (zD (bif Zv (Va an a y) an then ze else za) (zx (vi ((Yc (Va an a y) an (0:Nat):Nat):Int))) (zx (zn ze .i64 (-1:Int))))
theorem Zqc(y:Int)(an:Nat)(a:Nat->Zj):ZU (Zp P [] [Zeh an a y] ze) 400 211 (.cons (.rsl za 11 an λj=>Zo za (a j)) (.cons (.fn (.func 212) .nil (.cons (.rptr za 1 1 (λ_=>(.cons (.int za .i64 y) .nil)) 0 0) .nil)) .nil))=ZiX y an a:=by kernel_rfl
def Xm(y:Int)(an:Nat)(a:Nat->Zj):Int:=(ZiX y an a).valOf.toInt
theorem Zqb(y:Int)(an:Nat)(a:Nat->Zj)(h0:an<=1000):Zi P 211 (.cons (.rsl za 11 an λj=>Zo za (a j)) (.cons (.fn (.func 212) .nil (.cons (.rptr za 1 1 (λ_=>(.cons (.int za .i64 y) .nil)) 0 0) .nil)) .nil)) (.int za .i64 (Xm y an a)):=by
 refine Wy (E:=(Zp P [] [Zeh an a y] ze)) (ZC hm hn (l:=[]) trivial (ls:=[Zeh an a y]) ⟨Znj an a y h0,trivial⟩ ze) (.int za .i64 0) (Has.of hn Tryz.func211 rfl) (Zqc y an a) ?_ ?_
 ·refine⟨?_,⟨λhb0=>trivial,λhb0=>trivial⟩⟩
  all_goals(first|exact Zni an a y|((repeat'(first|exact rfl|exact QZ _|exact λ_=>⟨rfl,rfl⟩|apply zB|intro _));all_goals(try simp only[decide_eq_true_eq,decide_eq_false_iff_not]at*);all_goals(first|omega|(simp at*;omega))))
 ·refine⟨⟨rfl,?_⟩,⟨rfl,?_⟩⟩
  all_goals((repeat'(first|exact rfl|exact trivial|apply zB|intro _|(refine cP (p:=λv=>yg v=Yr _ v) (λhc=>?_) (λhc=>?_))));all_goals(exfalso;simp only[XQ,Wj,Ws,WE,Wq,WC,zM,yF]at*;omega))
def c_ixOwnA(r0:Int->Nat->(Nat->Zj)->Int):Con:=Yh 211 (λx=>(.cons (.rsl za 11 x.hd.Zy λj=>Zo za ((λj=>ZV (x.hd.ZB j)) j)) (.cons (.fn (.func 212) .nil (.cons (.rptr za 1 1 (λ_=>(.cons (.int za .i64 ((x.tl.hd.Xk.hd.ZF 0).hd.toInt)) .nil)) 0 0) .nil)) .nil))) (λx=>(.int za .i64 (r0 ((x.tl.hd.Xk.hd.ZF 0).hd.toInt) x.hd.Zy (λj=>ZV (x.hd.ZB j))))) (λx=>(λ(y:Int)(an:Nat)(a:Nat->Zj)=>an<=1000) ((x.tl.hd.Xk.hd.ZF 0).hd.toInt) x.hd.Zy (λj=>ZV (x.hd.ZB j)))
abbrev Zfp:Con:=c_ixOwnA Xm
theorem Zoa:Zfp.Ok P:=Yi (λx h=>Zqb _ _ _ h)
theorem ixOwn_eq(y:Int)(an:Nat)(a:Nat->Zj):Xm y an a=bif Zv (Va an a y) an then((Yc (Va an a y) an 0:Nat):Int)else -1:=by
 unfold Xm ZiX
 show V.toInt (bif (bif Zv (Va an a y) an then ze else za)then _ else _)=_
 cases Zv (Va an a y) an<;>rfl
abbrev ZfG(a:Ze)(b:Int)(i:Int)(z:Nat×(Nat->DT3)):V:=(.cons (.fn (Fn.func (209:Nat)) .nil (.cons (.ptr ze (1:Nat) (0:Nat) (0:Nat) (0:Nat)) .nil)) (.cons .Zl (.cons (.osl za 3 1 0 z.1) (.cons (.rsl za 4 (Ze.n1 a) (λj=>Zn za (a.r1 j))) (.cons (.int za .i64 (((Ze.n1 a):Nat):Int)) (.cons (.int za .i64 i) .nil))))))
abbrev do1_ys(a:Ze)(b:Int)(i:Int)(z:Nat×(Nat->DT3)):List Blk:=[.var (.cons (.rsl za 4 (Ze.n0 a) (λj=>Zr za (a.r0 j))) (.cons (.rsl za 4 (Ze.n1 a) (λj=>Zn za (a.r1 j))) .nil)),.var (.cons (.int za .i64 (b)) .nil),.var (.cons (.rsl za 4 (Ze.n0 a) (λj=>Zr za (a.r0 j))) (.cons (.rsl za 4 (Ze.n1 a) (λj=>Zn za (a.r1 j))) .nil)),.arr 1 z.1 (λj=>ZP za (z.2 j))]
def do1_R(a:Ze)(b:Int)(i:Int)(z:Nat×(Nat->DT3)):Tree Rd:=
 let q3:=(zl za 4 a.n1 λjj=>Zn za (a.4 jj))
 let q0:=(zf (zl za 4 a.n0 λjj=>Zr za (a.2 jj)) (zf q3 zh))
 let q1:=(zf q3 (ci ((a.n1:Nat):Int) (ci (zy .i64 (i+(1:Int))) zh)))
 let q2:=(V.fn (Fn.func (209:Nat)) zh (zf (pt 1) zh))
 zw ((0:Int)<=i/\i<((a.n1:Nat):Int)) (zD ((a.4 (zi i)).f1==b) (zw (zL z<=zL z/\fits (zL z+(1:Nat)) (8:Nat)) (zx (Ex.normal,ze,zf q2 (zf V.Zl (zf (V.osl za 3 1 0 (zL z+(1:Nat))) q1)),[zN q0,zN (ci b zh),zN q0,Blk.arr 1 (zL z+(1:Nat)) λjj=>bif zo jj (zL z+nat_lit 0)then ci (a.4 (zi i)).f0 zh else ci (z.2 jj).f0 zh]))) (zx (Ex.normal,ze,zf q2 (zf V.Zl (zf (V.osl za 3 1 0 (zL z)) q1)),[zN q0,zN (ci b zh),zN q0,Blk.arr 1 (zL z) λjj=>ci (z.2 jj).f0 zh])))
theorem do1_round(a:Ze)(b:Int):Yo P (Zp P [Ve] [] ze) 208 5 3 4 28 [1,4,5,12,13,14] [(0,.own),(1,.own),(2,.own),(3,.tmp 5)] [] (ZfG a b) (do1_ys a b) (λi=>(bif decide (i<((a.n1:Nat):Int))then za else ze)) (.exit 0) (do1_R a b):=λB i z=>by kernel_rfl
def ZkO(a:Ze)(b:Int)(k:Nat)(z:Nat×(Nat->DT3)):Nat×(Nat->DT3):=(λ(i:Int)(z:Nat×(Nat->DT3))=>(bif (a.4 (zi i)).f1==b then((((zL z+(1:Nat)):Nat),(λ(jj:Nat)=>ZM (bif zo jj (zL z+nat_lit 0)then zf (zn za .i64 (a.4 (zi i)).f0) zh else zf (zn za .i64 (z.2 jj).f0) zh))))else((((zL z):Nat),(λ(jj:Nat)=>ZM (zf (zn za .i64 (z.2 jj).f0) zh)))))) k z
def Un(a:Ze)(b:Int)(k:Nat):Nat×(Nat->DT3):=ZQ (0,(λ_=>ZM .nil)) (ZkO a b) k
theorem do1_cnt(a:Ze)(b:Int)(k:Nat):(Un a b k).1<=k:=Zeq (m:=λz:Nat×(Nat->DT3)=>z.1) (zJ _) (λk z=>((WI (p:=λy:Nat×(Nat->DT3)=>y.1<=z.1+1) (by show _<=_+1;first|omega|exact Nat.le_succ _|exact zJ _) (by show _<=_+1;first|omega|exact Nat.le_succ _|exact zJ _)):(λy:Nat×(Nat->DT3)=>y.1<=z.1+1) (ZkO a b k z))) k
def do1_lp(a:Ze)(b:Int):Lp:=JE 208 5 3 4 28 [1,4,5,12,13,14] [(0,.own),(1,.own),(2,.own),(3,.tmp 5)] [] (ZfG a b) (do1_ys a b) (.exit 0) (0,(λ_=>ZM .nil)) (Un a b) (Ze.n1 a)
def ZkN(a:Ze)(b:Int):Prop:=YW 4 [] (ZfG a b) (do1_ys a b) (0,(λ_=>ZM .nil)) (.cons (.fn (Fn.func (209:Nat)) .nil (.cons (.ptr ze (1:Nat) (0:Nat) (0:Nat) (0:Nat)) .nil)) (.cons .Zl (.cons .Zl (.cons (.rsl za 4 (Ze.n1 a) (λj=>Zn za (a.r1 j))) (.cons (.int za .i64 (((Ze.n1 a):Nat):Int)) (.cons (.int za .i64 (0:Int)) .nil)))))) [.var (.cons (.rsl za 4 (Ze.n0 a) (λj=>Zr za (a.r0 j))) (.cons (.rsl za 4 (Ze.n1 a) (λj=>Zn za (a.r1 j))) .nil)),.var (.cons (.int za .i64 (b)) .nil),.var (.cons (.rsl za 4 (Ze.n0 a) (λj=>Zr za (a.r0 j))) (.cons (.rsl za 4 (Ze.n1 a) (λj=>Zn za (a.r1 j))) .nil)),.none]
theorem do1_fit(a:Ze)(b:Int):ZkN a b:=⟨⟨rfl,rfl,⟨rfl,by decide⟩,rfl,rfl,rfl,rfl⟩,⟨rfl,rfl,rfl,rfl,trivial⟩⟩
theorem do1_lp_ok(a:Ze)(b:Int)(hl:a.n1<=1000):(do1_lp a b).Ok P:=by
 refine JY (ZC hm hn (l:=[Ve]) ⟨Zfh,trivial⟩ (ls:=[]) trivial ze) rfl (by kernel_rfl) (do1_round a b) exN YK (λ_=>rfl) (rd:=(λ_ t y=>((t.nth 2).oslN,(λj=>ZM ((y.getD 3 .none).Kg j))))) (λi z=>(cC rfl rfl)) (λi=>(cS rfl rfl)) rfl (λi hlt hg=>?_) (λi z hi=>?_)
 ·have hltI:(i:Int)<(((Ze.n1 a):Nat):Int):=by omega
  refine⟨?_,⟨λhb0=>⟨?_,trivial⟩,λhb0=>trivial⟩⟩
  all_goals(have hf0:=do1_cnt a b i)
  all_goals(repeat'(first|exact rfl|exact λ_=>⟨rfl,rfl⟩|apply zB|intro _))
  all_goals(try simp only[decide_eq_true_eq,decide_eq_false_iff_not,yj,yu]at*)
  all_goals(try simp(disch:=omega) only[IntWalk.i64_in])
  all_goals(first|omega)
 ·have hw:=(IntWalk.i64_in ((i:Int)+1) ⟨by omega,by omega⟩)
  refine⟨?_,?_⟩
  all_goals exact⟨rfl,YL (ts:=ZfG a b) hw rfl,⟨LeK.refl _,LeK.refl _,LeK.refl _,LeK.QL rfl (λj hj=>by first|rfl|exact ZbN (g:=λv=>(ZP za (ZM v)).soft) rfl rfl),trivial⟩⟩
def dOf_T(a:Ze)(b:Int):Tree V:=
 let q0:=(zf (zl za 4 a.n0 λj=>Zr za (a.2 j)) (zf (zl za 4 a.n1 λj=>Zn za (a.4 j)) zh))
 zw (zf (zH q0) zh=zf (zH q0) zh/\a.n0<=(1000:Nat)/\a.n1<=(1000:Nat)) (zD (bif Wu (ZH q0) != (0:Int)then ze else za) (zx V.Zl) (zw (ZkN a b) (zw ((0:Nat)+zL (Un a b a.n1)<=zL (Un a b a.n1)) (zx (zl za 1 (zL (Un a b a.n1)) λj=>ci ((Un a b a.n1).2 ((0:Nat)+j)).f0 zh)))))
theorem dOf_tree(a:Ze)(b:Int):ZU (Zp P [Ve] [do1_lp a b] ze) 400 171 (.cons (.agg (Kj za a)) (.cons (.int za .i64 b) .nil))=dOf_T a b:=by kernel_rfl
def dOf_r0(a:Ze)(b:Int):Nat:=
  (bif bif Wu (ZH (zf (zl za 4 a.n0 λj=>Zr za (a.2 j)) (zf (zl za 4 a.n1 λj=>Zn za (a.4 j)) zh))) != (0 :
  Int)then ze else za then(0:Nat)else zL (Un a b a.n1))
def dOf_r1(a:Ze)(b:Int):Nat->DT3:=
  λj=>ZM ((λj=>zf (zn za .i64 ((Un a b a.n1).2 ((0:Nat)+j)).f0) zh) j)
theorem dOf_meets(a:Ze)(b:Int)(h0:a.n0<=1000)(h1:a.n1<=1000):Zi P 171 (.cons (.agg (Kj za a)) (.cons (.int za .i64 b) .nil)) (.rsl za 1 (dOf_r0 a b) (λj=>ZP za ((dOf_r1 a b) j))):=
 Xp (ZC hm hn (l:=[Ve]) ⟨Zfh,trivial⟩ (ls:=[do1_lp a b]) ⟨do1_lp_ok a b h1,trivial⟩ ze) 400 (Has.of hn Tryz.func171 rfl) (dOf_tree a b) (Tree.Pre.mk (by refine⟨?_,⟨λ_=>trivial,λ_=>⟨?_,⟨?_,trivial⟩⟩⟩⟩;all_goals(first|exact do1_fit a b|(((repeat'(first|exact rfl|exact λ_=>⟨rfl,rfl⟩|apply zB|intro _));all_goals(try simp only[decide_eq_true_eq,decide_eq_false_iff_not]at*);all_goals omega))))) (by kernel_rfl) (by kernel_rfl)
def c_dOf:Con:=Yh 171 (λx=>(.cons (.agg (Kj za (ZH x.hd.inner))) (.cons (.int za .i64 x.tl.hd.toInt) .nil))) (λx=>(.rsl za 1 (dOf_r0 (ZH x.hd.inner) x.tl.hd.toInt) (λj=>ZP za ((dOf_r1 (ZH x.hd.inner) x.tl.hd.toInt) j)))) (λx=>(ZH x.hd.inner).n0<=1000/\(ZH x.hd.inner).n1<=1000)
theorem c_dOf_ok:c_dOf.Ok P:=Yi (λx h=>dOf_meets _ _ h.1 h.2)
def Zig(d:Za)(gn:Nat)(gr:Nat->DT3)(sa:Int)(p:Zg)(gu:Ze)(ga:Zd)(b:Int):Tree V:=
 let q5:=(zl za 4 gu.n0 λj=>Zr za (gu.2 j))
 let q6:=(zl za 4 gu.n1 λj=>Zn za (gu.4 j))
 let q3:=(zl za 11 d.n6 λj=>Zo za (d.13 j))
 let q0:=(zf (V.rptr za (16:Nat) (1:Nat) (λjj=>ci d.f0 (zf (zl za 2 d.n1 λj=>ZR za (d.3 j)) (zf (zl za 1 p.n0 λj=>zf (zn za .u32 (p.2 j).f0) zh) (zf q5 (zf q6 (zf (zl za 2 ga.n0 λj=>Zw za (ga.2 j)) (zf q3 (zf (zl za 2 d.n7 λj=>ZO za (d.15 j)) (zf (zl za 5 d.n8 λj=>ZI za (d.17 j)) (ci d.f9 (zf (zl za 2 d.n10 λj=>ZE za (d.20 j)) (zf (zl za 3 d.n11 λj=>Zx za (d.22 j)) (zf (zl za 2 d.n12 λj=>Zt za (d.24 j)) (zf (zn za .u64 d.f13) (zf (zl za 1 gn λj=>ci (gr j).f0 zh) (ci sa zh)))))))))))))))) (0:Nat) (0:Nat)) (ci b zh))
 let q1:=(zf q5 (zf q6 zh))
 let q2:=(Xm b d.n6 λj=>ZV (Zo za (d.13 j)))
 let q4:=(gu.2 (zi (Zk (ZH q1) b)))
 zw (sR q0 q0/\gu.n0<=(1000:Nat)/\gu.n1<=(1000:Nat)) (zw ((0:Int)<=Zk (ZH q1) b/\Zk (ZH q1) b<((gu.n0:Nat):Int)) (zw (zf (zH q1) (ci q4.f0 zh)=zf (zH q1) (ci q4.f0 zh)/\gu.n0<=(1000:Nat)/\gu.n1<=(1000:Nat)) (zw (zf q3 (zf (V.fn (Fn.func (212:Nat)) zh (zf (V.rptr za (1:Nat) (1:Nat) (λj=>ci b zh) (0:Nat) (0:Nat)) zh)) zh)=zf q3 (zf (V.fn (Fn.func (212:FuncId)) zh (zf (V.rptr za (1:Nat) (1:Nat) (λjj=>ci b zh) (0:Nat) (0:Nat)) zh)) zh)/\d.n6<=(1000:Nat)) (zw (decide (q2<(0:Int))=za) (zw (((0:Int)<=Xm b d.n6 λj=>ZV (Zo za (d.13 j)))/\q2<((d.n6:Nat):Int)) (zx (zH (ci b (ci ((dOf_r0 (ZH q1) q4.f0:Nat):Int) (zf (zn za .u64 (d.13 (zi q2)).f5) (zf (zn za .u64 (d.13 (zi q2)).f6) (zf (zn za .u64 (d.13 (zi q2)).f7) zh))))))))))))
theorem Zon(d:Za)(gn:Nat)(gr:Nat->DT3)(sa:Int)(p:Zg)(gu:Ze)(ga:Zd)(b:Int):ZU { (Zp P [Vx,c_dOf,Zfp] [] ze)with way:=WV [(173,14,za)] } 400 215 (.cons (.rptr za 16 1 (λ_=>chV d gn gr sa p gu ga) 0 0) (.cons (.int za .i64 b) .nil))=Zig d gn gr sa p gu ga b:=by kernel_rfl
def Kk(d:Za)(gu:Ze)(b:Int):XZ:=Zbh (Zig d 0 (λ_=>ZM .nil) 0 (Z0 .nil) gu (ZT .nil) b).valOf.inner
theorem Zom(d:Za)(gn:Nat)(gr:Nat->DT3)(sa:Int)(p:Zg)(gu:Ze)(ga:Zd)(b:Int)(h0:gu.n0<=1000)(h1:gu.n1<=1000)(h2:d.n6<=1000)(h3:0<=Zk gu b/\Zk gu b<gu.n0)(h4:0<=Xm b d.n6 d.r6/\Xm b d.n6 d.r6<((d.n6:Nat):Int)):Zi P 215 (.cons (.rptr za 16 1 (λ_=>chV d gn gr sa p gu ga) 0 0) (.cons (.int za .i64 b) .nil)) (.agg (Ul za (Kk d gu b))):=by
 refine(show Yr (.agg Zmj) (Zig d gn gr sa p gu ga b).valOf=(.agg (Ul za (Kk d gu b)))from by kernel_rfl)▸ ?_
 refine Wy (E:={ (Zp P [Vx,c_dOf,Zfp] [] ze)with way:=WV [(173,14,za)] }) (Env.Ok.ZbY (ZC hm hn (l:=[Vx,c_dOf,Zfp]) ⟨ZhM,c_dOf_ok,Zoa,trivial⟩ (ls:=[]) trivial ze) (WV [(173,14,za)])) (.agg Zmj) (Has.of hn Tryz.func215 rfl) (Zon d gn gr sa p gu ga b) ?_ ?_
 ·refine⟨?_,⟨?_,⟨?_,⟨?_,⟨?_,⟨?_,trivial⟩⟩⟩⟩⟩⟩
  all_goals((repeat'(first|exact rfl|exact QZ _|exact λ_=>⟨rfl,rfl⟩|apply zB|intro _));all_goals(try simp only[decide_eq_true_eq,decide_eq_false_iff_not]at*);all_goals(first|exact h3.1|exact h3.2|exact h4.1|exact h4.2|exact Int.not_lt.mpr h4.1|omega|(simp at*;omega)))
 ·refine⟨rfl,?_⟩
  all_goals((repeat'(first|exact rfl|exact trivial|apply zB|intro _|(refine cP (p:=λv=>yg v=Yr _ v) (λhc=>?_) (λhc=>?_))));all_goals(exfalso;simp only[XQ,Wj,Ws,WE,Wq,WC,zM,yF]at*;omega))
def U8(r0:Za->Ze->Int->XZ):Con:=conS 215 (λx=>(.cons (.rptr za 16 1 (λ_=>chV (Z4 (x.hd.ZF 0)) ((x.hd.ZF 0).tl.tl.tl.tl.tl.tl.tl.tl.tl.tl.tl.tl.tl.tl.hd.Zy) (λj=>ZM ((x.hd.ZF 0).tl.tl.tl.tl.tl.tl.tl.tl.tl.tl.tl.tl.tl.tl.hd.ZB j)) ((x.hd.ZF 0).tl.tl.tl.tl.tl.tl.tl.tl.tl.tl.tl.tl.tl.tl.tl.hd.toInt) (Z0 (.cons (x.hd.ZF 0).tl.tl.hd .nil)) (ZH (.cons (x.hd.ZF 0).tl.tl.tl.hd (.cons (x.hd.ZF 0).tl.tl.tl.tl.hd .nil))) (ZT (.cons (x.hd.ZF 0).tl.tl.tl.tl.tl.hd .nil))) 0 0) (.cons (.int za .i64 x.tl.hd.toInt) .nil))) (λx=>(.agg (Ul za (r0 (Z4 (x.hd.ZF 0)) (ZH (.cons (x.hd.ZF 0).tl.tl.tl.hd (.cons (x.hd.ZF 0).tl.tl.tl.tl.hd .nil))) x.tl.hd.toInt)))) (λx=>(λ(d:Za)(gu:Ze)(b:Int)=>gu.n0<=1000/\gu.n1<=1000/\d.n6<=1000/\(0<=Zk gu b/\Zk gu b<gu.n0)/\0<=Xm b d.n6 d.r6/\Xm b d.n6 d.r6<((d.n6:Nat):Int)) (Z4 (x.hd.ZF 0)) (ZH (.cons (x.hd.ZF 0).tl.tl.tl.hd (.cons (x.hd.ZF 0).tl.tl.tl.tl.hd .nil))) x.tl.hd.toInt)
abbrev ZnN:Con:=U8 Kk
theorem Zkd:ZnN.Ok P:=Gv (λx h=>Zom _ _ _ _ _ _ _ _ h.1 h.2.1 h.2.2.1 h.2.2.2.1 h.2.2.2.2)
abbrev Zb2(an:Nat)(a:Nat->DT3)(b:Int)(i:Int)(z:Unit):V:=(.cons (.rsl za 1 an (λjj=>zf (zn za zq (DT3.f0 (a jj))) zh)) (.cons (.int za .i64 (b)) (.cons (.int ze .i64 0) (.cons (.int za .i64 ((an:Nat):Int)) (.cons (.int za .i64 i) .nil)))))
abbrev Zb3(an:Nat)(a:Nat->DT3)(b:Int)(i:Int)(z:Unit):List Blk:=[]
def Lix3_R(an:Nat)(a:Nat->DT3)(b:Int)(i:Int)(z:Unit):Tree Rd:=
 let q0:=(zl za 1 an λjj=>ci (a jj).f0 zh)
 zw ((0:Int)<=i/\i<(an:Int)) (zD (bif bif b==(a (zi i)).f0 then ze else za then ze else za) (zx (Ex.ret,ze,zf q0 (ci b (ci i (ci (an:Int) (ci i zh)))),[])) (zx (Ex.normal,ze,zf q0 (ci b (zf (zn ze .i64 (0:Int)) (ci (an:Int) (ci (zy .i64 (i+(1:Int))) zh)))),[])))
theorem Zm4(an:Nat)(a:Nat->DT3)(b:Int):Yo P (Zp P [] [] ze) 193 2 0 0 19 [0,1,4,7,8] [] [] (Zb2 an a b) (Zb3 an a b) (λi=>(bif decide (i<(an:Int))then za else ze)) (.exit 0) (Lix3_R an a b):=λB i z=>by kernel_rfl
def Zeb(an:Nat)(a:Nat->DT3)(b:Int)(k:Nat):Bool:=(λ(i:Int)(z:Unit)=>(bif bif bif b==(a (zi i)).f0 then ze else za then ze else za then ze else za)) k ()
abbrev Lix3_ets(an:Nat)(a:Nat->DT3)(b:Int)(i:Int)(z:Unit):V:=(.cons (zl za 1 an λjj=>zf (zn za .i64 (a jj).f0) zh) (.cons (zn za .i64 b) (.cons (zn za .i64 i) (.cons (zn za .i64 (an:Int)) (.cons .junk .nil)))))
def Zec(an:Nat)(a:Nat->DT3)(b:Int):Lp:=lpL 193 2 0 0 19 [0,1,4,7,8] [] [] (Zb2 an a b) (Zb3 an a b) (.exit 0) .ret () (λ_=>()) (Zeb an a b) (an) (Lix3_ets an a b) (Zb3 an a b)
def ZjP(an:Nat)(a:Nat->DT3)(b:Int):Prop:=YW 0 [] (Zb2 an a b) (Zb3 an a b) () (Zb2 an a b (0:Nat) ()) (Zb3 an a b (0:Nat) ())
theorem Lix3_fit(an:Nat)(a:Nat->DT3)(b:Int):ZjP an a b:=⟨rfl,trivial⟩
theorem Zm3(an:Nat)(a:Nat->DT3)(b:Int)(hl:an<=1000):(Zec an a b).Ok P:=by
 refine Xg (ZC hm hn (l:=[]) trivial (ls:=[]) trivial ze) rfl (by kernel_rfl) (Zm4 an a b) exN YK (λ_=>rfl) (step:=λ_ z=>z) (rd:=(λ_ t y=>())) (λi z=>rfl) (λi=>(cC rfl rfl)) rfl (λi hlt hg=>?_) (λi z hi=>?_)
 ·have hltI:(i:Int)<((an:Nat):Int):=by omega
  refine⟨?_,⟨λhb0=>trivial,λhb0=>trivial⟩⟩
  all_goals(repeat'(first|exact rfl|exact λ_=>⟨rfl,rfl⟩|apply zB|intro _))
  all_goals(try simp only[decide_eq_true_eq,decide_eq_false_iff_not,yj,yu]at*)
  all_goals(try simp(disch:=omega) only[IntWalk.i64_in])
  all_goals(first|omega)
 ·have hw:=(IntWalk.i64_in ((i:Int)+1) ⟨by omega,by omega⟩)
  refine⟨?_,?_⟩
  all_goals(first|exact⟨rfl,YL (ts:=Zb2 an a b) (a:=()) hw rfl,Yg _⟩|exact⟨rfl,rfl,(by repeat'(first|exact Le.refl _|exact Le.junk _ rfl|apply Le.cons)),Yg _⟩)
def ix3_T(an:Nat)(a:Nat->DT3)(b:Int):Tree V:=
 zw (ZjP an a b) (zD (bif Zv (Zeb an a b) an then ze else za) (zx (vi ((Yc (Zeb an a b) an (0:Nat):Nat):Int))) (zx (zn ze .i64 (-1:Int))))
theorem ix3_tree(an:Nat)(a:Nat->DT3)(b:Int):ZU (Zp P [] [Zec an a b] ze) 400 193 (.cons (.rsl za 1 an λj=>ZP za (a j)) (.cons (.int za .i64 b) .nil))=ix3_T an a b:=by kernel_rfl
def Zbn(an:Nat)(a:Nat->DT3)(b:Int):Int:=(ix3_T an a b).valOf.toInt
theorem ix3_meets(an:Nat)(a:Nat->DT3)(b:Int)(h0:an<=1000):Zi P 193 (.cons (.rsl za 1 an λj=>ZP za (a j)) (.cons (.int za .i64 b) .nil)) (.int za .i64 (Zbn an a b)):=by
 refine Wy (E:=(Zp P [] [Zec an a b] ze)) (ZC hm hn (l:=[]) trivial (ls:=[Zec an a b]) ⟨Zm3 an a b h0,trivial⟩ ze) (.int za .i64 0) (Has.of hn Tryz.func193 rfl) (ix3_tree an a b) ?_ ?_
 ·refine⟨?_,⟨λhb0=>trivial,λhb0=>trivial⟩⟩
  all_goals(first|exact Lix3_fit an a b|((repeat'(first|exact rfl|exact λ_=>⟨rfl,rfl⟩|apply zB|intro _));all_goals(try simp only[decide_eq_true_eq,decide_eq_false_iff_not]at*);all_goals(first|omega|(simp at*;omega))))
 ·refine⟨⟨rfl,?_⟩,⟨rfl,?_⟩⟩
  all_goals((repeat'(first|exact rfl|exact trivial|apply zB|intro _|(refine cP (p:=λv=>yg v=Yr _ v) (λhc=>?_) (λhc=>?_))));all_goals(exfalso;simp only[XQ,Wj,Ws,WE,Wq,WC,zM,yF]at*;omega))
def c_ix3A(r0:Nat->(Nat->DT3)->Int->Int):Con:=Yh 193 (λx=>(.cons (.rsl za 1 x.hd.Zy λj=>ZP za ((λj=>ZM (x.hd.ZB j)) j)) (.cons (.int za .i64 x.tl.hd.toInt) .nil))) (λx=>(.int za .i64 (r0 x.hd.Zy (λj=>ZM (x.hd.ZB j)) x.tl.hd.toInt))) (λx=>(λ(an:Nat)(a:Nat->DT3)(b:Int)=>an<=1000) x.hd.Zy (λj=>ZM (x.hd.ZB j)) x.tl.hd.toInt)
abbrev c_ix3:Con:=c_ix3A Zbn
theorem c_ix3_ok:c_ix3.Ok P:=Yi (λx h=>ix3_meets _ _ _ h)
def ct3_T(an:Nat)(a:Nat->DT3)(b:Int):Tree V:=
 let q0:=(zl za 1 an λj=>ci (a j).f0 zh)
 zw (zf q0 (ci b zh)=zf q0 (ci b zh)/\an<=(1000:Nat)) (zx (zC za (decide (Zbn an (λj=>ZM (ZP za (a j))) b>=(0:Int)))))
theorem ct3_tree(an:Nat)(a:Nat->DT3)(b:Int):ZU (Zp P [c_ix3] [] ze) 400 148 (.cons (.rsl za 1 an λj=>ZP za (a j)) (.cons (.int za .i64 b) .nil))=ct3_T an a b:=by kernel_rfl
def Yy(an:Nat)(a:Nat->DT3)(b:Int):Bool:=(ct3_T an a b).valOf.toBool
theorem ct3_meets(an:Nat)(a:Nat->DT3)(b:Int)(h0:an<=1000):Zi P 148 (.cons (.rsl za 1 an λj=>ZP za (a j)) (.cons (.int za .i64 b) .nil)) (.bool za (Yy an a b)):=by
 refine Wy (E:=(Zp P [c_ix3] [] ze)) (ZC hm hn (l:=[c_ix3]) ⟨c_ix3_ok,trivial⟩ (ls:=[]) trivial ze) (.bool za za) (Has.of hn Tryz.func148 rfl) (ct3_tree an a b) ?_ ?_
 ·refine⟨?_,trivial⟩
  all_goals((repeat'(first|exact rfl|exact λ_=>⟨rfl,rfl⟩|apply zB|intro _));all_goals(try simp only[decide_eq_true_eq,decide_eq_false_iff_not]at*);all_goals(first|omega|(simp at*;omega)))
 ·refine⟨rfl,?_⟩
  all_goals((repeat'(first|exact rfl|exact trivial|apply zB|intro _|(refine cP (p:=λv=>yg v=Yr _ v) (λhc=>?_) (λhc=>?_))));all_goals(exfalso;simp only[XQ,Wj,Ws,WE,Wq,WC,zM,yF]at*;omega))
def Ga(r0:Nat->(Nat->DT3)->Int->Bool):Con:=Yh 148 (λx=>(.cons (.rsl za 1 x.hd.Zy λj=>ZP za ((λj=>ZM (x.hd.ZB j)) j)) (.cons (.int za .i64 x.tl.hd.toInt) .nil))) (λx=>(.bool za (r0 x.hd.Zy (λj=>ZM (x.hd.ZB j)) x.tl.hd.toInt))) (λx=>(λ(an:Nat)(a:Nat->DT3)(b:Int)=>an<=1000) x.hd.Zy (λj=>ZM (x.hd.ZB j)) x.tl.hd.toInt)
abbrev ZaK:Con:=Ga Yy
theorem Zfg:ZaK.Ok P:=Yi (λx h=>ct3_meets _ _ _ h)
structure Zf where mk::
 (a:Za) (oh:Int->Bool) (og:Int->Int) (nh:Int->Bool) (ng:Int->Int) (hh:Int->Bool) (hg:Int->Int)
abbrev mapI(h:Int->Bool)(g:Int->Int):Blk:=.Zm (.int .i64) za (λx=>(h (Zb x),.int za .i64 (g (Zb x)))) zm
abbrev YB(a:Za):V:=V.app (Z9 za a) (.cons (.mp 1) (.cons (.mp 2) (.cons (.mp 3) .nil)))
abbrev YA(d:Zf):List Blk:=[.var (YB d.a),mapI d.oh d.og,mapI d.nh d.ng,mapI d.hh d.hg]
abbrev XF(c:V)(fo fn fh:Value->Bool×V):Zf:=⟨Z4 c,λj=>(fo (.int .i64 j)).1,λj=>(fo (.int .i64 j)).2.toInt,λj=>(fn (.int .i64 j)).1,λj=>(fn (.int .i64 j)).2.toInt,λj=>(fh (.int .i64 j)).1,λj=>(fh (.int .i64 j)).2.toInt⟩
abbrev mapFit(f:Value->Bool×V):Prop:=YR .i64 (λx=>((f (.int .i64 (Zb x))).1,.int za .i64 (f (.int .i64 (Zb x))).2.toInt)) f
def UZ(c:V)(fo fn fh:Value->Bool×V):Prop:=c.soft=YB (Z4 c)/\mapFit fo/\mapFit fn/\mapFit fh
theorem RLsoft{F:Nat->Prop}{w:World}{n:Nat}{m:Nat->Option Nat}{a b:V}{xs:List Value}(h:a.soft=b.soft)(hx:RL F w a n m xs):RL F w b n m xs:=by
 have h1:=((Y0 a n m).2 xs).2 hx
 rw[h]at h1
 exact((Y0 b n m).2 xs).1 h1
abbrev mO(d:Zf):Blk:=.Zm (.int .i64) za (λ(x:Value)=>(d.oh (Zb x),zn za .i64 (d.og (Zb x)))) zm
abbrev mN(d:Zf):Blk:=.Zm (.int .i64) za (λ(x:Value)=>(d.nh (Zb x),zn za .i64 (d.ng (Zb x)))) zm
abbrev mH(d:Zf):Blk:=.Zm (.int .i64) za (λ(x:Value)=>(d.hh (Zb x),zn za .i64 (d.hg (Zb x)))) zm
theorem Zaw{c:V}{fo fn fh:Value->Bool×V}{q1 q3 q5:Bool}{q2 q4 q6:Ks}(h:UZ c fo fn fh)(b:Nat) :
  LeK (YA (XF c fo fn fh)).length ([zN c,.Zm (.int .i64) q1 fo q2,.Zm (.int .i64) q3 fn q4,.Zm (.int .i64) q5 fh q6].getD b .none) ((YA (XF c fo fn fh)).getD b .none):=by
 match b with
 |0=>exact LeK.var (Le.soft (h.1.trans (show YB (Z4 c)=(YB (Z4 c)).soft by kernel_rfl)))
 |1=>exact Wd λa=>⟨rfl,Le.soft (h.2.1 a).2.symm⟩
 |2=>exact Wd λa=>⟨rfl,Le.soft (h.2.2.1 a).2.symm⟩
 |3=>exact Wd λa=>⟨rfl,Le.soft (h.2.2.2 a).2.symm⟩
 |_+4=>exact LeK.refl _
abbrev Zdi(a:Za)(i:Int)(z:(Int->Bool)×(Int->Int)):V:=(.cons (.ptr ze 0 0 0 0) (.cons .nilptr (.cons (.ptr ze 4 0 0 0) (.cons (.rsl za 11 (Za.n6 a) (λj=>Zo za (a.r6 j))) (.cons (.int za .i64 (((Za.n6 a):Nat):Int)) (.cons (.int za .i64 i) .nil))))))
abbrev Zgi(a:Za)(i:Int)(z:(Int->Bool)×(Int->Int)):List Blk:=[.var (.cons (.int za .i64 (Za.f0 a)) (.cons (.rsl za 2 (Za.n1 a) (λj=>ZR za (a.r1 j))) (.cons (.rsl za 1 (Za.n2 a) (λj=>ZL za (a.r2 j))) (.cons (.rsl za 4 (Za.n3 a) (λj=>Zr za (a.r3 j))) (.cons (.rsl za 4 (Za.n4 a) (λj=>Zn za (a.r4 j))) (.cons (.rsl za 2 (Za.n5 a) (λj=>Zw za (a.r5 j))) (.cons (.rsl za 11 (Za.n6 a) (λj=>Zo za (a.r6 j))) (.cons (.rsl za 2 (Za.n7 a) (λj=>ZO za (a.r7 j))) (.cons (.rsl za 5 (Za.n8 a) (λj=>ZI za (a.r8 j))) (.cons (.int za .i64 (Za.f9 a)) (.cons (.rsl za 2 (Za.n10 a) (λj=>ZE za (a.r10 j))) (.cons (.rsl za 3 (Za.n11 a) (λj=>Zx za (a.r11 j))) (.cons (.rsl za 2 (Za.n12 a) (λj=>Zt za (a.r12 j))) (.cons (.int za .u64 (Za.f13 a)) .nil)))))))))))))),.Zm (.int .i64) za (λx=>(z.1 (Zb x),.int za .i64 (z.2 (Zb x)))) zm,.Zm (.int .i64) za (λ(x:Value)=>(za,zn ze zq (0:Int))) zm,.Zm (.int .i64) za (λ(x:Value)=>(za,zn ze zq (0:Int))) zm,.var (.cons (.int za .i64 (Za.f0 a)) (.cons (.rsl za 2 (Za.n1 a) (λj=>ZR za (a.r1 j))) (.cons (.rsl za 1 (Za.n2 a) (λj=>ZL za (a.r2 j))) (.cons (.rsl za 4 (Za.n3 a) (λj=>Zr za (a.r3 j))) (.cons (.rsl za 4 (Za.n4 a) (λj=>Zn za (a.r4 j))) (.cons (.rsl za 2 (Za.n5 a) (λj=>Zw za (a.r5 j))) (.cons (.rsl za 11 (Za.n6 a) (λj=>Zo za (a.r6 j))) (.cons (.rsl za 2 (Za.n7 a) (λj=>ZO za (a.r7 j))) (.cons (.rsl za 5 (Za.n8 a) (λj=>ZI za (a.r8 j))) (.cons (.int za .i64 (Za.f9 a)) (.cons (.rsl za 2 (Za.n10 a) (λj=>ZE za (a.r10 j))) (.cons (.rsl za 3 (Za.n11 a) (λj=>Zx za (a.r11 j))) (.cons (.rsl za 2 (Za.n12 a) (λj=>Zt za (a.r12 j))) (.cons (.int za .u64 (Za.f13 a)) (.cons (.mp 1) (.cons (.mp 2) (.cons (.mp 3) .nil)))))))))))))))))]
def lk1_R(a:Za)(i:Int)(z:(Int->Bool)×(Int->Int)):Tree Rd:=
 let q0:=(zl za 11 a.n6 λjj=>Zo za (a.13 jj))
 let q1:=(zl za 1 a.n2 λjj=>zf (zn za .u32 (a.5 jj).f0) zh)
 let q2:=(zl za 2 a.n7 λjj=>ZO za (a.15 jj))
 let q3:=(zl za 2 a.n10 λjj=>ZE za (a.20 jj))
 let q4:=(zl za 3 a.n11 λjj=>Zx za (a.22 jj))
 let q5:=(zl za 4 a.n3 λjj=>Zr za (a.7 jj))
 let q6:=(zl za 2 a.n5 λjj=>Zw za (a.11 jj))
 let q7:=(zl za 5 a.n8 λjj=>ZI za (a.17 jj))
 let q8:=(zl za 2 a.n12 λjj=>Zt za (a.24 jj))
 let q9:=(zl za 2 a.n1 λjj=>ZR za (a.3 jj))
 let q10:=(zl za 4 a.n4 λjj=>Zn za (a.9 jj))
 zw ((0:Int)<=i/\i<((a.n6:Nat):Int)) (zx (Ex.normal,ze,zf (pt 0) (zf V.nilptr (zf (pt 4) (zf q0 (ci ((a.n6:Nat):Int) (ci (zy .i64 (i+(1:Int))) zh))))),[zN (ci a.f0 (zf q9 (zf q1 (zf q5 (zf q10 (zf q6 (zf q0 (zf q2 (zf q7 (ci a.f9 (zf q3 (zf q4 (zf q8 (zf (zn za .u64 a.f13) zh)))))))))))))),Blk.Zm (MK.int .i64) za (λk=>(bif ZG k (zA .i64 (a.13 (zi i)).f0)then ze else z.1 (Zb k),vi (bif ZG k (zA .i64 (a.13 (zi i)).f0)then i else z.2 (Zb k)))) zm,Blk.Zm (MK.int .i64) za (λk=>(za,zn ze .i64 (0:Int))) zm,Blk.Zm (MK.int .i64) za (λk=>(za,zn ze .i64 (0:Int))) zm,zN (ci a.f0 (zf q9 (zf q1 (zf q5 (zf q10 (zf q6 (zf q0 (zf q2 (zf q7 (ci a.f9 (zf q3 (zf q4 (zf q8 (zf (zn za .u64 a.f13) (zf (zZ 1) (zf (zZ 2) (zf (zZ 3) zh)))))))))))))))))]))
theorem lk1_round(a:Za):Yo P (Zp P [] [] ze) 34 3 5 5 86 [1,2,3,20,21,22] [(0,.own),(1,.own),(2,.own),(3,.own),(4,.own)] [] (Zdi a) (Zgi a) (λi=>(bif decide (i<((a.n6:Nat):Int))then za else ze)) (.exit 0) (lk1_R a):=λB i z=>by kernel_rfl
def Zad(a:Za)(k:Nat)(z:(Int->Bool)×(Int->Int)):(Int->Bool)×(Int->Int):=(λ(i:Int)(z:(Int->Bool)×(Int->Int))=>(((λ(j_:Int)=>bif j_==(a.13 (zi i)).f0 then ze else z.1 (j_)),(λ(j_:Int)=>bif j_==(a.13 (zi i)).f0 then i else z.2 (j_))))) k z
def X6(a:Za)(k:Nat):(Int->Bool)×(Int->Int):=ZQ ((λ(j_:Int)=>(za)),(λ(j_:Int)=>(0:Int))) (Zad a) k
def lk1_lp(a:Za):Lp:=JE 34 3 5 5 86 [1,2,3,20,21,22] [(0,.own),(1,.own),(2,.own),(3,.own),(4,.own)] [] (Zdi a) (Zgi a) (.exit 0) ((λ(j_:Int)=>(za)),(λ(j_:Int)=>(0:Int))) (X6 a) (Za.n6 a)
def ZlG(a:Za):Prop:=YW 5 [] (Zdi a) (Zgi a) ((λ(j_:Int)=>(za)),(λ(j_:Int)=>(0:Int))) (Zdi a (0:Nat) ((λ(j_:Int)=>(za)),(λ(j_:Int)=>(0:Int)))) (Zgi a (0:Nat) ((λ(j_:Int)=>(za)),(λ(j_:Int)=>(0:Int))))
theorem lk1_fit(a:Za):ZlG a:=⟨rfl,⟨rfl,⟨rfl,λ_=>⟨rfl,rfl⟩⟩,⟨rfl,λ_=>⟨rfl,rfl⟩⟩,⟨rfl,λ_=>⟨rfl,rfl⟩⟩,rfl,trivial⟩⟩
theorem lk1_lp_ok(a:Za)(hl:(Za.n6 a)<=1000):(lk1_lp a).Ok P:=by
 refine JY (ZC hm hn (l:=[]) trivial (ls:=[]) trivial ze) rfl (by kernel_rfl) (lk1_round a) exN YK (λ_=>rfl) (rd:=(λ_ t y=>((λj=>(y.getD 1 .none).hasK .i64 j),(λj=>(y.getD 1 .none).getI .i64 j)))) (λi z=>rfl) (λi=>rfl) rfl (λi hlt hg=>?_) (λi z hi=>?_)
 ·have hltI:(i:Int)<(((Za.n6 a):Nat):Int):=by omega
  refine⟨?_,trivial⟩
  all_goals(repeat'(first|exact rfl|exact λ_=>⟨rfl,rfl⟩|apply zB|intro _))
  all_goals(try simp only[decide_eq_true_eq,decide_eq_false_iff_not,yj,yu]at*)
  all_goals(try simp(disch:=omega) only[IntWalk.i64_in])
  all_goals(first|omega)
 ·have hw:=(IntWalk.i64_in ((i:Int)+1) ⟨by omega,by omega⟩)
  all_goals exact⟨rfl,YL (ts:=Zdi a) hw rfl,⟨LeK.refl _,Wd λa=>⟨rfl,Le.soft rfl⟩,LeK.refl _,LeK.refl _,LeK.refl _,trivial⟩⟩
abbrev Zdj(a:Za)(i:Int)(z:(Int->Bool)×(Int->Int)):V:=(.cons (.ptr ze 0 0 0 0) (.cons .nilptr (.cons (.ptr ze 4 0 0 0) (.cons (.rsl za 2 (Za.n12 a) (λj=>Zt za (a.r12 j))) (.cons (.int za .i64 (((Za.n12 a):Nat):Int)) (.cons (.int za .i64 i) .nil))))))
abbrev Zgj(a:Za)(i:Int)(z:(Int->Bool)×(Int->Int)):List Blk:=[.var (.cons (.int za .i64 (Za.f0 a)) (.cons (.rsl za 2 (Za.n1 a) (λj=>ZR za (a.r1 j))) (.cons (.rsl za 1 (Za.n2 a) (λj=>ZL za (a.r2 j))) (.cons (.rsl za 4 (Za.n3 a) (λj=>Zr za (a.r3 j))) (.cons (.rsl za 4 (Za.n4 a) (λj=>Zn za (a.r4 j))) (.cons (.rsl za 2 (Za.n5 a) (λj=>Zw za (a.r5 j))) (.cons (.rsl za 11 (Za.n6 a) (λj=>Zo za (a.r6 j))) (.cons (.rsl za 2 (Za.n7 a) (λj=>ZO za (a.r7 j))) (.cons (.rsl za 5 (Za.n8 a) (λj=>ZI za (a.r8 j))) (.cons (.int za .i64 (Za.f9 a)) (.cons (.rsl za 2 (Za.n10 a) (λj=>ZE za (a.r10 j))) (.cons (.rsl za 3 (Za.n11 a) (λj=>Zx za (a.r11 j))) (.cons (.rsl za 2 (Za.n12 a) (λj=>Zt za (a.r12 j))) (.cons (.int za .u64 (Za.f13 a)) .nil)))))))))))))),.Zm (.int .i64) za (λ(x:Value)=>((X6 a (Za.n6 a)).1 (Zb x),zn za zq ((X6 a (Za.n6 a)).2 (Zb x)))) zm,.Zm (.int .i64) za (λx=>(z.1 (Zb x),.int za .i64 (z.2 (Zb x)))) zm,.Zm (.int .i64) za (λ(x:Value)=>(za,zn ze zq (0:Int))) zm,.var (.cons (.int za .i64 (Za.f0 a)) (.cons (.rsl za 2 (Za.n1 a) (λj=>ZR za (a.r1 j))) (.cons (.rsl za 1 (Za.n2 a) (λj=>ZL za (a.r2 j))) (.cons (.rsl za 4 (Za.n3 a) (λj=>Zr za (a.r3 j))) (.cons (.rsl za 4 (Za.n4 a) (λj=>Zn za (a.r4 j))) (.cons (.rsl za 2 (Za.n5 a) (λj=>Zw za (a.r5 j))) (.cons (.rsl za 11 (Za.n6 a) (λj=>Zo za (a.r6 j))) (.cons (.rsl za 2 (Za.n7 a) (λj=>ZO za (a.r7 j))) (.cons (.rsl za 5 (Za.n8 a) (λj=>ZI za (a.r8 j))) (.cons (.int za .i64 (Za.f9 a)) (.cons (.rsl za 2 (Za.n10 a) (λj=>ZE za (a.r10 j))) (.cons (.rsl za 3 (Za.n11 a) (λj=>Zx za (a.r11 j))) (.cons (.rsl za 2 (Za.n12 a) (λj=>Zt za (a.r12 j))) (.cons (.int za .u64 (Za.f13 a)) (.cons (.mp 1) (.cons (.mp 2) (.cons (.mp 3) .nil)))))))))))))))))]
def lk2_R(a:Za)(i:Int)(z:(Int->Bool)×(Int->Int)):Tree Rd:=
 let q0:=(zl za 2 a.n12 λjj=>Zt za (a.24 jj))
 let q1:=(zl za 1 a.n2 λjj=>zf (zn za .u32 (a.5 jj).f0) zh)
 let q2:=(zl za 2 a.n7 λjj=>ZO za (a.15 jj))
 let q3:=(zl za 2 a.n10 λjj=>ZE za (a.20 jj))
 let q4:=(zl za 3 a.n11 λjj=>Zx za (a.22 jj))
 let q5:=(zl za 4 a.n3 λjj=>Zr za (a.7 jj))
 let q6:=(zl za 2 a.n5 λjj=>Zw za (a.11 jj))
 let q7:=(zl za 11 a.n6 λjj=>Zo za (a.13 jj))
 let q8:=(zl za 5 a.n8 λjj=>ZI za (a.17 jj))
 let q9:=(zl za 2 a.n1 λjj=>ZR za (a.3 jj))
 let q10:=(zl za 4 a.n4 λjj=>Zn za (a.9 jj))
 zw ((0:Int)<=i/\i<((a.n12:Nat):Int)) (zx (Ex.normal,ze,zf (pt 0) (zf V.nilptr (zf (pt 4) (zf q0 (ci ((a.n12:Nat):Int) (ci (zy .i64 (i+(1:Int))) zh))))),[zN (ci a.f0 (zf q9 (zf q1 (zf q5 (zf q10 (zf q6 (zf q7 (zf q2 (zf q8 (ci a.f9 (zf q3 (zf q4 (zf q0 (zf (zn za .u64 a.f13) zh)))))))))))))),Blk.Zm (MK.int .i64) za (λk=>((X6 a a.n6).1 (Zb k),vi ((X6 a a.n6).2 (Zb k)))) zm,Blk.Zm (MK.int .i64) za (λk=>(bif ZG k (zA .i64 (a.24 (zi i)).f0)then ze else z.1 (Zb k),vi (bif ZG k (zA .i64 (a.24 (zi i)).f0)then(a.24 (zi i)).f1 else z.2 (Zb k)))) zm,Blk.Zm (MK.int .i64) za (λk=>(za,zn ze .i64 (0:Int))) zm,zN (ci a.f0 (zf q9 (zf q1 (zf q5 (zf q10 (zf q6 (zf q7 (zf q2 (zf q8 (ci a.f9 (zf q3 (zf q4 (zf q0 (zf (zn za .u64 a.f13) (zf (zZ 1) (zf (zZ 2) (zf (zZ 3) zh)))))))))))))))))]))
theorem lk2_round(a:Za):Yo P (Zp P [] [] ze) 34 8 5 5 86 [1,2,3,36,37,38] [(0,.own),(1,.own),(2,.own),(3,.own),(4,.own)] [] (Zdj a) (Zgj a) (λi=>(bif decide (i<((a.n12:Nat):Int))then za else ze)) (.exit 2) (lk2_R a):=λB i z=>by kernel_rfl
def ZlI(a:Za)(k:Nat)(z:(Int->Bool)×(Int->Int)):(Int->Bool)×(Int->Int):=(λ(i:Int)(z:(Int->Bool)×(Int->Int))=>(((λ(j_:Int)=>bif j_==(a.24 (zi i)).f0 then ze else z.1 (j_)),(λ(j_:Int)=>bif j_==(a.24 (zi i)).f0 then(a.24 (zi i)).f1 else z.2 (j_))))) k z
def KV(a:Za)(k:Nat):(Int->Bool)×(Int->Int):=ZQ ((λ(j_:Int)=>(za)),(λ(j_:Int)=>(0:Int))) (ZlI a) k
def lk2_lp(a:Za):Lp:=JE 34 8 5 5 86 [1,2,3,36,37,38] [(0,.own),(1,.own),(2,.own),(3,.own),(4,.own)] [] (Zdj a) (Zgj a) (.exit 2) ((λ(j_:Int)=>(za)),(λ(j_:Int)=>(0:Int))) (KV a) (Za.n12 a)
def ZlH(a:Za):Prop:=YW 5 [] (Zdj a) (Zgj a) ((λ(j_:Int)=>(za)),(λ(j_:Int)=>(0:Int))) (Zdj a (0:Nat) ((λ(j_:Int)=>(za)),(λ(j_:Int)=>(0:Int)))) (Zgj a (0:Nat) ((λ(j_:Int)=>(za)),(λ(j_:Int)=>(0:Int))))
theorem lk2_fit(a:Za):ZlH a:=⟨rfl,⟨rfl,⟨rfl,λ_=>⟨rfl,rfl⟩⟩,⟨rfl,λ_=>⟨rfl,rfl⟩⟩,⟨rfl,λ_=>⟨rfl,rfl⟩⟩,rfl,trivial⟩⟩
theorem lk2_lp_ok(a:Za)(hl:(Za.n12 a)<=1000):(lk2_lp a).Ok P:=by
 refine JY (ZC hm hn (l:=[]) trivial (ls:=[]) trivial ze) rfl (by kernel_rfl) (lk2_round a) exN YK (λ_=>rfl) (rd:=(λ_ t y=>((λj=>(y.getD 2 .none).hasK .i64 j),(λj=>(y.getD 2 .none).getI .i64 j)))) (λi z=>rfl) (λi=>rfl) rfl (λi hlt hg=>?_) (λi z hi=>?_)
 ·have hltI:(i:Int)<(((Za.n12 a):Nat):Int):=by omega
  refine⟨?_,trivial⟩
  all_goals(repeat'(first|exact rfl|exact λ_=>⟨rfl,rfl⟩|apply zB|intro _))
  all_goals(try simp only[decide_eq_true_eq,decide_eq_false_iff_not,yj,yu]at*)
  all_goals(try simp(disch:=omega) only[IntWalk.i64_in])
  all_goals(first|omega)
 ·have hw:=(IntWalk.i64_in ((i:Int)+1) ⟨by omega,by omega⟩)
  all_goals exact⟨rfl,YL (ts:=Zdj a) hw rfl,⟨LeK.refl _,LeK.refl _,Wd λa=>⟨rfl,Le.soft rfl⟩,LeK.refl _,LeK.refl _,trivial⟩⟩
abbrev Zdl(a:Za)(i:Int)(z:(Int->Bool)×(Int->Int)):V:=(.cons (.ptr ze 0 0 0 0) (.cons .nilptr (.cons (.ptr ze 4 0 0 0) (.cons (.mp 5) (.cons (.rsl za 4 (Za.n3 a) (λj=>Zr za (a.r3 j))) (.cons (.int za .i64 (((Za.n3 a):Nat):Int)) (.cons (.int za .i64 i) .nil)))))))
abbrev Zgk(a:Za)(i:Int)(z:(Int->Bool)×(Int->Int)):List Blk:=[.var (.cons (.int za .i64 (Za.f0 a)) (.cons (.rsl za 2 (Za.n1 a) (λj=>ZR za (a.r1 j))) (.cons (.rsl za 1 (Za.n2 a) (λj=>ZL za (a.r2 j))) (.cons (.rsl za 4 (Za.n3 a) (λj=>Zr za (a.r3 j))) (.cons (.rsl za 4 (Za.n4 a) (λj=>Zn za (a.r4 j))) (.cons (.rsl za 2 (Za.n5 a) (λj=>Zw za (a.r5 j))) (.cons (.rsl za 11 (Za.n6 a) (λj=>Zo za (a.r6 j))) (.cons (.rsl za 2 (Za.n7 a) (λj=>ZO za (a.r7 j))) (.cons (.rsl za 5 (Za.n8 a) (λj=>ZI za (a.r8 j))) (.cons (.int za .i64 (Za.f9 a)) (.cons (.rsl za 2 (Za.n10 a) (λj=>ZE za (a.r10 j))) (.cons (.rsl za 3 (Za.n11 a) (λj=>Zx za (a.r11 j))) (.cons (.rsl za 2 (Za.n12 a) (λj=>Zt za (a.r12 j))) (.cons (.int za .u64 (Za.f13 a)) .nil)))))))))))))),.Zm (.int .i64) za (λ(x:Value)=>((X6 a (Za.n6 a)).1 (Zb x),zn za zq ((X6 a (Za.n6 a)).2 (Zb x)))) zm,.Zm (.int .i64) za (λ(x:Value)=>((KV a (Za.n12 a)).1 (Zb x),zn za zq ((KV a (Za.n12 a)).2 (Zb x)))) zm,.Zm (.int .i64) za (λ(x:Value)=>(za,zn ze zq (0:Int))) zm,.var (.cons (.int za .i64 (Za.f0 a)) (.cons (.rsl za 2 (Za.n1 a) (λj=>ZR za (a.r1 j))) (.cons (.rsl za 1 (Za.n2 a) (λj=>ZL za (a.r2 j))) (.cons (.rsl za 4 (Za.n3 a) (λj=>Zr za (a.r3 j))) (.cons (.rsl za 4 (Za.n4 a) (λj=>Zn za (a.r4 j))) (.cons (.rsl za 2 (Za.n5 a) (λj=>Zw za (a.r5 j))) (.cons (.rsl za 11 (Za.n6 a) (λj=>Zo za (a.r6 j))) (.cons (.rsl za 2 (Za.n7 a) (λj=>ZO za (a.r7 j))) (.cons (.rsl za 5 (Za.n8 a) (λj=>ZI za (a.r8 j))) (.cons (.int za .i64 (Za.f9 a)) (.cons (.rsl za 2 (Za.n10 a) (λj=>ZE za (a.r10 j))) (.cons (.rsl za 3 (Za.n11 a) (λj=>Zx za (a.r11 j))) (.cons (.rsl za 2 (Za.n12 a) (λj=>Zt za (a.r12 j))) (.cons (.int za .u64 (Za.f13 a)) (.cons (.mp 1) (.cons (.mp 2) (.cons (.mp 3) .nil))))))))))))))))),.Zm (.int .i64) za (λx=>(z.1 (Zb x),.int za .i64 (z.2 (Zb x)))) zm]
def lk3_R(a:Za)(i:Int)(z:(Int->Bool)×(Int->Int)):Tree Rd:=
 let q0:=(zl za 4 a.n3 λjj=>Zr za (a.7 jj))
 let q1:=(zl za 1 a.n2 λjj=>zf (zn za .u32 (a.5 jj).f0) zh)
 let q2:=(zl za 2 a.n7 λjj=>ZO za (a.15 jj))
 let q3:=(zl za 2 a.n10 λjj=>ZE za (a.20 jj))
 let q4:=(zl za 3 a.n11 λjj=>Zx za (a.22 jj))
 let q5:=(zl za 2 a.n5 λjj=>Zw za (a.11 jj))
 let q6:=(zl za 11 a.n6 λjj=>Zo za (a.13 jj))
 let q7:=(zl za 5 a.n8 λjj=>ZI za (a.17 jj))
 let q8:=(zl za 2 a.n12 λjj=>Zt za (a.24 jj))
 let q9:=(zl za 2 a.n1 λjj=>ZR za (a.3 jj))
 let q10:=(zl za 4 a.n4 λjj=>Zn za (a.9 jj))
 zw ((0:Int)<=i/\i<((a.n3:Nat):Int)) (zx (Ex.normal,ze,zf (pt 0) (zf V.nilptr (zf (pt 4) (zf (zZ 5) (zf q0 (ci ((a.n3:Nat):Int) (ci (zy .i64 (i+(1:Int))) zh)))))),[zN (ci a.f0 (zf q9 (zf q1 (zf q0 (zf q10 (zf q5 (zf q6 (zf q2 (zf q7 (ci a.f9 (zf q3 (zf q4 (zf q8 (zf (zn za .u64 a.f13) zh)))))))))))))),Blk.Zm (MK.int .i64) za (λk=>((X6 a a.n6).1 (Zb k),vi ((X6 a a.n6).2 (Zb k)))) zm,Blk.Zm (MK.int .i64) za (λk=>((KV a a.n12).1 (Zb k),vi ((KV a a.n12).2 (Zb k)))) zm,Blk.Zm (MK.int .i64) za (λk=>(za,zn ze .i64 (0:Int))) zm,zN (ci a.f0 (zf q9 (zf q1 (zf q0 (zf q10 (zf q5 (zf q6 (zf q2 (zf q7 (ci a.f9 (zf q3 (zf q4 (zf q8 (zf (zn za .u64 a.f13) (zf (zZ 1) (zf (zZ 2) (zf (zZ 3) zh))))))))))))))))),Blk.Zm (MK.int .i64) za (λk=>(bif ZG k (zA .i64 (a.7 (zi i)).f0)then ze else z.1 (Zb k),vi (bif ZG k (zA .i64 (a.7 (zi i)).f0)then i else z.2 (Zb k)))) zm]))
theorem lk3_round(a:Za):Yo P (Zp P [] [] ze) 34 14 6 6 86 [1,2,3,8,54,55,56] [(0,.own),(1,.own),(2,.own),(3,.own),(4,.own),(5,.own)] [] (Zdl a) (Zgk a) (λi=>(bif decide (i<((a.n3:Nat):Int))then za else ze)) (.exit 4) (lk3_R a):=λB i z=>by kernel_rfl
def Zdk(a:Za)(k:Nat)(z:(Int->Bool)×(Int->Int)):(Int->Bool)×(Int->Int):=(λ(i:Int)(z:(Int->Bool)×(Int->Int))=>(((λ(j_:Int)=>bif j_==(a.7 (zi i)).f0 then ze else z.1 (j_)),(λ(j_:Int)=>bif j_==(a.7 (zi i)).f0 then i else z.2 (j_))))) k z
def Xn(a:Za)(k:Nat):(Int->Bool)×(Int->Int):=ZQ ((λ(j_:Int)=>(za)),(λ(j_:Int)=>(0:Int))) (Zdk a) k
def lk3_lp(a:Za):Lp:=JE 34 14 6 6 86 [1,2,3,8,54,55,56] [(0,.own),(1,.own),(2,.own),(3,.own),(4,.own),(5,.own)] [] (Zdl a) (Zgk a) (.exit 4) ((λ(j_:Int)=>(za)),(λ(j_:Int)=>(0:Int))) (Xn a) (Za.n3 a)
def ZlJ(a:Za):Prop:=YW 6 [] (Zdl a) (Zgk a) ((λ(j_:Int)=>(za)),(λ(j_:Int)=>(0:Int))) (Zdl a (0:Nat) ((λ(j_:Int)=>(za)),(λ(j_:Int)=>(0:Int)))) (Zgk a (0:Nat) ((λ(j_:Int)=>(za)),(λ(j_:Int)=>(0:Int))))
theorem lk3_fit(a:Za):ZlJ a:=⟨rfl,⟨rfl,⟨rfl,λ_=>⟨rfl,rfl⟩⟩,⟨rfl,λ_=>⟨rfl,rfl⟩⟩,⟨rfl,λ_=>⟨rfl,rfl⟩⟩,rfl,⟨rfl,λ_=>⟨rfl,rfl⟩⟩,trivial⟩⟩
theorem lk3_lp_ok(a:Za)(hl:(Za.n3 a)<=1000):(lk3_lp a).Ok P:=by
 refine JY (ZC hm hn (l:=[]) trivial (ls:=[]) trivial ze) rfl (by kernel_rfl) (lk3_round a) exN YK (λ_=>rfl) (rd:=(λ_ t y=>((λj=>(y.getD 5 .none).hasK .i64 j),(λj=>(y.getD 5 .none).getI .i64 j)))) (λi z=>rfl) (λi=>rfl) rfl (λi hlt hg=>?_) (λi z hi=>?_)
 ·have hltI:(i:Int)<(((Za.n3 a):Nat):Int):=by omega
  refine⟨?_,trivial⟩
  all_goals(repeat'(first|exact rfl|exact λ_=>⟨rfl,rfl⟩|apply zB|intro _))
  all_goals(try simp only[decide_eq_true_eq,decide_eq_false_iff_not,yj,yu]at*)
  all_goals(try simp(disch:=omega) only[IntWalk.i64_in])
  all_goals(first|omega)
 ·have hw:=(IntWalk.i64_in ((i:Int)+1) ⟨by omega,by omega⟩)
  all_goals exact⟨rfl,YL (ts:=Zdl a) hw rfl,⟨LeK.refl _,LeK.refl _,LeK.refl _,LeK.refl _,LeK.refl _,Wd λa=>⟨rfl,Le.soft rfl⟩,trivial⟩⟩
end Go.Proofs.YthhbdbeglmkijaaGreatDoor
end
