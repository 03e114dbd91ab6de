/- Appending: the evaluator's answer stands for the model's. -/
import Derived.Test.YthhbdbeglmkijaaGreatDoorMAc
import Derived.Laws.MakeOwn
import Derived.RangeFuncRecord
set_option maxRecDepth 100000
set_option linter.unusedVariables false
set_option linter.unusedSimpArgs false
noncomputable section
open Nat renaming not_lt_zero→yB,mul_le_mul_right→yx,blt→zG,ble→zK,le_of_ble_eq_true→yA,beq→zq,eq_of_beq_eq_true→zO,zero_add→zX,le_refl→zI
open Option renaming none→zm,some→zi
open Bool renaming true→ze,false→za,and_eq_true→zL
open Go.Builtin renaming zeroCells→yC
open Go.Sem renaming run_bind→zM,run_pure→zV
open Go.Result renaming andThen_ok→zP
namespace Go.Fw
section
variable{P:Program}{base:Nat}{m:Nat->Option Nat}{F:Nat->Prop}{h:Nat->Blk}{n:Nat}{w:World}
def Rows(F:Nat->Prop)(w:World)(n:Nat)(m:Nat->Option Nat)(z k:Nat)(get:Nat->V)(L:List Value):Prop:=
 L.length=k*z/\∀j,j<k->∃xs,RL F w (get j) n m xs/\xs.length=z/\∀q,q<z->L[j*z+q]? =xs[q]?
variable{z:Nat}
theorem Rows.nil{get:Nat->V}:Rows F w n m z 0 get []:=⟨by simp,λj hj=>absurd hj (yB _)⟩
theorem Rows.cat{get:Nat->V}:∀(k:Nat)(L:List Value),Rows F w n m z k get L->RL F w (Wt get k) n m L:=by
 intro k
 induction k with
 |zero=>
  intro L hL
  have:L=[]:=List.eq_nil_of_length_eq_zero (by rw[hL.1];simp)
  subst this
  show RL F w .nil n m []
  grind[RL]
 |succ k ih=>
  intro L hL
  obtain⟨hlen,hrows⟩:=hL
  rw[Nat.add_mul,Nat.one_mul]at hlen
  have e:L=L.take (k*z)++L.drop (k*z):=(List.take_append_drop _ _).symm
  rw[e]
  refine Zch _ _ (ih _ ⟨by simp;omega,λj hj=>?_⟩) _ _ ?_
  ·obtain⟨xs,h1,h2,h3⟩:=hrows j (by omega)
   refine⟨xs,h1,h2,λq hq=>?_⟩
   have hmul:(j+1)*z<=k*z:=yx z hj
   rw[Nat.add_mul,Nat.one_mul]at hmul
   rw[List.getElem?_take_of_lt (by omega)]
   exact h3 q hq
  ·obtain⟨xs,h1,h2,h3⟩:=hrows k (by omega)
   have e2:L.drop (k*z)=xs:=by
    apply List.ext_getElem?
    intro q
    by_cases hq:q<z
    ·rw[List.getElem?_drop,h3 q hq]
    ·rw[List.getElem?_eq_none (by simp;omega),List.getElem?_eq_none (by omega)]
   rw[e2]
   exact h1
variable{k:Nat}
theorem Rows.of_cells{get:Nat->V}{c:Array Value}{off:Nat}(hle:off+k*z<=c.size)(hr:∀j,j<k->∃xs,RL F w (get j) n m xs/\xs.length=z/\∀q,q<z->c[off+j*z+q]? =xs[q]?) :
  Rows F w n m z k get ((c.toList.drop off).take (k*z)):=by
 refine⟨by simp;omega,λj hj=>?_⟩
 obtain⟨xs,h1,h2,h3⟩:=hr j hj
 refine⟨xs,h1,h2,λq hq=>?_⟩
 have hmul:(j+1)*z<=k*z:=yx z hj
 grind
variable{L:List Value}
theorem Rows.up{get:Nat->V}(hr:Rows F w 0 (λ_=>zm) z k get L):Rows F w n m z k get L:=
 ⟨hr.1,λj hj=>by
  obtain⟨xs,h1,h2,h3⟩:=hr.2 j hj
  exact⟨xs,(Xj (Yk.refl w) (λ_ h=>h) (λ_ _=>rfl) (get j) 0 n _ m (Nat.zero_le _) (λb hb=>absurd hb (yB _))).2 _ h1,h2,h3⟩⟩
theorem Rows.down{get:Nat->V}(hr:Rows F w n m z k get L)(hc:∀j,j<k->(get j).clean=ze):Rows F w 0 (λ_=>zm) z k get L:=
 ⟨hr.1,λj hj=>by
  obtain⟨xs,h1,h2,h3⟩:=hr.2 j hj
  exact⟨xs,(WS (get j) (hc j hj) n 0 m _).2 _ h1,h2,h3⟩⟩
theorem Rows.one{get:Nat->V}(hr:Rows F w n m z k get L)(hz:0<z)(hc:∀j,j<k->(get j).YN=ze):∀u∈L,u.oneCell'=ze:=by
 intro u hu
 obtain⟨i,hi,e⟩:=List.getElem_of_mem hu
 have hlt:i<k*z:=by rw[<- hr.1];exact hi
 have hj:i/z<k:=Nat.div_lt_of_lt_mul (by rw[Nat.mul_comm];exact hlt)
 obtain⟨xs,h1,h2,h3⟩:=hr.2 (i/z) hj
 have hq:=Nat.mod_lt i hz
 have h4:=h3 (i%z) hq
 have e2:i/z*z+i%z=i:=by rw[Nat.mul_comm];exact Nat.div_add_mod i z
 rw[e2,List.getElem?_eq_getElem hi,e]at h4
 exact Zl0 (ZjK _ _ h1 (hc _ hj)) u (List.mem_of_getElem? h4.symm)
variable{k':Nat}{get':Nat->V}{L':List Value}
theorem Rows.app{get:Nat->V}(h:Rows F w n m z k get L)(h':Rows F w n m z k' get' L') :
  Rows F w n m z (k+k') (λj=>bif zG j k then get j else get' (j-k)) (L++L'):=by
 refine⟨by rw[List.length_append,h.1,h'.1,Nat.add_mul],λj hj=>?_⟩
 cases hb:zG j k
 ·have hb':¬j<k:=λe=>by
   grind[Nat.blt_eq]
  obtain⟨xs,h1,h2,h3⟩:=h'.2 (j-k) (by omega)
  refine⟨xs,by simp only[hb,cond_false];exact h1,h2,λq hq=>?_⟩
  have e:j*z=k*z+(j-k)*z:=by
   rw[<- Nat.add_mul]
   grind
  rw[List.getElem?_append_right (by rw[h.1];omega),h.1,<- h3 q hq]
  grind
 ·have hb':j<k:=by simpa[Nat.blt_eq]using hb
  obtain⟨xs,h1,h2,h3⟩:=h.2 j hb'
  grind
theorem Zrf(old new:Nat->V)(k:Nat):∀(m j:Nat),ZbD old k new m j=bif zK k j&&zG j (k+m)then new (j-k)else old j:=by
 intro m
 induction m with
 |zero=>
  intro j
  have h:(zK k j&&zG j (k+0))=za:=by
   cases h1:zK k j
   ·rfl
   ·have:=yA h1
    grind[Nat.blt_eq]
  rw[h]
  rfl
 |succ m ih=>
  intro j
  show(bif zq j (k+m)then new m else ZbD old k new m j)=_
  have hb:∀a b:Nat,zK a b=decide (a<=b):=λa b=>by
   grind[Nat.ble_eq_true_of_le,zK,yA]
  have hlt:∀a b:Nat,zG a b=decide (a<b):=λa b=>hb (a+1) b
  have he:∀a b:Nat,zq a b=decide (a=b):=λa b=>by
   by_cases h:a=b
   ·simp_all
   grind[zq,zO]
  grind
theorem Rows.appFrom{get:Nat->V}(h:Rows F w n m z k get L)(h':Rows F w n m z k' get' L') :
  Rows F w n m z (k+k') (ZbD get k get' k') (L++L'):=by
 have h2:=h.app h'
 refine⟨h2.1,λj hj=>?_⟩
 obtain⟨xs,g1,g2⟩:=h2.2 j hj
 grind[Zrf,zK,zG,Nat.lt_or_ge,Nat.blt_eq,Nat.ble_eq_true_of_le,yA]
variable{old new:Nat->V}
theorem Zre{j:Nat}(h:j<k):J5 old k new j=old j:=by
 grind[J5,zG,Nat.blt_eq,zO]
theorem Zrd(j:Nat):J5 old k new j=bif zG j k then old j else new (j-k):=by
 unfold J5
 cases hk:zq k 0<;>grind[zO,zG,Nat.blt_eq]
theorem Rows.cat'{get:Nat->V}(h:Rows F w n m z (k+k') (λj=>bif zG j k then get j else get' (j-k)) L):Rows F w n m z (k+k') (J5 get k get') L:=
 ⟨h.1,λj hj=>by rw[Zrd];exact h.2 j hj⟩
theorem RL_junk{F:Nat->Prop}{w:World}{n:Nat}{m:Nat->Option Nat}:∀(z:Nat)(xs:List Value),xs.length=z->RL F w (rep z (.cons .junk .nil)) n m xs:=by
 intro z
 induction z with
 |zero=>intro xs h;rw[List.length_eq_zero_iff.1 h];simp only[rep,RL]
 |succ z ih=>
  intro xs h
  cases xs with
  |nil=>cases h
  |cons x xs=>exact⟨x,xs,rfl,trivial,ih xs (by simpa using h)⟩
variable{x:V}{X:Value}{st:Bool}
theorem Zrg(hr:HR base m F h n w)(hx:R F w x n m X){get:Nat->V}(h1:ZbE h z x=zi (st,k,get)) :
  ∃a c,X=.slice a k c/\(k=0\/∃ad L,a=zi ad/\Rows F w n m z k get L/\∀i u,L[i]? =zi u->w.cell? (ad.add i)=zi u):=by
 cases x<;>try(simp only[ZbE]at h1;cases h1;done)
 ·rename_i s es k' get'
  unfold ZbE at h1
  dsimp only at h1
  cases he:zq z es
  ·grind
  ·rw[he]at h1
   obtain rfl:=zO he
   simp only[cond_true,Option.some.injEq,Prod.mk.injEq]at h1
   obtain⟨rfl,rfl,rfl⟩:=h1
   obtain⟨a,cap,rfl,hk,hrow⟩:=hx
   refine⟨a,cap,rfl,hrow.imp id ?_⟩
   rintro⟨B,off,rfl,hF,c,el,fr,hc,hrr⟩
   by_cases hk0:k'*z=0
   ·refine⟨_,[],rfl,⟨by simp[hk0],λj hj=>?_⟩,λi u hu=>by simp at hu⟩
    have hz0:z=0:=by
     rcases Nat.mul_eq_zero.1 hk0 with h|h<;>grind
    obtain⟨xs,g1,g2,g3⟩:=hrr j hj
    exact⟨xs,(Xj (Yk.refl w) (λ_ h=>h) (λ_ _=>rfl) (get' j) 0 n _ m (Nat.zero_le _) (λb hb=>absurd hb (yB _))).2 _ g1,g2,λq hq=>by omega⟩
   ·have hz:0<z:=Nat.pos_of_ne_zero λe=>hk0 (by rw[e,Nat.mul_zero])
    have hk':0<k':=Nat.pos_of_ne_zero λe=>hk0 (by rw[e,Nat.zero_mul])
    have hle:off+k'*z<=c.size:=by
     obtain⟨xs,_,g2,g3⟩:=hrr (k'-1) (by omega)
     have g4:=g3 (z-1) (by omega)
     rw[List.getElem?_eq_getElem (by omega)]at g4
     have:=(Array.getElem?_eq_some_iff.1 g4).1
     have e:k'*z=(k'-1)*z+z:=by
      have:k'=(k'-1)+1:=by omega
      grind
     omega
    refine⟨_,_,rfl,(Rows.of_cells hle hrr).up,λi u hu=>?_⟩<;>grind[refine,Rows.of_cells,List.getElem?_take_of_lt,add_plain,World.cell?,Option.isSome_none,Bool.false_eq_true]
 ·rename_i s b es i0 k'
  unfold ZbE at h1
  dsimp only at h1
  cases he:zq z es
  ·grind
  ·rw[he]at h1
   obtain rfl:=zO he
   rw[Yp]at hx
   obtain⟨hbn,a,cap,rfl,hk,hrow⟩:=hx
   have hblk:=hr.blk b hbn
   cases hh:h b<;>rw[hh]at h1 hblk<;>try(cases h1;done)
   ·rename_i cs
    dsimp only at h1
    cases hs:s
    ·grind
    cases hle:zK ((i0+k')*z) cs.len
    ·grind
    rw[hs,hle]at h1
    simp only[Bool.and_self,cond_true,Option.some.injEq,Prod.mk.injEq]at h1
    obtain⟨rfl,rfl,rfl⟩:=h1
    refine⟨a,cap,rfl,?_⟩
    rcases hrow with h0|⟨B,c,el,fr,rfl,hB,hc,hz⟩
    ·omega
    right
    obtain⟨B',xs,el',ys,zs,hm,hcell,hsp,hrl⟩:=hblk
    obtain rfl:B=B':=by
     grind
    have hle':=yA hle
    rw[XM _ _ hrl]at hle'
    have hpl:=Zbx hsp
    have hadd:(i0+k')*z=i0*z+k'*z:=Nat.add_mul _ _ _
    refine⟨_,_,rfl,Rows.of_cells (c:=xs) (off:=i0*z) (by omega) (λj hj=>⟨(ys.drop ((i0+j)*z)).take z,K9 _ _ (VY _ _ hrl _) _,?_,λq hq=>?_⟩),λi u hu=>?_⟩
    ·have:(i0+j+1)*z<=(i0+k')*z:=yx z (by omega)
     grind
    ·have:(i0+j+1)*z<=(i0+k')*z:=yx z (by omega)
     grind[Kv]
    grind[List.getElem?_take_of_lt,add_plain,World.cell?,Option.isSome_none,Bool.false_eq_true]
   ·rename_i es' k2 get2
    dsimp only at h1
    cases he2:zq z es'
    ·grind
    rw[he2]at h1
    simp only[cond_true]at h1
    obtain rfl:=zO he2
    have hcase:k'=k/\∀j,j<k'->(i0+j<k2/\get j=get2 (i0+j))\/get j=rep z (.cons .junk .nil):=by
     cases s
     ·simp only[cond_false,Option.some.injEq,Prod.mk.injEq]at h1
      obtain⟨-,rfl,rfl⟩:=h1
      refine⟨rfl,λj hj=>?_⟩
      dsimp only
      cases hlt:zG (i0+j) k2
      ·exact .inr rfl
      ·exact .inl ⟨by simpa[Nat.blt_eq]using hlt,rfl⟩
     ·cases hle:zK (i0+k') k2
      ·grind
      rw[hle]at h1
      simp only[cond_true,Option.some.injEq,Prod.mk.injEq]at h1
      obtain⟨-,rfl,rfl⟩:=h1
      exact⟨rfl,λj hj=>.inl ⟨by have:=yA hle;omega,rfl⟩⟩
    obtain⟨rfl,hget⟩:=hcase
    refine⟨a,cap,rfl,?_⟩
    rcases hrow with h0|⟨B,c,el,fr,rfl,hB,hc,hz⟩
    ·omega
    right
    obtain⟨B',xs,el',hm,hcell,hsz,hrl⟩:=hblk.resolve_left (λh0=>by rw[hB]at h0;cases h0.2)
    obtain rfl:B=B':=by
     grind
    have hadd:(i0+k')*z=i0*z+k'*z:=Nat.add_mul _ _ _
    have hmul:(i0+k')*z<=(i0+cap)*z:=yx z (by omega)
    have hcx:c=xs:=by
     rw[hc]at hcell;injection hcell with hcell;injection hcell
    subst hcx
    refine⟨_,_,rfl,(Rows.of_cells (c:=c) (off:=i0*z) (get:=get) (by omega) (λj hj=>?_)).up,λi u hu=>?_⟩
    ·rcases hget j hj with⟨hlt,e⟩|e
     ·rw[e]
      obtain⟨ys,g1,g2,g3⟩:=hrl (i0+j) hlt
      grind
     ·rw[e]
      have hj1:(i0+j+1)*z<=(i0+k')*z:=yx z (by omega)
      have e2:(i0+j+1)*z=i0*z+j*z+z:=by rw[Nat.add_mul,Nat.add_mul,Nat.one_mul]
      have hlen:((c.toList.drop (i0*z+j*z)).take z).length=z:=by
       simp;omega
      refine⟨(c.toList.drop (i0*z+j*z)).take z,?_,hlen,λq hq=>?_⟩
      ·exact RL_junk _ _ hlen
      ·rw[List.getElem?_take_of_lt hq,List.getElem?_drop];simp
    grind[List.getElem?_take_of_lt,add_plain,World.cell?,Option.isSome_none,Bool.false_eq_true]
 ·obtain⟨rfl,rfl,rfl⟩:=h1
  grind[R]
 ·obtain⟨rfl,rfl,rfl⟩:=h1
  grind[R]
theorem ZdL(hr:HR base m F h n w)(hx:R F w x n m X){get:Nat->V}(h1:rowsOf h z x=zi (st,k,get)) :
  ∃a c,X=.slice a k c/\(k=0\/∃ad L,a=zi ad/\Rows F w n m z k get L/\∀i u,L[i]? =zi u->w.cell? (ad.add i)=zi u):=Zrg hr (Va hx) h1
variable{b:Option Nat}
theorem Zcn(hr:HR base m F h n w)(hx:R F w x n m X){get:Nat->V}{pre:Prop}(h1:Wx h z x=zi (st,k,get,pre,b))(hp:pre) :
  ∃a cap L,X=.slice a k cap/\k<=cap/\Rows F w n m z k get L/\(∀ad,a=zi ad->∀i u,L[i]? =zi u->w.cell? (ad.add i)=zi u)/\(b=zm->k=0/\cap=0)/\
   (cap=0\/∃b' B c el,b=zi b'/\b'<n/\m b'=zi B/\h b'≠.any/\a=zi ⟨B,0,zm⟩/\w.heap[B]? =zi (.cells c el (0,0))/\cap*z<=c.size/\c.toList.take (k*z)=L)/\
   (st=za->Rows F w 0 (λ_=>zm) z k get L):=by
 cases x<;>try(simp only[Wx]at h1;cases h1;done)
 ·rename_i s b0 es i0 k'
  unfold Wx at h1
  dsimp only at h1
  cases he:zq z es
  ·grind
  cases hi0:zq i0 0
  ·grind
  rw[he,hi0]at h1
  obtain rfl:=zO he
  obtain rfl:=zO hi0
  simp at h1
  rw[Yp]at hx
  obtain⟨hbn,a,cap,rfl,hk,hrow⟩:=hx
  have hblk:=hr.blk b0 hbn
  cases hh:h b0<;>rw[hh]at h1 hblk<;>try(cases h1;done)
  ·rename_i cs
   dsimp only at h1
   cases hs:s
   ·grind
   cases hle:zK (k'*z) cs.len
   ·grind
   rw[hs,hle]at h1
   simp only[Bool.and_self,cond_true,Option.some.injEq,Prod.mk.injEq]at h1
   obtain⟨rfl,rfl,rfl,rfl,rfl⟩:=h1
   rcases hrow with h0|⟨B,c,el,fr,rfl,hB,hc,hz⟩
   ·obtain rfl:k'=0:=by omega
    exact⟨a,cap,[],rfl,hk,Rows.nil,λad _ i u hu=>by simp at hu,(λe=>by cases e),.inl h0,(λe=>by cases e)⟩
   obtain⟨B',xs,el',ys,zs,hm,hcell,hsp,hrl⟩:=hblk
   obtain rfl:B=B':=by
    rw[hB]at hm
    injection hm
   rw[hcell]at hc
   injection hc with hc
   injection hc with e1 e2 e3
   subst e1
   subst e2
   subst e3
   have hle':=yA hle
   rw[XM _ _ hrl]at hle'
   have hpl:=Zbx hsp
   refine⟨_,cap,(xs.toList.drop 0).take (k'*z),rfl,hk,Rows.of_cells (off:=0) (by omega) (λj hj=>⟨(ys.drop (j*z)).take z,K9 _ _ (VY _ _ hrl _) _,?_,λq hq=>?_⟩),λad had i u hu=>?_,(λe=>by cases e),.inr ⟨b0,B,xs,_,rfl,hbn,hB,by rw[hh];simp,by simp,hcell,by simpa using hz,by simp⟩,(λe=>by cases e)⟩
   ·have:(j+1)*z<=k'*z:=yx z (by omega)
    rw[Nat.add_mul,Nat.one_mul]at this
    simp
    omega
   ·have:(j+1)*z<=k'*z:=yx z (by omega)
    rw[Nat.add_mul,Nat.one_mul]at this
    rw[List.getElem?_take_of_lt hq,List.getElem?_drop,zX]
    exact Kv hsp (by omega)
   ·injection had with had
    subst had
    have hi:i<k'*z:=by
     rcases Nat.lt_or_ge i (k'*z)with h|h
     ·exact h
     ·rw[List.getElem?_eq_none (by simp;omega)]at hu
      cases hu
    rw[List.getElem?_take_of_lt hi,List.getElem?_drop]at hu
    rw[add_plain]
    simp only[World.cell?,hcell,Option.isSome_none,Bool.false_eq_true,if_false]
    simpa using hu
  ·rename_i es' k2 get2
   dsimp only at h1
   cases he2:zq z es'
   ·grind
   rw[he2]at h1
   obtain rfl:=zO he2
   simp only[cond_true]at h1
   have key:k'<=k2/\k'=k/\get2=get/\zi b0=b:=by
    cases s with
    |true=>
     dsimp only at h1
     cases hle:zK k' k2<;>simp_all
    |false=>grind
   obtain⟨hle',rfl,rfl,rfl⟩:=key
   rcases hrow with h0|⟨B,c,el,fr,rfl,hB,hc,hz⟩
   ·obtain rfl:k'=0:=by omega
    exact⟨a,cap,[],rfl,hk,Rows.nil,λad _ i u hu=>by simp at hu,(λe=>by cases e),.inl h0,λ_=>Rows.nil⟩
   obtain⟨B',xs,el',hm,hcell,hsz,hrl⟩:=hblk.resolve_left (λh0=>by rw[hB]at h0;cases h0.2)
   obtain rfl:B=B':=by
    grind
   rw[hcell]at hc
   injection hc with hc
   injection hc with e1 e2 e3
   subst e1
   subst e2
   subst e3
   have hmul:k'*z<=k2*z:=yx z hle'
   have hrows:Rows F w 0 (λ_=>zm) z k' get2 ((xs.toList.drop 0).take (k'*z)):=Rows.of_cells (off:=0) (by omega) (λj hj=>by
    obtain⟨ys,g1,g2,g3⟩:=hrl j (by omega)
    exact⟨ys,g1,g2,λq hq=>by rw[<- g3 q hq,zX]⟩)
   refine⟨_,cap,(xs.toList.drop 0).take (k'*z),rfl,hk,hrows.up,λad had i u hu=>?_,(λe=>by cases e),.inr ⟨b0,B,xs,_,rfl,hbn,hB,by rw[hh];simp,by simp,hcell,by simpa using hz,by simp⟩,λ_=>hrows⟩<;>grind[refine,List.getElem?_take_of_lt,add_plain,World.cell?,Option.isSome_none,Bool.false_eq_true]
 ·obtain⟨rfl,rfl,rfl,rfl,rfl⟩:=h1
  simp only[R]at hx
  subst hx
  exact⟨zm,0,[],rfl,zI _,Rows.nil,(λad had=>by cases had),λ_=>⟨rfl,rfl⟩,.inl rfl,λ_=>Rows.nil⟩
 ·obtain⟨rfl,rfl,rfl,rfl,rfl⟩:=h1
  simp only[R]at hx
  obtain⟨ad,rfl,_⟩:=hx
  exact⟨ad,0,[],rfl,zI _,Rows.nil,(λad had i u hu=>by cases hu),λ_=>⟨rfl,rfl⟩,.inl rfl,λ_=>Rows.nil⟩
theorem ZqT(hr:HR base m F h n w){s:V}{pre:Prop}(h1:Wx h z s=zi (st,k,old,pre,b)){cap:Nat}(hLr:Rows F w n m z k old L)(hkc:k<=cap)
  (hblk:cap=0\/∃b' B c el,b=zi b'/\m b'=zi B/\w.heap[B]? =zi (.cells c el (0,0))/\c.toList.take (k*z)=L)(hb0:∀b',b=zi b'->b'<n)
  (hcat:RL F w (Wt old k) n m L):RL F w (Zbt h z s old k) n m L:=by
 unfold Zbt
 split
 ·rename_i st0 b0 es i0 k0
  split
  ·rename_i cs hcs
   cases hle:zK (k*z) cs.len
   ·exact hcat
   simp only[cond_true]
   have hbb:b=zi b0:=by
    grind[Wx]
   have hB:=hr.blk b0 (hb0 b0 hbb)
   rw[hcs]at hB
   obtain⟨B',xs,el',ys,zs,hm,hcell,hsp,hrl⟩:=hB
   have hlen:=XM _ _ hrl
   have hle':=yA hle
   have hyl:ys.take (k*z)=L:=by
    rcases hblk with h0|⟨b',B,c,el,hb',hmB,hc,htk⟩
    ·have hk0:k=0:=by omega
     subst hk0
     have:L.length=0:=by
      rw[hLr.1]
      simp
     grind
    grind
   grind[K9]
  omega
 omega
theorem ZdM(t ty e:TypeId)(i:TypeInfo)(ht:P.underlying t=zi (.slice e))(hi:P.info? e=zi i)(a a':Option Addr)(k cap c:Nat)(hk:k<=cap) :
  (Builtin.append_ #[t,t] ty #[.slice a k cap,.slice a' 0 c]).run P w=.ok (.slice a k cap) w:=by
 cases a<;>cases a'<;>
  simp[Builtin.append_,run_underlying ht,sizeOf,typeInfo,hi,Builtin.lenOf,hk,Builtin.firstCells,loadCells,loadCellsFrom,storeCells]
variable{g:Nat->Blk}{ty:TypeId}
theorem Zcm{h0:PT Blk}(hr:HR base m F (look g h0) n w){t e:TypeId}{i:TypeInfo}{zv:Value}(ht:P.underlying t=zi (.slice e))(hi:P.info? e=zi i)(hzv:i.zero=zi zv)
  (hzs:zv.cells.size=i.size){a:Option Addr}{cap:Nat}(hkc:k<=cap)(hL:L.length=k*i.size)(hLc:∀ad,a=zi ad->∀j u,L[j]? =zi u->w.cell? (ad.add j)=zi u)
(hnone:b=zm->k=0/\cap=0)
  (hblk:cap=0\/∃b' B c el,b=zi b'/\b'<n/\m b'=zi B/\look g h0 b'≠.any/\a=zi ⟨B,0,zm⟩/\w.heap[B]? =zi (.cells c el (0,0))/\cap*i.size<=c.size/\c.toList.take (k*i.size)=L)
{ad:Addr}{mm c:Nat}{news:List Value}(hm0:0<mm)(hN:news.length=mm*i.size)(hNc:∀j u,news[j]? =zi u->w.cell? (ad.add j)=zi u)(h1:∀u∈news,u.oneCell'=ze)(hf:fits (k+mm) i.bytes) :
  ∃w' B arr el capn rest,(Builtin.append_ #[t,t] ty #[.slice a k cap,.slice (zi ad) mm c]).run P w=.ok (.slice (zi ⟨B,0,zm⟩) (k+mm) capn) w'/\HR base m F (look g (JY h0 b)) n w'/\Ext base m F n w m F n w'/\
   ((base<=B/\¬F B)/\B<w'.heap.size/\∀c,m c=zi B->look g (JY h0 b) c=.any)/\w'.heap[B]? =zi (.cells arr el (0,0))/\k+mm<=capn/\capn*i.size<=arr.size/\arr.toList=L++news++rest/\(w.heap.size<=B\/∃c,m c=zi B):=by
 obtain⟨hf1,hf2⟩:=hf
 by_cases hroom:k+mm<=cap
 ·rcases hblk with h|⟨b',B,c0,el,rfl,hbn,hB,hna,rfl,hcell,hsz,htk⟩
  ·omega
  have hfit:k*i.size+news.length<=c0.size:=by
   have:(k+mm)*i.size<=cap*i.size:=yx _ hroom
   grind
  have hfc:=run_firstCells_some (P:=P) w i.size mm ad mm c news hN hNc
  have hst:=run_storeCells_at P B (k*i.size) el news 0 c0 w hcell (by simpa using hfit) h1
  have hrun:(Builtin.append_ #[t,t] ty #[.slice (zi ⟨B,0,zm⟩) k cap,.slice (zi ad) mm c]).run P w=.ok (.slice (zi ⟨B,0,zm⟩) (k+mm) cap) (w.setRow B (c0.toList.take (k*i.size)++news++c0.toList.drop (k*i.size+news.length)).toArray):=by
   simp[Builtin.append_,run_underlying ht,sizeOf,typeInfo,hi,Builtin.lenOf,hroom,hfc,add_plain,hst]
  have hns:(c0.toList.take (k*i.size)++news++c0.toList.drop (k*i.size+news.length)).toArray.size=c0.size:=by
   simp
   omega
  obtain⟨k1,k2⟩:=hr.turn (h':=look g (JY h0 (zi b'))) hB hcell hns hna (blk:=.any) (λc=>Yg _ _ _ _ _) (λ_=>trivial)
  refine⟨_,B,_,el,cap,_,hrun,k1,k2,⟨hr.own b' B hB,by simpa using hr.dom b' B hB,λc hc=>?_⟩,setRow_heap w B _ _ el _ hcell,hroom,by rw[hns];exact hsz,by rw[List.toList_toArray,htk],.inr ⟨b',hB⟩⟩
  show look g (h0.set b' .any) c=.any
  rw[Yg]
  by_cases e:c=b'
  ·grind
  ·rw[if_neg e]
   rcases hr.inj c b' B hc hB e with h|h<;>grind
 ·have hcut:∀old,Later F w F (w.drew.alloc (.cells (L.toArray++news.toArray++yC zv.cells (grownCap w (k+mm) old e-(k+mm))) e)):=λold=>
   ⟨λ_ h=>h,λ_ h=>.inl h,λB hB=>heap_alloc_old w.drew _ B hB,by simp,λhd B hB=>by have:=hd B hB;simp;omega,⟨rfl,rfl,rfl⟩⟩
  have fin:∀old,(Builtin.append_ #[t,t] ty #[.slice a k cap,.slice (zi ad) mm c]).run P w=.ok (.slice (zi ⟨w.heap.size,0,zm⟩) (k+mm) (grownCap w (k+mm) old e)) (w.drew.alloc (.cells (L.toArray++news.toArray++yC zv.cells (grownCap w (k+mm) old e-(k+mm))) e))->
    ∃w' B arr el capn rest,(Builtin.append_ #[t,t] ty #[.slice a k cap,.slice (zi ad) mm c]).run P w=.ok (.slice (zi ⟨B,0,zm⟩) (k+mm) capn) w'/\HR base m F (look g (JY h0 b)) n w'/\Ext base m F n w m F n w'/\
     ((base<=B/\¬F B)/\B<w'.heap.size/\∀c,m c=zi B->look g (JY h0 b) c=.any)/\w'.heap[B]? =zi (.cells arr el (0,0))/\k+mm<=capn/\capn*i.size<=arr.size/\arr.toList=L++news++rest/\(w.heap.size<=B\/∃c,m c=zi B):=by
   intro old hrun
   have hge:k+mm<=grownCap w (k+mm) old e:=by simp[grownCap,Question.cut]
   refine⟨_,w.heap.size,_,e,_,(yC zv.cells (grownCap w (k+mm) old e-(k+mm))).toList,hrun,(hr.later (hcut old)).Ziu b,hr.ext (hcut old),
    ⟨⟨hr.low,λhF=>absurd (hr.fdom _ hF) (Nat.lt_irrefl _)⟩,by simp,λc hc=>absurd (hr.dom c _ hc) (Nat.lt_irrefl _)⟩,heap_alloc_new w.drew _,hge,?_,by simp,.inl (zI _)⟩
   simp only[Array.size_append,List.size_toArray,hL,hN,yC,Array.size_map,Array.size_range,hzs]
   rw[<- Nat.add_mul,<- Nat.add_mul]
   refine yx _ ?_
   omega
  cases a with
  |none=>
   by_cases hk0:cap=0
   ·have hk1:k=0:=by omega
    subst hk0
    subst hk1
    have hL0:L=[]:=List.eq_nil_of_length_eq_zero (by simpa using hL)
    subst hL0
    refine fin 0 ?_
    have:=run_append_nil (P:=P) (w:=w) t ty e i zv ht hi hzv ad mm c news hN hNc hm0 (by omega) (by simp only[zX]at hf1;omega)
    simpa using this
   ·rcases hblk with h|⟨b',B,c0,el,_,_,_,_,h,_⟩
    ·exact absurd h hk0
    ·cases h
  |some ad0=>
   refine fin cap ?_
   exact run_append_grow (P:=P) (w:=w) t ty e i zv ht hi hzv ad0 k cap L hL (hLc ad0 rfl) ad mm c news hN hNc (by omega) (by omega) (growslice_fits (by omega) hf1)
theorem Zcj{f:Nat->Bool}:∀{k:Nat},WU k f=ze->∀j,j<k->f j=ze:=by
 intro k
 induction k<;>grind[WU]
theorem ZnG{get:Nat->V}{pre:Prop}(h1:Wx h z x=zi (ze,k,get,pre,b)):pre:=by
 cases x<;>try(simp only[Wx]at h1;cases h1;done)
 ·grind[Wx]
 ·grind[Wx]
 grind[Wx]
theorem ZnH(hx:R F w x n m X){get:Nat->V}{pre:Prop}(h1:Wx h z x=zi (st,k,get,pre,b)):∃a cap,X=.slice a k cap/\k<=cap:=by
 cases x<;>try(simp only[Wx]at h1;cases h1;done)
 ·grind[Wx,Yp]
 ·grind[Wx,R]
 grind[Wx,R]
theorem Zhr(_hr:HR base m F h n w)(hx:R F w x n m X){get:Nat->V}{pre:Prop}{b:Nat}(h1:Wx h z x=zi (st,k,get,pre,zi b)):b<n:=by
 cases x<;>try(simp only[Wx]at h1;cases h1;done)
 grind[Wx,Yp]
theorem Zo7{h0h:PT Blk}(hr:HR base m F (look g h0h) n w){ts:Array TypeId}{args:V}{xs:Array Value}(hargs:RL F w args n m xs.toList){Q:V×PT Blk×Nat->Prop}
  (hq:(Zh8 P g h0h n ts.toList args).holds P Q) :
  ∃v h' n' m' w' X,Q (v,h',n')/\(Builtin.append_ ts ty xs).run P w=.ok X w'/\Ext base m F n w m' F n' w'/\HR base m' F (look g h') n' w'/\R F w' v n' m' X:=by
 unfold Zh8 at hq
 split at hq
 case h_2=>exact hq.elim
 rename_i t t' hts
 cases htt:zq t t'
 ·rw[htt]at hq
  exact hq.elim
 rw[htt]at hq
 obtain rfl:=zO htt
 simp only[cond_true]at hq
 split at hq
 case h_2=>exact hq.elim
 rename_i e ht
 split at hq
 case h_2=>exact hq.elim
 rename_i z zero by_ hz hzero hby
 cases hzl:zq zero.len z
 ·rw[hzl]at hq
  exact hq.elim
 cases hz0:zG 0 z
 ·rw[hzl,hz0]at hq
  exact hq.elim
 rw[hzl,hz0]at hq
 simp only[Bool.and_self,cond_true]at hq
 split at hq
 case h_2=>exact hq.elim
 rename_i s x
 split at hq
 case h_2=>exact hq.elim
 rename_i st k old pre b st' mm new hbase hrows
 simp only[RL]at hargs
 obtain⟨S,r,e1,hS,X,r',e2,hX,e3⟩:=hargs
 subst e3
 have hxs:xs= #[S,X]:=by
  grind
 have htsa:ts= #[t,t]:=by
  grind
 subst hxs
 subst htsa
 unfold ZW at hz
 unfold VR at hby
 cases hi:P.info? e with
 |none=>grind
 |some i=>
 rw[hi]at hz hby
 injection hz with hz
 injection hby with hby
 subst hz
 subst hby
 obtain⟨zv,hzv,hzr⟩:=K4 (F:=F) (w:=w) (n:=n) (m:=m) hzero
 have hzv':i.zero=zi zv:=by
  unfold X5 at hzero
  rw[hi]at hzero
  dsimp only at hzero
  cases hiz:i.zero with
  |none=>grind
  |some q=>
   simp only[zeroValue,typeInfo,zM,run_program,zP,hi,hiz,zV]at hzv
   grind
 have hzs:zv.cells.size=i.size:=by
  have h1:=zO hzl
  rw[XM _ _ hzr]at h1
  omega
 have hzpos:0<i.size:=by simpa[Nat.blt_eq]using hz0
 obtain⟨a',c,rfl,hnew⟩:=ZdL hr hX hrows
 cases st' with
 |false=>
  dsimp only at hq
  cases b with
  |some b0=>
   dsimp only at hq
   cases hcl:(!st||WU k λj=>(old j).clean)
   ·rw[hcl]at hq
    exact hq.elim
   rw[hcl]at hq
   obtain⟨⟨hpre,hfit,hcells⟩,hq⟩:=hq
   obtain⟨a,cap,L,rfl,hkc,hLr,hLc,hnone,hblk,hL0⟩:=Zcn hr hS hbase hpre
   have hold:Rows F w 0 (λ_=>zm) i.size k old L:=by
    cases st with
    |false=>grind
    |true=>exact hLr.down λj hj=>Zcj (by simpa using hcl) j hj
   have hbn:b0<n:=(Zhr hr hS hbase)
   by_cases hm0:mm=0
   ·subst hm0
    rw[Nat.add_zero]at hq
    rcases hblk with h0|⟨b',B,c0,el,hb',hbn',hB,hna,rfl,hcell,hsz,htk⟩
    ·have hk0:k=0:=by omega
     subst hk0
     have k0:=hr.Ziu (zi b0)
     have k1:=k0.name (h':=look g ((h0h.set b0 .any).set n (.arr i.size 0 (J5 old 0 new)))) (B:=zm) (blk:=.arr i.size 0 (J5 old 0 new)) (λk hk=>by cases hk) (λc=>Yg _ _ _ _ _) (.inl ⟨rfl,rfl⟩)
     refine⟨_,_,_,_,w,_,hq,ZdM t ty e i ht hi a a' 0 cap c hkc,(Ext.refl base m F n w).name (λk hk=>by cases hk),k1,?_⟩
     grind[Yp]
    ·injection hb' with hb'
     subst hb'
     have k0:=hr.Ziu (zi b0)
     have hfitk:k*i.size<=c0.size:=Nat.le_trans (yx _ hkc) hsz
     have k1:=k0.name (h':=look g ((h0h.set b0 .any).set n (.arr i.size k (J5 old k new)))) (B:=zi B) (blk:=.arr i.size k (J5 old k new))
      (λk hk=>by
       injection hk with hk;subst hk
       refine⟨hr.own b0 B hB,hr.dom b0 B hB,λc hc=>?_⟩
       show look g (h0h.set b0 .any) c=.any
       rw[Yg]
       by_cases e:c=b0
       ·rw[if_pos e]
       ·rw[if_neg e]
        rcases hr.inj c b0 B hc hB e with h|h
        ·exact h
        ·exact absurd h hna) (λc=>Yg _ _ _ _ _)
      (.inr ⟨B,c0,el,rfl,hcell,hfitk,λj hj=>by
       obtain⟨ys,g1,g2,g3⟩:=hold.2 j hj
       refine⟨ys,?_,g2,λq hq=>?_⟩
       ·rw[Zre hj];exact g1
       ·rw[<- g3 q hq,<- htk]
        have hmul:(j+1)*i.size<=k*i.size:=yx _ hj
        rw[Nat.add_mul,Nat.one_mul]at hmul
        rw[List.getElem?_take_of_lt (by omega)]
        simp⟩)
     refine⟨_,_,_,_,w,_,hq,ZdM t ty e i ht hi _ a' k cap c hkc,(Ext.refl base m F n w).name (λk hk=>by injection hk with hk;subst hk;exact .inr ⟨b0,hB⟩),k1,?_⟩
     rw[Yp]
     exact⟨by omega,_,cap,rfl,hkc,.inr ⟨B,c0,el,(0,0),by rw[Nat.zero_mul],by rw[if_pos rfl],hcell,by rw[zX];exact hsz⟩⟩
   ·obtain⟨ad,N,rfl,hN,hNc⟩:=hnew.resolve_left hm0
    obtain⟨w',B,arr,el,capn,rest,hrun,k1,k2,k3,k4,k5,k6,k7,k8⟩:=Zcm hr ht hi hzv' hzs hkc hLr.1 hLc hnone hblk (by omega) hN.1 hNc (hN.one hzpos λj hj=>(hcells j hj).1) hfit
    have hall0:=(hold.app (hN.down λj hj=>(hcells j hj).2)).cat'
    have hfitsz:(k+mm)*i.size<=arr.size:=Nat.le_trans (yx _ k5) k6
    have j1:=k1.name (h':=look g ((JY h0h (zi b0)).set n (.arr i.size (k+mm) (J5 old k new)))) (B:=zi B) (blk:=.arr i.size (k+mm) (J5 old k new)) (λk hk=>by injection hk with hk;subst hk;exact k3) (λc=>Yg _ _ _ _ _)
     (.inr ⟨B,arr,el,rfl,k4,hfitsz,λj hj=>by
      obtain⟨ys,g1,g2,g3⟩:=hall0.2 j hj
      refine⟨ys,(Xj k2.sz k2.f (λB hB=>k2.keep B (.inr hB)) _ 0 0 _ _ (zI _) (λ_ _ _ h=>h)).2 _ g1,g2,λq hq=>?_⟩
      rw[<- g3 q hq]
      have hmul:(j+1)*i.size<=(k+mm)*i.size:=yx _ hj
      rw[Nat.add_mul,Nat.one_mul]at hmul
      exact Kv (ys:=L++N) (zs:=rest) k7 (by rw[hall0.1];omega)⟩)
    refine⟨_,_,_,_,w',_,hq,hrun,k2.name (λk hk=>by injection hk with hk;subst hk;exact k8),j1,?_⟩
    grind[Yp]
  |none=>
   obtain⟨⟨hpre,hfit,hcells⟩,hq⟩:=hq
   obtain⟨a,cap,L,rfl,hkc,hLr,hLc,hnone,hblk,_⟩:=Zcn hr hS hbase hpre
   obtain⟨rfl,rfl⟩:=hnone rfl
   by_cases hm0:mm=0
   ·subst hm0
    have k1:=hr.name (h':=look g (h0h.set n (.arr i.size 0 new))) (B:=zm) (blk:=.arr i.size 0 new) (λk hk=>by cases hk) (λc=>Yg _ _ _ _ _) (.inl ⟨rfl,rfl⟩)
    refine⟨_,_,_,_,w,_,hq,ZdM t ty e i ht hi a a' 0 0 c (zI _),(Ext.refl base m F n w).name (λk hk=>by cases hk),k1,?_⟩
    grind[Yp]
   ·obtain⟨ad,N,rfl,hN,hNc⟩:=hnew.resolve_left hm0
    obtain⟨w',B,arr,el,capn,rest,hrun,k1,k2,k3,k4,k5,k6,k7,k8⟩:=Zcm hr ht hi hzv' hzs (zI 0) hLr.1 hLc (b:=zm) (λ_=>⟨rfl,rfl⟩) (.inl rfl) (by omega) hN.1 hNc (hN.one hzpos λj hj=>(hcells j hj).1) (by rw[zX];exact hfit)
    have hN0:=hN.down λj hj=>(hcells j hj).2
    have hL0:L=[]:=List.eq_nil_of_length_eq_zero (by simpa using hLr.1)
    subst hL0
    rw[zX]at hrun k5
    have hfitsz:mm*i.size<=arr.size:=Nat.le_trans (yx _ k5) k6
    have j1:=k1.name (h':=look g (h0h.set n (.arr i.size mm new))) (B:=zi B) (blk:=.arr i.size mm new) (λk hk=>by injection hk with hk;subst hk;exact k3) (λc=>Yg _ _ _ _ _)
     (.inr ⟨B,arr,el,rfl,k4,hfitsz,λj hj=>by
      obtain⟨ys,g1,g2,g3⟩:=hN0.2 j hj
      refine⟨ys,(Xj k2.sz k2.f (λB hB=>k2.keep B (.inr hB)) (new j) 0 0 _ _ (zI _) (λ_ _ _ h=>h)).2 _ g1,g2,λq hq=>?_⟩
      rw[<- g3 q hq]
      have hmul:(j+1)*i.size<=mm*i.size:=yx _ hj
      rw[Nat.add_mul,Nat.one_mul]at hmul
      exact Kv (ys:=N) (zs:=rest) (by simpa using k7) (by rw[hN.1];omega)⟩)
    refine⟨_,_,_,_,w',_,hq,hrun,k2.name (λk hk=>by injection hk with hk;subst hk;exact k8),j1,?_⟩
    grind[Yp]
 |true=>
  dsimp only at hq
  have hb0n:∀b',b=zi b'->b'<n:=λb' hb'=>by
   have h1:=hbase
   rw[hb']at h1
   exact Zhr hr hS h1
  obtain⟨a,cap,rfl,hkc⟩:=ZnH hS hbase
  cases hm0:zq mm 0
  ·rw[hm0]at hq
   simp only[cond_false]at hq
   have hm1:mm≠0:=λe=>by
    simp_all
   obtain⟨ad,N,rfl,hN,hNc⟩:=hnew.resolve_left hm1
   cases hall:WU mm λj=>(new j).YN&&zq (new j).len i.size
   ·rw[hall]at hq
    exact hq.elim
   rw[hall]at hq
   simp only[cond_true]at hq
   have hcell1:∀j,j<mm->(new j).YN=ze:=λj hj=>by
    grind[Zcj]
   have hone:=hN.one hzpos hcell1
   cases st with
   |true=>
    dsimp only at hq
    cases hfb:QU (k+mm) i.bytes
    ·rw[hfb]at hq
     exact hq.elim
    rw[hfb]at hq
    simp only[cond_true]at hq
    have hfit:fits (k+mm) i.bytes:=by
     unfold QU at hfb
     simp only[zL]at hfb
     exact⟨yA hfb.1,yA hfb.2⟩
    obtain⟨a,cap,L,hSe,hkc,hLr,hLc,hnone,hblk,_⟩:=Zcn hr hS hbase (ZnG hbase)
    injection hSe with s1 s2 s3
    subst s1
    subst s3
    obtain⟨w',B,arr,el,capn,rest,hrun,k1,k2,k3,k4,k5,k6,k7,k8⟩:=Zcm hr ht hi hzv' hzs hkc hLr.1 hLc hnone hblk (by omega) hN.1 hNc hone hfit
    have j1:=k1.name (h':=look g ((JY h0h b).set n (.var ((Zbt (look g h0h) i.size s old k).app (Wt new mm))))) (B:=zi B) (blk:=.var ((Zbt (look g h0h) i.size s old k).app (Wt new mm))) (λk hk=>by injection hk with hk;subst hk;exact k3) (λc=>Yg _ _ _ _ _)
     ⟨B,arr,el,L++N,rest,rfl,k4,k7,by
      have hrow:RL F w ((Zbt (look g h0h) i.size s old k).app (Wt new mm)) n m (L++N):=Zch _ _ (ZqT hr hbase hLr hkc (hblk.imp id λ⟨b',B,c0,el,e1,_,e2,_,_,e3,_,e4⟩=>⟨b',B,c0,el,e1,e2,e3,e4⟩) hb0n (hLr.cat k L)) _ _ (hN.cat mm N)
      exact(Xj k2.sz k2.f (λB hB=>k2.keep B (.inr hB)) _ n (n+1) m _ (by omega) (λc hc B hB=>by rw[if_neg (by omega)];exact hB)).2 _ hrow⟩
    refine⟨_,_,_,_,w',_,hq,hrun,k2.name (λk hk=>by injection hk with hk;subst hk;exact k8),j1,?_⟩
    rw[Yp]
    exact⟨by omega,_,capn,rfl,k5,.inr ⟨B,arr,el,(0,0),by rw[Nat.zero_mul],by rw[if_pos rfl],k4,by rw[zX];exact k6⟩⟩
   |false=>
    dsimp only at hq
    cases hcl:WU mm λj=>(new j).clean
    ·rw[hcl]at hq
     exact hq.elim
    rw[hcl]at hq
    obtain⟨⟨hpre,hfit⟩,hq⟩:=hq
    obtain⟨a,cap,L,hSe,hkc,hLr,hLc,hnone,hblk,hL0⟩:=Zcn hr hS hbase hpre
    injection hSe with s1 s2 s3
    subst s1
    subst s3
    obtain⟨w',B,arr,el,capn,rest,hrun,k1,k2,k3,k4,k5,k6,k7,k8⟩:=Zcm hr ht hi hzv' hzs hkc hLr.1 hLc hnone hblk (by omega) hN.1 hNc hone hfit
    have hall0:=(hL0 rfl).appFrom (hN.down λj hj=>Zcj hcl j hj)
    have hfitsz:(k+mm)*i.size<=arr.size:=Nat.le_trans (yx _ k5) k6
    have j1:=k1.name (h':=look g ((JY h0h b).set n (.arr i.size (k+mm) (ZbD old k new mm)))) (B:=zi B) (blk:=.arr i.size (k+mm) (ZbD old k new mm)) (λk hk=>by injection hk with hk;subst hk;exact k3) (λc=>Yg _ _ _ _ _)
     (.inr ⟨B,arr,el,rfl,k4,hfitsz,λj hj=>by
      obtain⟨ys,g1,g2,g3⟩:=hall0.2 j hj
      refine⟨ys,(Xj k2.sz k2.f (λB hB=>k2.keep B (.inr hB)) _ 0 0 _ _ (zI _) (λ_ _ _ h=>h)).2 _ g1,g2,λq hq=>?_⟩
      rw[<- g3 q hq]
      have hmul:(j+1)*i.size<=(k+mm)*i.size:=yx _ hj
      rw[Nat.add_mul,Nat.one_mul]at hmul
      exact Kv (ys:=L++N) (zs:=rest) k7 (by rw[hall0.1];omega)⟩)
    refine⟨_,_,_,_,w',_,hq,hrun,k2.name (λk hk=>by injection hk with hk;subst hk;exact k8),j1,?_⟩
    rw[Yp]
    exact⟨by omega,_,capn,rfl,k5,.inr ⟨B,arr,el,(0,0),by rw[Nat.zero_mul],by rw[if_pos rfl],k4,by rw[zX];exact k6⟩⟩
  ·rw[hm0]at hq
   have hm1:=zO hm0
   subst hm1
   exact⟨_,_,_,m,w,_,hq,ZdM t ty e i ht hi a a' k cap c hkc,Ext.refl base m F n w,hr,hS⟩
end
end Go.Fw
namespace Go.Fw
section
variable{P:Program}{base:Nat}{m:Nat->Option Nat}{F:Nat->Prop}{n:Nat}{w:World}{g:Nat->Blk}{h0:PT Blk}
variable{b z i:Nat}{st:Bool}{new:Nat->V}
theorem ZiL{h:Nat->Blk}(hr:HR base m F h n w){B mm:Nat}(hbn:b<n)(hB:m b=zi B){L:List Value}(hz:0<z)(hL:Rows F w n m z mm new L){Q:Blk->Prop}
  (hq:(GN (h b) z i st mm new).holds P Q):∃blk w',Q blk/\(storeCells ⟨B,i*z,zm⟩ L).run P w=.ok () w'/\(∀h':Nat->Blk,(∀c,h' c=if c=b then blk else h c)->HR base m F h' n w')/\Ext base m F n w m F n w':=by
 have hblk:=hr.blk b hbn
 unfold GN at hq
 cases hh:h b<;>rw[hh]at hq hblk<;>try(exact hq.elim)
 ·rename_i cs
  dsimp only at hq
  obtain⟨B',xs,el,ys,zs,hm,hcell,hsp,hrow⟩:=hblk
  obtain rfl:B=B':=by
   grind
  cases hst:st
  ·rw[hst]at hq
   exact hq.elim
  cases hle:zK ((i+mm)*z) cs.len
  ·rw[hst,hle]at hq
   exact hq.elim
  cases hall:WU mm (λj=>(new j).YN&&zq (new j).len z)
  ·rw[hst,hle,hall]at hq
   exact hq.elim
  rw[hst,hle,hall]at hq
  have hle':=yA hle
  rw[XM _ _ hrow]at hle'
  have hone:∀u∈L,u.oneCell'=ze:=hL.one hz λj hj=>by
   grind[Zcj]
  have hlen:L.length=mm*z:=hL.1
  have hadd:(i+mm)*z=i*z+mm*z:=Nat.add_mul _ _ _
  have hpl:=Zbx hsp
  have hrun:=run_storeCells_at P B (i*z) el L 0 xs w hcell (by omega) hone
  simp only[Nat.add_zero]at hrun
  rw[ZgV _ _ _ (by simp;omega)]at hrun
  have hcat:=Rows.cat mm L hL
  have ht:=λh' hh'=>hr.turn (h':=h') hm hcell (new:=(XT xs.toList (i*z) L).toArray) (by simp[J6]) (by rw[hh];simp) (blk:=.var (cs.splice (i*z) (Wt new mm))) hh' (λhrl=>
   ⟨B,_,el,XT ys (i*z) L,zs,rfl,setRow_heap w B _ _ el _ hcell,by rw[List.toList_toArray,hsp,Zmv _ _ _ _ (by omega)],Zen cs _ (hrl _ _ _ _ hrow) (i*z) (Wt new mm) _ (hrl _ _ _ _ hcat)⟩)
  exact⟨_,_,hq,hrun,λh' hh'=>(ht h' hh').1,(ht (λc=>if c=b then _ else h c) (λ_=>rfl)).2⟩
 ·rename_i es k get
  dsimp only at hq
  cases he:zq z es
  ·rw[he]at hq
   exact hq.elim
  rw[he]at hq
  obtain rfl:=zO he
  obtain⟨⟨hik,hcl⟩,hq⟩:=hq
  have hone:∀u∈L,u.oneCell'=ze:=hL.one hz λj hj=>(hcl j hj).1
  have hL0:=hL.down λj hj=>(hcl j hj).2
  have hlen:L.length=mm*z:=hL.1
  have hadd:(i+mm)*z=i*z+mm*z:=Nat.add_mul _ _ _
  have hmulk:(i+mm)*z<=k*z:=yx z hik
  rcases hblk with⟨hk0,hB0⟩|⟨B',c,el,hm,hcell,hsz,hrow⟩
  ·grind
  obtain rfl:B=B':=by
   grind
  have hrun:=run_storeCells_at P B (i*z) el L 0 c w hcell (by omega) hone
  simp only[Nat.add_zero]at hrun
  rw[ZgV _ _ _ (by simp;omega)]at hrun
  have ht:=λh' hh'=>hr.turn (h':=h') hm hcell (new:=(XT c.toList (i*z) L).toArray) (by simp[J6]) (by rw[hh];simp) (blk:=.arr z k λj=>bif zK i j&&zG j (i+mm)then new (j-i)else get j) hh' (λhrl=>by
   refine .inr ⟨B,_,el,rfl,setRow_heap w B _ _ el _ hcell,by simp[J6,hsz],λj hj=>?_⟩
   have hmulj:(j+1)*z<=k*z:=yx z hj
   rw[Nat.add_mul,Nat.one_mul]at hmulj
   cases hin:zK i j&&zG j (i+mm)
   ·obtain⟨xs,h1,h2,h3⟩:=hrow j hj
    refine⟨xs,by dsimp only;rw[hin];exact hrl _ _ _ _ h1,h2,λq hq'=>?_⟩
    simp only[List.getElem?_toArray]
    rw[VP _ _ _ _ (by simp;omega),if_neg,<- h3 q hq']
    ·simp
    ·intro hc
     have hj2:i<=j/\j<i+mm:=by
      constructor
      ·rcases Nat.lt_or_ge j i with h|h
       ·have:(j+1)*z<=i*z:=yx z h
        rw[Nat.add_mul,Nat.one_mul]at this
        omega
       ·exact h
      ·rcases Nat.lt_or_ge j (i+mm)with h|h
       ·exact h
       ·have:(i+mm)*z<=j*z:=yx z h
        omega
     have:(zK i j&&zG j (i+mm))=ze:=by
      simp only[zL,Nat.blt_eq,Nat.ble_eq];exact hj2
     rw[hin]at this;cases this
   ·have hin2:=hin
    simp only[zL,Nat.blt_eq,Nat.ble_eq]at hin2
    obtain⟨xs,g1,g2,g3⟩:=hL0.2 (j-i) (by omega)
    refine⟨xs,by dsimp only;rw[hin];exact hrl _ _ _ _ g1,g2,λq hq'=>?_⟩
    simp only[List.getElem?_toArray]
    have hjm:j*z=i*z+(j-i)*z:=by rw[<- Nat.add_mul];congr 1;omega
    have hmj:(j-i+1)*z<=mm*z:=yx z (by omega)
    rw[Nat.add_mul,Nat.one_mul]at hmj
    rw[VP _ _ _ _ (by simp;omega),if_pos (by omega),<- g3 q hq']
    congr 1
    omega)
  exact⟨_,_,hq,hrun,λh' hh'=>(ht h' hh').1,(ht (λc=>if c=b then _ else h c) (λ_=>rfl)).2⟩
theorem Zru:∀(cs:V)(o:Nat),cs.splice o .nil=cs:=by
 intro cs
 induction cs<;>grind[V.splice,zq]
theorem ZiM{blk:Blk}{Q:Blk->Prop}(hq:(GN blk z i st 0 new).holds P Q):Q blk:=by
 unfold GN at hq
 cases blk<;>try(exact hq.elim)
 ·rename_i cs
  dsimp only at hq
  cases hc:(st&&(zK ((i+0)*z) cs.len&&WU 0 (λj=>(new j).YN&&zq (new j).len z)))
  ·rw[hc]at hq;exact hq.elim
  ·rw[hc]at hq
   have h:Q (.var (cs.splice (i*z) .nil)):=hq
   rw[Zru]at h
   exact h
 ·rename_i es k get
  dsimp only at hq
  cases he:zq z es
  ·rw[he]at hq;exact hq.elim
  rw[he]at hq
  have e:(λj=>bif zK i j&&zG j (i+0)then new (j-i)else get j)=get:=by
   funext j
   have:(zK i j&&zG j (i+0))=za:=by
    cases h:zK i j&&zG j (i+0)with
    |false=>rfl
    |true=>simp only[zL,Nat.blt_eq,Nat.ble_eq]at h;omega
   rw[this];rfl
  have h:=hq.2
  rw[e]at h
  exact h
theorem Zlu{α:Type}{a:Nat}{T:Tree α}{Q:α->Prop}(h:(Zf4 st a b T).holds P Q):a<=b/\T.holds P Q:=by
 cases st with
 |false=>exact h
 |true=>
  simp only[Zf4]at h
  cases hb:zK a b
  ·rw[hb]at h
   exact h.elim
  simp_all
variable{e:TypeId}
theorem Zg8(hz:ZW P e=zi z):∃i,P.info? e=zi i/\i.size=z:=by
 grind[ZW]
theorem Zjh(b:Nat):look g (h0.set b (look g h0 b))=look g h0:=by
 grind[Yg]
variable{Q:V×PT Blk×Nat->Prop}{t ty:TypeId}{k:Nat}
theorem Zo3(hr:HR base m F (look g h0) n w)(ht:P.underlying t=zi (.slice e)){es c:Nat}{x:V}{S X:Value}(hS:R F w (.osp st b es i k c) n m S)(hX:R F w x n m X)
  (hq:(Zh9 P g h0 n e (.osp st b es i k c) x).holds P Q) :
  ∃v h' n' m' w' Y,Q (v,h',n')/\(Builtin.append_ #[t,t] ty #[S,X]).run P w=.ok Y w'/\Ext base m F n w m' F n' w'/\HR base m' F (look g h') n' w'/\R F w' v n' m' Y:=by
 unfold Zh9 at hq
 cases hz:ZW P e with
 |none=>
  rw[hz]at hq
  exact hq.elim
 |some z=>
  rw[hz]at hq
  dsimp only at hq
  cases hz0:zG 0 z
  ·rw[hz0]at hq
   exact hq.elim
  rw[hz0]at hq
  simp only[cond_true]at hq
  cases he:zq z es
  ·rw[he]at hq
   exact hq.elim
  rw[he]at hq
  obtain rfl:=zO he
  simp only[cond_true]at hq
  have hzpos:0<z:=by simpa[Nat.blt_eq]using hz0
  cases hrows:rowsOf (look g h0) z x with
  |none=>
   rw[hrows]at hq
   exact hq.elim
  |some r=>
   obtain⟨st',mm,new⟩:=r
   rw[hrows]at hq
   obtain⟨hle,hq⟩:=Zlu hq
   rw[Tree.Yw]at hq
   obtain⟨i0,hi,hsz⟩:=Zg8 hz
   have hS0:=hS
   rw[Kc]at hS
   obtain⟨hbn,a,cap,rfl,hk,hk2,hcap⟩:=hS
   obtain⟨a',c',rfl,hnew⟩:=ZdL hr hX hrows
   rcases Nat.eq_zero_or_pos mm with hm0|hm0
   ·subst hm0
    have h1:=ZiM hq
    refine⟨_,_,n,m,w,_,h1,ZdM (P:=P) (w:=w) t ty e i0 ht hi a a' k cap c' (by omega),Ext.refl _ _ _ _ _,by rw[Zjh];exact hr,?_⟩
    grind[Kc]
   ·rcases hcap with h0|⟨B,c0,el,fr,rfl,hB,hc0,hsz0⟩
    ·omega
    rcases hnew with h0|⟨ad,L,rfl,hL,hLc⟩
    ·omega
    have hkm:(look g h0 b)≠.any->True:=λ_=>trivial
    obtain⟨blk,w',h1,h2,h3,h4⟩:=ZiL hr hbn hB hzpos hL hq
    have hfc:=run_firstCells_some (P:=P) w z mm ad mm c' L hL.1 hLc
    refine⟨_,_,n,m,w',.slice (zi ⟨B,i*z,zm⟩) (k+mm) cap,h1,?_,h4,h3 _ (λc=>Yg _ _ _ _ _),?_⟩
    ·have hadd:(⟨B,i*z,zm⟩:Addr).add (k*z)=⟨B,(i+k)*z,zm⟩:=by rw[add_plain,Nat.add_mul]
     have hroom:k+mm<=cap:=by omega
     simp[Builtin.append_,run_underlying ht,sizeOf,typeInfo,hi,hsz,Builtin.lenOf,hroom,hfc,hadd,h2]
    ·have h5:=h4.val hS0
     grind[Kc]
theorem Zd4{cs:V}{zs:Array Value}(_:0<z)(hs:zs.size=z)(hrl:RL F w cs n m zs.toList):Rows F w n m z k (λ_=>cs) (yC zs k).toList:=by
 have hlen:(yC zs k).toList.length=k*z:=by simp[yC,hs]
 refine⟨hlen,λj hj=>⟨zs.toList,hrl,by simp[hs],λq hq=>?_⟩⟩
 have hmul:(j+1)*z<=k*z:=yx z hj
 rw[Nat.add_mul,Nat.one_mul]at hmul
 have hlt:j*z+q<k*z:=by omega
 have hmod:(j*z+q)%z=q:=by rw[Nat.mul_comm,Nat.mul_add_mod,Nat.mod_eq_of_lt hq]
 simp only[yC,Array.getElem?_toList,hs]
 grind
variable{ts:Array TypeId}{xs:Array Value}
theorem Zo9(hr:HR base m F (look g h0) n w){args:V}(hargs:RL F w args n m xs.toList)
  (hq:(Zie P g h0 n ts.toList args).holds P Q) :
  ∃v h' n' m' w' X,Q (v,h',n')/\(Builtin.clear_ ts ty xs).run P w=.ok X w'/\Ext base m F n w m' F n' w'/\HR base m' F (look g h') n' w'/\R F w' v n' m' X:=by
 unfold Zie at hq
 split at hq
 case h_2=>exact hq.elim
 rename_i t tr hts
 split at hq
 case h_2=>exact hq.elim
 rename_i e ht
 split at hq
 case h_2=>exact hq.elim
 rename_i z zero hz hzero
 cases hzl:zq zero.len z
 ·rw[hzl]at hq
  exact hq.elim
 cases hz0:zG 0 z
 ·rw[hzl,hz0]at hq
  exact hq.elim
 rw[hzl,hz0]at hq
 simp only[Bool.and_self,cond_true]at hq
 split at hq
 case h_2=>exact hq.elim
 rename_i s rest
 simp only[RL]at hargs
 obtain⟨S,r,e1,hS,hrest⟩:=hargs
 have hts0:ts[0]? =zi t:=by
  rw[<- Array.getElem?_toList,hts]
  rfl
 have hxs0:xs[0]? =zi S:=by
  rw[<- Array.getElem?_toList,e1]
  rfl
 have hzpos:0<z:=by simpa[Nat.blt_eq]using hz0
 have unit:∀{w':World}{m':Nat->Option Nat}{n':Nat},R F w' (.tup .nil) n' m' (.tuple #[]):=by
  grind[R,RL]
 have hS':=Va hS
 cases hp:s.Wl<;>rw[hp]at hq hS'<;>try exact hq.elim
 ·rename_i st b es i k
  dsimp only at hq
  cases he:zq z es
  ·rw[he]at hq
   exact hq.elim
  rw[he]at hq
  obtain rfl:=zO he
  simp only[cond_true]at hq
  rw[Tree.Yw]at hq
  rw[Yp]at hS'
  obtain⟨hbn,a,cap,rfl,hk,hcap⟩:=hS'
  rcases Nat.eq_zero_or_pos k with hk0|hk0
  ·subst hk0
   have h1:=ZiM hq
   refine⟨_,_,n,m,w,.tuple #[],h1,?_,Ext.refl _ _ _ _ _,by rw[Zjh];exact hr,unit⟩
   cases a<;>simp[Builtin.clear_,hts0,hxs0,run_underlying ht]
  ·rcases hcap with h0|⟨B,c0,el,fr,rfl,hB,hc0,hsz0⟩
   ·omega
   obtain⟨zv,hzv⟩:=K4 (F:=F) (w:=w) (n:=n) (m:=m) hzero
   have hzs:zv.cells.size=z:=by
    have h1:=zO hzl
    rw[XM _ _ hzv.2]at h1
    omega
   have hL:=Zd4 (k:=k) hzpos hzs hzv.2
   obtain⟨blk,w',h1,h2,h3,h4⟩:=ZiL hr hbn hB hzpos hL hq
   refine⟨_,_,n,m,w',.tuple #[],h1,?_,h4,h3 _ (λc=>Yg _ _ _ _ _),unit⟩
   obtain⟨k',rfl⟩:∃k',k=k'+1:=⟨k-1,by omega⟩
   simp[Builtin.clear_,hts0,hxs0,run_underlying ht,hzv.1,h2]
 ·simp only[R]at hS'
  subst hS'
  refine⟨_,_,n,m,w,.tuple #[],hq,?_,Ext.refl _ _ _ _ _,hr,unit⟩
  simp[Builtin.clear_,hts0,hxs0,run_underlying ht]
theorem Zpd(hr:HR base m F (look g h0) n w){args:V}(hargs:RL F w args n m xs.toList)
  (hq:(evCopy P g h0 n ts.toList args).holds P Q) :
  ∃v h' n' m' w' X,Q (v,h',n')/\(Builtin.copy_ ts ty xs).run P w=.ok X w'/\Ext base m F n w m' F n' w'/\HR base m' F (look g h') n' w'/\R F w' v n' m' X:=by
 unfold evCopy at hq
 split at hq
 case h_2=>exact hq.elim
 rename_i t tr hts
 split at hq
 case h_2=>exact hq.elim
 rename_i e ht
 split at hq
 case h_2=>exact hq.elim
 rename_i z hz
 cases hz0:zG 0 z
 ·rw[hz0]at hq;exact hq.elim
 rw[hz0]at hq
 simp only[cond_true]at hq
 split at hq
 case h_2=>exact hq.elim
 rename_i d x rest
 simp only[RL]at hargs
 obtain⟨S,r,e1,hS,X,r2,e2,hX,hrest⟩:=hargs
 have hts0:ts[0]? =zi t:=by rw[<- Array.getElem?_toList,hts];rfl
 have hxs0:xs[0]? =zi S:=by rw[<- Array.getElem?_toList,e1];rfl
 have hxs1:xs[1]? =zi X:=by rw[<- Array.getElem?_toList,e1,e2];rfl
 have hzpos:0<z:=by simpa[Nat.blt_eq]using hz0
 obtain⟨i0,hi,hsz⟩:=Zg8 hz
 have hS':=Va hS
 have none_:∀(a:Option Addr),S=.slice a 0 0->(match rowsOf (look g h0) z x with|some _=>Tree.leaf (V.int ze .i64 0,h0,n)|none=>.stuck).holds P Q->
   ∃v h' n' m' w' X,Q (v,h',n')/\(Builtin.copy_ ts ty xs).run P w=.ok X w'/\Ext base m F n w m' F n' w'/\HR base m' F (look g h') n' w'/\R F w' v n' m' X:=by
  intro a hSa hq
  subst hSa
  cases hrows:rowsOf (look g h0) z x with
  |none=>rw[hrows]at hq;exact hq.elim
  |some r=>
   obtain⟨st',mm,new⟩:=r
   rw[hrows]at hq
   obtain⟨a',c',rfl,hnew⟩:=ZdL hr hX hrows
   refine⟨_,_,n,m,w,.int .i64 0,hq,?_,Ext.refl _ _ _ _ _,hr,by rw[Yo]⟩
   cases a<;>cases a'<;>simp[Builtin.copy_,hts0,hxs0,hxs1,run_underlying ht,Builtin.lenOf,sizeOf,typeInfo,hi,Builtin.firstCells,loadCells,loadCellsFrom,storeCells,goInt]
 cases hp:d.Wl<;>rw[hp]at hq hS'<;>try exact hq.elim
 case Zo=>simp only[R]at hS';exact none_ _ hS' hq
 case esl=>simp only[R]at hS';obtain⟨a,hS',_⟩:=hS';exact none_ a hS' hq
 rename_i st b es i k
 dsimp only at hq
 cases he:zq z es
 ·rw[he]at hq;exact hq.elim
 rw[he]at hq
 obtain rfl:=zO he
 simp only[cond_true]at hq
 cases hrows:rowsOf (look g h0) z x with
 |none=>rw[hrows]at hq;exact hq.elim
 |some r=>
  obtain⟨st',mm,new⟩:=r
  rw[hrows]at hq
  obtain⟨hle,hq⟩:=Zlu hq
  rw[Tree.Yw]at hq
  rw[Yp]at hS'
  obtain⟨hbn,a,cap,rfl,hk,hcap⟩:=hS'
  obtain⟨a',c',rfl,hnew⟩:=ZdL hr hX hrows
  have hmin:Nat.min mm k=mm:=Nat.min_eq_left hle
  rcases Nat.eq_zero_or_pos mm with hm0|hm0
  ·subst hm0
   have h1:=ZiM hq
   refine⟨_,_,n,m,w,.int .i64 0,h1,?_,Ext.refl _ _ _ _ _,by rw[Zjh];exact hr,by rw[Wp,Yo];rfl⟩
   cases a<;>cases a'<;>simp[Builtin.copy_,hts0,hxs0,hxs1,run_underlying ht,Builtin.lenOf,sizeOf,typeInfo,hi,Builtin.firstCells,loadCells,loadCellsFrom,storeCells,goInt]
  ·rcases hcap with h0|⟨B,c0,el,fr,rfl,hB,hc0,hsz0⟩
   ·omega
   rcases hnew with h0|⟨ad,L,rfl,hL,hLc⟩
   ·omega
   obtain⟨blk,w',h1,h2,h3,h4⟩:=ZiL hr hbn hB hzpos hL hq
   have hfc:=run_firstCells_some (P:=P) w z mm ad mm c' L hL.1 hLc
   refine⟨_,_,n,m,w',.int .i64 mm,h1,?_,h4,h3 _ (λc=>Yg _ _ _ _ _),by rw[Wp,Yo]⟩
   simp[Builtin.copy_,hts0,hxs0,hxs1,run_underlying ht,Builtin.lenOf,sizeOf,typeInfo,hi,hsz,hmin,hfc,h2,goInt]
theorem Zgt(n z k:Nat):GV n z k=.osl ze n z 0 k\/k=0/\GV n z k=.esl ze z:=by
 grind[GV,zq,zO]
theorem fits_of(h:QU k b=ze):fits k b:=by
 unfold QU at h
 simp only[zL,Nat.ble_eq]at h
 exact h
theorem Zhk{zero:V}(hz:ZW P e=zi z)(hzero:X5 P e=zi zero)(hzl:zq zero.len z=ze) :
  ∃i0 zv,P.info? e=zi i0/\i0.size=z/\i0.zero=zi zv/\zv.cells.size=z/\RL F w zero n m zv.cells.toList/\∀by_,VR P e=zi by_->i0.bytes=by_:=by
 obtain⟨i0,hi,hsz⟩:=Zg8 hz
 obtain⟨zv,hzv⟩:=K4 (F:=F) (w:=w) (n:=n) (m:=m) hzero
 have hzv':i0.zero=zi zv:=by
  have h:=hzero
  unfold X5 at h
  rw[hi]at h
  dsimp only at h
  cases hiz:i0.zero with
  |none=>grind
  |some q=>
   have h1:=hzv.1
   simp only[zeroValue,typeInfo,zM,run_program,zP,hi,hiz,zV]at h1
   grind
 refine⟨i0,zv,hi,hsz,hzv',?_,hzv.2,λby_ hby=>by unfold VR at hby;rw[hi]at hby;injection hby⟩
 have h1:=zO hzl
 rw[XM _ _ hzv.2]at h1
 omega
variable{xl xc:Value}
theorem Zri{len cap cs:V}(hl:R F w len n m xl)(hc:R F w cap n m xc)(h:ZcR P t len cap=zi (z,k,cs)) :
  ∃outc e,(Instr.makeSlice t xl xc).run P w=.ok (.slice (zi ⟨w.heap.size,0,zm⟩) k k) (w.alloc (.cells outc e))/\RL F w cs n m outc.toList/\outc.size=k*z:=by
 unfold ZcR at h
 split at h
 case h_2=>cases h
 rename_i e ht
 split at h
 case h_2=>cases h
 rename_i z0 zero by_ hz hzero hby
 cases hzl:zq zero.len z0
 ·grind
 cases hz0:zG 0 z0
 ·grind
 rw[hzl,hz0]at h
 simp only[Bool.and_self,cond_true]at h
 have hzpos:0<z0:=by simpa[Nat.blt_eq]using hz0
 split at h
 case h_2=>cases h
 rename_i kl k0
 split at h
 case h_2=>cases h
 rename_i kc k1
 cases hd:(zq k0 k1&&QU k0 by_)
 ·grind
 rw[hd]at h
 simp only[cond_true,Option.some.injEq,Prod.mk.injEq]at h
 obtain⟨rfl,rfl,rfl⟩:=h
 simp only[zL]at hd
 obtain rfl:=zO hd.1
 obtain⟨hf1,hf2⟩:=fits_of hd.2
 rw[Yo]at hl hc
 subst hl
 subst hc
 obtain⟨i0,zv,hi,hsz,hzv',hzs,hzr,hb⟩:=Zhk (F:=F) (w:=w) (n:=n) (m:=m) hz hzero hzl
 have hbytes:=hb _ hby
 have hb':(i0.bytes:Int)*(k0:Int)<=281474976710656:=by
  grind
 have hrun:=run_make (P:=P) w t e i0 zv ht hi hzv' kl kc (k0:Int) (k0:Int) (by omega) (Int.le_refl _) hb' (by omega)
 simp only[Int.toNat_natCast,hsz]at hrun
 refine⟨madeCells zv.cells (k0*z0),e,hrun,?_,by simp[madeCells]⟩
 have h:=Zd4 (k:=k0) hzpos hzs hzr
 have e1:(madeCells zv.cells (k0*z0))=yC zv.cells k0:=by simp[madeCells,yC,hzs]
 grind[Rows.cat]
theorem Zmq(t u ty e:TypeId)(i:TypeInfo)(z:Value)(k k':IntKind)(ht:P.underlying t=zi (.slice e))(hu:P.underlying u=zi (.int k))(hi:P.info? e=zi i)(hz:i.zero=zi z)
  (j:Nat)(h0:0<j)(hs:0<i.size)(h63:(j:Int)<=9223372036854775807)(h48:j*i.bytes<=281474976710656) :
  (Builtin.append_ #[t,u] ty #[.slice zm 0 0,.int k' j]).run P w=
   .ok (.slice (zi ⟨w.heap.size,0,zm⟩) j (grownCap w j 0 e)) (w.drew.alloc (.cells (yC z.cells j++yC z.cells (grownCap w j 0 e-j)) e)):=by
 have hn:j≠0:=by omega
 have h63':¬(9223372036854775807<(j:Int)):=by omega
 have h48':¬(281474976710656<Builtin.nextslicecap j 0*i.bytes):=by
  rw[nextslicecap_zero h0]
  omega
 have hw:IntKind.i64.wrap (j:Int)=j:=IntWalk.i64_in _ ⟨by omega,by omega⟩
 have hb:¬(281474976710656<(j:Int)*(i.bytes:Int)):=by
  omega
 have hjs:j*i.size≠0:=Nat.ne_of_gt (Nat.mul_pos h0 hs)
 have hjs2:¬i.size=0:=by omega
 have hneg:¬((j:Int)<0):=by omega
 simp[hneg,hjs,Builtin.append_,run_underlying ht,run_underlying hu,sizeOf,typeInfo,zeroValue,hi,hz,asInt,asIntOf,hw,hn,hb,hjs2,h63',h48',Question.forced,run_firstCells_none,newRow,grownCap]
variable{k':IntKind}
theorem Zo6(hr:HR base m F (look g h0) n w){j:Nat}(hargs:xs.toList=[.slice zm 0 0,.int k' j])
  (hq:(Zic P h0 n ts.toList j).holds P Q) :
  ∃v h' n' m' w' X,Q (v,h',n')/\(Builtin.append_ ts ty xs).run P w=.ok X w'/\Ext base m F n w m' F n' w'/\HR base m' F (look g h') n' w'/\R F w' v n' m' X:=by
 unfold Zic at hq
 split at hq
 case h_2=>exact hq.elim
 rename_i t t' hts
 split at hq
 case h_2=>exact hq.elim
 rename_i k hu
 split at hq
 case h_2=>exact hq.elim
 rename_i e ht
 split at hq
 case h_2=>exact hq.elim
 rename_i z zero by_ hz hzero hby
 cases hzl:zq zero.len z
 ·rw[hzl]at hq
  exact hq.elim
 cases hz0:zG 0 z
 ·rw[hzl,hz0]at hq
  exact hq.elim
 cases hj0:zG 0 j
 ·rw[hzl,hz0,hj0]at hq
  exact hq.elim
 cases hjf:QU j by_
 ·rw[hzl,hz0,hj0,hjf]at hq
  exact hq.elim
 rw[hzl,hz0,hj0,hjf]at hq
 simp only[Bool.and_self,cond_true]at hq
 have hzpos:0<z:=by simpa[Nat.blt_eq]using hz0
 have hjpos:0<j:=by simpa[Nat.blt_eq]using hj0
 obtain⟨hf1,hf2⟩:=fits_of hjf
 have hxs:xs= #[.slice zm 0 0,.int k' j]:=by
  grind
 have hts':ts= #[t,t']:=by
  grind
 subst hxs
 subst hts'
 obtain⟨i0,zv,hi,hsz,hzv',hzs,hzr,hb⟩:=Zhk (F:=F) (w:=w) (n:=n) (m:=m) hz hzero hzl
 have hbytes:=hb _ hby
 have hrun:=Zmq (P:=P) (w:=w) t t' ty e i0 zv k k' ht hu hi hzv' j hjpos (by omega) (by omega) (by rw[hbytes];omega)
 have hdrew:Later F w F w.drew:=⟨λ_ h=>h,λ_ h=>.inl h,λ_ _=>rfl,zI _,λhd B hB=>hd B hB,⟨rfl,rfl,rfl⟩⟩
 have hr2:=hr.later hdrew
 have hrows:=Zd4 (k:=j) hzpos hzs hzr
 obtain⟨k1,k2⟩:=hr2.layO (h':=look g (h0.set n (.var (Wt (λ_=>zero) j)))) (nm:=n) (n':=n+1) (blk:=.var (Wt (λ_=>zero) j)) (o:=.cells (yC zv.cells j++yC zv.cells (grownCap w j 0 e-j)) e)
  (hr2.new n (zI _)) (by omega) (by omega) (λb h1 h2=>by omega) (λb=>Yg _ _ _ _ _) (λhe=>
   ⟨_,_,e,(yC zv.cells j).toList,(yC zv.cells (grownCap w j 0 e-j)).toList,rfl,heap_alloc_new w.drew _,by simp,((hr.ext hdrew).trans he).row (Rows.cat j _ hrows)⟩)
 have hge:j<=grownCap w j 0 e:=by simp[grownCap,Question.cut]
 refine⟨_,_,_,_,_,_,hq,hrun,(hr.ext hdrew).trans k2,k1,?_⟩
 rw[Yp]
 refine⟨by omega,_,_,rfl,hge,.inr ⟨w.heap.size,_,e,(0,0),by rw[Nat.zero_mul],by simp,heap_alloc_new w.drew _,?_⟩⟩
 simp only[zX,yC,Array.size_append,Array.size_map,Array.size_range,hzs]
 rw[<- Nat.add_mul]
 grind
theorem Zo4(hr:HR base m F (look g h0) n w){x:Int}(hargs:xs.toList=[.slice zm 0 0,.int k' x])
  (hq:(Zia P h0 n ts.toList x).holds P Q) :
  ∃v h' n' m' w' X,Q (v,h',n')/\(Builtin.append_ ts ty xs).run P w=.ok X w'/\Ext base m F n w m' F n' w'/\HR base m' F (look g h') n' w'/\R F w' v n' m' X:=by
 unfold Zia at hq
 split at hq
 case h_2=>exact hq.elim
 rename_i t t' hts
 split at hq
 case h_2=>exact hq.elim
 rename_i k hu
 split at hq
 case h_2=>exact hq.elim
 rename_i e ht
 split at hq
 case h_2=>exact hq.elim
 rename_i z zero by_ hz hzero hby
 cases hzl:zq zero.len z
 ·rw[hzl]at hq
  exact hq.elim
 cases hz0:zG 0 z
 ·rw[hzl,hz0]at hq
  exact hq.elim
 rw[hzl,hz0]at hq
 obtain⟨⟨hx0,hf1,hf2⟩,hq⟩:=hq
 obtain⟨j,rfl⟩:∃j:Nat,x=(j:Int):=⟨x.toNat,by omega⟩
 rw[Int.toNat_natCast]at hf1 hf2 hq
 have hzpos:0<z:=by simpa[Nat.blt_eq]using hz0
 have hjpos:0<j:=by omega
 have hxs:xs= #[.slice zm 0 0,.int k' j]:=by
  grind
 have hts':ts= #[t,t']:=by
  grind
 subst hxs
 subst hts'
 obtain⟨i0,zv,hi,hsz,hzv',hzs,hzr,hb⟩:=Zhk (F:=F) (w:=w) (n:=n) (m:=m) hz hzero hzl
 have hbytes:=hb _ hby
 have hrun:=Zmq (P:=P) (w:=w) t t' ty e i0 zv k k' ht hu hi hzv' j hjpos (by omega) (by omega) (by rw[hbytes];omega)
 have hdrew:Later F w F w.drew:=⟨λ_ h=>h,λ_ h=>.inl h,λ_ _=>rfl,zI _,λhd B hB=>hd B hB,⟨rfl,rfl,rfl⟩⟩
 have hr2:=hr.later hdrew
 have hge:j<=grownCap w j 0 e:=by simp[grownCap,Question.cut]
 have hsize:j*z<=(yC zv.cells j++yC zv.cells (grownCap w j 0 e-j)).size:=by
  simp only[yC,Array.size_append,Array.size_map,Array.size_range,hzs]
  exact Nat.le_add_right _ _
 obtain⟨k1,k2⟩:=hr2.layO (h':=look g (h0.set n (.arr z j (λ_=>zero)))) (nm:=n) (n':=n+1) (blk:=.arr z j (λ_=>zero)) (o:=.cells (yC zv.cells j++yC zv.cells (grownCap w j 0 e-j)) e)
  (hr2.new n (zI _)) (by omega) (by omega) (λb h1 h2=>by omega) (λb=>Yg _ _ _ _ _) (λhe=>by
   refine .inr ⟨_,_,e,rfl,heap_alloc_new w.drew _,hsize,λi hij=>?_⟩
   obtain⟨i1,zv1,hi1,_,hzv1,hzs1,hzr1,_⟩:=Zhk (F:=F) (w:=w.drew.alloc (.cells (yC zv.cells j++yC zv.cells (grownCap w j 0 e-j)) e)) (n:=0) (m:=λ_=>zm) hz hzero hzl
   rw[hi]at hi1
   injection hi1 with hi1
   subst hi1
   rw[hzv']at hzv1
   injection hzv1 with hzv1
   subst hzv1
   obtain⟨ys,g1,g2,g3⟩:=(Zd4 (k:=j) hzpos hzs hzr1).2 i hij
   refine⟨ys,g1,g2,λq hq=>?_⟩
   rw[<- g3 q hq]
   have hmul:(i+1)*z<=j*z:=yx _ hij
   rw[Nat.add_mul,Nat.one_mul]at hmul
   have hl:(yC zv.cells j).size=j*z:=by simp[yC,hzs]
   rw[Array.getElem?_append_left (by omega)]
   simp)
 refine⟨_,_,_,_,_,_,hq,hrun,(hr.ext hdrew).trans k2,k1,?_⟩
 rw[Yp]
 refine⟨by omega,_,_,rfl,hge,.inr ⟨w.heap.size,_,e,(0,0),by rw[Nat.zero_mul],by simp,heap_alloc_new w.drew _,?_⟩⟩
 simp only[zX,yC,Array.size_append,Array.size_map,Array.size_range,hzs]
 rw[<- Nat.add_mul]
 grind
theorem Zo5(hr:HR base m F (look g h0) n w){args:V}(hargs:RL F w args n m xs.toList)
  (hq:(Zib P g h0 n ts.toList args).holds P Q) :
  ∃v h' n' m' w' X,Q (v,h',n')/\(Builtin.append_ ts ty xs).run P w=.ok X w'/\Ext base m F n w m' F n' w'/\HR base m' F (look g h') n' w'/\R F w' v n' m' X:=by
 unfold Zib at hq
 split at hq
 ·rename_i st b es i k c x
  split at hq
  case h_2=>exact hq.elim
  rename_i t t' hts
  cases htt:zq t t'
  ·rw[htt]at hq
   exact hq.elim
  rw[htt]at hq
  obtain rfl:=zO htt
  simp only[cond_true]at hq
  split at hq
  case h_2=>exact hq.elim
  rename_i e ht
  simp only[RL]at hargs
  obtain⟨S,r,e1,hS,X,r',e2,hX,e3⟩:=hargs
  subst e3
  have hxs:xs= #[S,X]:=by
   grind
  have htsa:ts= #[t,t]:=by
   grind
  subst hxs
  subst htsa
  exact Zo3 hr ht hS hX hq
 ·rename_i kk j
  simp only[RL,R]at hargs
  obtain⟨_,r,e1,rfl,X,r',e2,rfl,e3⟩:=hargs
  subst e3
  exact Zo6 hr (k':=kk) (j:=j) (by rw[e1,e2];rfl) hq
 ·rename_i kk x
  simp only[RL,R]at hargs
  obtain⟨_,r,e1,rfl,X,r',e2,rfl,e3⟩:=hargs
  subst e3
  exact Zo4 hr (k':=kk) (x:=x) (by rw[e1,e2]) hq
 ·exact Zo7 hr hargs hq
theorem Zpp(hr:HR base m F (look g h0) n w){len cap:V}(hl:R F w len n m xl)(hc:R F w cap n m xc)
  (hq:(Zii P h0 n t len cap).holds P Q) :
  ∃v h' n' m' w' X,Q (v,h',n')/\(Instr.makeSlice t xl xc).run P w=.ok X w'/\Ext base m F n w m' F n' w'/\HR base m' F (look g h') n' w'/\R F w' v n' m' X:=by
 unfold Zii at hq
 split at hq
 case h_2=>exact hq.elim
 rename_i e ht
 split at hq
 case h_2=>exact hq.elim
 rename_i z zero by_ hz hzero hby
 cases hzl:zq zero.len z
 ·rw[hzl]at hq
  exact hq.elim
 cases hz0:zG 0 z
 ·rw[hzl,hz0]at hq
  exact hq.elim
 rw[hzl,hz0]at hq
 simp only[Bool.and_self,cond_true]at hq
 have hzpos:0<z:=by simpa[Nat.blt_eq]using hz0
 split at hq
 case h_2=>exact hq.elim
 rename_i st kl j
 split at hq
 case h_2=>exact hq.elim
 rename_i st' kc j'
 rw[Yo]at hl hc
 subst hl
 subst hc
 obtain⟨i0,hi,hsz⟩:=Zg8 hz
 have hbytes:i0.bytes=by_:=by
  grind[VR]
 obtain⟨zv,hzv⟩:=K4 (F:=F) (w:=w) (n:=n) (m:=m) hzero
 have hzv':i0.zero=zi zv:=by
  have h:=hzero
  unfold X5 at h
  rw[hi]at h
  dsimp only at h
  cases hiz:i0.zero with
  |none=>grind
  |some q=>
   have h1:=hzv.1
   simp only[zeroValue,typeInfo,zM,run_program,zP,hi,hiz,zV]at h1
   grind
 have hzs:zv.cells.size=z:=by
  have h1:=zO hzl
  rw[XM _ _ hzv.2]at h1
  omega
 have main:∀k:Nat,j=(k:Int)->j'=(k:Int)->fits k by_->∀(blk:Blk)(v:V),(∀(w':World)(m':Nat->Option Nat),Ext base m F n w m' F (n+1) w'->w'.heap[w.heap.size]? =zi (.cells (madeCells zv.cells (k*z)) e)->RB F w' (n+1) m' blk (zi w.heap.size))->(v=.osl (st&&st') n z 0 k\/k=0/\v=.esl ze z)->
   Q (v,h0.set n blk,n+1)->∃v h' n' m' w' X,Q (v,h',n')/\(Instr.makeSlice t (.int kl j) (.int kc j')).run P w=.ok X w'/\Ext base m F n w m' F n' w'/\HR base m' F (look g h') n' w'/\R F w' v n' m' X:=by
  intro k hj hj' hf blk v hrb hv hQ
  obtain⟨hf1,hf2⟩:=hf
  have hb':(i0.bytes:Int)*(k:Int)<=281474976710656:=by
   have h:((i0.bytes*k:Nat):Int)<=281474976710656:=by rw[hbytes,Nat.mul_comm];omega
   rwa[Int.natCast_mul]at h
  have hrun:=run_make (P:=P) w t e i0 zv ht hi hzv' kl kc (k:Int) (k:Int) (by omega) (Int.le_refl _) hb' (by omega)
  simp only[Int.toNat_natCast,hsz]at hrun
  obtain⟨k1,k2⟩:=hr.layO (h':=look g (h0.set n blk)) (nm:=n) (n':=n+1) (blk:=blk) (o:=.cells (madeCells zv.cells (k*z)) e) (hr.new n (zI _)) (by omega) (by omega) (λb h1 h2=>by omega) (λb=>Yg _ _ _ _ _) (λhe=>hrb _ _ he (heap_alloc_new w _))
  refine⟨v,_,_,_,_,_,hQ,by rw[hj,hj'];exact hrun,k2,k1,?_⟩
  rcases hv with hv|⟨rfl,hv⟩
  ·rw[hv,Yp]
   refine⟨by omega,_,_,rfl,zI _,.inr ⟨w.heap.size,_,e,(0,0),by rw[Nat.zero_mul],by simp,heap_alloc_new w _,?_⟩⟩
   simp[madeCells]
  ·rw[hv];simp only[R];exact⟨_,rfl,λ_ h=>by cases h⟩
 have rows:∀k,Rows F w n m z k (λ_=>zero) (madeCells zv.cells (k*z)).toList:=by
  intro k
  have h:=Zd4 (k:=k) hzpos hzs hzv.2
  have e:(madeCells zv.cells (k*z))=yC zv.cells k:=by simp[madeCells,yC,hzs]
  grind
 cases hss:st&&st'
 ·rw[hss]at hq
  dsimp only at hq
  obtain⟨⟨h0',hjj,hf⟩,hq⟩:=hq
  refine main j.toNat (by omega) (by omega) hf _ _ (λw' m' he hcell=>?_) (.inl (by rw[hss])) hq
  refine .inr ⟨_,_,e,rfl,hcell,by simp[madeCells],λq hq'=>?_⟩
  obtain⟨xs,g1,g2,g3⟩:=(rows j.toNat).2 q hq'
  refine⟨xs,?_,g2,λr hr'=>by rw[<- g3 r hr'];simp⟩
  obtain⟨z2,hz2⟩:=K4 (F:=F) (w:=w') (n:=0) (m:=λ_=>zm) hzero
  have:z2=zv:=by
   have h1:=hz2.1
   simp only[zeroValue,typeInfo,zM,run_program,zP,hi,hzv',zV]at h1
   grind
  subst this
  have hxs:xs=z2.cells.toList:=by
   apply List.ext_getElem?
   intro r
   by_cases hr':r<z
   ·rw[<- g3 r hr']
    have hmul:(q+1)*z<=j.toNat*z:=yx z hq'
    rw[Nat.add_mul,Nat.one_mul]at hmul
    have hmod:(q*z+r)%z=r:=by rw[Nat.mul_comm,Nat.mul_add_mod,Nat.mod_eq_of_lt hr']
    simp only[madeCells,Array.getElem?_toList]
    grind
   grind
  grind
 ·rw[hss]at hq
  dsimp only at hq
  cases j with
  |negSucc _=>exact hq.elim
  |ofNat k=>
   dsimp only at hq
   cases hd:(decide (Int.ofNat k=j')&&QU k by_)
   ·rw[hd]at hq
    simp only[cond_false]at hq
    cases j' with
    |negSucc _=>exact hq.elim
    |ofNat c=>
    dsimp only at hq
    cases hd2:(zG k c&&QU c by_)
    ·rw[hd2]at hq
     exact hq.elim
    rw[hd2]at hq
    simp only[zL]at hd2
    have hkc:k<c:=by simpa[Nat.blt_eq]using hd2.1
    obtain⟨hf1,hf2⟩:fits c by_:=by
     have:=hd2.2
     unfold QU at this
     simp only[zL,Nat.ble_eq]at this
     exact this
    have hb':(i0.bytes:Int)*(c:Int)<=281474976710656:=by
     grind
    have hrun:=run_make (P:=P) w t e i0 zv ht hi hzv' kl kc (k:Int) (c:Int) (by omega) (by omega) hb' (by omega)
    simp only[Int.toNat_natCast,hsz]at hrun
    have hrb:∀(w':World)(m':Nat->Option Nat),Ext base m F n w m' F (n+1) w'->w'.heap[w.heap.size]? =zi (.cells (madeCells zv.cells (c*z)) e)->RB F w' (n+1) m' (.var (Wt (λ_=>zero) c)) (zi w.heap.size):=λw' m' he hcell=>
     ⟨_,_,e,(madeCells zv.cells (c*z)).toList,[],rfl,hcell,by simp,he.row (Rows.cat c _ (rows c))⟩
    obtain⟨k1,k2⟩:=hr.layO (h':=look g (h0.set n (.var (Wt (λ_=>zero) c)))) (nm:=n) (n':=n+1) (blk:=.var (Wt (λ_=>zero) c)) (o:=.cells (madeCells zv.cells (c*z)) e) (hr.new n (zI _)) (by omega) (by omega) (λb h1 h2=>by omega) (λb=>Yg _ _ _ _ _) (λhe=>hrb _ _ he (heap_alloc_new w _))
    refine⟨_,_,_,_,_,_,hq,hrun,k2,k1,?_⟩
    rw[Kc]
    exact⟨by omega,_,_,rfl,Nat.le_of_lt hkc,zI _,.inr ⟨w.heap.size,_,e,(0,0),by rw[Nat.zero_mul],by simp,heap_alloc_new w _,by simp[madeCells]⟩⟩
   rw[hd]at hq
   simp only[zL,decide_eq_true_eq]at hd
   have hf:fits k by_:=by
    have:=hd.2
    unfold QU at this
    simp only[zL,Nat.ble_eq]at this
    exact this
   refine main k rfl hd.1.symm hf _ _ (λw' m' he hcell=>?_) (by rw[hss];exact Zgt n z k) hq
   exact⟨_,_,e,(madeCells zv.cells (k*z)).toList,[],rfl,hcell,by simp,he.row (Rows.cat k _ (rows k))⟩
end
end Go.Fw
namespace Go.Fw
section
variable{P:Program}{base:Nat}{m:Nat->Option Nat}{F:Nat->Prop}{h:Nat->Blk}{n:Nat}{w:World}{a:Act}
theorem ZkK(hr:HR base m F h n w){st:Bool}{b es i o z B:Nat}{v:V}{y:Value}(hb:b<n)(hB:m b=zi B)(hv:R F w v n m y)
  (hs:v.solid=ze)(hz:y.cells.size=z)(hc:v.cells.YN=ze){Q:Blk->Prop}(hq:(Za2 (h b) st es i o z v).holds P Q) :
  ∃blk w',Q blk/\(storeCells ⟨B,i*es+o,zm⟩ y.cells.toList).run P w=.ok () w'/\(∀h':Nat->Blk,(∀c,h' c=if c=b then blk else h c)->HR base m F h' n w')/\Ext base m F n w m F n w':=by
 have hcells:=UL v y hv hs
 have hone:=Zl0 (ZjK _ _ hcells hc)
 have hblk:=hr.blk b hb
 cases hh:h b with
 |none=>rw[hh]at hq;exact hq.elim
 |any=>rw[hh]at hq;exact hq.elim
 |rng=>rw[hh]at hq;exact hq.elim
 |Zk=>rw[hh]at hq;exact hq.elim
 |iter=>rw[hh]at hq;exact hq.elim
 |var cs=>
  rw[hh]at hq hblk
  obtain⟨B',xs,el,ys,zs,hm,hcell,hsp,hrow⟩:=hblk
  obtain rfl:B=B':=by rw[hB]at hm;injection hm
  unfold Za2 at hq
  dsimp only at hq
  rw[XM _ _ hrow]at hq
  cases st with
  |false=>exact hq.elim
  |true=>
   cases hle:zK (i*es+o+z) ys.length
   ·rw[hle]at hq;exact hq.elim
   ·rw[hle]at hq
    have hley:i*es+o+z<=ys.length:=yA hle
    have hle':i*es+o+z<=xs.size:=Nat.le_trans hley (Zbx hsp)
    have hrun:=run_storeCells_at P B (i*es+o) el y.cells.toList 0 xs w hcell (by simp[hz];omega) hone
    simp only[Nat.add_zero]at hrun
    rw[ZgV _ _ _ (by simp[hz];omega)]at hrun
    have ht:=λh' hh'=>hr.turn (h':=h') hm hcell (new:=(XT xs.toList (i*es+o) y.cells.toList).toArray) (by simp[J6]) (by rw[hh];simp) (blk:=.var (cs.splice (i*es+o) v.cells)) hh' (λhrl=>
     ⟨B,_,el,XT ys (i*es+o) y.cells.toList,zs,rfl,setRow_heap w B _ _ el _ hcell,by rw[List.toList_toArray,hsp,Zmv _ _ _ _ (by simp[hz];omega)],Zen cs _ (hrl _ _ _ _ hrow) (i*es+o) v.cells _ (hrl _ _ _ _ hcells)⟩)
    exact⟨_,_,hq,by simpa using hrun,λh' hh'=>(ht h' hh').1,(ht (λc=>if c=b then _ else h c) (λ_=>rfl)).2⟩
 |arr es' k get=>
  rw[hh]at hq hblk
  unfold Za2 at hq
  dsimp only at hq
  cases he:zq es es'
  ·rw[he]at hq;exact hq.elim
  ·cases hle:zK (o+z) es
   ·rw[he,hle]at hq;exact hq.elim
   cases hcl:v.clean
   ·rw[he,hle,hcl]at hq;exact hq.elim
   ·rw[he,hle,hcl]at hq
    obtain rfl:=zO he
    have hle':=yA hle
    have hik:i<k/\Q (.arr es k λj=>bif zq j i then(get i).splice o v.cells else get j):=by
     simp only[Bool.and_self,cond_true,atIdx]at hq
     cases st with
     |false=>exact hq
     |true=>
      dsimp only at hq
      cases hlt:zG i k
      ·rw[hlt]at hq;exact hq.elim
      ·rw[hlt]at hq;exact⟨by simpa[Nat.blt_eq]using hlt,hq⟩
    obtain⟨hik,hq⟩:=hik
    obtain⟨B',c,el,hm,hcell,hsz,hrow⟩:=hblk.resolve_left (λh0=>by have:=h0.1;omega)
    obtain rfl:B=B':=by rw[hB]at hm;injection hm
    have hcells0:=UL v y ((WS v hcl n 0 m (λ_=>zm)).1 _ hv) hs
    have hmul:i*es+es<=k*es:=by
     have:(i+1)*es<=k*es:=yx es hik
     rwa[Nat.add_mul,Nat.one_mul]at this
    have hrun:=run_storeCells_at P B (i*es+o) el y.cells.toList 0 c w hcell (by simp[hz];omega) hone
    simp only[Nat.add_zero]at hrun
    rw[ZgV _ _ _ (by simp[hz];omega)]at hrun
    have ht:=λh' hh'=>hr.turn (h':=h') hm hcell (new:=(XT c.toList (i*es+o) y.cells.toList).toArray) (by simp[J6]) (by rw[hh];simp) (blk:=.arr es k λj=>bif zq j i then(get i).splice o v.cells else get j) hh' (λhrl=>by
     refine .inr ⟨B,_,el,rfl,setRow_heap w B _ _ el _ hcell,by simp[J6,hsz],λj hj=>?_⟩
     have hmulj:j*es+es<=k*es:=by
      have:(j+1)*es<=k*es:=yx es hj
      rwa[Nat.add_mul,Nat.one_mul]at this
     obtain⟨xs,h1,h2,h3⟩:=hrow j hj
     cases hji:zq j i
     ·have hne:j≠i:=λe=>by subst e;simp at hji
      refine⟨xs,by dsimp only;rw[hji];exact hrl _ _ _ _ h1,h2,λq hq'=>?_⟩
      simp only[List.getElem?_toArray]
      rw[VP _ _ _ _ (by simp;omega),if_neg,<- h3 q hq']
      ·simp
      ·simp only[Array.length_toList,hz]
       rcases Nat.lt_or_gt_of_ne hne with hlt|hlt
       ·have:(j+1)*es<=i*es:=yx es hlt
        rw[Nat.add_mul,Nat.one_mul]at this
        omega
       ·have:(i+1)*es<=j*es:=yx es hlt
        rw[Nat.add_mul,Nat.one_mul]at this
        omega
     ·obtain rfl:=zO hji
      refine⟨XT xs o y.cells.toList,by dsimp only;rw[hji];exact Zen _ _ (hrl _ _ _ _ h1) o _ _ (hrl _ _ _ _ hcells0),by rw[J6];exact h2,λq hq'=>?_⟩
      simp only[List.getElem?_toArray]
      rw[VP _ _ _ _ (by simp;omega),VP _ _ _ _ (by omega)]
      simp only[Array.length_toList,hz]
      by_cases hin2:o<=q/\q<o+z
      ·rw[if_pos (by omega),if_pos hin2]
       congr 1
       omega
      ·rw[if_neg (by omega),if_neg hin2,<- h3 q hq']
       simp)
    exact⟨_,_,hq,by simpa using hrun,λh' hh'=>(ht h' hh').1,(ht (λc=>if c=b then _ else h c) (λ_=>rfl)).2⟩
theorem ZpC{g:Nat->Blk}{h:PT Blk}(hr:HR base m F (look g h) n w){t:TypeId}{va vv:V}{x y:Value}(ha:R F w va n m x)(hv:R F w vv n m y){Q:PT Blk->Prop}(hq:(Za1 P g h t va vv).holds P Q) :
  ∃h' w',Q h'/\(Instr.storeAt t x y).run P w=.ok () w'/\HR base m F (look g h') n w'/\Ext base m F n w m F n w':=by
 unfold Za1 at hq
 cases hz:ZW P t with
 |none=>
  rw[hz]at hq
  exact hq.elim
 |some z=>
  rw[hz]at hq
  dsimp only at hq
  cases h1:zq vv.cells.len z
  ·rw[h1]at hq
   exact hq.elim
  ·cases h2:vv.cells.YN
   ·rw[h1,h2]at hq
    exact hq.elim
   ·cases h3:vv.solid
    ·rw[h1,h2,h3]at hq
     exact hq.elim
    ·rw[h1,h2,h3]at hq
     simp only[Bool.and_self,cond_true]at hq
     cases va<;>try exact hq.elim
     rename_i st b es i o
     have hlen:y.cells.size=z:=by
      have:=XM _ _ (UL vv y hv h3)
      simp_all
     rw[Wm]at ha
     obtain⟨hb,B,rfl,hB⟩:=ha
     dsimp only at hq
     rw[Tree.Yw]at hq
     obtain⟨blk,w',k1,k2,k3,k4⟩:=ZkK hr hb hB hv h3 hlen h2 hq
     refine⟨_,w',k1,?_,k3 _ (λc=>Yg _ _ _ _ _),k4⟩
     simp only[Instr.storeAt,Instr.sureAddr,pure_bind,storeVar,zM,XU hz,zP]
     grind
end
def UF(E:Env)(call:Xh):Prop:=
 ∀(hb:Nat->Blk)(c:FuncId ⊕ Nat)(args:V)(h:PT Blk)(n:Nat)(base:Nat)(m:Nat->Option Nat)(F:Nat->Prop)(w:World)(xs:Array Value)(Q:V×PT Blk×Nat->Prop)(K:Ending->World->Prop),
  HR base m F (look hb h) n w->RL F w args n m xs.toList->(call hb c args h n).holds E.P Q->
  (∀v h' n',Q (v,h',n')->∀m' F' w' x,Ext base m F n w m' F' n' w'->HR base m' F' (look hb h') n' w'->R F' w' v n' m' x->K (.returned x) w')->
  match c with
  | .inl g=>Has E.P g/\Calls E.P g xs w K
  | .inr b=>∀l,m b=zi l->∃r,w.heap[l]? =zi (.loop r)/\xs.size=r.params.size/\∀ro,RoundIn (fen ro) 0 E.P l r.fn ((r.params.zip xs).foldl (λtmps(t,a)=>tmps.setIfInBounds t a) r.tmps) r.assign r.body w K
variable{lo base:Nat}{m:Nat->Option Nat}{F:Nat->Prop}{Bs:Base}{a:Act}{w:World}
theorem Rel.put{s:St Bs}(hr:Rel lo base m F s a w){dst:Option Tmp}{v:V}{x:Value}
  (hv:R F w v s.n m x)(hd:∀d,dst=zi d->d<s.N):Rel lo base m F (s.put dst v) (a.put dst x) w:=by
 cases dst with
 |none=>exact hr
 |some d=>
  refine⟨hr.hr,hr.defers,by simp[Act.put,St.put,hr.size],λi=>?_⟩
  have hlt:d<a.tmps.size:=by
   rw[hr.size]
   grind
  simp only[St.put,St.tmp,Act.put]
  by_cases e:i=d
  ·simp_all[Array.getD_eq_getD_getElem?,Un]
  ·rw[GR _ _ _ e]
   have hget:(a.tmps.setIfInBounds d x).getD i Go.undef=a.tmps.getD i Go.undef:=by
    simp only[Array.getD_eq_getD_getElem?,Array.getElem?_setIfInBounds_ne (Ne.symm e)]
   rw[hget]
   exact hr.tmp i
theorem Rel.Zr{s:St Bs}(hr:Rel lo base m F s a w):∀x,R F w (Zr s x) s.n m (a.eval x)
 | .tmp t=>hr.tmp t
 | .const v=>R_const v
 | .global g=>by
  simp only[Fw.Zr]
  split
  ·rename_i v hg
   obtain⟨h1,h2,_⟩:=hr.hr.gl g v hg
   exact(WS v h1 0 s.n _ m).1 _ h2
  ·simp only[R]
 | .func f=>by simp only[Fw.Zr,R,Act.eval];exact⟨_,_,rfl,by simp only[RL],by simp only[RL]⟩
theorem Rel.move{m':Nat->Option Nat}{F':Nat->Prop}{s:St Bs}{w':World}{h':PT Blk}{n':Nat}(hr:Rel lo base m F s a w)
  (he:Ext base m F s.n w m' F' n' w')(hh:HR base m' F' (look Bs.h h') n' w'):Rel lo base m' F' ({ s with h:=h',n:=n' }:St Bs) a w':=
 ⟨hh,Marks.ext hr.defers he,hr.size,λi=>he.val (hr.tmp i)⟩
variable{E:Env}{call:Xh}{Q:V×PT Blk×Nat->Prop}
theorem Zpt{s:St Bs}{o:Op}(hq:(Xl E call s o).holds E.P Q):∀c,o≠.defer c:=by
 intro c e
 subst e
 exact hq
variable{o:Oper}{ro:Option Nat}{Qx:Exit->Act->World->Prop}
theorem Zik(hE:E.Ok)(hcall:UF E call){s:St Bs}
  (hr:Rel lo base m F s a w){K:Act->World->Prop}(hq:(Xl E call s o.op).holds E.P Q)
  (hK:∀v h' n',Q (v,h',n')->∀m' F' w' x,Ext base m F s.n w m' F' n' w'->HR base m' F' (look Bs.h h') n' w'->R F' w' v n' m' x->K (a.put o.dst x) w'):o.wpIn (fen ro) 0 E.P a w K Qx:=by
 have hnd:=Zpt hq
 unfold Xl at hq
 cases hT:evQ E (Zr s) s.blk o.op with
 |some T=>
  rw[hT]at hq
  dsimp only at hq
  rw[Tree.Yw]at hq
  refine WH ?_ hnd
  exact evQ_wp hE hr.hr hr.Zr hT hq λv x w' F' h1 h2 h3=>hK v s.h s.n h1 m F' w' x (hr.hr.ext h2) (hr.hr.later h2) h3
 |none=>
  rw[hT]at hq
  dsimp only at hq
  cases ho:o.op<;>rw[ho]at hq<;>dsimp only at hq<;>try(exact hq.elim)
  case alloc t=>
   cases hz:X5 E.P t with
   |none=>
    rw[hz]at hq
    exact hq.elim
   |some cs=>
    rw[hz]at hq
    obtain⟨z,hz1,hz2⟩:=K4 (F:=F) (w:=w) (n:=s.n) (m:=m) hz
    obtain⟨h1,h2⟩:=hr.hr.push (h':=look Bs.h (s.h.set s.n (.var cs))) t hz2 (λb=>Yg _ _ _ _ _)
    have hrun:(execOp a.eval o).run E.P w=.ok (.value (.pointer (zi ⟨w.heap.size,0,zm⟩))) (w.alloc (.cells z.cells t)):=by
     simp only[execOp,ho,Instr.alloc,zM,hz1,zP]
     rfl
    refine WH ?_ hnd
    unfold Oper.wp
    rw[hrun]
    simp only[Oper.upon]
    exact hK _ _ _ hq _ F _ _ h2 h1 (by rw[Wm];exact⟨by omega,w.heap.size,by simp,by simp⟩)
  case box t x=>
   cases hs:(Zr s x).solid
   ·rw[hs]at hq
    exact hq.elim
   ·rw[hs]at hq
    have hcells:=UL _ _ (hr.Zr x) hs
    obtain⟨h1,h2⟩:=hr.hr.push (h':=look Bs.h (s.h.set s.n (.var (Zr s x).cells))) t hcells (λb=>Yg _ _ _ _ _)
    have hrun:(execOp a.eval o).run E.P w=.ok (.value (.pointer (zi ⟨w.heap.size,0,zm⟩))) (w.alloc (.cells (a.eval x).cells t)):=by
     simp only[execOp,ho]
     rfl
    refine WH ?_ hnd
    unfold Oper.wp
    rw[hrun]
    simp only[Oper.upon]
    exact hK _ _ _ hq _ F _ _ h2 h1 (by rw[Wm];exact⟨by omega,w.heap.size,by simp,by simp⟩)
  case buildSlice t len parts=>
   cases hz:Gj E.P t len (parts.toList.map λp=>(p.1,Zr s p.2))with
   |none=>
    rw[hz]at hq
    exact hq.elim
   |some zc=>
    obtain⟨z,cs⟩:=zc
    rw[hz]at hq
    obtain⟨outc,e,hrun,hrow,hsz⟩:=run_buildSlice (E:=E) ho hr.Zr hz
    obtain⟨h1,h2⟩:=hr.hr.push (h':=look Bs.h (s.h.set s.n (.var cs))) e hrow (λb=>Yg _ _ _ _ _)
    refine WH ?_ hnd
    unfold Oper.wp
    rw[hrun]
    simp only[Oper.upon]
    refine hK _ _ _ hq _ F _ _ h2 h1 ?_<;>grind[refine,Zgt,Yp,heap_alloc_new,R]
  case makeMap t r=>
   cases hz:Gt E.P t (r.map (Zr s))with
   |none=>
    rw[hz]at hq
    exact hq.elim
   |some blk=>
    rw[hz]at hq
    obtain⟨hrun0,kd,z,rfl⟩:=ZlK (F:=F) (w:=w) (n:=s.n) (m:=m) (X:=r.map a.eval) hz (λv hv=>by
     cases r with
     |none=>cases hv
     |some y=>injection hv with hv;subst hv;exact⟨_,rfl,hr.Zr y⟩) (λhv=>by cases r with|none=>rfl|some y=>cases hv)
    obtain⟨h1,h2⟩:=hr.hr.layO (h':=look Bs.h (s.h.set s.n (.Zk kd ze (λ_=>(za,z)) (zi (0,[]))))) (nm:=s.n) (n':=s.n+1) (o:=.map #[] 0) (hr.hr.new s.n (zI _)) (by omega) (by omega) (λb h1 h2=>by omega) (λb=>Yg _ _ _ _ _) (λ_=>ZjJ (heap_alloc_new w _))
    have hrun:(execOp a.eval o).run E.P w=.ok (.value (.map (zi w.heap.size))) (w.alloc (.map #[] 0)):=by
     simp only[execOp,ho,zM,hrun0,zP]
     rfl
    refine WH ?_ hnd
    unfold Oper.wp
    rw[hrun]
    simp only[Oper.upon]
    exact hK _ _ _ hq _ F _ _ h2 h1 (by simp only[R];exact⟨by omega,w.heap.size,rfl,by simp⟩)
  case makeSlice t len cap=>
   obtain⟨v,h',n',m',w',X,q1,q2,q3,q4,q5⟩:=Zpp (P:=E.P) hr.hr (hr.Zr len) (hr.Zr cap) hq
   have hrun:(execOp a.eval o).run E.P w=.ok (.value X) w':=by
    simp only[execOp,ho,zM,q2,zP]
    rfl
   grind[refine,WH,Oper.wp,Oper.upon]
  case range t x=>
   cases hz:ZfA E.P s.blk t (Zr s x)with
   |none=>
    rw[hz]at hq
    exact hq.elim
   |some blk=>
    rw[hz]at hq
    obtain⟨ob,hrun0,hrb⟩:=Zpv hr.hr (hr.Zr x) hz
    obtain⟨h1,h2⟩:=hr.hr.layO (h':=look Bs.h (s.h.set s.n blk)) (nm:=s.n) (n':=s.n+1) (o:=ob) (hr.hr.new s.n (zI _)) (by omega) (by omega) (λb h1 h2=>by omega) (λb=>Yg _ _ _ _ _) (λhe=>hrb _ _ _ (by omega) (λb hb B hB=>he.map b hb B hB) (heap_alloc_new w _))
    have hrun:(execOp a.eval o).run E.P w=.ok (.value (.pointer (zi ⟨w.heap.size,0,zm⟩))) (w.alloc ob):=by
     simp only[execOp,ho,zM,hrun0,zP]
     rfl
    refine WH ?_ hnd
    unfold Oper.wp
    rw[hrun]
    simp only[Oper.upon]
    exact hK _ _ _ hq _ F _ _ h2 h1 (by rw[Wm];exact⟨by omega,w.heap.size,by simp,by simp⟩)
  case entry it=>
   rw[Tree.Yw]at hq
   refine WH ?_ hnd
   refine WI (by simp only[execOp,ho]) (Zpf hr.hr (hr.Zr it)) hq λv x w' F' h1 h2 h3=>hK v s.h s.n h1 m F' w' x (hr.hr.ext h2) (hr.hr.later h2) h3
  case next it str=>
   rw[Tree.Yw]at hq
   obtain⟨v,wr,w',X,q1,q2,q3,q4,q5⟩:=Zpq (P:=E.P) hr.hr (hr.Zr it) o.type hq
   have hrun:(execOp a.eval o).run E.P w=.ok (.value X) w':=by
    simp only[execOp,ho,zM,q2,zP]
    rfl
   refine WH ?_ hnd
   unfold Oper.wp
   rw[hrun]
   simp only[Oper.upon]
   cases wr with
   |none=>exact hK v s.h s.n q1 m F w' X q3 (q4 _ λc=>rfl) q5
   |some bb=>exact hK v _ s.n q1 m F w' X q3 (q4 _ λc=>Yg _ _ _ _ _) q5
  case mapUpdate t mx k x=>
   cases hz:WQ E.P s.blk t (Zr s mx) (Zr s k) (ze,Zr s x)with
   |none=>
    rw[hz]at hq
    exact hq.elim
   |some bb=>
    obtain⟨b,blk⟩:=bb
    rw[hz]at hq
    obtain⟨w',hrun0,k1,k2⟩:=(Zdp hr.hr (hr.Zr mx) (hr.Zr k) hz).1 _ rfl (hr.Zr x)
    have hrun:(execOp a.eval o).run E.P w=.ok .skip w':=by
     simp only[execOp,ho,zM,hrun0,zP,zV]
    refine WH ?_ hnd
    unfold Oper.wp
    rw[hrun]
    simp only[Oper.upon]
    exact hK _ _ _ hq m F w' _ k2 (k1 _ λc=>Yg _ _ _ _ _) (by simp only[R])
  case insert t mx k x=>
   cases hz:WQ E.P s.blk t (Zr s mx) (Zr s k) (ze,Zr s x)with
   |none=>
    rw[hz]at hq
    exact hq.elim
   |some bb=>
    obtain⟨b,blk⟩:=bb
    rw[hz]at hq
    obtain⟨w',hrun0,k1,k2⟩:=(Zdp hr.hr (hr.Zr mx) (hr.Zr k) hz).1 _ rfl (hr.Zr x)
    have hrun:(execOp a.eval o).run E.P w=.ok .skip w':=by
     simp only[execOp,ho,zM,hrun0,zP,zV]
    refine WH ?_ hnd
    unfold Oper.wp
    rw[hrun]
    simp only[Oper.upon]
    exact hK _ _ _ hq m F w' _ k2 (k1 _ λc=>Yg _ _ _ _ _) (by simp only[R])
  case store t x y=>
   rw[Tree.Yw]at hq
   obtain⟨h',w',h1,h2,h3,h4⟩:=ZpC hr.hr (hr.Zr x) (hr.Zr y) hq
   have hrun:(execOp a.eval o).run E.P w=.ok .skip w':=by
    simp only[execOp,ho,zM,h2,zP,zV]
   refine WH ?_ hnd
   unfold Oper.wp
   rw[hrun]
   simp only[Oper.upon]
   exact hK _ _ _ h1 m F w' _ h4 h3 (by simp only[R])
  case call c=>
   cases hcal:c.callee<;>rw[hcal]at hq<;>dsimp only at hq<;>try(exact hq.elim)
   case builtin bi=>
    cases bi<;>try(exact hq.elim)
    case delete=>
     dsimp only at hq
     cases hts:c.argTypes.toList with
     |nil=>
      rw[hts]at hq
      exact hq.elim
     |cons t ts=>
      rw[hts]at hq
      dsimp only at hq
      match hca:c.args.toList,hq with
      |[mx,k],hq=>
       dsimp only at hq
       cases hz:WQ E.P s.blk t (Zr s mx) (Zr s k) (za,.junk)with
       |none=>
        rw[hz]at hq
        exact hq.elim
       |some bb=>
        obtain⟨b,blk⟩:=bb
        rw[hz]at hq
        have hts0:c.argTypes[0]? =zi t:=by
         rw[<- Array.getElem?_toList,hts]
         rfl
        obtain⟨w',hrun0,k1,k2⟩:=(Zdp hr.hr (hr.Zr mx) (hr.Zr k) hz).2 rfl 0 c.argTypes hts0
        have hargs:c.args.map a.eval= #[a.eval mx,a.eval k]:=by
         grind[Array.ext',Array.toList_map]
        have hrun:=Ue (P:=E.P) (sem:=Builtin.delete_ c.argTypes 0 (c.args.map a.eval)) ho hcal (λconsts ty=>rfl) w
        rw[hargs,hrun0]at hrun
        refine WH ?_ hnd
        unfold Oper.wp
        rw[hrun]
        simp only[zP,Oper.upon]
        exact hK _ _ _ hq m F w' _ k2 (k1 _ λc=>Yg _ _ _ _ _) (by simp only[R,RL];exact⟨_,rfl,rfl⟩)
    all_goals have hargs:RL F w (.ofList (c.args.toList.map (Zr s))) s.n m (c.args.map a.eval).toList:=(by simpa using Zao (a:=a) hr.Zr c.args.toList)
    case append=>
     obtain⟨v,h',n',m',w',X,q1,q2,q3,q4,q5⟩:=Zo5 (P:=E.P) (ty:=0) hr.hr hargs hq
     have hrun:=Ue (P:=E.P) (sem:=Builtin.append_ c.argTypes 0 (c.args.map a.eval)) ho hcal (λconsts ty=>rfl) w
     grind[refine,WH,Oper.wp,zP,Oper.upon]
    case clear=>
     obtain⟨v,h',n',m',w',X,q1,q2,q3,q4,q5⟩:=Zo9 (P:=E.P) (ty:=0) hr.hr hargs hq
     have hrun:=Ue (P:=E.P) (sem:=Builtin.clear_ c.argTypes 0 (c.args.map a.eval)) ho hcal (λconsts ty=>rfl) w
     grind[refine,WH,Oper.wp,zP,Oper.upon]
    case copy=>
     obtain⟨v,h',n',m',w',X,q1,q2,q3,q4,q5⟩:=Zpd (P:=E.P) (ty:=0) hr.hr hargs hq
     have hrun:=Ue (P:=E.P) (sem:=Builtin.copy_ c.argTypes 0 (c.args.map a.eval)) ho hcal (λconsts ty=>rfl) w
     grind[refine,WH,Oper.wp,zP,Oper.upon]
   rename_i f
   cases hz:Gr E (Zr s) s.blk f c with
   |some T=>
    rw[hz]at hq
    dsimp only at hq
    rw[Tree.Yw]at hq
    refine WH ?_ hnd
    exact Zpj hE ho hcal hr.hr hr.Zr hz hq λv x w' F' h1 h2 h3=>hK v s.h s.n h1 m F' w' x (hr.hr.ext h2) (hr.hr.later h2) h3
   |none=>
   rw[hz]at hq
   dsimp only at hq
   have hargs:RL F w (.ofList (c.args.toList.map (Zr s))) s.n m (c.args.map a.eval).toList:=by
    simpa using Zao (a:=a) hr.Zr c.args.toList
   have fn_:∀{g:FuncId}{args:V},callee (Zr s f) (.ofList (c.args.toList.map (Zr s)))=zi (g,args)->(call Bs.h (.inl g) args s.h s.n).holds E.P Q->o.wpIn (fen ro) 0 E.P a w K Qx:=by
    intro g args hc hq
    obtain⟨ys,hy,hy2⟩:=ZhV (P:=E.P) hc (hr.Zr f) hargs
    obtain⟨hhas,hcalls⟩:=hcall Bs.h (.inl g) args s.h s.n base m F w ys Q
     (λe w''=>match e with| .returned v=>K (a.put o.dst v) w''|_=>False) hr.hr hy hq
     (λv h' n' hQ m' F' w' x h1 h2 h3=>hK v h' n' hQ m' F' w' x h1 h2 h3)
    obtain⟨hrun,hys⟩:=hy2 w
    have hexec:(execOp a.eval o).run E.P w=.ok (.enter g ys) w:=by
     simp only[execOp,ho,resolve,hcal,zM,hrun,zP,invoke,ZgP hhas,hys]
    refine WH ?_ hnd
    unfold Oper.wp
    rw[hexec]
    simp only[Oper.upon]
    refine hcalls.mono λe w' he=>?_<;>grind
   have hf:=hr.Zr f
   cases hv:Zr s f with
   |yld b=>
    rw[hv]at hq hf
    simp only[R]at hf
    obtain⟨hbn,l,hfe,hml⟩:=hf
    obtain⟨r,hl,hsz,hround⟩:=hcall Bs.h (.inr b) (.ofList (c.args.toList.map (Zr s))) s.h s.n base m F w (c.args.map a.eval) Q
     (λe w''=>match e with| .returned v=>K (a.put o.dst v) w''|_=>False) hr.hr hargs hq
     (λv h' n' hQ m' F' w' x h1 h2 h3=>hK v h' n' hQ m' F' w' x h1 h2 h3) l hml
    refine⟨λ_ _=>trivial,?_⟩
    rw[Oper.semAt_eq _ _ _ hnd]
    have hexec:(execOp a.eval o).run E.P w=.ok (.round l r.fn ((r.params.zip (c.args.map a.eval)).foldl (λtmps(t,a)=>tmps.setIfInBounds t a) r.tmps) r.assign r.body) w:=by
     simp only[execOp,ho,resolve,hcal,hfe,Deferred.ofValue,zM,zV,zP,invoke,Array.empty_append]
     exact run_yield hl hsz
    rw[hexec]
    refine⟨ZfD ro,(hround ro).mono λe w' he=>?_⟩<;>grind
   |_=>
    rw[hv]at hq fn_
    simp only[Vi]at hq
    split at hq
    ·grind
    ·exact hq.elim
theorem Gc{N:Nat}(h:Xw N o=ze):∀d,o.dst=zi d->d<N:=by
 grind[Xw,Nat.blt_eq]
def truth(ops:Array Oper)(val:Nat->V)(o:Oper):Option Bool:=
 match o.guard with
 |none=>zi ze
 |some (j,want)=>match ops[j]? with
  |some p=>match p.dst with
   |some d=>match val d with
    | .bool _ b=>zi (b==want)
    | .undef=>zi za
    |_=>zm
   |none=>zi za
  |none=>zi za
variable{ops:Array Oper}
theorem ZmE{val:Nat->V}:match guardOf ops val o with
  | .yes=>truth ops val o=zi ze
  | .no=>truth ops val o=zi za
  | .bad=>True
  | .dyn d b want=>truth ops val o=zi (b==want)/\val d=.bool za b:=by
 unfold guardOf truth
 cases o.guard with
 |none=>rfl
 |some gw=>
  obtain⟨j,want⟩:=gw
  dsimp only
  cases ops[j]? with
  |none=>rfl
  |some p=>
   dsimp only
   cases p.dst with
   |none=>rfl
   |some d=>
    dsimp only
    cases hv:val d<;>try trivial
    rename_i st b
    cases st
    ·grind
    ·cases b<;>cases want<;>rfl
theorem UE{s:St Bs}(hr:Rel lo base m F s a w){r:Bool}
  (h:truth ops s.tmp o=zi r):Region.wanted o (yielded ops a.tmps)=r:=by
 unfold truth at h
 unfold Region.wanted
 cases hg:o.guard with
 |none=>grind
 |some gw=>
  obtain⟨j,want⟩:=gw
  rw[hg]at h
  dsimp only at h⊢
  cases hj:ops[j]? with
  |none=>
   rw[hj]at h
   injection h with h
   subst h
   simp[yielded,hj]
  |some p=>
   rw[hj]at h
   dsimp only at h
   cases hd:p.dst with
   |none=>
    rw[hd]at h
    injection h with h
    subst h
    simp[yielded,hj,hd]
   |some d=>
    rw[hd]at h
    dsimp only at h
    have ht:=hr.tmp d
    have hy:∀b,a.tmps.getD d Go.undef=.bool b->yielded ops a.tmps j=zi b:=by
     intro b hb
     simp only[yielded,hj,Option.bind_some,hd]
     cases hx:a.tmps[d]? with
     |none=>simp[Array.getD_eq_getD_getElem?,hx,Go.undef]at hb
     |some x=>simp_all
    have hy0:a.tmps.getD d Go.undef=Go.undef->yielded ops a.tmps j=zm:=by
     intro hb
     simp only[yielded,hj,Option.bind_some,hd]
     cases hx:a.tmps[d]? with
     |none=>rfl
     |some x=>
      simp[Array.getD_eq_getD_getElem?,hx]at hb
      subst hb
      rfl
    cases hs:s.tmp d<;>rw[hs]at h ht<;>try(cases h;done)
    ·grind[R]
    ·rename_i st b
     simp only[R]at ht
     simp_all
theorem Rel.know{s:St Bs}(hr:Rel lo base m F s a w){d:Nat}{st b:Bool}(h:s.tmp d=.bool st b):Rel lo base m F (s.know d b) a w:=by
 refine⟨hr.hr,hr.defers,hr.size,λi=>?_⟩
 by_cases e:i=d
 ·subst e
  have ht:=hr.tmp i
  simp_all[St.know,St.tmp,Un,R]
 ·simp only[St.know,St.tmp]
  rw[GR _ _ _ e]
  exact hr.tmp i
theorem evOps_wp(hE:E.Ok)(hcall:UF E call) :
  ∀(l:List Oper)(s:St Bs)(a:Act)(w:World)(m:Nat->Option Nat)(F:Nat->Prop)(Q:St Bs->Prop),(∀o∈l,Xw s.N o=ze)->Rel lo base m F s a w->
  (JO E call ops l s).holds E.P Q->(∀s',Q s'->∀m' F' a' w',Ext base m F s.n w m' F' s'.n w'->Rel lo base m' F' s' a' w'->Qx .normal a' w')->
  wpListIn (fen ro) 0 E.P ops Qx l a w:=by
 intro l
 induction l with
 |nil=>
  intro s a w m F Q _ hr hq hK
  exact hK s hq m F a w (Ext.refl _ _ _ _ _) hr
 |cons o rest ih=>
  intro s a w m F Q hd hr hq hK
  have hdst:∀d,o.dst=zi d->d<s.N:=Gc (hd o (by simp))
  have run:∀(s':St Bs),s'.n=s.n->s'.N=s.N->Rel lo base m F s' a w->
    (Xl E call s' o.op).holds E.P (λr=>(JO E call ops rest (({ s' with h:=r.2.1,n:=r.2.2 }:St Bs).put o.dst r.1)).holds E.P Q)->o.wpIn (fen ro) 0 E.P a w (wpListIn (fen ro) 0 E.P ops Qx rest) Qx:=by
   intro s' hn hN hr hq'
   refine Zik hE hcall hr hq' λv h' n' hQ m' F' w' x h1 h2 h3=>?_
   have hr':Rel lo base m' F' ({ s' with h:=h',n:=n' }:St Bs) a w':=hr.move h1 h2
   have hr'':=hr'.put (dst:=o.dst) (v:=v) (x:=x) h3 (by rw[hN];exact hdst)
   refine ih (({ s' with h:=h',n:=n' }:St Bs).put o.dst v) (a.put o.dst x) w' m' F' Q (λp hp=>?_) hr'' hQ λs'' hs' m'' F'' a' w'' h4 h5=>?_
   ·have:=hd p (List.mem_cons_of_mem _ hp)
    rw[<- hN]at this
    cases hdo:o.dst<;>exact this
   ·rw[hn]at h1
    refine hK s'' hs' m'' F'' a' w'' (h1.trans ?_) h5
    cases hdo:o.dst<;>simpa only[St.put,hdo]using h4
  have skip:∀(s':St Bs),s'.n=s.n->s'.N=s.N->Rel lo base m F s' a w->(JO E call ops rest (s'.put o.dst .undef)).holds E.P Q->wpListIn (fen ro) 0 E.P ops Qx rest (a.put o.dst undef) w:=by
   intro s' hn hN hr hq'
   have hr'':=hr.put (dst:=o.dst) (v:=.undef) (x:=Go.undef) (by simp only[R]) (by rw[hN];exact hdst)
   refine ih (s'.put o.dst .undef) _ w m F Q (λp hp=>?_) hr'' hq' λs'' hs' m'' F'' a' w'' h4 h5=>?_
   ·have:=hd p (List.mem_cons_of_mem _ hp)
    rw[<- hN]at this
    cases hdo:o.dst<;>exact this
   ·refine hK s'' hs' m'' F'' a' w'' ?_ h5
    rw[<- hn]
    cases hdo:o.dst<;>simpa only[St.put,hdo]using h4
  unfold wpListIn
  unfold JO at hq
  have ht:=ZmE (ops:=ops) (val:=s.tmp) (o:=o)
  dsimp only at hq
  cases hg:guardOf ops s.tmp o with
  |bad=>
   rw[hg]at hq
   exact hq.elim
  |yes=>grind[UE,Tree.Yw]
  |no=>grind[UE]
  |dyn d b want=>
   rw[hg]at hq ht
   dsimp only at hq ht
   obtain⟨ht,hval⟩:=ht
   have hy:=UE hr ht
   cases want with
   |true=>
    dsimp only at hq
    cases b with
    |true=>
     rw[if_pos (by rw[hy];rfl)]
     have hq':=hq.1 rfl
     rw[Tree.Yw]at hq'
     exact(run (s.know d ze) rfl rfl (hr.know hval) hq')
    |false=>
     rw[if_neg (by rw[hy];simp)]
     exact⟨λ_ _=>trivial,skip (s.know d za) rfl rfl (hr.know hval) (hq.2 rfl)⟩
   |false=>
    dsimp only at hq
    cases b with
    |true=>
     rw[if_neg (by rw[hy];simp)]
     exact⟨λ_ _=>trivial,skip (s.know d ze) rfl rfl (hr.know hval) (hq.1 rfl)⟩
    |false=>
     rw[if_pos (by rw[hy];rfl)]
     have hq':=hq.2 rfl
     rw[Tree.Yw]at hq'
     exact(run (s.know d za) rfl rfl (hr.know hval) hq')
end Go.Fw
namespace Go.Fw
def Qz(m:Nat->Option Nat)(n:Nat):Nat->Option Nat:=λb=>if b<n then m b else zm
theorem Zap{F:Nat->Prop}{w:World}{n0:Nat}{m:Nat->Option Nat}:∀(v:V)(n:Nat),v.QJ n0=ze->(∀x,R F w v n m x->R F w v n0 (Qz m n0) x)/\(∀xs,RL F w v n m xs->RL F w v n0 (Qz m n0) xs):=by
 intro v
 induction v<;>grind[V.QJ,refine,R,RL,Nat.blt_eq,Qz]
variable{α:Type}
theorem Tree.pick{P:Program}:∀(T:Tree α){Q:α->Prop},T.flat=ze->T.holds P Q->∃r,T.holds P (λx=>x=r)/\Q r:=by
 intro T
 induction T with
 |leaf a=>exact λ_ h=>⟨a,rfl,h⟩
 |stuck=>exact λ_ h=>h.elim
 |node b t f iht ihf=>
  intro Q hf h
  simp only[Tree.flat,zL]at hf
  cases b with
  |true=>obtain⟨r,h1,h2⟩:=iht hf.1 (h.1 rfl);exact⟨r,⟨λ_=>h1,λh=>by cases h⟩,h2⟩
  |false=>obtain⟨r,h1,h2⟩:=ihf hf.2 (h.2 rfl);exact⟨r,⟨(λh=>by cases h),λ_=>h1⟩,h2⟩
 |need p t ih=>intro Q hf h;obtain⟨r,h1,h2⟩:=ih hf h.2;exact⟨r,⟨h.1,h1⟩,h2⟩
 |all σ t _=>intro Q hf;cases hf
 |given p t _=>intro Q hf;cases hf
 |both t f _ _=>intro Q hf;cases hf
theorem bfOf_bit(after:Array Edge)(acc:List Nat)(e:Nat)(h:(bfOf after acc).testBit e=ze) :
  ∃ed∈after.toList,Region.binds .any ed=ze/\(e=ed.on\/(acc.getD ed.on 0).testBit e=ze):=by
 have key:∀(l:List Edge)(s:Nat),(l.foldl (λs e=>if Region.binds .any e then s|||2^e.on|||acc.getD e.on 0 else s) s).testBit e=ze->
   s.testBit e=ze\/∃ed∈l,Region.binds .any ed=ze/\(e=ed.on\/(acc.getD ed.on 0).testBit e=ze):=by
  intro l
  induction l with
  |nil=>exact λs h=>.inl h
  |cons ed l ih=>
   intro s h
   simp only[List.foldl_cons]at h
   rcases ih _ h with h1|⟨ed',h1,h2⟩
   ·split at h1
    ·rename_i hb
     simp only[Nat.testBit_or,Bool.or_eq_true]at h1
     rcases h1 with(h1|h1)|h1
     ·exact .inl h1
     ·rw[Nat.testBit_two_pow]at h1
      exact .inr ⟨ed,by simp,hb,.inl (of_decide_eq_true h1).symm⟩
     ·exact .inr ⟨ed,by simp,hb,.inr h1⟩
    ·exact .inl h1
   ·exact .inr ⟨ed',List.mem_cons_of_mem _ h1,h2⟩
 rcases key _ _ h with h|h<;>grind
theorem bfs_spec(ops:List Oper):∀(l:List Oper)(acc:List Nat),acc.length+l.length=ops.length->(∀i,l[i]? =ops[acc.length+i]?)->
  (∀i,i<acc.length->∀o,ops[i]? =zi o->∀e,(acc.getD i 0).testBit e=ze->∃ed∈o.after.toList,Region.binds .any ed=ze/\(e=ed.on\/(acc.getD ed.on 0).testBit e=ze))->
  ∀i o,ops[i]? =zi o->∀e,((bfs l acc).getD i 0).testBit e=ze->∃ed∈o.after.toList,Region.binds .any ed=ze/\(e=ed.on\/((bfs l acc).getD ed.on 0).testBit e=ze):=by
 intro l
 induction l with
 |nil=>
  intro acc hl _ h i o ho e he
  have hi:i<acc.length:=by
   grind
  exact h i hi o ho e he
 |cons o rest ih=>
  intro acc hl hget h
  simp only[bfs,Za5]
  have grow:∀k e,(acc.getD k 0).testBit e=ze->((acc++[bfOf o.after acc]).getD k 0).testBit e=ze:=by
   grind
  refine ih (acc++[bfOf o.after acc]) (by simp at hl⊢;omega) (λi=>?_) (λi hi o' ho' e he=>?_)
  ·have:=hget (i+1)
   grind
  ·by_cases hlt:i<acc.length
   ·grind
   ·have hie:i=acc.length:=by
     grind
    subst hie
    have h0:=hget 0
    grind[bfOf_bit]
variable{B:Base}
def Qg(s:St B)(kn:List (Nat×Bool)):Prop:=∀p∈kn,s.tmp p.1=.bool za p.2
def StepD(E:Env)(call:Xh)(ops:Array Oper)(nb nm:Nat)(o:Oper)(s s':St B)(f:Ft):Prop:=
 (∃(r:V×Option (Nat×Blk))(kn:List (Nat×Bool)),truth ops s.tmp o=zi ze/\Qg s kn/\(∀p∈kn,p.1∈looks ops o)/\(evD E call s nb ops.size nm kn o.op).flat=ze/\
  ((evD E call s nb ops.size nm kn o.op).holds E.P λx=>x=r)/\Xw s.N o=ze/\s'=(s.wr r.2).put o.dst r.1/\f=foot s nm o.op)\/
 (∃(r:V×PT Blk×Nat),truth ops s.tmp o=zi ze/\KS o.op=ze/\((Xl E call s.sub o.op).holds E.P λx=>x=r)/\Xw s.N o=ze/\ZbB s.n r=ze/\s'=s.put o.dst r.1/\f=VK)\/
 (∃(r:V×PT Blk×Nat),truth ops s.tmp o=zi ze/\KS o.op=ze/\((Xl E call s.sub o.op).holds E.P λx=>x=r)/\Xw s.N o=ze/\s'=({ s with h:=s.h.over r.2.1,n:=r.2.2 }:St B).put o.dst r.1/\f=Jl r.2.1)\/
 (truth ops s.tmp o=zi za/\Xw s.N o=ze/\s'=s.put o.dst .undef/\f=Q0)
theorem Zot(nb sz:Nat)(a:Ft):clash nb sz a Q0=za:=by
 obtain⟨m,l,q,w⟩:=a
 cases m with
 |none=>cases l<;>rfl
 |some x=>obtain⟨w,c⟩:=x;cases c<;>cases l<;>rfl
theorem St.wr_N(s:St B)(x:Option (Nat×Blk)):(s.wr x).N=s.N:=by cases x<;>rfl
theorem St.wr_n(s:St B)(x:Option (Nat×Blk)):(s.wr x).n=s.n:=by cases x<;>rfl
theorem St.wr_t(s:St B)(x:Option (Nat×Blk)):(s.wr x).t=s.t:=by cases x<;>rfl
theorem St.Zbz(s:St B)(d:Option Tmp)(v:V):(s.put d v).N=s.N:=by cases d<;>rfl
theorem St.J4(s:St B)(d:Option Tmp)(v:V):(s.put d v).n=s.n:=by cases d<;>rfl
theorem St.VJ(s:St B)(d:Option Tmp)(v:V):(s.put d v).h=s.h:=by cases d<;>rfl
def Tree.All(p:α->Prop):Tree α->Prop
 | .leaf a=>p a
 | .stuck=>True
 | .node _ t f=>t.All p/\f.All p
 | .need _ t=>t.All p
 | .all _ t=>∀x,(t x).All p
 | .given _ t=>t.All p
 | .both t f=>t.All p/\f.All p
theorem Tree.ZbU{β:Type}{p:β->Prop}{k:α->Tree β}(h:∀a,(k a).All p):∀T:Tree α,(T.bind k).All p:=by
 intro T
 induction T with
 |leaf a=>exact h a
 |stuck=>trivial
 |node b t f iht ihf=>exact⟨iht,ihf⟩
 |need q t ih=>exact ih
 |all σ t ih=>exact λx=>ih x
 |given p t ih=>exact ih
 |both t f iht ihf=>exact⟨iht,ihf⟩
theorem Tree.All_bindA{β:Type}{p:β->Prop}{q:α->Prop}{k:α->Tree β}(h:∀a,q a->(k a).All p):∀T:Tree α,T.All q->(T.bind k).All p:=by
 intro T
 induction T with
 |leaf a=>exact h a
 |stuck=>exact λ_=>trivial
 |node b t f iht ihf=>exact λhT=>⟨iht hT.1,ihf hT.2⟩
 |need q t ih=>exact ih
 |all σ t ih=>exact λhT x=>ih x (hT x)
 |given p t ih=>exact ih
 |both t f iht ihf=>exact λhT=>⟨iht hT.1,ihf hT.2⟩
theorem Zr8{q:α->Prop}{p:Option Prop}{T:Tree α}(h:T.All q):(Zal p T).All q:=by
 cases p<;>exact h
theorem Tree.All_holds{P:Program}{p:α->Prop}:∀(T:Tree α){Q:α->Prop},T.flat=ze->T.All p->T.holds P Q->∃r,p r/\Q r:=by
 intro T Q hf ha h
 induction T with
 |leaf a=>exact⟨a,ha,h⟩
 |stuck=>exact h.elim
 |node b t f iht ihf=>
  simp only[Tree.flat,zL]at hf
  cases b with
  |true=>exact iht hf.1 ha.1 (h.1 rfl)
  |false=>exact ihf hf.2 ha.2 (h.2 rfl)
 |need q t ih=>exact ih hf ha h.2
 |all σ t _=>cases hf
 |given p t _=>cases hf
 |both t f _ _=>cases hf
variable{h:Nat->Blk}{t:TypeId}{x:V}{y:Bool×V}
theorem ZkG{P:Program}{k:V}{bb:Nat×Blk}(hp:WQ P h t x k y=zi bb):x=.mp bb.1:=by
 unfold WQ at hp
 split at hp<;>grind
variable{h':Nat->Blk}
theorem ZkF{P:Program}{k:V}(hb:∀b,x=.mp b->h b=h' b):WQ P h t x k y=WQ P h' t x k y:=by
 unfold WQ
 cases x<;>try rfl
 grind
theorem Zpn{P:Program}{ix:V}{ok:Bool}(hb:∀b,x=.mp b->h b=h' b):ZaZ P h t x ix ok=ZaZ P h' t x ix ok:=by
 unfold ZaZ
 cases x<;>try rfl
 grind
variable{p:V×Option (Nat×Blk)->Prop}{nm:Nat}
theorem ZcT{s:St B}{blk:Blk}{v:V}(h1:∀v blk,p (v,zi (nm,blk))):(Wj s nm blk v).All p:=by
 unfold Wj
 cases s.blk nm<;>first|trivial|exact h1 _ _
variable{rl:Bool}{r:V×PT Blk×Nat}
theorem Zlr{s:St B}(h0:∀v,p (v,zm))(h1:∀v blk,p (v,zi (nm,blk))):(GL s nm rl r).All p:=by
 unfold GL
 cases(r.1.clean&&(!rl||r.1.Xg))
 ·simp only[cond_false]
  cases r.1<;>try trivial
  rename_i st b es i n
  dsimp only
  cases look (λ_=>Blk.none) r.2.1 b<;>try trivial
  ·rename_i cs
   dsimp only
   cases(cs.clean&&(!rl||cs.Xg))
   ·trivial
   grind[ZcT]
  ·rename_i es' k get
   dsimp only
   cases rl
   ·exact ZcT h1
   ·cases st
    ·exact ZcT h1
    ·dsimp only
     cases WU k (λj=>(get j).Xg)
     ·trivial
     grind[ZcT]
 ·exact h0 _
theorem Zlt{s:St B}(h0:∀v,p (v,zm))(h1:∀v blk,p (v,zi (nm,blk))):(layR s nm rl r).All p:=by
 obtain⟨v,h',n'⟩:=r
 unfold layR
 dsimp only
 split
 ·exact Tree.All_bindA (p:=p) (q:=λ(r:V×Option (Nat×Blk))=>∀u,p (u,r.2)) (k:=λx=>.leaf (.agg (.cons x.1 .nil),x.2)) (λa ha=>by show p (_,a.2);exact ha _) _ (Zlr (λv u=>h0 u) (λv blk u=>h1 u blk))
 grind[Zlr]
variable{E:Env}{call:Xh}
theorem Zpw{s:St B}{g:FuncId}{fa:V}(h0:∀v,p (v,zm))(h1:∀v blk,p (v,zi (nm,blk))):(Uc E call s nm g fa).All p:=by
 unfold Uc
 cases E.Γ g fa with
 |none=>exact Tree.ZbU (λr=>Zlt h0 h1) _
 |some a=>
  cases a with
  |sure v=>dsimp only;cases(v.clean&&v.Xg);exact trivial;exact h0 _
  |where_ q v=>dsimp only;cases(v.clean&&v.Xg);exact trivial;exact h0 _
  |fork b v v'=>exact trivial
variable{nb:Nat}{kn:List (Nat×Bool)}
theorem evD_All{s:St B}{sz:Nat}{o:Op}:(evD E call s nb sz nm kn o).All λr=>r.2=zm\/∃b blk,r.2=zi (b,blk)/\((foot s nm o).m=zi (ze,zi b)\/(foot s nm o).l=zi b):=by
 have quiet:∀(o:Op),(evDQ E call s nb sz nm kn o).All λr=>r.2=zm\/∃b blk,r.2=zi (b,blk)/\((foot s nm o).m=zi (ze,zi b)\/(foot s nm o).l=zi b):=by
  intro o
  unfold evDQ
  cases evQ E (Z4 s kn) s.blk o with
  |none=>
   dsimp only
   unfold evVal
   cases o<;>try trivial
   rename_i c
   dsimp only
   cases hcal:c.callee<;>try trivial
   rename_i f
   have hl:(foot s nm (.call c)).l=zi nm:=by simp only[foot,hcal]
   generalize(Gx (foot s nm (.call c)).m (seen nb sz s.blk))=hh
   dsimp only
   cases callee (Z4 s kn f) (.ofList (c.args.toList.map (Z4 s kn)))with
   |none=>trivial
   |some r=>
    dsimp only
    cases r.2.clean
    ·simp only[cond_false]
     cases(fz hh 6 r.2).clean
     ·trivial
     simp_all[Zr8,Zpw]
    simp_all[Tree.ZbU,Zlt]
  |some T=>
   refine Tree.ZbU ?_ T
   intro a
   exact Or.inl rfl
 have new:∀(cs:Blk)(v:V){o:Op},(foot s nm o).l=zi nm->(Wj s nm cs v).All λr=>r.2=zm\/∃b blk,r.2=zi (b,blk)/\((foot s nm o).m=zi (ze,zi b)\/(foot s nm o).l=zi b):=by
  grind[ZcT]
 cases o with
 |store t a x=>
  simp only[evD,ZfC]
  cases ZW E.P t with
  |none=>trivial
  |some z=>
   dsimp only
   cases(zq (Z4 s kn x).cells.len z&&((Z4 s kn x).cells.YN&&(Z4 s kn x).solid))
   ·trivial
   ·simp only[cond_true,foot]
    cases Zr s a<;>try trivial
    refine Tree.ZbU ?_ _
    intro blk
    exact Or.inr ⟨_,_,rfl,.inl rfl⟩
 |load t a=>
  simp only[evD]
  refine Tree.ZbU ?_ _
  intro v
  exact Or.inl rfl
 |alloc t=>
  simp only[evD]
  cases X5 E.P t with
  |none=>trivial
  |some cs=>exact new _ _ rfl
 |box t x=>
  simp only[evD]
  cases(Z4 s kn x).solid
  ·trivial
  ·exact new _ _ rfl
 |buildSlice t len ps=>
  simp only[evD]
  cases Gj E.P t len (ps.toList.map λp=>(p.1,Z4 s kn p.2))with
  |none=>trivial
  |some zc=>exact new _ _ rfl
 |makeSlice t len cap=>
  simp only[evD]
  cases ZcR E.P t (Z4 s kn len) (Z4 s kn cap)with
  |none=>trivial
  |some zc=>exact new _ _ rfl
 |makeMap t r=>
  simp only[evD]
  cases Gt E.P t (r.map (Z4 s kn))with
  |none=>trivial
  |some blk=>exact new _ _ rfl
 |mapUpdate t mx k x=>
  simp only[evD]
  cases hz:WQ E.P s.blk t (Zr s mx) (Z4 s kn k) (ze,Z4 s kn x)with
  |none=>trivial
  |some bb=>exact Or.inr ⟨_,_,rfl,.inl (by simp only[foot];rw[ZkG hz])⟩
 |insert t mx k x=>
  simp only[evD]
  cases hz:WQ E.P s.blk t (Zr s mx) (Z4 s kn k) (ze,Z4 s kn x)with
  |none=>trivial
  |some bb=>exact Or.inr ⟨_,_,rfl,.inl (by simp only[foot];rw[ZkG hz])⟩
 |_=>exact quiet _
structure Path(E:Env)(call:Xh)(ops:Array Oper)(bf:List Nat)(nb:Nat){B:Base}(S:Nat->St B)(fp:Nat->Ft):Prop where
 step:∀i o,ops[i]? =zi o->StepD E call ops nb (nb+i) o (S i) (S (i+1)) (fp i)
 cl:∀i j,i<j->j<ops.size->KL ops bf nb i j (fp i) (fp j)=ze->(bf.getD j 0).testBit i=ze
def Road(E:Env)(call:Xh)(ops:Array Oper)(bf:List Nat)(nb:Nat)(l:List Oper)(j:Nat)(fps:List (Nat×Ft))(s:St B)(Q:St B->Prop):Prop:=
 ∃(S:Nat->St B)(fp:Nat->Ft),S j=s/\Q (S (j+l.length))/\
  (∀i o,l[i]? =zi o->StepD E call ops nb (nb+(j+i)) o (S (j+i)) (S (j+i+1)) (fp (j+i)))/\
  (∀i,i<l.length->∀p∈fps,KL ops bf nb p.1 (j+i) p.2 (fp (j+i))=ze->(bf.getD (j+i) 0).testBit p.1=ze)/\
  (∀i k,i<k->k<l.length->KL ops bf nb (j+i) (j+k) (fp (j+i)) (fp (j+k))=ze->(bf.getD (j+k) 0).testBit (j+i)=ze)
variable{o:Oper}
theorem ZiI{s s2:St B}(h:Qg s kn)(v:V)(ht:s2.t=s.t):Qg (s2.put o.dst v) (Qn o kn):=by
 intro p hp
 unfold Qn at hp
 cases hd:o.dst with
 |none=>rw[hd]at hp;simp only[St.put,St.tmp,ht];exact h p hp
 |some d=>
  rw[hd]at hp
  simp only[List.mem_filter,Bool.not_eq_true']at hp
  have hne:p.1≠d:=λe=>by rw[e]at hp;simp at hp
  simp only[St.put,St.tmp,ht]
  rw[GR _ _ _ hne]
  exact h p hp.1
theorem Zjd{s:St B}(h:Qg s kn)(t:Nat):refine kn t (s.tmp t)=s.tmp t\/∃c,refine kn t (s.tmp t)=.bool ze c/\s.tmp t=.bool za c:=by
 induction kn with
 |nil=>exact .inl rfl
 |cons p kn ih=>
  obtain⟨d,c⟩:=p
  simp only[refine]
  cases he:zq d t
  ·exact ih λp hp=>h p (List.mem_cons_of_mem _ hp)
  ·obtain rfl:=zO he
   exact .inr ⟨c,rfl,h (d,c) (by simp)⟩
theorem kn_put{s:St B}(h:Qg s kn)(v:V)(x:Option (Nat×Blk)):Qg ((s.wr x).put o.dst v) (Qn o kn):=ZiI h v (by cases x<;>rfl)
variable{ops:Array Oper}
theorem Zjm{s:St B}(h:Qg s kn){r:Bool}(ht:truth ops (λt=>refine kn t (s.tmp t)) o=zi r):truth ops s.tmp o=zi r:=by
 unfold truth at ht⊢
 cases hg:o.guard<;>grind[Zjd]
theorem knOf_ok{s:St B}(h:Qg s kn):Qg s (QD ops o kn)/\∀p∈QD ops o kn,p.1∈looks ops o:=by
 refine⟨λp hp=>h p (List.mem_filter.1 hp).1,λp hp=>?_⟩
 have:=(List.mem_filter.1 hp).2
 grind
theorem path_of{bf:List Nat}:∀(l:List Oper)(j:Nat)(fps:List (Nat×Ft))(kn:List (Nat×Bool))(s:St B)(Q:St B->Prop),
  Qg s kn->(XZ E call ops bf nb l j fps kn s).holds E.P Q->Road E call ops bf nb l j fps s Q:=by
 intro l
 induction l with
 |nil=>
  intro j fps kn s Q _ h
  exact⟨λ_=>s,λ_=>Q0,rfl,h,by simp,by simp,by simp⟩
 |cons o rest ih=>
  intro j fps kn s Q hkn h
  have glue:∀(kn:List (Nat×Bool))(s':St B)(fp0:Ft),Qg s' kn->StepD E call ops nb (nb+j) o s s' fp0->(∀p∈fps,KL ops bf nb p.1 j p.2 fp0=ze->(bf.getD j 0).testBit p.1=ze)->
    (XZ E call ops bf nb rest (j+1) ((j,fp0)::fps) kn s').holds E.P Q->Road E call ops bf nb (o::rest) j fps s Q:=by
   intro kn s' fp0 hkn' hstep hcl hrest
   obtain⟨S,fp,h0,h1,h2,h3,h4⟩:=ih (j+1) ((j,fp0)::fps) kn s' Q hkn' hrest
   refine⟨λi=>if i=j then s else S i,λi=>if i=j then fp0 else fp i,by simp,?_,?_,?_,?_⟩
   ·simp only[List.length_cons]
    rw[if_neg (by omega)]
    rw[show j+(rest.length+1)=j+1+rest.length by omega]
    exact h1
   ·intro i o' ho'
    cases i with
    |zero=>
     simp only[List.getElem?_cons_zero,Option.some.injEq]at ho'
     subst ho'
     simp only[Nat.add_zero,if_true]
     rw[if_neg (by omega),h0]
     exact hstep
    |succ i=>
     simp only[List.getElem?_cons_succ]at ho'
     have:=h2 i o' ho'
     dsimp only
     simp only[if_neg (show ¬j+(i+1)=j by omega),if_neg (show ¬j+(i+1)+1=j by omega)]
     rw[show j+(i+1)=j+1+i by omega]
     exact this
   ·intro i hi p hp hc
    cases i with
    |zero=>simp only[Nat.add_zero,if_true]at hc⊢;exact hcl p hp hc
    |succ i=>
     dsimp only at hc
     simp only[if_neg (show ¬j+(i+1)=j by omega)]at hc
     rw[show j+(i+1)=j+1+i by omega]at hc⊢
     exact h3 i (by simpa using hi) p (List.mem_cons_of_mem _ hp) hc
   ·intro i k hik hk hc
    cases i with
    |zero=>
     obtain⟨k',rfl⟩:∃k',k=k'+1:=⟨k-1,by omega⟩
     simp only[Nat.add_zero,if_true]at hc
     simp only[if_neg (show ¬j+(k'+1)=j by omega)]at hc
     rw[show j+(k'+1)=j+1+k' by omega]at hc⊢
     exact h3 k' (by simpa using hk) (j,fp0) (by simp) hc
    |succ i=>
     obtain⟨k',rfl⟩:∃k',k=k'+1:=⟨k-1,by omega⟩
     simp only[if_neg (show ¬j+(i+1)=j by omega),if_neg (show ¬j+(k'+1)=j by omega)]at hc
     rw[show j+(i+1)=j+1+i by omega,show j+(k'+1)=j+1+k' by omega]at hc⊢
     exact h4 i k' (by omega) (by simpa using hk) hc
  have small:∀(kn:List (Nat×Bool)),Qg s kn->truth ops s.tmp o=zi ze->(bif Y1 ops bf nb j fps (foot s (nb+j) o.op)&&((evD E call s nb ops.size (nb+j) (QD ops o kn) o.op).flat&&Xw s.N o)then
     (evD E call s nb ops.size (nb+j) (QD ops o kn) o.op).bind λr=>XZ E call ops bf nb rest (j+1) ((j,foot s (nb+j) o.op)::fps) (Qn o kn) ((s.wr r.2).put o.dst r.1)
    else .stuck).holds E.P Q->Road E call ops bf nb (o::rest) j fps s Q:=by
   intro kn hkn hw hq
   cases hall:Y1 ops bf nb j fps (foot s (nb+j) o.op)
   ·rw[hall]at hq;exact hq.elim
   ·cases hfl:(evD E call s nb ops.size (nb+j) (QD ops o kn) o.op).flat
    ·rw[hall,hfl]at hq;exact hq.elim
    ·cases hd:Xw s.N o
     ·rw[hall,hfl,hd]at hq;exact hq.elim
     ·rw[hall,hfl,hd]at hq
      simp only[Bool.and_self,cond_true]at hq
      rw[Tree.Yw]at hq
      obtain⟨r,hr1,hr2⟩:=Tree.pick _ hfl hq
      refine glue _ _ (foot s (nb+j) o.op) (kn_put hkn r.1 r.2) (.inl ⟨r,QD ops o kn,hw,(knOf_ok hkn).1,(knOf_ok hkn).2,hfl,hr1,hd,rfl,rfl⟩) (λp hp hc=>?_) hr2
      have:=List.all_eq_true.1 hall p hp
      simpa[hc]using this
  have go:∀(kn:List (Nat×Bool)),Qg s kn->truth ops s.tmp o=zi ze->(bif KS o.op&&((!Zet s o.op||(evD E call s nb ops.size (nb+j) (QD ops o kn) o.op).Kn)&&(!(Xl E call s.sub o.op).Kn&&((Xl E call s.sub o.op).flat&&Xw s.N o)))then
    (Xl E call s.sub o.op).bind λr=>
     bif ZbB s.n r&&Y1 ops bf nb j fps VK then XZ E call ops bf nb rest (j+1) ((j,VK)::fps) (Qn o kn) (s.put o.dst r.1)
     else bif bigAt ops bf j o&&Y1 ops bf nb j fps (Jl r.2.1)then XZ E call ops bf nb rest (j+1) ((j,Jl r.2.1)::fps) (Qn o kn) (({ s with h:=s.h.over r.2.1,n:=r.2.2 }:St B).put o.dst r.1)
     else(bif Y1 ops bf nb j fps (foot s (nb+j) o.op)&&((evD E call s nb ops.size (nb+j) (QD ops o kn) o.op).flat&&Xw s.N o)then
      (evD E call s nb ops.size (nb+j) (QD ops o kn) o.op).bind λr=>XZ E call ops bf nb rest (j+1) ((j,foot s (nb+j) o.op)::fps) (Qn o kn) ((s.wr r.2).put o.dst r.1)
     else .stuck)
    else(bif Y1 ops bf nb j fps (foot s (nb+j) o.op)&&((evD E call s nb ops.size (nb+j) (QD ops o kn) o.op).flat&&Xw s.N o)then
      (evD E call s nb ops.size (nb+j) (QD ops o kn) o.op).bind λr=>XZ E call ops bf nb rest (j+1) ((j,foot s (nb+j) o.op)::fps) (Qn o kn) ((s.wr r.2).put o.dst r.1)
     else .stuck)).holds E.P Q->Road E call ops bf nb (o::rest) j fps s Q:=by
   intro kn hkn hw hq
   cases hcond:(KS o.op&&((!Zet s o.op||(evD E call s nb ops.size (nb+j) (QD ops o kn) o.op).Kn)&&(!(Xl E call s.sub o.op).Kn&&((Xl E call s.sub o.op).flat&&Xw s.N o))))
   ·rw[hcond]at hq
    exact small kn hkn hw hq
   ·rw[hcond]at hq
    simp only[cond_true]at hq
    simp only[zL]at hcond
    obtain⟨hib,_,_,hfl,hd⟩:=hcond
    rw[Tree.Yw]at hq
    obtain⟨r,hr1,hr2⟩:=Tree.pick _ hfl hq
    cases hqu:ZbB s.n r&&Y1 ops bf nb j fps VK
    ·rw[hqu]at hr2
     simp only[cond_false]at hr2
     cases hbg:bigAt ops bf j o&&Y1 ops bf nb j fps (Jl r.2.1)
     ·rw[hbg]at hr2
      exact small kn hkn hw hr2
     ·rw[hbg]at hr2
      simp only[cond_true]at hr2
      simp only[zL]at hbg
      refine glue (Qn o kn) (({ s with h:=s.h.over r.2.1,n:=r.2.2 }:St B).put o.dst r.1) (Jl r.2.1) (ZiI (s2:={ s with h:=s.h.over r.2.1,n:=r.2.2 }) hkn r.1 rfl) (.inr (.inr (.inl ⟨r,hw,hib,hr1,hd,rfl,rfl⟩))) (λp hp hc=>?_) hr2
      have:=List.all_eq_true.1 hbg.2 p hp
      simpa[hc]using this
    ·rw[hqu]at hr2
     simp only[cond_true]at hr2
     simp only[zL]at hqu
     refine glue (Qn o kn) (s.put o.dst r.1) VK (ZiI hkn r.1 rfl) (.inr (.inl ⟨r,hw,hib,hr1,hd,hqu.1,rfl,rfl⟩)) (λp hp hc=>?_) hr2
     have:=List.all_eq_true.1 hqu.2 p hp
     simpa[hc]using this
  have no:∀(kn:List (Nat×Bool)),Qg s kn->truth ops s.tmp o=zi za->(bif Xw s.N o then XZ E call ops bf nb rest (j+1) ((j,Q0)::fps) (Qn o kn) (s.put o.dst .undef)else .stuck).holds E.P Q->
    Road E call ops bf nb (o::rest) j fps s Q:=by
   intro kn hkn hw hq
   cases hd:Xw s.N o
   ·rw[hd]at hq;exact hq.elim
   ·rw[hd]at hq
    exact glue _ _ Q0 (kn_put hkn .undef zm) (.inr (.inr (.inr ⟨hw,hd,rfl,rfl⟩))) (λp _ hc=>by unfold KL at hc;rw[Zot]at hc;cases hc) hq
  unfold XZ at h
  dsimp only at h
  have ht:=ZmE (ops:=ops) (val:=λt=>refine kn t (s.tmp t)) (o:=o)
  cases hg:guardOf ops (λt=>refine kn t (s.tmp t)) o with
  |bad=>
   rw[hg]at h
   exact h.elim
  |yes=>grind[Zjm]
  |no=>grind[Zjm]
  |dyn d b want=>
   rw[hg]at h ht
   obtain⟨ht,hval⟩:=ht
   have ht:=Zjm hkn ht
   have hd:s.tmp d=.bool za b:=by
    grind[Zjd]
   have hkn':Qg s ((d,b)::kn):=by
    intro p hp
    cases hp with
    |head=>exact hd
    |tail _ hp=>exact hkn p hp
   cases want with
   |true=>
    cases b with
    |true=>exact go _ hkn' ht (h.1 rfl)
    |false=>exact no _ hkn' ht (h.2 rfl)
   |false=>
    cases b with
    |true=>exact no _ hkn' ht (h.1 rfl)
    |false=>exact go _ hkn' ht (h.2 rfl)
theorem Zg6{s s':St B}(h:∀t∈looks ops o,s.tmp t=s'.tmp t):truth ops s.tmp o=truth ops s'.tmp o:=by
 unfold truth
 cases hg:o.guard<;>grind[looks]
theorem Zl1{s s':St B}:∀{x:Operand},(∀t,x=.tmp t->s.tmp t=s'.tmp t)->Zr s x=Zr s' x
 | .tmp t,h=>h t rfl
 | .const _,_=>rfl
 | .global _,_=>rfl
 | .func _,_=>rfl
theorem ZqV{s s':St B}{x:Operand}(h:Zr s x=Zr s' x):Z4 s kn x=Z4 s' kn x:=by
 cases x with
 |tmp t=>simp only[Z4];rw[show s.tmp t=s'.tmp t from h]
 |_=>exact h
theorem Zpm{P:Program}(hb:∀st b es i o,x=.ptr st b es i o->h b=h' b):Vq P h t x=Vq P h' t x:=by
 unfold Vq
 grind
theorem Zpb{P:Program}{src dst:TypeId}(hb:∀st b es i k,x=.osl st b es i k->h b=h' b):ZaY P h src dst x=ZaY P h' src dst x:=by
 unfold ZaY ZcU
 cases x<;>try rfl
 grind
theorem ZpA{P:Program}{lo hi mx:Option V}(hb:∀st b es i o,x=.ptr st b es i o->h b=h' b):Za0 P h t x lo hi mx=Za0 P h' t x lo hi mx:=by
 unfold Za0
 cases x<;>try rfl
 dsimp only
 rw[hb _ _ _ _ _ rfl]
theorem Zq8{v:V}{t:Nat}{st:Bool}{b es i o:Nat}:∀kn:List (Nat×Bool),refine kn t v=.ptr st b es i o->v=.ptr st b es i o:=by
 intro kn
 induction kn<;>grind[refine,zq]
theorem Zqr{s s':St B}(h:s.blk nm=s'.blk nm):layR s nm rl=layR s' nm rl:=by
 funext r
 unfold layR GL Wj
 rw[h]
theorem evD_congr{s s':St B}{sz:Nat}{o:Op}(hx:∀x∈o.operands,Zr s x=Zr s' x)(hb0:∀w c b,(foot s' nm o).m=zi (w,c)->((c=zm/\JX nb sz b=za)\/c=zi b)->s.blk b=s'.blk b)
  (hl0:∀b,(foot s' nm o).l=zi b->s.blk b=s'.blk b):evD E call s nb sz nm kn o=evD E call s' nb sz nm kn o:=by
 have hb:∀w b,(foot s' nm o).m=zi (w,zi b)->s.blk b=s'.blk b:=λw b h=>hb0 w _ b h (.inr rfl)
 have hnew:∀(cs:Blk) v,s.blk nm=s'.blk nm->Wj s nm cs v=Wj s' nm cs v:=λcs v h=>by
  grind[Wj]
 have hK:∀x∈o.operands,Z4 s kn x=Z4 s' kn x:=λx h=>ZqV (hx x h)
 have lists:∀(l:List Operand),(∀x∈l,Z4 s kn x=Z4 s' kn x)->l.map (Z4 s kn)=l.map (Z4 s' kn):=λl h=>List.map_congr_left h
 have opts:∀(l:Option Operand),(∀x∈l.toArray,Z4 s kn x=Z4 s' kn x)->l.map (Z4 s kn)=l.map (Z4 s' kn):=λl h=>by
  cases l<;>grind
 have parts:∀(ps:List (Nat×Operand)),(∀p∈ps,Z4 s kn p.2=Z4 s' kn p.2)->(ps.map λp=>(p.1,Z4 s kn p.2))=(ps.map λp=>(p.1,Z4 s' kn p.2)):=
  λps h=>List.map_congr_left λp hp=>by rw[h p hp]
 cases o<;>simp only[Op.operands]at hx hK<;>simp only[evD,evDQ,evQ,evVal]
 case store t a x=>
  grind[ZfC,ZW,Zr,foot]
 case load t a=>
  grind[Zpm,foot]
 case alloc t=>
  have h1:=hl0 nm rfl
  grind
 case box t x=>
  have h1:=hl0 nm rfl
  grind
 case makeSlice t len cap=>
  have h1:=hl0 nm rfl
  grind
 case makeMap t r=>
  have h1:=hl0 nm rfl
  grind
 case mapUpdate t mx k x=>
  grind[ZkF,foot]
 case insert t mx k x=>
  grind[ZkF,foot]
 case lookup t x ix ok=>
  rw[hK x (by simp),hK ix (by simp)]
  have hc:∀b,Z4 s' kn x=.mp b->s.blk b=s'.blk b:=by
   intro b h
   refine hb za b ?_
   have h2:Zr s' x=.mp b:=by
    cases x with
    |tmp t=>
     simp only[Z4]at h
     have key:∀kn:List (Nat×Bool),refine kn t (s'.tmp t)=.mp b->s'.tmp t=.mp b:=by
      intro kn
      induction kn<;>grind[refine,zq]
     exact key kn h
    |_=>exact h
   grind[foot]
  rw[Zpn hc]
 case convert src dst x=>
  rw[hK x (by simp)]
  have hc:∀st b es i k,Z4 s' kn x=.osl st b es i k->s.blk b=s'.blk b:=by
   intro st b es i k h
   refine hb za b ?_
   have h2:Zr s' x=.osl st b es i k:=by
    cases x with
    |tmp t=>
     simp only[Z4]at h
     have key:∀kn:List (Nat×Bool),refine kn t (s'.tmp t)=.osl st b es i k->s'.tmp t=.osl st b es i k:=by
      intro kn
      induction kn<;>grind[refine,zq]
     exact key kn h
    |_=>exact h
   grind[foot]
  rw[Zpb hc]
 case call c=>
  have hargs:c.args.toList.map (Z4 s kn)=c.args.toList.map (Z4 s' kn):=lists _ λx h=>hK x (by simp[Call.operands];right;simpa using h)
  cases hcal:c.callee<;>dsimp only
  ·rename_i f
   have ho:∀l:List Operand,(∀x∈l,Zr s x=Zr s' x)->l.map (Zr s)=l.map (Zr s'):=λl h=>List.map_congr_left h
   have e:foot s nm (.call c)=foot s' nm (.call c):=by
    simp only[foot,hcal]
    rw[hx f (by simp[Call.operands,hcal]),ho c.args.toList λx h=>hx x (by simp[Call.operands];right;simpa using h)]
   have e2:Gx (foot s nm (.call c)).m (seen nb sz s.blk)=Gx (foot s' nm (.call c)).m (seen nb sz s'.blk):=by
    rw[e]
    cases hf:(foot s' nm (.call c)).m with
    |none=>rfl
    |some r=>
     obtain⟨w,cc⟩:=r
     have hcc:cc=zm:=by
      grind[foot,callee,Zr]
     have hb':∀w c' b,(foot s' nm (.call c)).m=zi (w,c')->((c'=zm/\JX nb sz b=za)\/c'=zi b)->s.blk b=s'.blk b:=hb0
     refine funext λb=>?_
     show(bif JX nb sz b then Blk.any else s.blk b)=(bif JX nb sz b then Blk.any else s'.blk b)
     grind
   have e3:∀rl,layR s nm rl=layR s' nm rl:=λrl=>Zqr (hl0 nm (by simp only[foot,hcal]))
   have e4:∀g fa,Uc E call s nm g fa=Uc E call s' nm g fa:=λg fa=>by
    grind[Uc]
   simp only[e3,e4]
   rw[hargs,hK f (by simp[Call.operands,hcal]),e2]
  grind
 case build t ps=>rw[parts _ λp hp=>hK p.2 (by simp;exact⟨p.1,by simpa using hp⟩)]
 case buildSlice t n ps=>
  have h1:=hl0 nm rfl
  grind
 case makeFunc f first cap=>
  grind
 case slice t x lo hi mx=>
  rw[hK x (by simp),opts lo λy h=>hK y (by simp at h⊢;simp[h]),opts hi λy h=>hK y (by simp at h⊢;simp[h]),opts mx λy h=>hK y (by simp at h⊢;simp[h])]
  have hc:∀st b es i o,Z4 s' kn x=.ptr st b es i o->s.blk b=s'.blk b:=by
   intro st b es i o h
   refine hb za b ?_
   have h2:Zr s' x=.ptr st b es i o:=by
    cases x with
    |tmp t=>exact Zq8 kn h
    |_=>exact h
   grind[foot]
  rw[ZpA hc]
 case pick c x y=>rw[hK c (by simp),hK x (by simp),hK y (by simp)]
 all_goals first
  |rfl
  |(rename_i x _;rw[hK x (by simp)];done)
  |(rename_i x;rw[hK x (by simp)];done)
  |(rename_i x y;rw[hK x (by simp),hK y (by simp)];done)
  |(rename_i x y _;rw[hK x (by simp),hK y (by simp)];done)
end Go.Fw
end
