/- Each operation of the evaluator in the model's own rule for an operation. -/
import Derived.Test.YtnjjailadijdlaaGreatDoorMAe
import Derived.Laws.Append
set_option maxRecDepth 100000
set_option linter.unusedVariables false
set_option linter.unusedSimpArgs false
noncomputable section
namespace Go.Fw
section
variable {base:Nat} {m:Nat->Option Nat} {F:Nat->Prop} {h:Nat->Blk} {n:Nat} {w:World} {ρ:Operand->V} {a:Act}
theorem optV {lo:Option Operand} (hρ:∀ x,R F w (ρ x) n m (a.eval x)) :
  (∀ b,lo.map ρ = some b->∃ x,lo.map a.eval = some x/\R F w b n m x)/\(lo.map ρ = none->lo.map a.eval = none):=by
 cases lo with
 | none=>exact ⟨(fun b hb=>by cases hb),fun _=>rfl⟩
 | some x=>exact ⟨(fun b hb=>by simp only [Option.map_some,Option.some.injEq] at hb; subst hb; exact ⟨_,rfl,hρ x⟩),fun hb=>by cases hb⟩
theorem Vd {P:Program} {o:Oper} {c:Call} {b:Builtin} {sem:Sem Value} (ho:o.op = .call c) (hcal:c.callee = .builtin b)
  (hb:∀ consts ty,builtin b c.argTypes ty consts (c.args.map a.eval) = (do pure (.value (<- sem)))) (w:World) :
  (execOp a.eval o).run P w = ((sem.run P w).andThen fun x w=>.ok (.value x) w):=by
 simp only [execOp,ho,resolve,hcal,pure_bind,invoke,hb,Sem.run_bind,Sem.run_pure]
theorem ZdP {E:Env} {o:Oper} {sem:Sem Value} {T:Tree V} {Q:V->Prop} {K:Act->World->Prop} {Qx:Exit->Act->World->Prop}
  (hx:(execOp a.eval o).run E.P w = ((sem.run E.P w).andThen fun x w=>.ok (.value x) w)) (hv:Val E.P F w n m T sem) (hq:T.holds E.P Q)
  (hK:∀ v x w' F',Q v->Later F w F' w'->R F' w' v n m x->K (a.put o.dst x) w'):o.wp E.P a w K Qx:=by
 obtain ⟨v,x,h1,h2,h3⟩:=hv Q hq
 unfold Oper.wp
 rw [hx]
 simp only [h2,Result.andThen_ok,Oper.upon]
 exact hK v x w F h1 (Later.refl F w) h3
theorem Zko {E:Env} {o:Oper} {c:Call} {b:Builtin} {T:Tree V} {Q:V->Prop} {K:Act->World->Prop} {Qx:Exit->Act->World->Prop}
  (ho:o.op = .call c) (hcal:c.callee = .builtin b) (hρ:∀ x,R F w (ρ x) n m (a.eval x)) (hT:Vz E.P b c.argTypes.toList (.ofList (c.args.toList.map ρ)) = some T) (hq:T.holds E.P Q)
  (hK:∀ v x w' F',Q v->Later F w F' w'->R F' w' v n m x->K (a.put o.dst x) w'):o.wp E.P a w K Qx:=by
 have hargs:=Vw (a:=a) hρ c.args.toList
 cases b <;> try (cases hT; done)
 ·simp only [Vz,Option.some.injEq] at hT
  subst hT
  cases hts:c.argTypes.toList with
  | nil=>rw [hts] at hq; exact hq.elim
  | cons t ts=>
   rw [hts] at hq
   cases hal:c.args.toList with
   | nil=>rw [hal] at hq; exact hq.elim
   | cons x xs=>
    rw [hal] at hq
    simp only [List.map_cons,V.ofList] at hq
    have h0:c.argTypes[0]? = some t:=by rw [<- Array.getElem?_toList,hts]; rfl
    have h1:(c.args.map a.eval)[0]? = some (a.eval x):=by rw [<- Array.getElem?_toList,Array.toList_map,hal]; rfl
    exact ZdP (Vd (sem:=Builtin.cap_ c.argTypes o.type (c.args.map a.eval)) ho hcal (fun consts ty=>by
      simp only [builtin,Builtin.cap_]) w) (evCap_val h0 h1 (hρ x)) hq hK
 ·simp only [Vz,Option.some.injEq] at hT
  subst hT
  cases hts:c.argTypes.toList with
  | nil=>rw [hts] at hq; exact hq.elim
  | cons t ts=>
   rw [hts] at hq
   cases hal:c.args.toList with
   | nil=>rw [hal] at hq; exact hq.elim
   | cons x xs=>
    rw [hal] at hq
    simp only [List.map_cons,V.ofList] at hq
    have h0:c.argTypes[0]? = some t:=by rw [<- Array.getElem?_toList,hts]; rfl
    have h1:(c.args.map a.eval)[0]? = some (a.eval x):=by rw [<- Array.getElem?_toList,Array.toList_map,hal]; rfl
    exact ZdP (Vd (sem:=Builtin.len_ c.argTypes o.type (c.args.map a.eval)) ho hcal (fun consts ty=>by
      simp only [builtin,Builtin.len_]) w) (evLen_val h0 h1 (hρ x)) hq hK
 ·simp only [Vz,Option.some.injEq] at hT
  subst hT
  cases hal:c.args.toList with
  | nil=>rw [hal] at hq; exact hq.elim
  | cons x xs=>
   rw [hal] at hq hargs
   simp only [List.map_cons,V.ofList,RL] at hq hargs
   obtain ⟨y,r,e,hy,hr⟩:=hargs
   injection e with e1 e2
   subst e1; subst e2
   refine ZdP (Vd (sem:=Builtin.max_ c.argTypes o.type (c.args.map a.eval)) ho hcal (fun consts ty=>rfl) w) ?_ hq hK
   have:=ZgT (P:=E.P) (less:=false) _ _ hr _ _ hy
   intro Q' hq'
   obtain ⟨v,z,k1,k2,k3⟩:=this Q' hq'
   refine ⟨v,z,k1,?_,k3⟩
   simp only [Builtin.max_,Array.toList_map,hal,List.map_cons]
   exact k2
 ·simp only [Vz,Option.some.injEq] at hT
  subst hT
  cases hal:c.args.toList with
  | nil=>rw [hal] at hq; exact hq.elim
  | cons x xs=>
   rw [hal] at hq hargs
   simp only [List.map_cons,V.ofList,RL] at hq hargs
   obtain ⟨y,r,e,hy,hr⟩:=hargs
   injection e with e1 e2
   subst e1; subst e2
   refine ZdP (Vd (sem:=Builtin.min_ c.argTypes o.type (c.args.map a.eval)) ho hcal (fun consts ty=>rfl) w) ?_ hq hK
   have:=ZgT (P:=E.P) (less:=true) _ _ hr _ _ hy
   intro Q' hq'
   obtain ⟨v,z,k1,k2,k3⟩:=this Q' hq'
   refine ⟨v,z,k1,?_,k3⟩
   simp only [Builtin.min_,Array.toList_map,hal,List.map_cons]
   exact k2
theorem Zc6 {E:Env} {o:Oper} {c:Call} {f:Operand} {g:FuncId} {out v:V} {Q:V->Prop} {K:Act->World->Prop} {Qx:Exit->Act->World->Prop}
  (ho:o.op = .call c) (hcal:c.callee = .value f) (hρ:∀ x,R F w (ρ x) n m (a.eval x)) (hc:callee (ρ f) (.ofList (c.args.toList.map ρ)) = some (g,out))
  (hm:Zi E.P g out v) (hcl:out.clean = true) (hcv:v.clean = true) (hfd:∀ B,F B->B < w.heap.size) (hgl:GOk F w) (hq:Q v)
  (hK:∀ v x w' F',Q v->Later F w F' w'->R F' w' v n m x->K (a.put o.dst x) w'):o.wp E.P a w K Qx:=by
 obtain ⟨hhas,hm⟩:=hm
 obtain ⟨ys,h1,h2⟩:=Zg8 (P:=E.P) ho hcal hρ hc hhas
 unfold Oper.wp
 rw [h2]
 simp only [Oper.upon]
 refine (hm F w ys hfd hgl ((WU out hcl n 0 m _).2 _ h1)).mono fun e w' he=>?_
 obtain ⟨x,F',rfl,hl,hR⟩:=he
 exact hK v x w' F' hq hl ((WU v hcv 0 n _ m).1 _ hR)
theorem ZfX {F F':Nat->Prop} {w:World}:∀ (v:V),v.clean = true->v.YG = true->∀ (n n':Nat) (m m':Nat->Option Nat),
  (∀ x,R F w v n m x->R F' w v n' m' x)/\(∀ xs,RL F w v n m xs->RL F' w v n' m' xs):=by
 intro v
 induction v with
 | cons h t ih1 ih2=>
  intro hc hl n n' m m'
  simp only [V.clean,V.YG,Bool.and_eq_true] at hc hl
  refine ⟨fun x h=>by simp only [R] at h,fun xs h=>?_⟩
  simp only [RL] at h ⊢
  obtain ⟨x,r,rfl,h1,h2⟩:=h
  exact ⟨x,r,rfl,(ih1 hc.1 hl.1 n n' m m').1 _ h1,(ih2 hc.2 hl.2 n n' m m').2 _ h2⟩
 | agg cs ih=>
  intro hc hl n n' m m'
  refine ⟨fun x h=>?_,fun xs h=>by simp only [RL] at h⟩
  simp only [R] at h ⊢
  obtain ⟨xs,rfl,h1⟩:=h
  exact ⟨xs,rfl,(ih hc hl n n' m m').2 _ h1⟩
 | tup cs ih=>
  intro hc hl n n' m m'
  refine ⟨fun x h=>?_,fun xs h=>by simp only [RL] at h⟩
  simp only [R] at h ⊢
  obtain ⟨xs,rfl,h1⟩:=h
  exact ⟨xs,rfl,(ih hc hl n n' m m').2 _ h1⟩
 | fn f a b ih1 ih2=>
  intro hc hl n n' m m'
  simp only [V.clean,V.YG,Bool.and_eq_true] at hc hl
  refine ⟨fun x h=>?_,fun xs h=>by simp only [RL] at h⟩
  simp only [R] at h ⊢
  obtain ⟨xs,ys,rfl,h1,h2⟩:=h
  exact ⟨xs,ys,rfl,(ih1 hc.1 hl.1 n n' m m').2 _ h1,(ih2 hc.2 hl.2 n n' m m').2 _ h2⟩
 | ptr st b es i o=>intro hc; cases hc
 | osl st b es i k=>intro hc; cases hc
 | osp st b es i k c=>intro hc; cases hc
 | yld b=>intro hc; cases hc
 | mp b=>intro hc; cases hc
 | rptr st es k get i o=>intro _ hl; cases hl
 | rsl st es k get=>intro _ hl; cases hl
 | rmp st kd has get=>intro _ hl; cases hl
 | nil=>intro _ _ n n' m m'; exact ⟨fun x h=>by simp only [R] at h,fun xs h=>by simp only [RL] at h ⊢; exact h⟩
 | junk=>intro _ _ n n' m m'; exact ⟨fun x h=>by simp only [R],fun xs h=>by simp only [RL] at h⟩
 | _=>intro _ _ n n' m m'; exact ⟨fun x h=>by simp only [R] at h ⊢; exact h,fun xs h=>by simp only [RL] at h⟩
theorem freezeW_R (hr:HR base m F h n w) {x:V} {X:Value} (hx:R F w x n m X) (hn:∀ p,ZcL h x = some p->p):R (fun B=>F B\/∃ b,m b = some B) w (Zcz h x) n m X:=by
 have base':R (fun B=>F B\/∃ b,m b = some B) w x n m X:=(YK (Z4.refl w) (fun B h=>.inl h) (fun _ _=>rfl) x n n m m (Nat.le_refl _) (fun _ _ _ h=>h)).1 X hx
 unfold Zcz
 split
 ·rename_i st b es i k
  split
  ·rename_i cs hb
   cases hst:st
   ·exact base'
   cases hc:cs.clean
   ·rw [hst] at base'; exact base'
   cases hle:Nat.ble ((i + k) * es) cs.len
   ·rw [hst] at base'; exact base'
   simp only [Bool.and_self,cond_true]
   have hle':=Nat.le_of_ble_eq_true hle
   rw [Yb] at hx
   obtain ⟨hbn,a,cap,rfl,hk,hrow⟩:=hx
   have hblk:=hr.blk b hbn
   rw [hb] at hblk
   obtain ⟨B',xs,el',ys,zs,hm,hcell,hsp,hrl⟩:=hblk
   rw [Xk]
   refine ⟨a,cap,rfl,hk,?_⟩
   rcases hrow with h0 | ⟨B,c,el,fr,rfl,hB,hcc,hz⟩
   ·exact .inl (by omega)
   right
   obtain rfl:B = B':=by rw [hB] at hm; injection hm
   refine ⟨B,i * es,rfl,.inr ⟨b,hB⟩,xs,el',(0,0),hcell,fun j hj=>?_⟩
   have hrl0:=(WU cs hc n 0 m (fun _=>none)).2 _ hrl
   have hlen:=Y5 _ _ hrl
   rw [hlen] at hle'
   have hpl:=KY hsp
   have hjk:(i + j + 1) * es<=(i + k) * es:=Nat.mul_le_mul_right es (by omega)
   rw [Nat.add_mul,Nat.one_mul] at hjk
   refine ⟨(ys.drop ((i + j) * es)).take es,?_,?_,fun q hq=>?_⟩
   ·exact (YK (Z4.refl w) (fun B h=>.inl h) (fun _ _=>rfl) _ 0 0 _ _ (Nat.le_refl _) (fun _ _ _ h=>h)).2 _ (Kn _ _ (K8 _ _ hrl0 _) _)
   ·simp; omega
   ·rw [List.getElem?_take_of_lt hq,List.getElem?_drop,<- Nat.add_mul]
    exact Jv hsp (by omega)
  ·rename_i es' K get hb
   cases he:Nat.beq es es'
   ·exact base'
   simp only [cond_true]
   have hik:i + k<=K:=by
    cases hs:(st&&Nat.ble (i + k) K)
    ·refine hn _ ?_
     simp only [ZcL,hb,he,hs,cond_true,cond_false]
    ·simp only [Bool.and_eq_true] at hs
     exact Nat.le_of_ble_eq_true hs.2
   obtain rfl:=Nat.eq_of_beq_eq_true he
   rw [Yb] at hx
   obtain ⟨hbn,a,cap,rfl,hk,hrow⟩:=hx
   rw [Xk]
   refine ⟨a,cap,rfl,hk,?_⟩
   rcases hrow with h0 | ⟨B,c,el,fr,rfl,hB,hcc,hz⟩
   ·exact .inl (by omega)
   have hblk:=hr.blk b hbn
   rw [hb] at hblk
   rcases hblk with ⟨h0,_⟩ | ⟨B',c',el',hm,hcell,hz',hall⟩
   ·exact .inl (by omega)
   right
   obtain rfl:B = B':=by rw [hB] at hm; injection hm
   refine ⟨B,i * es,rfl,.inr ⟨b,hB⟩,c',el',(0,0),hcell,fun j hj=>?_⟩
   obtain ⟨xs,g1,g2,g3⟩:=hall (i + j) (by omega)
   refine ⟨xs,?_,g2,fun q hq=>?_⟩
   ·exact (YK (Z4.refl w) (fun B h=>.inl h) (fun _ _=>rfl) _ 0 0 _ _ (Nat.le_refl _) (fun _ _ _ h=>h)).2 _ g1
   ·rw [<- Nat.add_mul]; exact g3 q hq
  ·exact base'
 ·exact base'
theorem ZfV (hr:HR base m F h n w) {x:V} {X:Value} (hx:R F w x n m X) (hn:∀ p,Zd9 h x = some p->p):R (fun B=>F B\/∃ b,m b = some B) w (Zeg h x) n m X:=freezeW_R hr (JV hx) hn
theorem ZiK {p q:Option Prop} (h:∀ r,bothP p q = some r->r):∀ r,p = some r->r:=by
 intro r hr; subst hr
 cases q with
 | none=>exact h r rfl
 | some q=>exact (h _ rfl).1
theorem ZjC {p q:Option Prop} (h:∀ r,bothP p q = some r->r):∀ r,q = some r->r:=by
 intro r hr; subst hr
 cases p with
 | none=>exact h r rfl
 | some p=>exact (h _ rfl).2
theorem Zhc (hr:HR base m F h n w):∀ (v:V),(∀ p,KV h v = some p->p)->(∀ x,R F w v n m x->R (fun B=>F B\/∃ b,m b = some B) w (freeze h v) n m x)/\(∀ xs,RL F w v n m xs->RL (fun B=>F B\/∃ b,m b = some B) w (freeze h v) n m xs):=by
 have keep:∀ v,(∀ x,R F w v n m x->R (fun B=>F B\/∃ b,m b = some B) w v n m x)/\(∀ xs,RL F w v n m xs->RL (fun B=>F B\/∃ b,m b = some B) w v n m xs):=
  fun v=>YK (Z4.refl w) (fun B h=>.inl h) (fun _ _=>rfl) v n n m m (Nat.le_refl _) (fun _ _ _ h=>h)
 intro v
 induction v with
 | cons a t ih1 ih2=>
  intro hn
  refine ⟨fun x hx=>by simp only [R] at hx,fun xs hx=>?_⟩
  simp only [RL] at hx
  obtain ⟨x,r,rfl,h1,h2⟩:=hx
  simp only [freeze,RL]
  exact ⟨x,r,rfl,(ih1 (ZiK hn)).1 _ h1,(ih2 (ZjC hn)).2 _ h2⟩
 | agg cs ih=>
  intro hn
  refine ⟨fun x hx=>?_,fun xs hx=>by simp only [RL] at hx⟩
  simp only [R] at hx
  obtain ⟨xs,rfl,h1⟩:=hx
  simp only [freeze,R]
  exact ⟨xs,rfl,(ih hn).2 _ h1⟩
 | osl st b es i k=>exact fun hn=>⟨fun x hx=>ZfV hr hx hn,fun xs hx=>by simp only [RL] at hx⟩
 | osp st b es i k c=>exact fun hn=>⟨fun x hx=>ZfV hr hx hn,fun xs hx=>by simp only [RL] at hx⟩
 | _=>intro hn; exact keep _
theorem Zdf {F:Nat->Prop} {w:World} {n:Nat} {m:Nat->Option Nat}:∀ (v:V),v.YZ.clean = true/\v.YZ.len = v.len/\(∀ x,R F w v n m x->R F w v.YZ n m x)/\(∀ xs,RL F w v n m xs->RL F w v.YZ n m xs):=by
 intro v
 induction v with
 | cons a t ih1 ih2=>
  refine ⟨by simp only [V.YZ,V.clean,ih1.1,ih2.1,Bool.and_self],by simp only [V.YZ,V.len,ih2.2.1],fun x hx=>by simp only [R] at hx,fun xs hx=>?_⟩
  simp only [V.YZ,RL] at hx ⊢
  obtain ⟨x,r,rfl,h1,h2⟩:=hx
  exact ⟨x,r,rfl,ih1.2.2.1 _ h1,ih2.2.2.2 _ h2⟩
 | agg cs ih=>
  refine ⟨by simp only [V.YZ,V.clean,ih.1],rfl,fun x hx=>?_,fun xs hx=>by simp only [RL] at hx⟩
  simp only [V.YZ,R] at hx ⊢
  obtain ⟨xs,rfl,h1⟩:=hx
  exact ⟨xs,rfl,ih.2.2.2 _ h1⟩
 | tup cs ih=>
  refine ⟨by simp only [V.YZ,V.clean,ih.1],rfl,fun x hx=>?_,fun xs hx=>by simp only [RL] at hx⟩
  simp only [V.YZ,R] at hx ⊢
  obtain ⟨xs,rfl,h1⟩:=hx
  exact ⟨xs,rfl,ih.2.2.2 _ h1⟩
 | fn f a b ih1 ih2=>
  refine ⟨by simp only [V.YZ,V.clean,ih1.1,ih2.1,Bool.and_self],rfl,fun x hx=>?_,fun xs hx=>by simp only [RL] at hx⟩
  simp only [V.YZ,R] at hx ⊢
  obtain ⟨xs,ys,rfl,h1,h2⟩:=hx
  exact ⟨xs,ys,rfl,ih1.2.2.2 _ h1,ih2.2.2.2 _ h2⟩
 | ptr st b es i o=>exact ⟨rfl,rfl,fun x hx=>by simp only [V.YZ,R],fun xs hx=>by simp only [RL] at hx⟩
 | osl st b es i k=>exact ⟨rfl,rfl,fun x hx=>by simp only [V.YZ,R],fun xs hx=>by simp only [RL] at hx⟩
 | osp st b es i k c=>exact ⟨rfl,rfl,fun x hx=>by simp only [V.YZ,R],fun xs hx=>by simp only [RL] at hx⟩
 | yld b=>exact ⟨rfl,rfl,fun x hx=>by simp only [V.YZ,R],fun xs hx=>by simp only [RL] at hx⟩
 | mp b=>exact ⟨rfl,rfl,fun x hx=>by simp only [V.YZ,R],fun xs hx=>by simp only [RL] at hx⟩
 | _=>exact ⟨rfl,rfl,fun x hx=>hx,fun xs hx=>hx⟩
theorem ZhY {F F':Nat->Prop} (hF:∀ B,F B->F' B) {v:V} {xs:List Value} (h:RL F w v n m xs):RL F' w v.YZ 0 (fun _=>none) xs:=
 (YK (Z4.refl w) hF (fun _ _=>rfl) _ 0 0 _ _ (Nat.le_refl _) (fun _ _ _ h=>h)).2 _ ((WU _ (Zdf (F:=F) (w:=w) (n:=n) (m:=m) v).1 n 0 m _).2 _ ((Zdf v).2.2.2 _ h))
theorem fzLeafW_R (hr:HR base m F h n w) {g:V->V} (hg:∀ v xs,RL F w v n m xs->RL (fun B=>F B\/∃ b,m b = some B) w (g v) n m xs) {x:V} {X:Value} (hx:R F w x n m X) :
  R (fun B=>F B\/∃ b,m b = some B) w (ZdF h g x) n m X:=by
 have base':R (fun B=>F B\/∃ b,m b = some B) w x n m X:=(YK (Z4.refl w) (fun B h=>.inl h) (fun _ _=>rfl) x n n m m (Nat.le_refl _) (fun _ _ _ h=>h)).1 X hx
 unfold ZdF
 split
 ·rename_i st b es i o
  split
  ·rename_i cs hb
   cases st
   ·exact base'
   simp only [cond_true]
   rw [Xi] at hx
   obtain ⟨hbn,B,rfl,hB⟩:=hx
   have hblk:=hr.blk b hbn
   rw [hb] at hblk
   obtain ⟨B',xs,el',ys,zs,hm,hcell,hsp,hrl⟩:=hblk
   obtain rfl:B = B':=by rw [hB] at hm; injection hm
   rw [WW]
   refine ⟨by omega,B,0,by simp,.inr ⟨b,hB⟩,xs,el',(0,0),hcell,fun j hj=>?_⟩
   obtain rfl:j = 0:=by omega
   refine ⟨ys,ZhY (fun _ h=>h) (hg _ _ hrl),(Y5 _ _ hrl).symm,fun q hq=>?_⟩
   rw [Y5 _ _ hrl] at hq
   simp only [Nat.zero_mul,Nat.zero_add]
   exact Jv hsp hq
  ·rename_i es' K get hb
   cases hc:(Nat.beq es es'&&(st&&Nat.blt i K))
   ·exact base'
   simp only [Bool.and_eq_true] at hc
   obtain ⟨he,-,hlt⟩:=hc
   obtain rfl:=Nat.eq_of_beq_eq_true he
   have hlt':i < K:=by simpa [Nat.blt_eq] using hlt
   simp only [cond_true]
   rw [Xi] at hx
   obtain ⟨hbn,B,rfl,hB⟩:=hx
   have hblk:=hr.blk b hbn
   rw [hb] at hblk
   rcases hblk with ⟨h0,_⟩ | ⟨B',c',el',hm,hcell,hz',hall⟩
   ·omega
   obtain rfl:B = B':=by rw [hB] at hm; injection hm
   rw [WW]
   refine ⟨hlt',B,0,by simp,.inr ⟨b,hB⟩,c',el',(0,0),hcell,fun j hj=>?_⟩
   obtain ⟨xs,g1,g2,g3⟩:=hall j hj
   refine ⟨xs,?_,g2,fun q hq=>?_⟩
   ·exact (YK (Z4.refl w) (fun B h=>.inl h) (fun _ _=>rfl) _ 0 0 _ _ (Nat.le_refl _) (fun _ _ _ h=>h)).2 _ g1
   ·rw [Nat.zero_add]; exact g3 q hq
  ·exact base'
 ·rename_i st b es i k
  split
  ·rename_i cs hb
   cases hc:(st&&Nat.ble ((i + k) * es) cs.len)
   ·exact base'
   simp only [Bool.and_eq_true] at hc
   have hle':=Nat.le_of_ble_eq_true hc.2
   simp only [cond_true]
   rw [Yb] at hx
   obtain ⟨hbn,a,cap,rfl,hk,hrow⟩:=hx
   have hblk:=hr.blk b hbn
   rw [hb] at hblk
   obtain ⟨B',xs,el',ys,zs,hm,hcell,hsp,hrl⟩:=hblk
   rw [Xk]
   refine ⟨a,cap,rfl,hk,?_⟩
   rcases hrow with h0 | ⟨B,c,el,fr,rfl,hB,hcc,hz⟩
   ·exact .inl (by omega)
   right
   obtain rfl:B = B':=by rw [hB] at hm; injection hm
   refine ⟨B,i * es,rfl,.inr ⟨b,hB⟩,xs,el',(0,0),hcell,fun j hj=>?_⟩
   have hlen:=Y5 _ _ hrl
   rw [hlen] at hle'
   have hpl:=KY hsp
   have hjk:(i + j + 1) * es<=(i + k) * es:=Nat.mul_le_mul_right es (by omega)
   rw [Nat.add_mul,Nat.one_mul] at hjk
   refine ⟨(ys.drop ((i + j) * es)).take es,Kn _ _ (K8 _ _ (ZhY (fun _ h=>h) (hg _ _ hrl)) _) _,?_,fun q hq=>?_⟩
   ·simp; omega
   ·rw [List.getElem?_take_of_lt hq,List.getElem?_drop,<- Nat.add_mul]
    exact Jv hsp (by omega)
  ·rename_i es' K get hb
   cases hc:(Nat.beq es es'&&(st&&Nat.ble (i + k) K))
   ·exact base'
   simp only [Bool.and_eq_true] at hc
   obtain ⟨he,-,hlt⟩:=hc
   have hik:=Nat.le_of_ble_eq_true hlt
   obtain rfl:=Nat.eq_of_beq_eq_true he
   simp only [cond_true]
   rw [Yb] at hx
   obtain ⟨hbn,a,cap,rfl,hk,hrow⟩:=hx
   rw [Xk]
   refine ⟨a,cap,rfl,hk,?_⟩
   rcases hrow with h0 | ⟨B,c,el,fr,rfl,hB,hcc,hz⟩
   ·exact .inl (by omega)
   have hblk:=hr.blk b hbn
   rw [hb] at hblk
   rcases hblk with ⟨h0,_⟩ | ⟨B',c',el',hm,hcell,hz',hall⟩
   ·exact .inl (by omega)
   right
   obtain rfl:B = B':=by rw [hB] at hm; injection hm
   refine ⟨B,i * es,rfl,.inr ⟨b,hB⟩,c',el',(0,0),hcell,fun j hj=>?_⟩
   obtain ⟨xs,g1,g2,g3⟩:=hall (i + j) (by omega)
   refine ⟨xs,?_,g2,fun q hq=>?_⟩
   ·exact (YK (Z4.refl w) (fun B h=>.inl h) (fun _ _=>rfl) _ 0 0 _ _ (Nat.le_refl _) (fun _ _ _ h=>h)).2 _ g1
   ·rw [<- Nat.add_mul]; exact g3 q hq
  ·exact base'
 ·rename_i b
  split
  ·rename_i kd st f ks hb
   simp only [R] at hx
   obtain ⟨hbn,B,rfl,hB⟩:=hx
   have hblk:=hr.blk b hbn
   rw [hb] at hblk
   obtain ⟨B',es,clock,e,hcell,hE,hf⟩:=hblk
   obtain rfl:B = B':=by rw [hB] at e; injection e
   simp only [R]
   refine ⟨B,rfl,.inr ⟨b,hB⟩,es,clock,hcell,hE.ent,fun k hk=>⟨(hf k hk).1,fun v hv=>?_⟩⟩
   exact (YK (Z4.refl w) (fun B h=>.inl h) (fun _ _=>rfl) _ 0 0 _ _ (Nat.le_refl _) (fun _ _ _ h=>h)).1 _ ((WU _ (Zdf (F:=F) (w:=w) (n:=n) (m:=m) (f k).2).1 n 0 m _).1 _ ((Zdf (f k).2).2.2.1 _ ((hf k hk).2 v hv)))
  ·exact base'
 ·exact base'
theorem fzLeaf_R (hr:HR base m F h n w) {g:V->V} (hg:∀ v xs,RL F w v n m xs->RL (fun B=>F B\/∃ b,m b = some B) w (g v) n m xs) {x:V} {X:Value} (hx:R F w x n m X) :
  R (fun B=>F B\/∃ b,m b = some B) w (U4 h g x) n m X:=fzLeafW_R hr hg (JV hx)
theorem fz_R (hr:HR base m F h n w):∀ (k:Nat) (v:V),(∀ x,R F w v n m x->R (fun B=>F B\/∃ b,m b = some B) w (fz h k v) n m x)/\(∀ xs,RL F w v n m xs->RL (fun B=>F B\/∃ b,m b = some B) w (fz h k v) n m xs):=by
 intro k
 induction k with
 | zero=>exact fun v=>YK (Z4.refl w) (fun B h=>.inl h) (fun _ _=>rfl) v n n m m (Nat.le_refl _) (fun _ _ _ h=>h)
 | succ k ihk=>
  intro v
  have leaf:∀ v x,R F w v n m x->R (fun B=>F B\/∃ b,m b = some B) w (U4 h (fz h k) v) n m x:=fun v x hx=>fzLeaf_R hr (fun v=>(ihk v).2) hx
  show (∀ x,R F w v n m x->R (fun B=>F B\/∃ b,m b = some B) w (v.leaves (U4 h (fz h k))) n m x)/\(∀ xs,RL F w v n m xs->RL (fun B=>F B\/∃ b,m b = some B) w (v.leaves (U4 h (fz h k))) n m xs)
  generalize fz h k = g at leaf
  induction v with
  | cons a t ih1 ih2=>
   refine ⟨fun x hx=>by simp only [R] at hx,fun xs hx=>?_⟩
   simp only [V.leaves,RL] at hx ⊢
   obtain ⟨x,r,rfl,h1,h2⟩:=hx
   exact ⟨x,r,rfl,ih1.1 _ h1,ih2.2 _ h2⟩
  | agg cs ih=>
   refine ⟨fun x hx=>?_,fun xs hx=>by simp only [RL] at hx⟩
   simp only [V.leaves,R] at hx ⊢
   obtain ⟨xs,rfl,h1⟩:=hx
   exact ⟨xs,rfl,ih.2 _ h1⟩
  | tup cs ih=>
   refine ⟨fun x hx=>?_,fun xs hx=>by simp only [RL] at hx⟩
   simp only [V.leaves,R] at hx ⊢
   obtain ⟨xs,rfl,h1⟩:=hx
   exact ⟨xs,rfl,ih.2 _ h1⟩
  | fn f a b ih1 ih2=>
   refine ⟨fun x hx=>?_,fun xs hx=>by simp only [RL] at hx⟩
   simp only [V.leaves,R] at hx ⊢
   obtain ⟨xs,ys,rfl,h1,h2⟩:=hx
   exact ⟨xs,ys,rfl,ih1.2 _ h1,ih2.2 _ h2⟩
  | nil=>exact ⟨fun x hx=>by simp only [R] at hx,fun xs hx=>by simp only [RL] at hx; subst hx; simp only [V.leaves,U4,V.Xo,ZdF,RL]⟩
  | _=>exact ⟨fun x hx=>leaf _ x hx,fun xs hx=>by simp only [RL] at hx⟩
theorem Zcs {α:Type} {P:Program} {p:Option Prop} {T:Tree α} {Q:α->Prop} (h:(Uk p T).holds P Q):(∀ r,p = some r->r)/\T.holds P Q:=by
 cases p with
 | none=>exact ⟨fun r h=>(by cases h),h⟩
 | some p=>exact ⟨fun r h'=>by injection h' with h'; subst h'; exact h.1,h.2⟩
theorem Zik {E:Env} {o:Oper} {c:Call} {f:Operand} {g:FuncId} {out v:V} {Q:V->Prop} {K:Act->World->Prop} {Qx:Exit->Act->World->Prop}
  (ho:o.op = .call c) (hcal:c.callee = .value f) (hρ:∀ x,R F w (ρ x) n m (a.eval x)) (hc:callee (ρ f) (.ofList (c.args.toList.map ρ)) = some (g,out))
  (hm:Zi E.P g (freeze h out) v) (hfn:∀ p,KV h out = some p->p) (hcl:(freeze h out).clean = true) (hcv:v.clean = true) (hrl:v.YG = true) (hr:HR base m F h n w) (hq:Q v)
  (hK:∀ v x w' F',Q v->Later F w F' w'->R F' w' v n m x->K (a.put o.dst x) w'):o.wp E.P a w K Qx:=by
 obtain ⟨hhas,hm⟩:=hm
 obtain ⟨ys,h1,h2⟩:=Zg8 (P:=E.P) ho hcal hρ hc hhas
 unfold Oper.wp
 rw [h2]
 simp only [Oper.upon]
 have hfd:∀ B,(F B\/∃ b,m b = some B)->B < w.heap.size:=fun B hB=>hB.elim (hr.fdom B) fun ⟨b,hb⟩=>hr.dom b B hb
 refine (hm (fun B=>F B\/∃ b,m b = some B) w ys hfd (hr.gl.mono (Z4.refl w) (fun B h=>.inl h) (fun _ _=>rfl)) ((WU _ hcl n 0 m _).2 _ ((Zhc hr _ hfn).2 _ h1))).mono fun e w' he=>?_
 obtain ⟨x,F',rfl,hl,hR⟩:=he
 exact hK v x w' F hq ⟨fun _ h=>h,fun _ h=>.inl h,hl.keep,hl.size,fun h B hB=>Nat.lt_of_lt_of_le (h B hB) hl.size,hl.calm⟩ ((ZfX v hcv hrl 0 n _ m).1 _ hR)
theorem Zd3 {a b:MK} (h:JJ a b = true):a = b:=by
 cases a <;> cases b <;> first | (cases h; done) | rfl | (simp only [JJ,decide_eq_true_eq] at h; rw [h])
theorem Zhv {P:Program} {kt:TypeId} {kd:MK} (h:mkOf P kt = some kd):∃ d,P.underlying kt = some d/\kd.of d = true:=by
 unfold mkOf at h
 split at h
 ·rename_i k hu; injection h with h; subst h; exact ⟨_,hu,by simp [MK.of]⟩
 ·rename_i hu; injection h with h; subst h; exact ⟨_,hu,rfl⟩
 ·cases h
theorem ZgK {kd:MK} {x:V} {X:Value} {sk:Bool} {key:Value} (h:keyOf kd x = some (sk,key)) (hx:R F w x n m X):X = key/\kd.is key = true:=by
 cases x <;> try (cases h; done)
 ·rename_i st k q
  cases kd <;> try (cases h; done)
  rename_i k'
  simp only [keyOf] at h
  split at h
  ·rename_i hk
   subst hk
   injection h with h; injection h with h1 h2; subst h2
   simp only [R] at hx
   exact ⟨hx,by simp [MK.is]⟩
  ·cases h
 ·rename_i st q
  cases kd <;> try (cases h; done)
  injection h with h; injection h with h1 h2; subst h2
  simp only [R] at hx
  exact ⟨hx,rfl⟩
theorem zeroV_run {P:Program} {t:TypeId} {z:V} (h:zeroV P t = some z):∃ zv,(zeroValue t).run P w = .ok zv w/\R F w z n m zv:=by
 unfold zeroV at h
 cases hi:P.info? t with
 | none=>rw [hi] at h; cases h
 | some i=>
  rw [hi] at h
  dsimp only at h
  cases hz:i.zero with
  | none=>rw [hz] at h; cases h
  | some zv=>
   rw [hz] at h
   injection h with h; subst h
   exact ⟨zv,by simp only [zeroValue,typeInfo,Sem.run_bind,run_program,Result.andThen_ok,hi,hz,Sem.run_pure],R_const zv⟩
theorem Zgn {st has:Bool} {v z:V} {o:Option Value} {zv:Value} (h1:has = o.isSome) (h2:∀ x,o = some x->R F w v n m x) (hz:R F w z n m zv):R F w (foundV st has v z) n m (o.getD zv):=by
 subst h1
 have key:R F w (bif o.isSome then v else z) n m (o.getD zv):=by
  cases o with
  | none=>exact hz
  | some x=>exact h2 x rfl
 cases st with
 | false=>exact Ku key
 | true=>cases o with
  | none=>exact hz
  | some x=>exact h2 x rfl
theorem ZfT {ok st has:Bool} {v:V} {x:Value} (h:R F w v n m x):R F w (GV ok st has v) n m (if ok then .tuple #[x,.bool has] else x):=by
 cases ok with
 | false=>exact h
 | true=>
  simp only [GV,if_true,R,RL]
  exact ⟨_,rfl,x,_,rfl,h,_,_,rfl,by rw [JQ,XP],rfl⟩
theorem Zjk {P:Program} (hr:HR base m F h n w) {t:TypeId} {x ix:V} {X IX:Value} {ok:Bool} (hx:R F w x n m X) (hi:R F w ix n m IX):Val P F w n m (Gc P h t x ix ok) (Instr.lookup t X IX ok):=by
 unfold Gc
 split
 case h_2=>exact Val.stuck
 rename_i kt et hu
 split
 case h_2=>exact Val.stuck
 rename_i kd z hkd hz
 split
 case h_2=>exact Val.stuck
 rename_i sk key hk
 obtain ⟨d,hd,hof⟩:=Zhv hkd
 obtain ⟨zv,hzr,hzR⟩:=zeroV_run (F:=F) (w:=w) (n:=n) (m:=m) hz
 obtain ⟨rfl,his⟩:=ZgK hk hi
 split
 ·simp only [R] at hx
  subst hx
  exact Val.leaf (ZiN hu hd hof his hzr ok) (ZfT hzR)
 ·rename_i b
  simp only [R] at hx
  obtain ⟨hbn,B,rfl,hB⟩:=hx
  have hblk:=hr.blk b hbn
  split
  case h_2=>exact Val.stuck
  rename_i kd' st f ks hb
  cases hs:JJ kd kd'
  ·exact Val.stuck
  obtain rfl:=Zd3 hs
  rw [hb] at hblk
  obtain ⟨B',es,clock,e,hcell,hE,hf⟩:=hblk
  obtain rfl:B = B':=by rw [hB] at e; injection e
  obtain ⟨h1,h2⟩:=hf IX his
  have:=Zix (P:=P) hu hd hof hcell hE.ent his hzr ok
  refine Val.leaf this ?_
  rw [h1]
  exact ZfT (Zgn rfl h2 hzR)
 ·rename_i st kd' has get
  cases hs:JJ kd kd'
  ·exact Val.stuck
  obtain rfl:=Zd3 hs
  simp only [R] at hx
  obtain ⟨B,rfl,_,es,clock,hcell,hE,hf⟩:=hx
  obtain ⟨h1,h2⟩:=hf IX his
  have:=Zix (P:=P) hu hd hof hcell hE his hzr ok
  refine Val.leaf this ?_
  rw [h1]
  exact ZfT (Zgn rfl (fun v hv=>(YK (Z4.refl w) (fun B h=>h) (fun _ _=>rfl) _ 0 n (fun _=>none) m (Nat.zero_le _) (fun b hb=>absurd hb (Nat.not_lt_zero _))).1 _ (h2 v hv)) hzR)
 ·exact Val.stuck
theorem evQ_wp {E:Env} (hE:E.Ok) {o:Oper} {T:Tree V} {Q:V->Prop} {K:Act->World->Prop} {Qx:Exit->Act->World->Prop}
  (hr:HR base m F h n w) (hρ:∀ x,R F w (ρ x) n m (a.eval x)) (hT:evQ E ρ h o.op = some T) (hq:T.holds E.P Q)
  (hK:∀ v x w' F',Q v->Later F w F' w'->R F' w' v n m x->K (a.put o.dst x) w'):o.wp E.P a w K Qx:=by
 cases ho:o.op <;> rw [ho] at hT <;> simp only [evQ] at hT <;> try (cases hT; done)
 case move x=>injection hT with hT; subst hT; exact XE (sem:=pure (a.eval x)) (by simp only [execOp,ho]; rfl) (Val.leaf rfl (hρ x)) hq hK
 case assign x=>injection hT with hT; subst hT; exact XE (sem:=pure (a.eval x)) (by simp only [execOp,ho]; rfl) (Val.leaf rfl (hρ x)) hq hK
 case pick c x y=>
  injection hT with hT; subst hT
  exact XE (sem:=do pure (if <- asBool (a.eval c) then a.eval x else a.eval y)) (by simp only [execOp,ho,bind_assoc,pure_bind]) (ZlU (hρ c) (hρ x) (hρ y)) hq hK
 case build t parts=>
  injection hT with hT; subst hT
  refine XE (sem:=Instr.build t (parts.map fun p=>(p.1,a.eval p.2))) (by simp only [execOp,ho]) (ZiD ?_) hq hK
  simpa using ZgG (a:=a) hρ parts.toList
 case load t x=>injection hT with hT; subst hT; exact XE (by simp only [execOp,ho]) (Zfg hr (hρ x)) hq hK
 case nilCheck x=>
  injection hT with hT; subst hT
  obtain ⟨h1,h2,h3,h4,h5⟩:=Zl7 (hρ x) Q hq
  refine XE (sem:=pure (a.eval x)) (T:=.leaf (ρ x)) ?_ (Val.leaf rfl (hρ x)) h1 hK
  simp only [execOp,ho]
  rfl
 case binOp op t x y yt=>
  cases hb:J5 E.P op t x y (ρ x) (ρ y) with
  | some T'=>
   rw [hb] at hT
   injection hT with hT; subst hT
   exact XE (sem:=do eqGuard op t x y (a.eval x) (a.eval y); binOp op t (a.eval x) (a.eval y)) (by simp only [execOp,ho]) (evIfc_val hb (hρ x) (hρ y) (fun v h=>by subst h; rfl) (fun v h=>by subst h; rfl)) hq hK
  | none=>
   rw [hb] at hT
   injection hT with hT; subst hT
   exact XE (sem:=do eqGuard op t x y (a.eval x) (a.eval y); binOp op t (a.eval x) (a.eval y)) (by simp only [execOp,ho]) (evBin_val (hρ x) (hρ y)) hq hK
 case unOp op t x=>injection hT with hT; subst hT; exact XE (by simp only [execOp,ho]) (evUn_val (hρ x)) hq hK
 case convert src dst x=>
  cases hb:ZbX E.P src dst (ρ x) with
  | some T'=>
   rw [hb] at hT
   injection hT with hT; subst hT
   exact wp_bytes ho hρ hb hq hK
  | none=>
   rw [hb] at hT
   injection hT with hT; subst hT
   exact XE (by simp only [execOp,ho]) (Zmc hr (hρ x)) hq hK
 case makeFunc f first cap=>
  injection hT with hT; subst hT
  refine XE (sem:=Instr.makeFunc f (first.map a.eval) (cap.map a.eval)) (by simp only [execOp,ho]) (Val.leaf rfl ?_) hq hK
  simp only [R]
  refine ⟨_,_,rfl,?_,?_⟩
  ·simpa using Vw (a:=a) hρ first.toList
  ·simpa using Vw (a:=a) hρ cap.toList
 case slice t x lo hi mx=>
  injection hT with hT; subst hT
  exact XE (by simp only [execOp,ho]) (ZkY hr (hρ x) (optV hρ).1 (optV hρ).2 (optV hρ).1 (optV hρ).2 (optV hρ).1 (optV hρ).2) hq hK
 case fieldAddr s x f=>injection hT with hT; subst hT; exact XE (by simp only [execOp,ho]) (ZkB (hρ x)) hq hK
 case field t x f=>injection hT with hT; subst hT; exact XE (by simp only [execOp,ho]) (Zks (hρ x)) hq hK
 case indexAddr t x ix=>injection hT with hT; subst hT; exact XE (by simp only [execOp,ho]) (Zl6 (JV (hρ x)) (hρ ix)) hq hK
 case index t x ix=>injection hT with hT; subst hT; exact XE (by simp only [execOp,ho]) (ZkE (hρ x) (hρ ix)) hq hK
 case lookup t x ix ok=>injection hT with hT; subst hT; exact XE (by simp only [execOp,ho]) (Zjk hr (hρ x) (hρ ix)) hq hK
 case extract x i=>injection hT with hT; subst hT; exact XE (by simp only [execOp,ho]) (Zml (hρ x)) hq hK
 case call c=>
  cases hcal:c.callee with
  | builtin b=>rw [hcal] at hT; exact Zko ho hcal hρ hT hq hK
  | invoke r nm=>rw [hcal] at hT; cases hT
  | value f=>
   rw [hcal] at hT
   dsimp only at hT
   cases hc:callee (ρ f) (.ofList (c.args.toList.map ρ)) with
   | none=>rw [hc] at hT; cases hT
   | some r=>
    obtain ⟨g,args⟩:=r
    rw [hc] at hT
    dsimp only at hT
    cases hg:E.Γ g args with
    | none=>rw [hg] at hT; cases hT
    | some ans=>
     rw [hg] at hT
     cases ans with
     | sure v=>
      dsimp only at hT
      cases h1:args.clean
      ·rw [h1] at hT; cases hT
      ·cases h2:v.clean
       ·rw [h1,h2] at hT; cases hT
       ·rw [h1,h2] at hT
        injection hT with hT; subst hT
        exact Zc6 ho hcal hρ hc (hE.sure _ _ _ hg) h1 h2 hr.fdom hr.gl hq hK
     | where_ p v=>
      dsimp only at hT
      cases h1:args.clean
      ·rw [h1] at hT; cases hT
      ·cases h2:v.clean
       ·rw [h1,h2] at hT; cases hT
       ·rw [h1,h2] at hT
        injection hT with hT; subst hT
        exact Zc6 ho hcal hρ hc (hE.where_ _ _ _ _ hg hq.1) h1 h2 hr.fdom hr.gl hq.2 hK
     | fork b v v'=>
      dsimp only at hT
      cases h1:args.clean
      ·rw [h1] at hT; cases hT
      cases h2:v.clean
      ·rw [h1,h2] at hT; cases hT
      cases h3:v'.clean
      ·rw [h1,h2,h3] at hT; cases hT
      rw [h1,h2,h3] at hT
      injection hT with hT; subst hT
      cases b with
      | true=>exact Zc6 ho hcal hρ hc ((hE.fork _ _ _ _ _ hg).1 rfl) h1 h2 hr.fdom hr.gl (hq.1 rfl) hK
      | false=>exact Zc6 ho hcal hρ hc ((hE.fork _ _ _ _ _ hg).2 rfl) h1 h3 hr.fdom hr.gl (hq.2 rfl) hK
theorem Zjp {E:Env} (hE:E.Ok) {o:Oper} {c:Call} {f:Operand} {T:Tree V} {Q:V->Prop} {K:Act->World->Prop} {Qx:Exit->Act->World->Prop}
  (ho:o.op = .call c) (hcal:c.callee = .value f) (hr:HR base m F h n w) (hρ:∀ x,R F w (ρ x) n m (a.eval x)) (hT:Ub E ρ h f c = some T) (hq:T.holds E.P Q)
  (hK:∀ v x w' F',Q v->Later F w F' w'->R F' w' v n m x->K (a.put o.dst x) w'):o.wp E.P a w K Qx:=by
 unfold Ub at hT
 cases hc:callee (ρ f) (.ofList (c.args.toList.map ρ)) with
 | none=>rw [hc] at hT; cases hT
 | some r=>
  obtain ⟨g,args⟩:=r
  rw [hc] at hT
  dsimp only at hT
  cases h1:args.clean
  case true=>rw [h1] at hT; cases hT
  cases h0:(freeze h args).clean
  ·rw [h1,h0] at hT; cases hT
  rw [h1,h0] at hT
  simp only [cond_true,cond_false] at hT
  cases hg:E.Γ g (freeze h args) with
  | none=>rw [hg] at hT; cases hT
  | some ans=>
   rw [hg] at hT
   cases ans with
   | sure v=>
    dsimp only at hT
    cases h2:v.clean
    ·rw [h2] at hT; cases hT
    cases h3:v.YG
    ·rw [h2,h3] at hT; cases hT
    rw [h2,h3] at hT
    injection hT with hT; subst hT
    obtain ⟨hfn,hq⟩:=Zcs hq
    exact Zik ho hcal hρ hc (hE.sure _ _ _ hg) hfn h0 h2 h3 hr hq hK
   | where_ p v=>
    dsimp only at hT
    cases h2:v.clean
    ·rw [h2] at hT; cases hT
    cases h3:v.YG
    ·rw [h2,h3] at hT; cases hT
    rw [h2,h3] at hT
    injection hT with hT; subst hT
    obtain ⟨hfn,hq⟩:=Zcs hq
    exact Zik ho hcal hρ hc (hE.where_ _ _ _ _ hg hq.1) hfn h0 h2 h3 hr hq.2 hK
   | fork b v v'=>cases hT
theorem HR.layO (hr:HR base m F h n w) {h':Nat->Blk} {nm n':Nat} {blk:Blk} {o:Obj} (hnm:m nm = none) (hn:n<=n') (hlt:nm < n')
  (hnew:∀ b,n<=b->b < n'->b = nm) (hh:∀ b,h' b = if b = nm then blk else h b)
  (hblk:Ext base m F n w (fun b=>if b = nm then some w.heap.size else m b) F n' (w.alloc o)->RB F (w.alloc o) n' (fun b=>if b = nm then some w.heap.size else m b) blk (some w.heap.size)) :
  HR base (fun b=>if b = nm then some w.heap.size else m b) F h' n' (w.alloc o) /\
   Ext base m F n w (fun b=>if b = nm then some w.heap.size else m b) F n' (w.alloc o):=by
 have keep:∀ B,B < w.heap.size->(w.alloc o).heap[B]? = w.heap[B]?:=fun B hB=>heap_alloc_old w _ B hB
 have hext:Ext base m F n w (fun b=>if b = nm then some w.heap.size else m b) F n' (w.alloc o):=
  ⟨fun _ h=>h,fun _ h=>.inl h,fun B hB=>keep B (hB.elim (fun h=>Nat.lt_of_lt_of_le h hr.low) (hr.fdom B)),by simp,Z4.Jo keep,
   ⟨fun B hB _=>keep B hB,fun b B hb hB=>by
    by_cases e:b = nm
    ·rw [if_pos e] at hb; injection hb with hb; omega
    ·rw [if_neg e] at hb; exact ⟨b,hb⟩⟩,hn,
   fun b hb B hB=>by
    rw [if_neg (fun e=>by rw [e,hnm] at hB; cases hB)]
    exact hB,⟨rfl,rfl,rfl⟩⟩
 refine ⟨⟨Nat.le_trans hr.low (by simp),fun B hB=>by have:=hr.fdom B hB; simp; omega,fun b hb=>?_,fun b B hB=>?_,fun b hb=>?_,hr.gl.mono hext.sz (fun _ h=>h) (fun B hB=>keep B (hr.fdom B hB)),fun b B hB=>?_,fun b b' B h1 h2 hne=>?_⟩,hext⟩
 ·rw [hh b]
  by_cases e:b = nm
  ·subst e
   rw [if_pos rfl,if_pos rfl]
   exact hblk hext
  ·rw [if_neg e,if_neg e]
   have hbn:b < n:=by
    rcases Nat.lt_or_ge b n with h1 | h1
    ·exact h1
    ·exact absurd (hnew b h1 hb) e
   exact JD hext (fun B hB=>keep B (hr.dom b B hB)) (hr.blk b hbn)
 ·by_cases e:b = nm
  ·rw [if_pos e] at hB; injection hB with hB; subst hB; simp
  ·rw [if_neg e] at hB; have:=hr.dom b B hB; simp; omega
 ·rw [if_neg (by omega)]
  exact hr.new b (by omega)
 ·by_cases e:b = nm
  ·rw [if_pos e] at hB; injection hB with hB; subst hB
   exact ⟨hr.low,fun hF=>absurd (hr.fdom _ hF) (Nat.lt_irrefl _)⟩
  ·rw [if_neg e] at hB; exact hr.own b B hB
 ·by_cases e1:b = nm <;> by_cases e2:b' = nm
  ·exact absurd (e1.trans e2.symm) hne
  ·rw [if_pos e1] at h1; rw [if_neg e2] at h2
   injection h1 with h1; subst h1
   exact absurd (hr.ZdZ h2) (Nat.lt_irrefl _)
  ·rw [if_neg e1] at h1; rw [if_pos e2] at h2
   injection h2 with h2; subst h2
   exact absurd (hr.ZdZ h1) (Nat.lt_irrefl _)
  ·rw [if_neg e1] at h1; rw [if_neg e2] at h2
   rw [hh b,hh b',if_neg e1,if_neg e2]
   exact hr.inj b b' B h1 h2 hne
theorem HR.lay (hr:HR base m F h n w) {h':Nat->Blk} {nm n':Nat} {cs:V} {xs:Array Value} (el:TypeId) (hrow:RL F w cs n m xs.toList) (hnm:m nm = none) (hn:n<=n') (hlt:nm < n')
  (hnew:∀ b,n<=b->b < n'->b = nm) (hh:∀ b,h' b = if b = nm then .var cs else h b) :
  HR base (fun b=>if b = nm then some w.heap.size else m b) F h' n' (w.alloc (.cells xs el)) /\
   Ext base m F n w (fun b=>if b = nm then some w.heap.size else m b) F n' (w.alloc (.cells xs el)):=
 hr.layO hnm hn hlt hnew hh fun he=>⟨_,xs,el,xs.toList,[],rfl,heap_alloc_new w _,by simp,he.row hrow⟩
theorem HR.push (hr:HR base m F h n w) {h':Nat->Blk} {cs:V} {xs:Array Value} (el:TypeId) (hrow:RL F w cs n m xs.toList) (hh:∀ b,h' b = if b = n then .var cs else h b) :
  HR base (fun b=>if b = n then some w.heap.size else m b) F h' (n + 1) (w.alloc (.cells xs el)) /\
   Ext base m F n w (fun b=>if b = n then some w.heap.size else m b) F (n + 1) (w.alloc (.cells xs el)):=
 hr.lay el hrow (hr.new n (Nat.le_refl _)) (by omega) (by omega) (fun b h1 h2=>by omega) hh
end
end Go.Fw
namespace Go.Fw
theorem ZcO {α:Type} (xs:List α) (o:Nat) (vs:List α) (h:o + vs.length<=xs.length):xs.take o ++ vs ++ xs.drop (o + vs.length) = YU xs o vs:=by
 apply List.ext_getElem?
 intro j
 by_cases hj:j < xs.length
 ·rw [JG _ _ _ _ hj]
  by_cases h1:j < o
  ·rw [if_neg (by omega),List.append_assoc,List.getElem?_append_left (by simp; omega),List.getElem?_take_of_lt h1]
  ·by_cases h2:j < o + vs.length
   ·rw [if_pos ⟨by omega,h2⟩,List.append_assoc,List.getElem?_append_right (by simp; omega),List.getElem?_append_left (by simp; omega)]
    congr 1
    simp
    omega
   ·rw [if_neg (by omega),List.getElem?_append_right (by simp; omega),List.getElem?_drop]
    congr 1
    simp
    omega
 ·rw [List.getElem?_eq_none (by simp; omega),List.getElem?_eq_none (by rw [Wu]; omega)]
theorem Ziw {α:Type} (ys zs:List α) (o:Nat) (vs:List α) (h:o + vs.length<=ys.length):YU (ys ++ zs) o vs = YU ys o vs ++ zs:=by
 apply List.ext_getElem?
 intro j
 by_cases hj:j < (ys ++ zs).length
 ·rw [JG _ _ _ _ hj]
  by_cases h1:j < ys.length
  ·rw [List.getElem?_append_left h1,List.getElem?_append_left (show j < (YU ys o vs).length by rw [Wu]; exact h1),JG _ _ _ _ h1]
  ·rw [if_neg (by omega),List.getElem?_append_right (by omega),List.getElem?_append_right (show (YU ys o vs).length<=j by rw [Wu]; omega),Wu]
 ·rw [List.getElem?_eq_none (by rw [Wu]; omega),List.getElem?_eq_none (by simp [Wu] at hj ⊢; omega)]
section
variable {P:Program} {base:Nat} {m:Nat->Option Nat} {F:Nat->Prop} {h:Nat->Blk} {n:Nat} {w:World} {a:Act} {g:Nat->Blk} {h0:PT Blk}
theorem HR.turn (hr:HR base m F h n w) {h':Nat->Blk} {b B:Nat} (hb:m b = some B) {old new:Array Value} {el:TypeId} (hold:w.heap[B]? = some (.cells old el (0,0))) (hns:new.size = old.size) (hna:h b ≠ .any) {blk:Blk}
  (hh:∀ c,h' c = if c = b then blk else h c) (hblk:(∀ v n' m' xs,RL F w v n' m' xs->RL F (w.setRow B new) v n' m' xs)->RB F (w.setRow B new) n m blk (some B)) :
  HR base m F h' n (w.setRow B new)/\Ext base m F n w m F n (w.setRow B new):=by
 have hown:=hr.own b B hb
 have keep:∀ k,k ≠ B->(w.setRow B new).heap[k]? = w.heap[k]?:=fun k hk=>setRow_other w B k new hk
 have hsz:Z4 w (w.setRow B new):=fun k c el' fr hk=>by
  by_cases e:k = B
  ·subst e
   rw [hold] at hk
   injection hk with hk
   injection hk with h1 h2 h3
   subst h1; subst h2; subst h3
   exact ⟨new,_,setRow_heap w k _ new _ _ hold,hns⟩
  ·exact ⟨c,fr,by rw [keep k e]; exact hk,rfl⟩
 have hkF:∀ k,F k->(w.setRow B new).heap[k]? = w.heap[k]?:=fun k hk=>keep k fun e=>by subst e; exact hown.2 hk
 have hext:Ext base m F n w m F n (w.setRow B new):=
  ⟨fun _ h=>h,fun _ h=>.inl h,fun k hk=>keep k (fun e=>by subst e; rcases hk with h | h; exact absurd hown.1 (Nat.not_le.2 h); exact hown.2 h),by simp,hsz,⟨fun k _ hk=>keep k fun e=>hk b (by rw [e]; exact hb),fun c _ hc _=>⟨c,hc⟩⟩,Nat.le_refl _,fun _ _ _ h=>h,⟨rfl,rfl,rfl⟩⟩
 refine ⟨⟨by simpa using hr.low,fun k hk=>by simpa using hr.fdom k hk,fun c hc=>?_,fun c C hC=>by simpa using hr.dom c C hC,hr.new,hr.gl.mono hsz (fun _ h=>h) hkF,hr.own,fun c c' C h1 h2 hne=>?_⟩,hext⟩
 ·rw [hh c]
  by_cases e:c = b
  ·subst e
   rw [if_pos rfl,hb]
   exact hblk fun v n' m' xs hv=>(YK hsz (fun _ h=>h) hkF v n' n' m' m' (Nat.le_refl _) (fun _ _ _ h=>h)).2 xs hv
  ·rw [if_neg e]
   by_cases e2:m c = some B
   ·rcases hr.inj c b B e2 hb e with h1 | h1
    ·rw [h1]; exact trivial
    ·exact absurd h1 hna
   ·exact JD hext (fun k hk=>keep k fun e'=>by subst e'; exact e2 hk) (hr.blk c hc)
 ·rw [hh c,hh c']
  rcases hr.inj c c' C h1 h2 hne with h3 | h3
  ·left
   rw [if_neg (fun e=>hna (by rw [<- e]; exact h3))]
   exact h3
  ·right
   rw [if_neg (fun e=>hna (by rw [<- e]; exact h3))]
   exact h3
theorem HR.putO {h':Nat->Blk} (hr:HR base m F h n w) {b l:Nat} (hb:m b = some l) {o o':Obj} (hl:w.heap[l]? = some o) (hnc:∀ c el fr,o ≠ .cells c el fr) (hna:h b ≠ .any) {blk:Blk}
  (hh:∀ c,h' c = if c = b then blk else h c) (hblk:(∀ v x,R F w v n m x->R F (w.putObj l o') v n m x)->RB F (w.putObj l o') n m blk (some l)) :
  HR base m F h' n (w.putObj l o')/\Ext base m F n w m F n (w.putObj l o'):=by
 have hown:=hr.own b l hb
 have keep:∀ k,k ≠ l->(w.putObj l o').heap[k]? = w.heap[k]?:=fun k hk=>World.putObj_heap_other hk
 have hsz:Z4 w (w.putObj l o'):=fun B c el fr hB=>by
  have hne:B ≠ l:=fun e=>by subst e; rw [hl] at hB; injection hB with hB; exact hnc _ _ _ hB
  exact ⟨c,fr,by rw [keep B hne]; exact hB,rfl⟩
 have hkF:∀ k,F k->(w.putObj l o').heap[k]? = w.heap[k]?:=fun k hk=>keep k fun e=>by subst e; exact hown.2 hk
 have hext:Ext base m F n w m F n (w.putObj l o'):=
  ⟨fun _ h=>h,fun _ h=>.inl h,fun k hk=>keep k (fun e=>by subst e; rcases hk with h | h; exact absurd hown.1 (Nat.not_le.2 h); exact hown.2 h),by simp,hsz,
   ⟨fun k _ hk=>keep k fun e=>hk b (by rw [e]; exact hb),fun c _ hc _=>⟨c,hc⟩⟩,Nat.le_refl _,fun _ _ _ h=>h,⟨rfl,rfl,rfl⟩⟩
 refine ⟨⟨by simpa using hr.low,fun k hk=>by simpa using hr.fdom k hk,fun c hc=>?_,fun c C hC=>by simpa using hr.dom c C hC,hr.new,hr.gl.mono hsz (fun _ h=>h) hkF,hr.own,fun c c' C h1 h2 hne=>?_⟩,hext⟩
 ·rw [hh c]
  by_cases e:c = b
  ·subst e
   rw [if_pos rfl,hb]
   exact hblk fun v xs hv=>hext.val hv
  ·rw [if_neg e]
   by_cases e2:m c = some l
   ·rcases hr.inj c b l e2 hb e with h1 | h1
    ·rw [h1]; exact trivial
    ·exact absurd h1 hna
   ·exact JD hext (fun k hk=>keep k fun e'=>by subst e'; exact e2 hk) (hr.blk c hc)
 ·rw [hh c,hh c']
  rcases hr.inj c c' C h1 h2 hne with h3 | h3
  ·left
   rw [if_neg (fun e=>hna (by rw [<- e]; exact h3))]
   exact h3
  ·right
   rw [if_neg (fun e=>hna (by rw [<- e]; exact h3))]
   exact h3
theorem pickV_eq (c:Bool) (x y:V):pickV c x y = bif c then x else y:=by
 cases x with
 | bool s b=>
  cases y with
  | bool s' b'=>cases c <;> rfl
  | _=>rfl
 | int s k n=>
  cases y with
  | int s' k' n'=>
   show (if k = k' then V.int (bif c then s else s') k (bif c then n else n') else bif c then V.int s k n else V.int s' k' n') = _
   split
   ·rename_i h; subst h; cases c <;> rfl
   ·rfl
  | _=>rfl
 | _=>rfl
theorem Zgx {st:Bool} {f:Value->Bool×V} {key k:Value} {y:Bool×V}:(putF st f key y k).1 = bif Zj k key then y.1 else (f k).1:=by
 cases st with
 | true=>rfl
 | false=>rfl
theorem ZeJ {st:Bool} {f:Value->Bool×V} {key k:Value} {y:Bool×V} {F:Nat->Prop} {w:World} {n:Nat} {m:Nat->Option Nat} {z:Value} (h:R F w (bif Zj k key then y.2 else (f k).2) n m z):R F w (putF st f key y k).2 n m z:=by
 cases st with
 | true=>
  show R F w (pickV (Zj k key) y.2 (f k).2) n m z
  rw [pickV_eq]; exact h
 | false=>exact Ku h
theorem ZaL {P:Program} (hr:HR base m F h n w) {t:TypeId} {x k:V} {X K:Value} {y:Bool×V} {b:Nat} {blk:Blk} (hx:R F w x n m X) (hk:R F w k n m K) (hp:XM P h t x k y = some (b,blk)) :
  (∀ v,y.1 = true->R F w y.2 n m v->∃ w',(Instr.mapUpdate t X K v).run P w = .ok () w'/\(∀ h':Nat->Blk,(∀ c,h' c = if c = b then blk else h c)->HR base m F h' n w')/\Ext base m F n w m F n w') /\
  (y.1 = false->∀ (ty:TypeId) (ts:Array TypeId),ts[0]? = some t->∃ w',(Builtin.delete_ ts ty #[X,K]).run P w = .ok (.tuple #[]) w'/\(∀ h':Nat->Blk,(∀ c,h' c = if c = b then blk else h c)->HR base m F h' n w')/\Ext base m F n w m F n w'):=by
 unfold XM at hp
 split at hp
 case h_2=>cases hp
 rename_i kt et hu
 split at hp
 case h_2=>cases hp
 rename_i kd hkd
 split at hp
 case h_2=>cases hp
 rename_i sk key hko
 obtain ⟨d,hd,hof⟩:=Zhv hkd
 obtain ⟨rfl,his⟩:=ZgK hko hk
 split at hp
 case h_2=>cases hp
 rename_i b0
 split at hp
 case h_2=>cases hp
 rename_i blk0 hpm
 injection hp with hp; injection hp with e1 e2; subst e1; subst e2
 simp only [R] at hx
 obtain ⟨hbn,B,rfl,hB⟩:=hx
 have hblk:=hr.blk b0 hbn
 unfold putMap at hpm
 split at hpm
 case h_2=>cases hpm
 rename_i kd' st f ks hb
 cases hs:JJ kd kd'
 ·rw [hs] at hpm; cases hpm
 rw [hs] at hpm
 injection hpm with hpm
 subst hpm
 obtain rfl:=Zd3 hs
 rw [hb] at hblk
 obtain ⟨B',es,clock,e,hcell,hE,hf⟩:=hblk
 obtain rfl:B = B':=by rw [hB] at e; injection e
 have hne:h b0 ≠ .any:=by rw [hb]; simp
 have hlt:B < w.heap.size:=hr.dom b0 B hB
 refine ⟨fun v hy hv=>?_,fun hy ty ts hts=>?_⟩
 ·obtain ⟨es',clock',hrun,hE',hg,ht⟩:=Zld (P:=P) hu hd hof hcell hE.ent his v
  refine ⟨_,hrun,fun h' hh=>?_,?_⟩
  ·exact (hr.putO (h':=h') hB hcell (fun c el fr=>by simp) hne hh fun up=>⟨B,es',clock',rfl,World.putObj_heap_same hlt,(by rw [hy]; exact ht sk ks hE),fun k hk'=>by
    rw [hg k hk',Zgx]
    cases hkk:Zj k K
    ·simp only [hkk,cond_false]; exact ⟨(hf k hk').1,fun v hv=>ZeJ (by rw [hkk]; exact up _ _ ((hf k hk').2 v hv))⟩
    ·simp only [hkk,cond_true]; exact ⟨by rw [hy]; rfl,fun v' hv'=>ZeJ (by rw [hkk]; injection hv' with hv'; subst hv'; exact up _ _ hv)⟩⟩).1
  ·exact (hr.putO (h':=fun c=>if c = b0 then .any else h c) (blk:=.any) hB hcell (fun c el fr=>by simp) hne (fun _=>rfl) fun _=>trivial).2
 ·obtain ⟨es',clock',hrun,hE',hg⟩:=run_erase (P:=P) hu hd hof hcell hE.ent his ty ts hts
  refine ⟨_,hrun,fun h' hh=>?_,?_⟩
  ·exact (hr.putO (h':=h') hB hcell (fun c el fr=>by simp) hne hh fun up=>⟨B,es',clock',rfl,World.putObj_heap_same hlt,(by rw [hy]; exact J2.unk hE'),fun k hk'=>by
    rw [hg k hk',Zgx]
    cases hkk:Zj k K
    ·simp only [hkk,cond_false]; exact ⟨(hf k hk').1,fun v hv=>ZeJ (by rw [hkk]; exact up _ _ ((hf k hk').2 v hv))⟩
    ·simp only [hkk,cond_true]; exact ⟨by rw [hy]; rfl,fun v' hv'=>by cases hv'⟩⟩).1
  ·exact (hr.putO (h':=fun c=>if c = b0 then .any else h c) (blk:=.any) hB hcell (fun c el fr=>by simp) hne (fun _=>rfl) fun _=>trivial).2
theorem ZgL {P:Program} {t:TypeId} {r:Option V} {X:Option Value} {blk:Blk} (hp:Vk P t r = some blk) (hX:∀ v,r = some v->∃ x,X = some x/\R F w v n m x) (hX0:r = none->X = none) :
  (Instr.makeMap t X).run P w = .ok (.map (some w.heap.size)) (w.alloc (.map #[] 0))/\∃ kd z,blk = .Ze kd true (fun _=>(false,z)) (some (0,[])):=by
 unfold Vk at hp
 split at hp
 case h_2=>cases hp
 rename_i kt et hu
 split at hp
 case h_2=>cases hp
 rename_i kd hkd
 split at hp
 ·injection hp with hp
  rw [hX0 rfl]
  exact ⟨by simp [Instr.makeMap,Result.andThen],kd,_,hp.symm⟩
 ·rename_i st k q
  injection hp with hp
  obtain ⟨x,rfl,hx⟩:=hX _ rfl
  simp only [R] at hx
  subst hx
  exact ⟨by simp [Instr.makeMap,run_underlying hu,asInt,asIntOf,Result.andThen],kd,_,hp.symm⟩
 ·cases hp
theorem Zgr {n':Nat} {m':Nat->Option Nat} {kd:MK} {z:V} {B:Nat} (h:w.heap[B]? = some (.map #[] 0)):RB F w n' m' (.Ze kd true (fun _=>(false,z)) (some (0,[]))) (some B):=
 ⟨B,#[],0,rfl,h,⟨Entries.nil,fun c l e=>by injection e with e; injection e with e1 e2; subst e1; subst e2; exact ⟨rfl,rfl⟩⟩,fun k _=>⟨rfl,fun v hv=>by cases hv⟩⟩
theorem Zmr {P:Program} (hr:HR base m F h n w) {t:TypeId} {x:V} {X:Value} {blk:Blk} (hx:R F w x n m X) (hz:Zck P h t x = some blk) :
  ∃ ob,(Instr.range t X).run P w = .ok (.pointer (some ⟨w.heap.size,0,none⟩)) (w.alloc ob) /\
   ∀ (n':Nat) (m':Nat->Option Nat) (w':World),n<=n'->(∀ b,b < n->∀ B,m b = some B->m' b = some B)->w'.heap[w.heap.size]? = some ob->RB F w' n' m' blk (some w.heap.size):=by
 unfold Zck at hz
 split at hz
 case h_2=>cases hz
 rename_i kt et hu
 split at hz
 ·injection hz with hz; subst hz
  simp only [R] at hx; subst hx
  exact ⟨_,run_range_nilMap w t kt et hu,fun n' m' w' _ _ hc=>⟨_,none,rfl,hc,rfl⟩⟩
 ·rename_i b
  split at hz
  case h_2=>cases hz
  rename_i kd st f ks hb
  split at hz
  case h_2=>cases hz
  rename_i c l
  injection hz with hz; subst hz
  simp only [R] at hx
  obtain ⟨hbn,B,rfl,hB⟩:=hx
  have hblk:=hr.blk b hbn
  rw [hb] at hblk
  obtain ⟨B',es,clock,e,hcell,hE,hf⟩:=hblk
  obtain rfl:B = B':=by rw [hB] at e; injection e
  obtain ⟨rfl,_⟩:=hE.told _ _ rfl
  exact ⟨_,run_range_map w t kt et B es clock hu hcell,fun n' m' w' hn hm hc=>⟨_,some B,rfl,hc,B,by omega,rfl,hm b hbn B hB⟩⟩
 ·cases hz
theorem Zjv {P:Program} {α β:Type} {f:α->Tree β} {Q:β->Prop}:∀ {l:List α},(oneOf f l).holds P Q->∀ x ∈ l,(f x).holds P Q:=by
 intro l
 induction l with
 | nil=>intro h; exact h.elim
 | cons y l ih=>
  intro h x hx
  cases l with
  | nil=>
   rcases List.mem_cons.1 hx with rfl | hx
   ·exact h
   ·cases hx
  | cons z l=>
   rcases List.mem_cons.1 hx with rfl | hx
   ·exact h.1
   ·exact ih h.2 x hx
theorem iter_at {X:Value} {b i o es:Nat} (hx:R F w (.ptr true b es i o) n m X) (hz:(Nat.beq es 0&&(Nat.beq i 0&&Nat.beq o 0)) = true):b < n/\∃ B,X = .pointer (some ⟨B,0,none⟩)/\m b = some B:=by
 simp only [Bool.and_eq_true] at hz
 obtain ⟨h1,h2,h3⟩:=hz
 obtain rfl:=Nat.eq_of_beq_eq_true h1
 obtain rfl:=Nat.eq_of_beq_eq_true h2
 obtain rfl:=Nat.eq_of_beq_eq_true h3
 rw [Xi] at hx
 obtain ⟨hb,B,rfl,hB⟩:=hx
 exact ⟨hb,B,rfl,hB⟩
theorem Zlo {P:Program} (hr:HR base m F h n w) {it:V} {X:Value} {str:Bool} (hx:R F w it n m X) (ty:TypeId) {Q:V×Option (Nat×Blk)->Prop} (hq:(evNext h it str).holds P Q) :
  ∃ v wr w' X',Q (v,wr)/\(Instr.next X str ty).run P w = .ok X' w'/\Ext base m F n w m F n w' /\
   (∀ h':Nat->Blk,(∀ c,h' c = match wr with | none=>h c | some (b,blk)=>if c = b then blk else h c)->HR base m F h' n w')/\R F w' v n m X':=by
 unfold evNext at hq
 split at hq
 ·exact hq.elim
 split at hq
 case h_2=>exact hq.elim
 rename_i st b es0 i o
 cases st with
 | false=>exact hq.elim
 | true=>
 cases hz:(Nat.beq es0 0&&(Nat.beq i 0&&Nat.beq o 0))
 ·rw [hz] at hq; exact hq.elim
 rw [hz] at hq
 simp only [Bool.and_self,cond_true] at hq
 obtain ⟨hbn,r,rfl,hB⟩:=iter_at hx hz
 have hblk:=hr.blk b hbn
 have stay:∀ h':Nat->Blk,(∀ c,h' c = h c)->HR base m F h' n w:=fun h' hh=>by
  have:h' = h:=funext hh
  subst this; exact hr
 split at hq
 case h_2=>exact hq.elim
 rename_i mb since seen last hb
 rw [hb] at hblk
 obtain ⟨r',x,e,hc,h1⟩:=hblk
 obtain rfl:r = r':=by rw [hB] at e; injection e
 split at hq
 ·dsimp only at h1
  subst h1
  refine ⟨_,none,w,.tuple #[.bool false],hq,?_,Ext.refl base m F n w,stay,by simp [R,RL]⟩
  simp only [Instr.next,getObj,Sem.run_bind,Sem.run,hc,Result.andThen]
  rfl
 ·rename_i mb
  obtain ⟨y,h2,rfl,h4⟩:=h1
  have hmblk:=hr.blk mb h2
  split at hq
  case h_2=>exact hq.elim
  rename_i kd st f ks hmb
  split at hq
  case h_2=>exact hq.elim
  rename_i c l
  rw [hmb] at hmblk
  obtain ⟨B',es,clock,e2,hcell,hE,hf⟩:=hmblk
  obtain rfl:y = B':=by rw [h4] at e2; injection e2
  obtain ⟨rfl,rfl⟩:=hE.told _ _ rfl
  cases hol:(oldL since (es.toList.map X9)&&Nat.ble since last)
  ·rw [hol] at hq; exact hq.elim
  rw [hol] at hq
  simp only [cond_true] at hq
  simp only [Bool.and_eq_true] at hol
  obtain ⟨ho1,ho2⟩:=hol
  obtain ⟨hold,hnd⟩:=Zh2 ho1
  have hold':∀ x ∈ es.toList,x.born < since:=fun x hx=>hold (X9 x) (List.mem_map.2 ⟨x,hx,rfl⟩)
  rcases run_next_at (P:=P) w ty r y since last seen.toArray es clock hc hcell hold' (Nat.le_of_ble_eq_true ho2) with ⟨hs,hrun⟩ | ⟨e,he,w1,hw1,hrun⟩
  ·have hnil:leftL seen (es.toList.map X9) = []:=by
    rw [<- Zhb,List.map_eq_nil_iff]
    exact List.eq_nil_of_length_eq_zero (by simpa using hs)
   rw [hnil] at hq
   exact ⟨_,none,w,_,hq,hrun,Ext.refl base m F n w,stay,by simp [R,RL]⟩
  ·have hmem:X9 e ∈ leftL seen (es.toList.map X9):=by
    rw [<- Zhb]
    exact List.mem_map.2 ⟨e,he,rfl⟩
   have hees:e ∈ es.toList:=by
    unfold leftOf at he
    simp at he
    simpa using he.1
   have hq':=hq
   split at hq'
   ·rename_i hnil
    rw [hnil] at hmem; cases hmem
   ·have hQ:=Zjv hq' _ hmem
    have hr1:HR base m F h n w1/\Ext base m F n w m F n w1:=by
     rcases hw1 with rfl | rfl
     ·exact ⟨hr,Ext.refl base m F n _⟩
     ·have hdrew:Later F w F w.drew:=⟨fun _ h=>h,fun _ h=>.inl h,fun _ _=>rfl,Nat.le_refl _,fun hd B hB=>hd B hB,⟨rfl,rfl,rfl⟩⟩
      exact ⟨hr.later hdrew,hr.ext hdrew⟩
    have hc1:w1.heap[r]? = some (.mapIter (some y) since seen.toArray last):=by rcases hw1 with rfl | rfl <;> exact hc
    have hlt:r < w1.heap.size:=hr1.1.dom b r hB
    have hput:=fun (h':Nat->Blk) (hh:∀ c',h' c' = if c' = b then Blk.iter (some mb) since (seen ++ [e.born]) clock else h c')=>hr1.1.putO (h':=h') hB hc1 (o':=.mapIter (some y) since (seen.toArray.push e.born) clock) (fun c el fr=>by simp) (by rw [hb]; simp) hh fun up=>
     ⟨r,some y,rfl,by rw [World.putObj_heap_same hlt]; simp,y,h2,rfl,h4⟩
    have hext:=(hput (fun c'=>if c' = b then Blk.iter (some mb) since (seen ++ [e.born]) clock else h c') (fun _=>rfl)).2
    refine ⟨_,some (b,.iter (some mb) since (seen ++ [e.born]) clock),_,_,hQ,hrun,hr1.2.trans hext,fun h' hh=>(hput h' hh).1,?_⟩
    have hval:=(hf e.key (hE.ent.is e hees)).2 e.val (Ziv hE.ent e hees)
    have hval':=hext.val (hr1.2.val hval)
    simp only [R,RL]
    exact ⟨_,rfl,_,_,rfl,rfl,_,_,rfl,ZaS _,_,_,rfl,hval',rfl⟩
theorem Zmi {P:Program} (hr:HR base m F h n w) {it:V} {X:Value} (hx:R F w it n m X):Val P F w n m (Ze7 h it) (Instr.entry X):=by
 unfold Ze7
 split
 case h_2=>exact Val.stuck
 rename_i st b es0 i o
 cases st with
 | false=>exact Val.stuck
 | true=>
 cases hz:(Nat.beq es0 0&&(Nat.beq i 0&&Nat.beq o 0))
 ·exact Val.stuck
 simp only [Bool.and_self,cond_true]
 obtain ⟨hbn,r,rfl,hB⟩:=iter_at hx hz
 have hblk:=hr.blk b hbn
 split
 case h_2=>exact Val.stuck
 rename_i mb since seen last hb
 rw [hb] at hblk
 obtain ⟨r',x,e,hc,h1⟩:=hblk
 obtain rfl:r = r':=by rw [hB] at e; injection e
 split
 ·exact Val.stuck
 rename_i mb
 obtain ⟨y,h2,rfl,h4⟩:=h1
 have hmblk:=hr.blk mb h2
 split
 case h_2=>exact Val.stuck
 rename_i kd st f ks hmb
 split
 case h_2=>exact Val.stuck
 rename_i c l
 split
 ·exact Val.stuck
 rename_i x rest hrev
 rw [hmb] at hmblk
 obtain ⟨B',es,clock,e2,hcell,hE,hf⟩:=hmblk
 obtain rfl:y = B':=by rw [h4] at e2; injection e2
 obtain ⟨rfl,rfl⟩:=hE.told _ _ rfl
 cases hol:(oldL since (es.toList.map X9)&&Nat.beq clock last)
 ·exact Val.stuck
 simp only [cond_true]
 simp only [Bool.and_eq_true] at hol
 obtain ⟨ho1,ho2⟩:=hol
 obtain ⟨hold,hnd⟩:=Zh2 ho1
 obtain rfl:=Nat.eq_of_beq_eq_true ho2
 split
 case h_2=>exact Val.stuck
 rename_i e' hfind
 have hmem:=List.mem_of_find?_eq_some hfind
 have hx':=List.find?_some hfind
 obtain ⟨e,hees,rfl⟩:=List.mem_map.1 hmem
 have hbx:e.born = x:=Nat.eq_of_beq_eq_true hx'
 have hseen:seen.toArray = (rest.reverse.toArray).push e.born:=by
  have:seen = rest.reverse ++ [x]:=by rw [<- List.reverse_reverse seen,hrev,List.reverse_cons]
  rw [this,hbx]; simp
 rw [hseen] at hc
 have hn:(es.toList.map (·.born)).Nodup:=by
  have:=hnd
  rw [List.map_map] at this
  exact this
 have hrun:=run_entry_at (P:=P) w r y since rest.reverse.toArray es clock e hc hcell hees hn
 refine Val.leaf hrun ?_
 have hval:=(hf e.key (hE.ent.is e hees)).2 e.val (Ziv hE.ent e hees)
 simp only [R,RL]
 exact ⟨_,rfl,_,_,rfl,ZaS _,_,_,rfl,hval,rfl⟩
theorem Zga {xs:List Value} (h:∀ x ∈ xs,(∀ c,x ≠ .agg c)/\∀ c,x ≠ .tuple c):∀ v ∈ xs,v.oneCell' = true:=by
 intro v hv
 obtain ⟨h1,h2⟩:=h v hv
 cases v <;> first | rfl | exact absurd rfl (h1 _) | exact absurd rfl (h2 _)
theorem HR.forget (hr:HR base m F h n w) {h':Nat->Blk} {b:Nat} (hh:∀ c,h' c = if c = b then .any else h c):HR base m F h' n w:=by
 refine ⟨hr.low,hr.fdom,fun c hc=>?_,hr.dom,hr.new,hr.gl,hr.own,fun c c' C h1 h2 hne=>?_⟩
 ·rw [hh c]
  by_cases e:c = b
  ·rw [if_pos e]; exact trivial
  ·rw [if_neg e]; exact hr.blk c hc
 ·rw [hh c,hh c']
  rcases hr.inj c c' C h1 h2 hne with h3 | h3
  ·left; by_cases e:c = b
   ·rw [if_pos e]
   ·rw [if_neg e]; exact h3
  ·right; by_cases e:c' = b
   ·rw [if_pos e]
   ·rw [if_neg e]; exact h3
theorem HR.ZfG (hr:HR base m F (look g h0) n w) (b:Option Nat):HR base m F (look g (Jl h0 b)) n w:=by
 cases b with
 | none=>exact hr
 | some b=>exact hr.forget (b:=b) fun c=>ZR _ _ _ _ _
theorem RB_more {n':Nat} {m':Nat->Option Nat} {blk:Blk} {B:Option Nat} (hn:n<=n') (hm:∀ b,b < n->∀ B,m b = some B->m' b = some B) (hb:RB F w n m blk B):RB F w n' m' blk B:=by
 have hm':=fun v=>YK (F:=F) (F':=F) (w:=w) (w':=w) (Z4.refl w) (fun _ h=>h) (fun _ _=>rfl) v n n' m m' hn hm
 cases blk with
 | none=>exact hb
 | any=>exact hb
 | var cs=>
  obtain ⟨b,xs,el,ys,zs,e,hc,hsp,hr⟩:=hb
  exact ⟨b,xs,el,ys,zs,e,hc,hsp,(hm' cs).2 _ hr⟩
 | arr es k get=>exact hb
 | iter mb since seen last=>
  obtain ⟨r,x,e,hc,h1⟩:=hb
  refine ⟨r,x,e,hc,?_⟩
  cases mb with
  | none=>exact h1
  | some b=>obtain ⟨y,h2,h3,h4⟩:=h1; exact ⟨y,Nat.lt_of_lt_of_le h2 hn,h3,hm b h2 y h4⟩
 | Ze kd st f ks=>
  obtain ⟨b,es,clock,e,hc,hE,hf⟩:=hb
  exact ⟨b,es,clock,e,hc,hE,fun k hk'=>⟨(hf k hk').1,fun v hv=>(hm' (f k).2).1 _ ((hf k hk').2 v hv)⟩⟩
 | rng f ps asg bd row N st pend=>
  obtain ⟨l,r,e,hc,h1,h2,h3,h4,h5,h6,h7⟩:=hb
  exact ⟨l,r,e,hc,h1,h2,h3,h4,h5,h6,fun i=>(hm' (row i)).1 _ (h7 i)⟩
theorem Ext.name {w':World} {B:Option Nat} (he:Ext base m F n w m F n w') (hB:∀ k,B = some k->w.heap.size<=k\/∃ c,m c = some k):Ext base m F n w (fun c=>if c = n then B else m c) F (n + 1) w':=
 ⟨he.f,he.back,he.keep,he.size,he.sz,⟨he.ow.un,fun b k hk hlt=>by
  by_cases e:b = n
  ·rw [if_pos e] at hk
   rcases hB k hk with h | h
   ·omega
   ·exact h
  ·rw [if_neg e] at hk; exact ⟨b,hk⟩⟩,by omega,fun b hb k hk=>by rw [if_neg (by omega)]; exact he.map b hb k hk,he.calm⟩
theorem HR.name (hr:HR base m F h n w) {h':Nat->Blk} {B:Option Nat} {blk:Blk} (hB:∀ k,B = some k->(base<=k/\¬ F k)/\k < w.heap.size/\∀ c,m c = some k->h c = .any)
  (hh:∀ c,h' c = if c = n then blk else h c) (hblk:RB F w (n + 1) (fun c=>if c = n then B else m c) blk B) :
  HR base (fun c=>if c = n then B else m c) F h' (n + 1) w:=by
 have hmap:∀ b,b < n->∀ k,m b = some k->(if b = n then B else m b) = some k:=fun b hb k hk=>by rw [if_neg (by omega)]; exact hk
 refine ⟨hr.low,hr.fdom,fun c hc=>?_,fun c k hk=>?_,fun c hc=>?_,hr.gl,fun c k hk=>?_,fun c c' C h1 h2 hne=>?_⟩
 ·rw [hh c]
  by_cases e:c = n
  ·rw [if_pos e,if_pos e]; exact hblk
  ·rw [if_neg e,if_neg e]; exact RB_more (by omega) hmap (hr.blk c (by omega))
 ·by_cases e:c = n
  ·rw [if_pos e] at hk; exact (hB k hk).2.1
  ·rw [if_neg e] at hk; exact hr.dom c k hk
 ·rw [if_neg (by omega)]; exact hr.new c (by omega)
 ·by_cases e:c = n
  ·rw [if_pos e] at hk; exact (hB k hk).1
  ·rw [if_neg e] at hk; exact hr.own c k hk
 ·rw [hh c,hh c']
  by_cases e1:c = n <;> by_cases e2:c' = n
  ·exact absurd (e1.trans e2.symm) hne
  ·rw [if_pos e1] at h1; rw [if_neg e2] at h2
   right; rw [if_neg e2]; exact (hB C h1).2.2 c' h2
  ·rw [if_neg e1] at h1; rw [if_pos e2] at h2
   left; rw [if_neg e1]; exact (hB C h2).2.2 c h1
  ·rw [if_neg e1] at h1; rw [if_neg e2] at h2
   rw [if_neg e1,if_neg e2]; exact hr.inj c c' C h1 h2 hne
end
end Go.Fw
end
