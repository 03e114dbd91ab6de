/- Loops that are not walked: the rule with an invariant. -/
import Derived.Test.YtnjjailadijdlaaGreatDoorMAl
set_option maxRecDepth 100000
set_option linter.unusedVariables false
set_option linter.unusedSimpArgs false
noncomputable section
namespace Go.Fw
theorem Tree.ZlI {α β:Type} {P:Program} {T:Tree α} {g:α->β} {T':Tree β} (h:(T.bind fun x=>.leaf (g x)) = T') {Q:β->Prop} (hq:T'.holds P Q):T.holds P fun x=>Q (g x):=by
 subst h
 exact (Tree.Ya T).1 hq
def rowOf:List V->V
 | []=>.nil
 | v :: l=>.cons v (rowOf l)
section
variable {B:Base}
def putT:List Nat->V->PT V->PT V
 | k :: ks,.cons v r,t=>putT ks r (t.set k v)
 | _,_,t=>t
end
def Qu (P:Program) (f:FuncId) (id:Nat):Code:=
 match P.funcs[f]? with
 | some fn=>match fn.body with
  | some c=>match (Xd c).filter (fun b=>match Qp b with | some i=>Nat.beq i id | none=>false) with
   | [b]=>b
   | _=>.skip
  | none=>.skip
 | none=>.skip
def U0 (P:Program) (f:FuncId) (id:Nat):Bool:=
 match P.funcs[f]? with
 | some fn=>match fn.body with
  | some c=>match (Xd c).filter (fun b=>match Qp b with | some i=>Nat.beq i id | none=>false) with
   | [_]=>true
   | _=>false
  | none=>false
 | none=>false
theorem loops_in:∀ (c b:Code),b ∈ Xd c->∀ b' ∈ Yr b,b' ∈ Xd c:=by
 intro c
 induction c with
 | seq x y ihx ihy=>
  intro b hb b' hb'
  simp only [Xd,List.mem_append] at hb ⊢
  exact hb.imp (fun h=>ihx b h b' hb') (fun h=>ihy b h b' hb')
 | cond c x y ihx ihy=>
  intro b hb b' hb'
  simp only [Xd,List.mem_append] at hb ⊢
  exact hb.imp (fun h=>ihx b h b' hb') (fun h=>ihy b h b' hb')
 | block id x ih=>exact ih
 | scope x ih=>exact ih
 | loop x ih=>
  intro b hb b' hb'
  simp only [Xd,List.mem_cons] at hb ⊢
  rcases hb with rfl | hb
  ·exact .inr (Zia _ _ hb')
  ·exact .inr (ih b hb b' hb')
 | rangeFunc g ps x y ihx ihy=>
  intro b hb b' hb'
  simp only [Xd,List.mem_append] at hb ⊢
  exact hb.imp (fun h=>ihx b h b' hb') (fun h=>ihy b h b' hb')
 | _=>intro b hb; simp only [Xd] at hb; cases hb
theorem KM {P:Program} {l:Lp} (h1:U0 P l.f l.id = true) (h:(∀ b' ∈ Yr (Qu P l.f l.id),XI P l.f b')->ZdS P (Qu P l.f l.id) l.g):l.Ok P:=by
 intro body ⟨fn,c,hf,hc,hmem⟩ hfr
 have hb:body = Qu P l.f l.id:=by
  unfold U0 at h1
  unfold Qu
  rw [hf] at h1 ⊢
  dsimp only at h1 ⊢
  rw [hc] at h1 ⊢
  dsimp only at h1 ⊢
  have hm:body ∈ (Xd c).filter (fun b=>match Qp b with | some i=>Nat.beq i l.id | none=>false):=by
   rw [List.mem_filter]
   exact ⟨hmem,by rw [hfr]; simp⟩
  generalize (Xd c).filter (fun b=>match Qp b with | some i=>Nat.beq i l.id | none=>false) = L at hm h1 ⊢
  match L,h1,hm with
  | [b],_,hm=>exact List.mem_singleton.1 hm
 subst hb
 exact h fun b' hb'=>⟨fn,c,hf,hc,loops_in c _ hmem b' hb'⟩
structure Tree.Hold {α:Type} (P:Program) (T:Tree α) (Q:α->Prop):Prop where
 h:T.holds P Q
end Go.Fw
namespace Go.Fw
structure RV where
 f:FuncId
 ps:List Nat
 asg:Code
 bd:Code
 N:Nat
 st:Nat
 pend:Option Ex
section
variable {B:Base}
end
end Go.Fw
namespace Go.Fw
def BOk (n0:Nat) (x y:Blk):Prop:=(x = .any->y = .any)/\∀ (F:Nat->Prop) (w:World) (n:Nat) (m:Nat->Option Nat) (B:Option Nat) (b:Nat),b < n0->B = m b->RB F w n m x B->RB F w n0 (XC m n0) y B
def putX:List Nat->List Blk->PT Blk->PT Blk
 | b :: bs,y :: ys,t=>putX bs ys (t.set b y)
 | _,_,t=>t
theorem Zg9 {d:Nat->Blk} {Q:Nat->Blk->Prop}:∀ (bs:List Nat) (ys:List Blk) (t:PT Blk),(∀ j,Q j (look d t j))->(∀ (i b:Nat) y,bs[i]? = some b->ys[i]? = some y->Q b y)->∀ j,Q j (look d (putX bs ys t) j):=by
 intro bs
 induction bs with
 | nil=>intro ys t ht _; exact ht
 | cons b bs ih=>
  intro ys t ht hq
  cases ys with
  | nil=>exact ht
  | cons y ys=>
   refine ih ys (t.set b y) (fun j=>?_) fun i b' y' h1 h2=>hq (i + 1) b' y' (by simpa using h1) (by simpa using h2)
   rw [ZR]
   by_cases e:j = b
   ·rw [if_pos e,e]; exact hq 0 b y rfl rfl
   ·rw [if_neg e]; exact ht j
section
variable {B:Base}
end
theorem BOk.map {n0:Nat} {kd:MK} {st st':Bool} {ks:Ks} {f f':Value->Bool×V} (h:∀ k,kd.is k = true->(f k).1 = (f' k).1/\((f k).1 = true->(f k).2.YX n0 = true/\(f k).2.soft = (f' k).2.soft)):BOk n0 (.Ze kd st f ks) (.Ze kd st' f' none):=by
 refine ⟨fun h=>(by cases h),fun F w n m B b _ _ hB=>?_⟩
 obtain ⟨b',es,clock,k1,k2,k3,k4⟩:=hB
 refine ⟨b',es,clock,k1,k2,J2.unk k3.ent,fun k hk=>?_⟩
 obtain ⟨h1,h2⟩:=k4 k hk
 obtain ⟨h3,h4⟩:=h k hk
 refine ⟨by rw [<- h3]; exact h1,fun v hv=>?_⟩
 have ht:(f k).1 = true:=by rw [h1,hv]; rfl
 obtain ⟨h5,h6⟩:=h4 ht
 have h7:=(GL (F:=F) (w:=w) (m:=m) (f k).2 n h5).1 v (h2 v hv)
 rw [<- (Y7 _ _ _).1,h6,(Y7 _ _ _).1] at h7
 exact h7
theorem BOk.any {n0:Nat} (x:Blk):BOk n0 x .any:=⟨fun _=>rfl,fun _ _ _ _ _ _ _ _ _=>trivial⟩
theorem BOk.rng {n0:Nat} {f f':FuncId} {ps:List Nat} {asg bd:Code} {row row':Nat->V} {N st:Nat} {pd:Option Ex} (h:∀ i,(row i).YX n0 = true/\(row i).soft = (row' i).soft\/row' i = .junk):BOk n0 (.rng f ps asg bd row N st pd) (.rng f' ps asg bd row' N st pd):=by
 refine ⟨fun h=>(by cases h),fun F w n m B b hb e hB=>?_⟩
 obtain ⟨l,r,k1,k2,k3,k4,k5,k6,k7,k8,k9⟩:=hB
 refine ⟨l,r,k1,k2,k3,k4,k5,k6,k7,k8,fun i=>?_⟩
 rcases h i with ⟨h1,h2⟩ | h1
 ·have h7:=(GL (F:=F) (w:=w) (m:=m) (row i) n h1).1 _ (k9 i)
  rw [<- (Y7 _ _ _).1,h2,(Y7 _ _ _).1] at h7
  exact h7
 ·rw [h1]; simp only [R]
end Go.Fw
namespace Go.Fw
def V.ren (f:Nat->Option Nat):V->V
 | .cons h t=>.cons (h.ren f) (t.ren f)
 | .agg cs=>.agg (cs.ren f)
 | .tup cs=>.tup (cs.ren f)
 | .ptr st b es i o=>match f b with | some c=>.ptr st c es i o | none=>.junk
 | .osl st b es i n=>match f b with | some c=>.osl st c es i n | none=>.junk
 | .osp st b es i n c0=>match f b with | some c=>.osp st c es i n c0 | none=>.junk
 | .fn g a b=>.fn g (a.ren f) (b.ren f)
 | .yld b=>match f b with | some c=>.yld c | none=>.junk
 | .mp b=>match f b with | some c=>.mp c | none=>.junk
 | v=>v
theorem R_ren {F:Nat->Prop} {w:World} {n n0:Nat} {m m':Nat->Option Nat} {f:Nat->Option Nat} (hf:∀ b c,f b = some c->c < n0/\m' c = m b):∀ (v:V),
  (∀ x,R F w v n m x->R F w (v.ren f) n0 m' x)/\(∀ xs,RL F w v n m xs->RL F w (v.ren f) n0 m' xs):=by
 intro v
 induction v with
 | cons h t ih1 ih2=>
  refine ⟨fun x h=>by simp only [R] at h,fun xs h=>?_⟩
  simp only [V.ren,RL] at h ⊢
  obtain ⟨x,r,rfl,h1,h2⟩:=h
  exact ⟨x,r,rfl,ih1.1 _ h1,ih2.2 _ h2⟩
 | agg cs ih=>
  refine ⟨fun x h=>?_,fun xs h=>by simp only [RL] at h⟩
  simp only [V.ren,R] at h ⊢
  obtain ⟨xs,rfl,h1⟩:=h
  exact ⟨xs,rfl,ih.2 _ h1⟩
 | tup cs ih=>
  refine ⟨fun x h=>?_,fun xs h=>by simp only [RL] at h⟩
  simp only [V.ren,R] at h ⊢
  obtain ⟨xs,rfl,h1⟩:=h
  exact ⟨xs,rfl,ih.2 _ h1⟩
 | fn g a b ih1 ih2=>
  refine ⟨fun x h=>?_,fun xs h=>by simp only [RL] at h⟩
  simp only [V.ren,R] at h ⊢
  obtain ⟨xs,ys,rfl,h1,h2⟩:=h
  exact ⟨xs,ys,rfl,ih1.2 _ h1,ih2.2 _ h2⟩
 | ptr st b es i o=>
  refine ⟨fun x h=>?_,fun xs h=>by simp only [RL] at h⟩
  simp only [V.ren]
  cases hfb:f b with
  | none=>simp only [R]
  | some c=>
   simp only [R] at h ⊢
   obtain ⟨_,B,hx,h⟩:=h
   exact ⟨(hf b c hfb).1,B,hx,by rw [(hf b c hfb).2]; exact h⟩
 | osl st b es i k=>
  refine ⟨fun x h=>?_,fun xs h=>by simp only [RL] at h⟩
  simp only [V.ren]
  cases hfb:f b with
  | none=>simp only [R]
  | some c=>
   simp only [R] at h ⊢
   obtain ⟨_,a,cap,hx,hk,h⟩:=h
   exact ⟨(hf b c hfb).1,a,cap,hx,hk,h.imp id fun ⟨B,c',el,fr,ha,h,hc⟩=>⟨B,c',el,fr,ha,by rw [(hf b c hfb).2]; exact h,hc⟩⟩
 | osp st b es i k c0=>
  refine ⟨fun x h=>?_,fun xs h=>by simp only [RL] at h⟩
  simp only [V.ren]
  cases hfb:f b with
  | none=>simp only [R]
  | some c=>
   simp only [R] at h ⊢
   obtain ⟨_,a,cap,hx,hk,hk2,h⟩:=h
   exact ⟨(hf b c hfb).1,a,cap,hx,hk,hk2,h.imp id fun ⟨B,c',el,fr,ha,h,hc⟩=>⟨B,c',el,fr,ha,by rw [(hf b c hfb).2]; exact h,hc⟩⟩
 | yld b=>
  refine ⟨fun x h=>?_,fun xs h=>by simp only [RL] at h⟩
  simp only [V.ren]
  cases hfb:f b with
  | none=>simp only [R]
  | some c=>
   simp only [R] at h ⊢
   obtain ⟨_,l,hx,h⟩:=h
   exact ⟨(hf b c hfb).1,l,hx,by rw [(hf b c hfb).2]; exact h⟩
 | mp b=>
  refine ⟨fun x h=>?_,fun xs h=>by simp only [RL] at h⟩
  simp only [V.ren]
  cases hfb:f b with
  | none=>simp only [R]
  | some c=>
   simp only [R] at h ⊢
   obtain ⟨_,l,hx,h⟩:=h
   exact ⟨(hf b c hfb).1,l,hx,by rw [(hf b c hfb).2]; exact h⟩
 | rptr st es k get i o ih=>exact ⟨fun x h=>by simp only [V.ren,R] at h ⊢; exact h,fun xs h=>by simp only [RL] at h⟩
 | rsl st es k get ih=>exact ⟨fun x h=>by simp only [V.ren,R] at h ⊢; exact h,fun xs h=>by simp only [RL] at h⟩
 | nil=>exact ⟨fun x h=>by simp only [R] at h,fun xs h=>by simp only [V.ren,RL] at h ⊢; exact h⟩
 | junk=>exact ⟨fun x h=>by simp only [V.ren,R],fun xs h=>by simp only [RL] at h⟩
 | _=>exact ⟨fun x h=>by simp only [V.ren,R] at h ⊢; exact h,fun xs h=>by simp only [RL] at h⟩
def KX:List (Nat×Nat)->Nat->Option Nat
 | [],_=>none
 | (s,c) :: r,b=>bif Nat.beq s b then some c else KX r b
def XV:List (Nat×Nat)->Nat->Option Nat
 | [],_=>none
 | (s,c) :: r,b=>bif Nat.beq c b then some s else XV r b
def okN (n0 n1:Nat):List (Nat×Nat)->Bool
 | []=>true
 | (s,c) :: r=>(Nat.blt c n0&&(Nat.ble n1 c || Nat.beq s c))&&(((KX r s).isNone&&(XV r c).isNone)&&okN n0 n1 r)
theorem ZbN {n0 n1:Nat}:∀ {σ:List (Nat×Nat)},okN n0 n1 σ = true->∀ b c,KX σ b = some c->XV σ c = some b/\c < n0/\(n1<=c\/b = c):=by
 intro σ
 induction σ with
 | nil=>intro _ b c h; cases h
 | cons p r ih=>
  obtain ⟨s,d⟩:=p
  intro h b c hb
  simp only [okN,Bool.and_eq_true,Bool.or_eq_true] at h
  obtain ⟨⟨h1,h2⟩,⟨h3,h4⟩,h5⟩:=h
  simp only [KX] at hb
  simp only [XV]
  cases hs:Nat.beq s b
  ·rw [hs] at hb
   simp only [cond_false] at hb
   obtain ⟨k1,k2,k3⟩:=ih h5 b c hb
   cases hd:Nat.beq d c
   ·exact ⟨k1,k2,k3⟩
   ·obtain rfl:=Nat.eq_of_beq_eq_true hd
    rw [k1] at h4; cases h4
  ·rw [hs] at hb
   simp only [cond_true,Option.some.injEq] at hb
   obtain rfl:=Nat.eq_of_beq_eq_true hs
   subst hb
   refine ⟨by simp,by simpa [Nat.blt_eq] using h1,h2.imp Nat.le_of_ble_eq_true Nat.eq_of_beq_eq_true⟩
theorem Zbj {n0 n1:Nat}:∀ {σ:List (Nat×Nat)},okN n0 n1 σ = true->∀ b c,XV σ c = some b->KX σ b = some c:=by
 intro σ
 induction σ with
 | nil=>intro _ b c h; cases h
 | cons p r ih=>
  obtain ⟨s,d⟩:=p
  intro h b c hb
  simp only [okN,Bool.and_eq_true,Bool.or_eq_true] at h
  obtain ⟨_,⟨h3,h4⟩,h5⟩:=h
  simp only [XV] at hb
  simp only [KX]
  cases hd:Nat.beq d c
  ·rw [hd] at hb
   simp only [cond_false] at hb
   have k1:=ih h5 b c hb
   cases hs:Nat.beq s b
   ·exact k1
   ·obtain rfl:=Nat.eq_of_beq_eq_true hs
    rw [k1] at h3; cases h3
  ·rw [hd] at hb
   simp only [cond_true,Option.some.injEq] at hb
   obtain rfl:=Nat.eq_of_beq_eq_true hd
   subst hb
   simp
def renF (n1:Nat) (σ:List (Nat×Nat)) (b:Nat):Option Nat:=
 match KX σ b with
 | some c=>some c
 | none=>bif Nat.blt b n1 then some b else none
def Qo (n1:Nat) (σ:List (Nat×Nat)) (m:Nat->Option Nat) (c:Nat):Option Nat:=
 match XV σ c with
 | some b=>m b
 | none=>if c < n1 then m c else none
theorem renF_ok {n0 n1:Nat} {σ:List (Nat×Nat)} (h:okN n0 n1 σ = true) (h01:n1<=n0) (m:Nat->Option Nat):∀ b c,renF n1 σ b = some c->c < n0/\Qo n1 σ m c = m b:=by
 intro b c hb
 unfold renF at hb
 cases hl:KX σ b with
 | some c'=>
  rw [hl] at hb
  injection hb with hb
  subst hb
  obtain ⟨k1,k2,_⟩:=ZbN h b c' hl
  exact ⟨k2,by unfold Qo; rw [k1]⟩
 | none=>
  rw [hl] at hb
  dsimp only at hb
  cases hlt:Nat.blt b n1
  ·rw [hlt] at hb; cases hb
  ·rw [hlt] at hb
   injection hb with hb
   subst hb
   have hlt':b < n1:=by simpa [Nat.blt_eq] using hlt
   refine ⟨by omega,?_⟩
   unfold Qo
   cases hs:XV σ b with
   | none=>dsimp only; rw [if_pos hlt']
   | some b'=>
    have k:=Zbj h b' b hs
    obtain ⟨_,_,k3⟩:=ZbN h b' b k
    rcases k3 with k3 | k3
    ·omega
    ·subst k3; exact absurd (k.symm.trans hl) (by simp)
def Blk.ren (f:Nat->Option Nat):Blk->Blk
 | .var cs=>.var (cs.ren f)
 | .Ze kd st g ks=>.Ze kd st (fun k=>((g k).1,(g k).2.ren f)) ks
 | .iter mb since seen last=>match mb with
  | Option.none=>.iter Option.none since seen last
  | Option.some b=>match f b with
   | Option.some c=>.iter (Option.some c) since seen last
   | Option.none=>.any
 | .rng g ps asg bd row N st pd=>.rng g ps asg bd (fun i=>(row i).ren f) N st pd
 | x=>x
theorem RB_ren {F:Nat->Prop} {w:World} {n n0:Nat} {m m':Nat->Option Nat} {f:Nat->Option Nat} (hf:∀ b c,f b = some c->c < n0/\m' c = m b) {x:Blk} {B:Option Nat} (h:RB F w n m x B):RB F w n0 m' (x.ren f) B:=by
 cases x with
 | none=>exact h
 | any=>exact h
 | var cs=>
  obtain ⟨b',xs,el,ys,zs,k1,k2,k3,k4⟩:=h
  exact ⟨b',xs,el,ys,zs,k1,k2,k3,(R_ren hf _).2 _ k4⟩
 | arr es k get=>exact h
 | Ze kd st g ks=>
  obtain ⟨b',es,clock,k1,k2,k3,k4⟩:=h
  exact ⟨b',es,clock,k1,k2,k3,fun k hk=>⟨(k4 k hk).1,fun v hv=>(R_ren hf _).1 _ ((k4 k hk).2 v hv)⟩⟩
 | iter mb since seen last=>
  obtain ⟨r,y,e,hc,h1⟩:=h
  cases mb with
  | none=>exact ⟨r,y,e,hc,h1⟩
  | some b=>
   obtain ⟨z,h2,h3,h4⟩:=h1
   show RB F w n0 m' (match f b with | some c=>Blk.iter (some c) since seen last | none=>.any) B
   cases hb:f b with
   | none=>exact trivial
   | some c=>exact ⟨r,y,e,hc,z,(hf b c hb).1,h3,by rw [(hf b c hb).2]; exact h4⟩
 | rng g ps asg bd row N st pend=>
  obtain ⟨l,r,e,hc,h1,h2,h3,h4,h5,h6,h7⟩:=h
  exact ⟨l,r,e,hc,h1,h2,h3,h4,h5,h6,fun i=>(R_ren hf _).1 _ (h7 i)⟩
inductive Src where
 | own
 | tmp (t:Nat)
 | cell (b i:Nat)
 | tcell (t i:Nat)
def V.name?:V->Option Nat
 | .osl _ b _ _ _=>some b
 | .osp _ b _ _ _ _=>some b
 | .ptr _ b _ _ _=>some b
 | .mp b=>some b
 | _=>none
section
variable {B:Base}
def K7 (x:St B) (p:Nat×Src):Nat:=
 match p.2 with
 | .own=>p.1
 | .tmp t=>match (x.tmp t).name? with
  | some b=>b
  | none=>p.1
 | .cell b i=>match x.blk b with
  | .var cs=>match (cs.nth i).name? with
   | some b=>b
   | none=>p.1
  | _=>p.1
 | .tcell t i=>match x.tmp t with
  | .agg cs=>match (cs.nth i).name? with
   | some b=>b
   | none=>p.1
  | _=>p.1
def sigma (x:St B) (KH:List (Nat×Src)):List (Nat×Nat):=KH.map fun p=>(K7 x p,p.1)
def blkAt (x:St B) (b:Nat):Blk:=bif Nat.blt b x.n then x.blk b else .none
def vwN (n1 n0 N0:Nat) (KT:List Nat) (KH:List (Nat×Src)) (x:St B):Bool×V×List Blk:=
 let σ:=sigma x KH
 (((Nat.beq x.N N0&&Nat.ble n1 x.n)&&(okN n0 n1 σ&&Nat.ble n1 n0)),
  rowOf (KT.map fun t=>(x.tmp t).ren (renF n1 σ)),KH.map fun p=>(blkAt x (K7 x p)).ren (renF n1 σ))
def Yg (n0 N0:Nat) (KT:List Nat) (KH:List (Nat×Src)) (ts:V) (ys:List Blk):St B:={ t:=putT KT ts (.fill .junk),h:=putX (KH.map (·.1)) ys (.fill .any),n:=n0,N:=N0 }
end
def Le (n:Nat) (v v':V):Prop:=∀ (F:Nat->Prop) (w:World) (m:Nat->Option Nat),(∀ x,R F w v n m x->R F w v' n m x)/\(∀ xs,RL F w v n m xs->RL F w v' n m xs)
theorem Le.soft {n:Nat} {v v':V} (h:v.soft = v'.soft):Le n v v':=fun F w m=>
 ⟨fun x hx=>by rw [<- (Y7 v n m).1,h,(Y7 v' n m).1] at hx; exact hx,fun x hx=>by rw [<- (Y7 v n m).2,h,(Y7 v' n m).2] at hx; exact hx⟩
theorem Le.cons {n:Nat} {a b c d:V} (h:Le n a c) (h':Le n b d):Le n (.cons a b) (.cons c d):=fun F w m=>
 ⟨fun x hx=>by simp only [R] at hx,fun xs hx=>by
  simp only [RL] at hx ⊢
  obtain ⟨x,r,e,h1,h2⟩:=hx
  exact ⟨x,r,e,(h F w m).1 _ h1,(h' F w m).2 _ h2⟩⟩
theorem Le.Zz {n b es i:Nat} {st:Bool} (h:b < n):Le n .Zz (.osl st b es i 0):=fun F w m=>
 ⟨fun x hx=>by simp only [R] at hx ⊢; exact ⟨h,none,0,hx,Nat.le_refl _,.inl rfl⟩,fun xs hx=>by simp only [RL] at hx⟩
def LeK (n:Nat) (x y:Blk):Prop:=(x = .any->y = .any)/\∀ (F:Nat->Prop) (w:World) (m:Nat->Option Nat) (B:Option Nat),RB F w n m x B->RB F w n m y B
theorem LeK.refl {n:Nat} (x:Blk):LeK n x x:=⟨id,fun _ _ _ _ h=>h⟩
theorem LeK.any {n:Nat} (x:Blk):LeK n x .any:=⟨fun _=>rfl,fun _ _ _ _ _=>trivial⟩
theorem LeK.var {n:Nat} {c c':V} (h:Le n c c'):LeK n (.var c) (.var c'):=⟨fun e=>(by cases e),fun F w m B hb=>by
 obtain ⟨b,xs,el,ys,zs,k1,k2,k3,k4⟩:=hb
 exact ⟨b,xs,el,ys,zs,k1,k2,k3,(h F w m).2 _ k4⟩⟩
theorem LeK.arr {n es k k':Nat} {g g':Nat->V} (hn:k = k') (h:∀ j,j < k->g j = g' j):LeK n (.arr es k g) (.arr es k' g'):=⟨fun e=>(by cases e),fun F w m B hb=>by
 subst hn
 rcases hb with h0 | ⟨b,c,el,k1,k2,k3,k4⟩
 ·exact .inl h0
 ·exact .inr ⟨b,c,el,k1,k2,k3,fun j hj=>by rw [<- h j hj]; exact k4 j hj⟩⟩
theorem LeK.none {n es:Nat} {g:Nat->V}:LeK n .none (.arr es 0 g):=⟨fun e=>(by cases e),fun F w m B hb=>.inl ⟨rfl,hb⟩⟩
theorem LeK.rng {n:Nat} {f f':FuncId} {ps:List Nat} {asg bd:Code} {row row':Nat->V} {N st:Nat} {pd:Option Ex} (h:∀ i,Le n (row i) (row' i)):LeK n (.rng f ps asg bd row N st pd) (.rng f' ps asg bd row' N st pd):=⟨fun e=>(by cases e),fun F w m B hb=>by
 obtain ⟨l,r,e,hc,h1,h2,h3,h4,h5,h6,h7⟩:=hb
 exact ⟨l,r,e,hc,h1,h2,h3,h4,h5,h6,fun i=>(h i F w m).1 _ (h7 i)⟩⟩
theorem LeK.Ze {n:Nat} {kd:MK} {st st':Bool} {ks:Ks} {f f':Value->Bool×V} (h:∀ k,kd.is k = true->(f k).1 = (f' k).1/\Le n (f k).2 (f' k).2):LeK n (.Ze kd st f ks) (.Ze kd st' f' Option.none):=⟨fun e=>(by cases e),fun F w m B hb=>by
 obtain ⟨b',es,clock,k1,k2,k3,k4⟩:=hb
 exact ⟨b',es,clock,k1,k2,J2.unk k3.ent,fun k hk=>⟨by rw [<- (h k hk).1]; exact (k4 k hk).1,fun v hv=>((h k hk).2 F w m).1 _ ((k4 k hk).2 v hv)⟩⟩⟩
theorem Le.junk {n:Nat} (v:V) (hv:v.one = true):Le n v .junk:=fun F w m=>⟨fun x _=>by simp only [R],fun xs h=>by cases v <;> first | (cases hv; done) | (simp only [RL] at h)⟩
theorem Le.refl {n:Nat} (v:V):Le n v v:=fun _ _ _=>⟨fun _ h=>h,fun _ h=>h⟩
def Xm (n:Nat):List Blk->List Blk->Prop
 | [],[]=>True
 | x :: xs,y :: ys=>LeK n x y/\Xm n xs ys
 | _,_=>False
theorem LeKs_get {n:Nat}:∀ (xs ys:List Blk),Xm n xs ys->∀ (i:Nat) y,ys[i]? = some y->∃ x,xs[i]? = some x/\LeK n x y:=by
 intro xs
 induction xs with
 | nil=>intro ys h i y hy; cases ys with | nil=>simp at hy | cons=>exact h.elim
 | cons a xs ih=>
  intro ys h i y hy
  cases ys with
  | nil=>exact h.elim
  | cons b ys=>
   cases i with
   | zero=>simp at hy; subst hy; exact ⟨a,rfl,h.1⟩
   | succ i=>obtain ⟨x,h1,h2⟩:=ih ys h.2 i y (by simpa using hy); exact ⟨x,by simpa using h1,h2⟩
def WE {B:Base} (n1 n0 N0:Nat) (KT:List Nat) (KH:List (Nat×Src)) (x:St B) (ts:V) (ys:List Blk):Prop:=
 (vwN n1 n0 N0 KT KH x).1 = true/\Le n0 (vwN n1 n0 N0 KT KH x).2.1 ts/\Xm n0 (vwN n1 n0 N0 KT KH x).2.2 ys
theorem Zg2 {F:Nat->Prop} {w:World} {n:Nat} {m:Nat->Option Nat} {vs:List V} {g:Nat->Value}:∀ (KT:List Nat),vs.length = KT.length->(∀ (i k:Nat) (v:V),KT[i]? = some k->vs[i]? = some v->R F w v n m (g k))->RL F w (rowOf vs) n m (KT.map g):=by
 induction vs with
 | nil=>intro KT hl _; cases KT with
  | nil=>simp only [rowOf,List.map_nil,RL]
  | cons k ks=>cases hl
 | cons v vs ih=>
  intro KT hl h
  cases KT with
  | nil=>cases hl
  | cons k ks=>
   simp only [rowOf,List.map_cons,RL]
   exact ⟨_,_,rfl,h 0 k v rfl rfl,ih ks (by simpa using hl) fun i k' v' h1 h2=>h (i + 1) k' v' (by simpa using h1) (by simpa using h2)⟩
theorem ZgE {F:Nat->Prop} {w:World} {n:Nat} {m:Nat->Option Nat} {d:Nat->V} {g:Nat->Value}:∀ (KT:List Nat) (ts:V) (t:PT V),(∀ j,R F w (look d t j) n m (g j))->RL F w ts n m (KT.map g)->∀ j,R F w (look d (putT KT ts t) j) n m (g j):=by
 intro KT
 induction KT with
 | nil=>intro ts t ht _; exact ht
 | cons k ks ih=>
  intro ts t ht hs
  cases ts <;> simp only [List.map_cons,RL] at hs
  ·exact absurd hs (by simp)
  ·rename_i a r
   obtain ⟨x,q,e,h1,h2⟩:=hs
   injection e with e1 e2
   subst e1; subst e2
   refine ih r (t.set k a) (fun j=>?_) h2
   rw [ZR]
   by_cases e:j = k
   ·rw [if_pos e,e]; exact h1
   ·rw [if_neg e]; exact ht j
theorem okN_mem {n0 n1:Nat}:∀ {σ:List (Nat×Nat)},okN n0 n1 σ = true->∀ b c,(b,c) ∈ σ->XV σ c = some b:=by
 intro σ
 induction σ with
 | nil=>intro _ b c h; cases h
 | cons p r ih=>
  obtain ⟨s,d⟩:=p
  intro h b c hb
  simp only [okN,Bool.and_eq_true,Bool.or_eq_true] at h
  obtain ⟨_,⟨h3,h4⟩,h5⟩:=h
  simp only [XV]
  cases hb with
  | head=>simp
  | tail _ hb=>
   have k:=ih h5 b c hb
   cases hd:Nat.beq d c
   ·exact k
   ·obtain rfl:=Nat.eq_of_beq_eq_true hd
    rw [k] at h4; cases h4
section
variable {B:Base}
theorem U3 {B':Base} {lo base:Nat} {m:Nat->Option Nat} {F:Nat->Prop} {x:St B} {a:Act} {w:World} {n1 n0 N0:Nat} {KT:List Nat} {KH:List (Nat×Src)} {ts:V} {ys:List Blk} (hr:Rel lo base m F x a w) (h:WE n1 n0 N0 KT KH x ts ys) :
  n1<=n0/\Rel lo base (Qo n1 (sigma x KH) m) F (Yg n0 N0 KT KH ts ys:St B') a w/\(∀ b,b < n1->∀ B,m b = some B->Qo n1 (sigma x KH) m b = some B)/\∀ b B,Qo n1 (sigma x KH) m b = some B->∃ c,m c = some B:=by
 obtain ⟨h1,h2,h3⟩:=h
 simp only [vwN] at h1 h2 h3
 simp only [Bool.and_eq_true] at h1
 obtain ⟨⟨hN,hn⟩,hok,h01⟩:=h1
 have hn:=Nat.le_of_ble_eq_true hn
 have hN:=Nat.eq_of_beq_eq_true hN
 have h01:=Nat.le_of_ble_eq_true h01
 generalize hσ:sigma x KH = σ at hok h2 h3
 have hf:=renF_ok hok h01 m
 have hmem:∀ i p,KH[i]? = some p->(K7 x p,p.1) ∈ σ:=fun i p hp=>by
  rw [<- hσ]; exact List.mem_map.2 ⟨p,List.mem_of_getElem? hp,rfl⟩
 have hinv:∀ c k,Qo n1 σ m c = some k->∃ b,m b = some k/\(XV σ c = some b\/(XV σ c = none/\c < n1/\b = c)):=by
  intro c k hc
  unfold Qo at hc
  cases hs:XV σ c with
  | some b=>rw [hs] at hc; exact ⟨b,hc,.inl rfl⟩
  | none=>
   rw [hs] at hc
   dsimp only at hc
   by_cases e:c < n1
   ·rw [if_pos e] at hc; exact ⟨c,hc,.inr ⟨rfl,e,rfl⟩⟩
   ·rw [if_neg e] at hc; cases hc
 have hks:∀ (i c:Nat),(KH.map (·.1))[i]? = some c->∃ p:Nat×Src,KH[i]? = some p/\p.1 = c:=fun i c hc=>by
  rw [List.getElem?_map] at hc
  cases hp:KH[i]? with
  | none=>rw [hp] at hc; cases hc
  | some p=>rw [hp] at hc; injection hc with hc; exact ⟨p,rfl,hc⟩
 have hget:∀ (i c:Nat) y,(KH.map (·.1))[i]? = some c->ys[i]? = some y->∃ p:Nat×Src,KH[i]? = some p/\p.1 = c/\LeK n0 ((blkAt x (K7 x p)).ren (renF n1 σ)) y:=fun i c y hc hy=>by
  obtain ⟨p,hp,e⟩:=hks i c hc
  obtain ⟨z,hz,hle⟩:=LeKs_get _ _ h3 i y hy
  rw [List.getElem?_map,hp] at hz
  injection hz with hz
  subst hz
  exact ⟨p,hp,e,hle⟩
 have hany:∀ c,(XV σ c = none\/∃ b,XV σ c = some b/\b < x.n/\x.blk b = .any)->(Yg n0 N0 KT KH ts ys:St B').blk c = .any:=by
  intro c hc
  refine Zg9 (d:=B'.h) (Q:=fun j y=>(XV σ j = none\/∃ b,XV σ j = some b/\b < x.n/\x.blk b = .any)->y = .any) (KH.map (·.1)) ys (.fill .any) (fun j _=>rfl) (fun i c y hi hy hc=>?_) c hc
  obtain ⟨p,hp,e,hle⟩:=hget i c y hi hy
  have hs:=okN_mem hok _ _ (hmem i p hp)
  rw [e] at hs
  rcases hc with hc | ⟨b,hb,hbn,hb2⟩
  ·rw [hs] at hc; cases hc
  ·rw [hs] at hb
   injection hb with hb
   refine hle.1 ?_
   rw [hb]
   unfold blkAt
   rw [hb2,show Nat.blt b x.n = true by rw [Nat.blt_eq]; exact hbn]
   rfl
 refine ⟨h01,?_,?_,fun c k hk=>let ⟨b,hb,_⟩:=hinv c k hk; ⟨b,hb⟩⟩
 refine ⟨⟨hr.hr.low,hr.hr.fdom,fun c hc=>?_,fun c k hk=>?_,fun c hc=>?_,hr.hr.gl,fun c k hk=>?_,fun c c' k hk hk' hne=>?_⟩,Marks.sub hr.defers (fun c k hk=>let ⟨b,hb,_⟩:=hinv c k hk; ⟨b,hb⟩),hr.size.trans hN,fun j=>?_⟩
 ·refine Zg9 (d:=B'.h) (Q:=fun j y=>j < n0->RB F w n0 (Qo n1 σ m) y (Qo n1 σ m j)) (KH.map (·.1)) ys (.fill .any) (fun j _=>trivial) (fun i c' y hi hy _=>?_) c hc
  obtain ⟨p,hp,e,hle⟩:=hget i c' y hi hy
  refine hle.2 F w _ _ ?_
  have hs:=okN_mem hok _ _ (hmem i p hp)
  rw [e] at hs
  have hm:Qo n1 σ m c' = m (K7 x p):=by unfold Qo; rw [hs]
  rw [hm]
  refine RB_ren hf ?_ (n:=x.n)
  unfold blkAt
  cases hlt:Nat.blt (K7 x p) x.n
  ·exact hr.hr.new _ (by
    rcases Nat.lt_or_ge (K7 x p) x.n with h | h
    ·rw [<- Nat.blt_eq] at h; rw [h] at hlt; cases hlt
    ·exact h)
  ·exact hr.hr.blk _ (show K7 x p < x.n by simpa [Nat.blt_eq] using hlt)
 ·obtain ⟨b,hb,_⟩:=hinv c k hk; exact hr.hr.dom b k hb
 ·cases hq:Qo n1 σ m c with
  | none=>rfl
  | some k=>
   exfalso
   have hc':n0<=c:=hc
   obtain ⟨b,hb,hs | ⟨_,hs,_⟩⟩:=hinv c k hq
   ·have:=(ZbN hok b c (Zbj hok b c hs)).2.1; omega
   ·omega
 ·obtain ⟨b,hb,_⟩:=hinv c k hk; exact hr.hr.own b k hb
 ·obtain ⟨b,hb,hs⟩:=hinv c k hk
  obtain ⟨b',hb',hs'⟩:=hinv c' k hk'
  by_cases e:b = b'
  ·subst e
   rcases hs with hs | ⟨hs,_,e1⟩
   ·rcases hs' with hs' | ⟨hs',_,e2⟩
    ·have k1:=Zbj hok b c hs
     rw [Zbj hok b c' hs'] at k1
     injection k1 with k1
     exact absurd k1.symm hne
    ·exact .inr (hany c' (.inl hs'))
   ·exact .inl (hany c (.inl hs))
  ·rcases hr.hr.inj b b' k hb hb' e with h | h
   ·left
    rcases hs with hs | ⟨hs,_,_⟩
    ·exact hany c (.inr ⟨b,hs,hr.hr.lt (by rw [hb]; simp),h⟩)
    ·exact hany c (.inl hs)
   ·right
    rcases hs' with hs' | ⟨hs',_,_⟩
    ·exact hany c' (.inr ⟨b',hs',hr.hr.lt (by rw [hb']; simp),h⟩)
    ·exact hany c' (.inl hs')
 ·refine ZgE (g:=fun j=>a.tmps.getD j Go.undef) KT ts (.fill .junk) (fun j=>by show R F w .junk n0 _ _; simp only [R]) ((h2 F w _).2 _ (Zg2 KT (by rw [List.length_map]) fun i k v hk hv=>?_)) j
  rw [List.getElem?_map,hk] at hv
  injection hv with hv
  subst hv
  exact (R_ren hf _).1 _ (hr.tmp k)
 ·intro b hb k hk
  unfold Qo
  cases hs:XV σ b with
  | none=>dsimp only; rw [if_pos hb]; exact hk
  | some b'=>
   obtain ⟨_,_,k3⟩:=ZbN hok b' b (Zbj hok b' b hs)
   rcases k3 with k3 | k3
   ·omega
   ·subst k3; exact hk
theorem Gt {base:Nat} {m m2 m':Nat->Option Nat} {F F':Nat->Prop} {n n2 n0:Nat} {w w':World} (h:Ext base m F n w m2 F' n2 w') (h0:n<=n0) (hm:∀ b,b < n->∀ B,m2 b = some B->m' b = some B) (hs:∀ b B,m' b = some B->∃ c,m2 c = some B):Ext base m F n w m' F' n0 w':=
 ⟨h.f,h.back,h.keep,h.size,h.sz,h.ow.sub hs,h0,fun b hb B hB=>hm b hb B (h.map b hb B hB),h.calm⟩
theorem ev_okP {E:Env} (hE:E.Ok) {P:Program} (hP:E.P = P) (k:Nat) (ro:Option Nat) (f:FuncId) (c:Code) (B:Base) (s:St B) (lo base:Nat) (m:Nat->Option Nat) (F:Nat->Prop) (a:Act) (w:World) (Q:Ex×St B->Prop) (Qx:Exit->Act->World->Prop)
  (h1:∀ b ∈ Yr c,XI P f b) (h2:ro = none\/Xa c = true) (h3:Rel lo base m F s a w)
  (h4:(ev E k f c B s).holds P Q) (h5:∀ e s',Q (e,s')->∀ m' F' a' w',Ext base m F s.n w m' F' s'.n w'->Rel lo base m' F' s' a' w'->Qx e.QY a' w'):wpX P ro c Qx a w:=by
 subst hP
 exact ev_ok hE k ro f c B s lo base m F a w Q Qx (fun b hb _ _=>h1 b hb) h2 h3 h4 h5
theorem loop_renN {P:Program} {ι:Type} {E:ι->Env} (hE:∀ i,(E i).Ok) (hP:∀ i,(E i).P = P) {k:Nat} {f:FuncId} {b:Code} (hin:∀ b' ∈ Yr b,XI P f b') {n1 n0 N0:Nat} {KT:List Nat} {KH:List (Nat×Src)} (ts:ι->V) (ys:ι->List Blk) (Inv:ι->Prop) (μ:ι->Nat) (Φ:Ex×St B->Prop)
  (step:∀ i,Inv i->(ev (E i) k f b B (Yg n0 N0 KT KH (ts i) (ys i))).holds P fun x=>match x.1 with
   | .normal=>∃ i',Inv i'/\μ i' < μ i/\WE n1 n0 N0 KT KH x.2 (ts i') (ys i')
   | e=>∃ ts' ys',WE n1 n0 N0 KT KH x.2 ts' ys'/\Φ (e,Yg n0 N0 KT KH ts' ys'))
  {s:St B} (hn:s.n = n1) {i0:ι} (h0:Inv i0) (hs:WE n1 n0 N0 KT KH s (ts i0) (ys i0)):VH P b s Φ:=by
 intro ro lo base m F a w Q hro hr hQ
 have main:∀ (q:Nat) (i:ι),μ i<=q->Inv i->∀ m1 F1 a1 w1,Ext base m F s.n w m1 F1 n0 w1->Rel lo base m1 F1 (Yg n0 N0 KT KH (ts i) (ys i):St B) a1 w1->Jb P ro b Q a1 w1:=by
  intro q
  induction q with
  | zero=>
   intro i hi hI m1 F1 a1 w1 hx hr1
   refine Jb.round (wpX.wp (ev_okP (hE i) (hP i) k ro f b B _ lo base m1 F1 a1 w1 _ _ hin hro hr1 (step i hI) fun e s' hPs m2 F2 a2 w2 k1 k2=>?_))
   have hx1:=hx.trans k1
   cases e with
   | normal=>obtain ⟨i',_,h2,_⟩:=hPs; omega
   | exit id=>obtain ⟨ts',bs',h1,h2⟩:=hPs; obtain ⟨c1,c2,c3,c4⟩:=U3 (B':=B) k2 h1; exact hQ (.exit id) _ h2 _ _ _ _ (Gt hx1 (show s.n<=n0 by omega) (fun b hb=>c3 b (by omega)) c4) c2
   | ret=>obtain ⟨ts',bs',h1,h2⟩:=hPs; obtain ⟨c1,c2,c3,c4⟩:=U3 (B':=B) k2 h1; exact hQ .ret _ h2 _ _ _ _ (Gt hx1 (show s.n<=n0 by omega) (fun b hb=>c3 b (by omega)) c4) c2
  | succ q ih=>
   intro i hi hI m1 F1 a1 w1 hx hr1
   refine Jb.round (wpX.wp (ev_okP (hE i) (hP i) k ro f b B _ lo base m1 F1 a1 w1 _ _ hin hro hr1 (step i hI) fun e s' hPs m2 F2 a2 w2 k1 k2=>?_))
   have hx1:=hx.trans k1
   cases e with
   | normal=>obtain ⟨i',h1,h2,h3⟩:=hPs; obtain ⟨c1,c2,c3,c4⟩:=U3 (B':=B) k2 h3; exact ih i' (by omega) h1 _ _ _ _ (Gt hx1 (by omega) (fun b hb=>c3 b (by omega)) c4) c2
   | exit id=>obtain ⟨ts',bs',h1,h2⟩:=hPs; obtain ⟨c1,c2,c3,c4⟩:=U3 (B':=B) k2 h1; exact hQ (.exit id) _ h2 _ _ _ _ (Gt hx1 (show s.n<=n0 by omega) (fun b hb=>c3 b (by omega)) c4) c2
   | ret=>obtain ⟨ts',bs',h1,h2⟩:=hPs; obtain ⟨c1,c2,c3,c4⟩:=U3 (B':=B) k2 h1; exact hQ .ret _ h2 _ _ _ _ (Gt hx1 (show s.n<=n0 by omega) (fun b hb=>c3 b (by omega)) c4) c2
 obtain ⟨c1,c2,c3,c4⟩:=U3 (B':=B) hr hs
 exact main (μ i0) i0 (Nat.le_refl _) h0 _ F a w (Gt (Ext.refl base m F s.n w) (by omega) (fun b hb=>c3 b (by omega)) c4) c2
theorem ZhS {P:Program} {ι:Type} {E:ι->Env} (hE:∀ i,(E i).Ok) (hP:∀ i,(E i).P = P) {k:Nat} {f:FuncId} {b:Code} (hin:∀ b' ∈ Yr b,XI P f b') {n1 n0 N0:Nat} {KT:List Nat} {KH:List (Nat×Src)} (ts:ι->V) (ys:ι->List Blk) (Inv:ι->Prop) (μ:ι->Nat) (Φ:Ex×St B->Prop)
  {T:ι->Tree (Ex×Bool×V×List Blk)} (hT:∀ i,Inv i->((ev (E i) k f b B (Yg n0 N0 KT KH (ts i) (ys i))).bind fun x=>Tree.leaf (x.1,vwN n1 n0 N0 KT KH x.2)) = T i)
  (step:∀ i,Inv i->(T i).holds P fun y=>match y.1 with
   | .normal=>y.2.1 = true/\∃ i',Inv i'/\μ i' < μ i/\Le n0 y.2.2.1 (ts i')/\Xm n0 y.2.2.2 (ys i')
   | e=>y.2.1 = true/\∃ ts' ys',Le n0 y.2.2.1 ts'/\Xm n0 y.2.2.2 ys'/\Φ (e,Yg n0 N0 KT KH ts' ys'))
  {s:St B} (hn:s.n = n1) {i0:ι} (h0:Inv i0) (hs:WE n1 n0 N0 KT KH s (ts i0) (ys i0)):VH P b s Φ:=by
 refine loop_renN hE hP (k:=k) hin ts ys Inv μ Φ (fun i hi=>?_) hn h0 hs
 refine Tree.Xh _ (fun x hx=>?_) (Tree.ZlI (hT i hi) (step i hi))
 obtain ⟨e,s'⟩:=x
 cases e with
 | normal=>obtain ⟨h1,i',h2,h3,h4,h5⟩:=hx; exact ⟨i',h2,h3,h1,h4,h5⟩
 | exit id=>obtain ⟨h1,ts',bs',h2,h3,h4⟩:=hx; exact ⟨ts',bs',⟨h1,h2,h3⟩,h4⟩
 | ret=>obtain ⟨h1,ts',bs',h2,h3,h4⟩:=hx; exact ⟨ts',bs',⟨h1,h2,h3⟩,h4⟩
end
end Go.Fw
namespace Go.Fw
section
variable {B:Base}
end
def YH (n:Nat) (f:Nat->Bool):Bool:=Nat.rec true (fun k r=>f k&&r) n
theorem Zhp {n:Nat} {f:Nat->Bool}:YH n f = true->∀ k,k < n->f k = true:=by
 induction n with
 | zero=>intro _ k h; omega
 | succ n ih=>
  intro h k hk
  have h:(f n&&YH n f) = true:=h
  simp only [Bool.and_eq_true] at h
  rcases Nat.lt_or_ge k n with h' | h'
  ·exact ih h.2 k h'
  ·have:k = n:=by omega
   subst this; exact h.1
universe u
def sameI (a b:Int):Bool:=decide (a = b)
def sameK (a b:IntKind):Bool:=decide (a = b)
def sameS:List UInt8->List UInt8->Bool
 | [],[]=>true
 | a :: l,b :: r=>Nat.beq a.toNat b.toNat&&sameS l r
 | _,_=>false
theorem sameS_eq:∀ l r:List UInt8,sameS l r = true->l = r:=by
 intro l
 induction l with
 | nil=>intro r h; cases r with | nil=>rfl | cons=>cases h
 | cons a l ih=>
  intro r h
  cases r with
  | nil=>cases h
  | cons b r=>
   simp only [sameS,Bool.and_eq_true] at h
   rw [UInt8.toNat_inj.1 (Nat.eq_of_beq_eq_true h.1),ih r h.2]
def Yv:V->V->Bool
 | .cons h t,y=>match y with | .cons h' t'=>Yv h h'&&Yv t t' | _=>false
 | .nil,y=>match y with | .nil=>true | _=>false
 | .int _ k n,y=>match y with | .int _ k' n'=>sameK k k'&&sameI n n' | _=>false
 | .bool _ b,y=>match y with | .bool _ b'=>b==b' | _=>false
 | .str _ s,y=>match y with | .str _ s'=>sameS s s' | _=>false
 | .agg cs,y=>match y with | .agg cs'=>Yv cs cs' | _=>false
 | .tup cs,y=>match y with | .tup cs'=>Yv cs cs' | _=>false
 | .rsl _ es n get,y=>match y with
  | .rsl _ es' n' get'=>(Nat.beq es es'&&Nat.beq n n')&&XB n fun j=>Yv (get j) (get' j)
  | _=>false
 | .Zz,y=>match y with | .Zz=>true | .rsl _ _ n _=>Nat.beq n 0 | _=>false
 | .esl nn es,y=>match y with
  | .rsl _ es' n _=>Nat.beq n 0&&Nat.beq es es'
  | .esl nn' es'=>(nn || !nn')&&Nat.beq es es'
  | _=>false
 | .nilptr,y=>match y with | .nilptr=>true | _=>false
 | .nilmap,y=>match y with | .nilmap=>true | _=>false
 | .nilif,y=>match y with | .nilif=>true | _=>false
 | _,_=>false
theorem allN_all {f:Nat->Bool}:∀ {k:Nat},XB k f = true->∀ j,j < k->f j = true:=by
 intro k
 induction k with
 | zero=>intro _ j hj; omega
 | succ k ih=>
  intro h j hj
  have e:XB (k + 1) f = (XB k f&&f k):=rfl
  rw [e,Bool.and_eq_true] at h
  by_cases e:j = k
  ·subst e; exact h.2
  ·exact ih h.1 j (by omega)
theorem sameV_R {F:Nat->Prop} {w:World}:∀ (v v':V),Yv v v' = true->∀ (n:Nat) (m:Nat->Option Nat),(∀ x,R F w v n m x->R F w v' n m x)/\(∀ xs,RL F w v n m xs->RL F w v' n m xs):=by
 intro v
 induction v with
 | cons h t ih1 ih2=>
  intro v' hs n m
  cases v' <;> simp only [Yv] at hs <;> try (cases hs; done)
  simp only [Bool.and_eq_true] at hs
  refine ⟨fun x h=>by simp only [R] at h,fun xs h=>?_⟩
  simp only [RL] at h ⊢
  obtain ⟨x,r,rfl,h1,h2⟩:=h
  exact ⟨x,r,rfl,(ih1 _ hs.1 n m).1 _ h1,(ih2 _ hs.2 n m).2 _ h2⟩
 | nil=>
  intro v' hs n m
  cases v' <;> simp only [Yv] at hs <;> try (cases hs; done)
  exact ⟨fun _ h=>h,fun _ h=>h⟩
 | int st k q=>
  intro v' hs n m
  cases v' <;> simp only [Yv] at hs <;> try (cases hs; done)
  simp only [Bool.and_eq_true,sameK,sameI,decide_eq_true_eq] at hs
  obtain ⟨rfl,rfl⟩:=hs
  exact ⟨fun x h=>by simp only [R] at h ⊢; exact h,fun xs h=>by simp only [RL] at h⟩
 | bool st b=>
  intro v' hs n m
  cases v' <;> simp only [Yv] at hs <;> try (cases hs; done)
  obtain rfl:=eq_of_beq hs
  exact ⟨fun x h=>by simp only [R] at h ⊢; exact h,fun xs h=>by simp only [RL] at h⟩
 | str st s=>
  intro v' hs n m
  cases v' <;> simp only [Yv] at hs <;> try (cases hs; done)
  obtain rfl:=sameS_eq _ _ hs
  exact ⟨fun x h=>by simp only [R] at h ⊢; exact h,fun xs h=>by simp only [RL] at h⟩
 | agg cs ih=>
  intro v' hs n m
  cases v' <;> simp only [Yv] at hs <;> try (cases hs; done)
  refine ⟨fun x h=>?_,fun xs h=>by simp only [RL] at h⟩
  simp only [R] at h ⊢
  obtain ⟨xs,rfl,h1⟩:=h
  exact ⟨xs,rfl,(ih _ hs n m).2 _ h1⟩
 | tup cs ih=>
  intro v' hs n m
  cases v' <;> simp only [Yv] at hs <;> try (cases hs; done)
  refine ⟨fun x h=>?_,fun xs h=>by simp only [RL] at h⟩
  simp only [R] at h ⊢
  obtain ⟨xs,rfl,h1⟩:=h
  exact ⟨xs,rfl,(ih _ hs n m).2 _ h1⟩
 | rsl st es k get ih=>
  intro v' hs n m
  cases v' <;> simp only [Yv] at hs <;> try (cases hs; done)
  simp only [Bool.and_eq_true] at hs
  obtain ⟨⟨he,hk⟩,hall⟩:=hs
  obtain rfl:=Nat.eq_of_beq_eq_true he
  obtain rfl:=Nat.eq_of_beq_eq_true hk
  refine ⟨fun x h=>?_,fun xs h=>by simp only [RL] at h⟩
  simp only [R] at h ⊢
  obtain ⟨a,cap,rfl,hkc,h⟩:=h
  refine ⟨a,cap,rfl,hkc,h.imp id ?_⟩
  rintro ⟨B,off,rfl,hF,c,el,fr,hc,hr⟩
  refine ⟨B,off,rfl,hF,c,el,fr,hc,fun j hj=>?_⟩
  obtain ⟨xs,h1,h2,h3⟩:=hr j hj
  exact ⟨xs,(ih j _ (allN_all hall j hj) 0 _).2 _ h1,h2,h3⟩
 | Zz=>
  intro v' hs n m
  refine ⟨fun x h=>?_,fun xs h=>by simp only [RL] at h⟩
  cases v' <;> simp only [Yv] at hs <;> try (cases hs; done)
  ·obtain rfl:=Nat.eq_of_beq_eq_true hs
   simp only [R] at h ⊢
   exact ⟨none,0,h,Nat.le_refl _,.inl trivial⟩
  ·exact h
 | esl nn es=>
  intro v' hs n m
  refine ⟨fun x h=>?_,fun xs h=>by simp only [RL] at h⟩
  cases v' <;> simp only [Yv] at hs <;> try (cases hs; done)
  ·simp only [Bool.and_eq_true] at hs
   obtain rfl:=Nat.eq_of_beq_eq_true hs.1
   obtain rfl:=Nat.eq_of_beq_eq_true hs.2
   simp only [R] at h ⊢
   obtain ⟨a,rfl,_⟩:=h
   exact ⟨a,0,rfl,Nat.le_refl _,.inl trivial⟩
  ·rename_i nn' es'
   simp only [Bool.and_eq_true] at hs
   simp only [R] at h ⊢
   obtain ⟨a,rfl,h1⟩:=h
   refine ⟨a,rfl,fun h2=>h1 ?_⟩
   subst h2
   simpa using hs.1
 | nilptr=>intro v' hs n m; cases v' <;> simp only [Yv] at hs <;> first | (cases hs; done) | exact ⟨fun _ h=>h,fun _ h=>h⟩
 | nilmap=>intro v' hs n m; cases v' <;> simp only [Yv] at hs <;> first | (cases hs; done) | exact ⟨fun _ h=>h,fun _ h=>h⟩
 | nilif=>intro v' hs n m; cases v' <;> simp only [Yv] at hs <;> first | (cases hs; done) | exact ⟨fun _ h=>h,fun _ h=>h⟩
 | _=>intro v' hs; simp only [Yv] at hs; cases hs
theorem Zi.same {P:Program} {g:FuncId} {args v v':V} (h:Zi P g args v) (hv:Yv v v' = true):Zi P g args v':=
 ⟨h.1,fun F w xs h1 h2 h3=>(h.2 F w xs h1 h2 h3).mono fun _ _ ⟨x,F',e1,e2,e3⟩=>⟨x,F',e1,e2,(sameV_R _ _ hv 0 _).1 _ e3⟩⟩
end Go.Fw
end
