/- The evaluator is sound: what it says of a piece of code, and of a call, the model does. -/
import Derived.Test.YthhbdbeglmkijaaGreatDoorMAe
import Derived.RangeFuncRecord
import Derived.Test.YthhbdbeglmkijaaGreatDoorMAd
import Derived.Test.YthhbdbeglmkijaaGreatDoorMAb
set_option maxRecDepth 100000
set_option linter.unusedVariables false
set_option linter.unusedSimpArgs false
noncomputable section
open Option renaming some→zi,none→zm
open Bool renaming true→ze,and_eq_true→zL,false→za
open Nat renaming le_refl→zI,beq→zq,blt→zG,eq_of_beq_eq_true→zO,ble→zK,le_of_ble_eq_true→yA
open Go.Fw.Tree renaming leaf→zw,node→zB
open Int renaming ofNat→zT
namespace Go.Fw
def wpX(P:Program)(ro:Option Nat)(c:Code)(Q:Exit->Act->World->Prop)(a:Act)(w:World):Prop:=
 match c with
 | .loop b=>JC P ro b Q a w
 |c=>c.wpIn (fen ro) 0 P Q a w
variable{ro:Option Nat}{c:Code}{Q:Exit->Act->World->Prop}{a:Act}{w:World}
theorem wpX.wp{P:Program}(h:wpX P ro c Q a w):c.wpIn (fen ro) 0 P Q a w:=by
 cases c<;>first|exact JC.wp h|exact h
def UG(E:Env)(rec_:Qh):Prop:=
 ∀(ro:Option Nat)(f:FuncId)(c:Code)(B:Base)(s:St B)(lo base:Nat)(m:Nat->Option Nat)(F:Nat->Prop)(a:Act)(w:World)(Q:Ex×St B->Prop)(Qx:Exit->Act->World->Prop),(∀b∈YQ c,∀g,Qo E f b=zi g->Wq E.P f b)->(ro=zm\/XR c=ze)->Rel lo base m F s a w->
  (rec_ f c B s).holds E.P Q->(∀e s',Q (e,s')->∀m' F' a' w',Ext base m F s.n w m' F' s'.n w'->Rel lo base m' F' s' a' w'->Qx e.J8 a' w')->wpX E.P ro c Qx a w
variable{k:List Item}{cs:List Frame}
theorem ZbK{P:Program}{b:Frame}:step P (lone (b.atR a (.code (.scope c)::k)) cs w)=.next (lone (b.atR a (.code c::.inScope c::k)) cs w):=
 step_lone_go (by simp[stepG,stepG.exec,Frame.atR])
theorem Zry{P:Program}{b:Frame}:step P (lone (b.atR a (.inScope c::k)) cs w)=.next (lone (b.atR a k) cs w):=
 step_lone_go (by simp[stepG,stepG.exec,Frame.atR])
def noJump(Q:Exit->Act->World->Prop):Exit->Act->World->Prop
 | .goto _,_,_=>False
 |e,a,w=>Q e a w
variable{n:Nat}
theorem Zse{F:Fence}{P:Program}(h:c.wpIn F n P (noJump Q) a w):(Code.scope c).wpIn F n P Q a w:=by
 intro b k cs hro hb hr
 have h0:(lone (b.atR a (.code (.scope c)::k)) cs w).fenced P F:=fenced_calm hb hr rfl
 obtain⟨e,a₁,w₁,hq,harr⟩:=h b (.inScope c::k) cs hro hb hr
 cases e with
 |normal=>exact⟨.normal,a₁,w₁,hq,.head h0 ZbK (StepsIn.trans harr (.one (fenced_calm hb hr rfl) Zry))⟩
 |exit id=>
  have hx:exitTo id (.inScope c::k)=exitTo id k:=by simp[exitTo]
  exact⟨.exit id,a₁,w₁,hq,λk' hk=>.head h0 ZbK (harr.1 k' (by rw[hx];exact hk)),
   λhr' hk=>let⟨k₁,h1,h2⟩:=harr.2 hr' (by rw[hx];exact hk);⟨k₁,h1,.head h0 ZbK h2⟩⟩
 |goto l=>exact hq.elim
 |ret=>exact⟨_,a₁,w₁,hq,.of_steps (.one h0 ZbK) harr⟩
 |panic ch=>exact⟨_,a₁,w₁,hq,.of_steps (.one h0 ZbK) harr⟩
 |outgrown=>exact⟨_,a₁,w₁,hq,.of_steps (.one h0 ZbK) harr⟩
variable{F:Nat->Prop}{base:Nat}{m:Nat->Option Nat}{Qx:Exit->Act->World->Prop}
theorem ZlR{P:Program}{B:Base}{s:St B}{f:St s.bs->Tree (Ex×St s.bs)}{lo:Nat}{Q:Ex×St B->Prop}(hr:Rel lo base m F s a w)
  (hq:(merged s f).holds P Q)(hK:∀e s',Q (e,s')->∀m' F' a' w',Ext base m F s.n w m' F' s'.n w'->Rel lo base m' F' s' a' w'->Qx e.J8 a' w')
  (run:∀(Q':Ex×St s.bs->Prop),Rel lo base m F s.sub a w->(f s.sub).holds P Q'->(∀e s',Q' (e,s')->∀m' F' a' w',Ext base m F s.sub.n w m' F' s'.n w'->Rel lo base m' F' s' a' w'->Qx e.J8 a' w')->wpX P ro c Qx a w):wpX P ro c Qx a w:=by
 refine run _ (sub_rel hr) (ZqL hq) λe s' ⟨y,hy,he,hw⟩ m' F' a' w' h1 h2=>?_
 subst he
 exact hK y.1 (s.VL y.2) hy m' F' a' w' ⟨h1.f,h1.back,h1.keep,h1.size,h1.sz,h1.ow,Nat.le_trans h1.le hw.1,h1.map,h1.calm⟩ (Zmo (hw.2 _ _ _ _ _ _ h2))
theorem ZqK{P:Program}{B:Base}{s:St B}{f:St s.bs->Tree (Ex×St s.bs)}{lo:Nat}{Q:Ex×St B->Prop}(hr:Rel lo base m F s a w)
  (hq:(Zdq s f).holds P Q)(hK:∀e s',Q (e,s')->∀m' F' a' w',Ext base m F s.n w m' F' s'.n w'->Rel lo base m' F' s' a' w'->Qx e.J8 a' w')
  (run:∀(Q':Ex×St s.bs->Prop),Rel lo base m F s.sub a w->(f s.sub).holds P Q'->(∀e s',Q' (e,s')->∀m' F' a' w',Ext base m F s.sub.n w m' F' s'.n w'->Rel lo base m' F' s' a' w'->Qx e.J8 a' w')->wpX P ro c Qx a w):wpX P ro c Qx a w:=by
 refine run _ (sub_rel hr) (ZqJ hq) λe s' ⟨y,hy,he,hw⟩ m' F' a' w' h1 h2=>?_
 subst he
 exact hK y.1 (s.VL y.2) hy m' F' a' w' ⟨h1.f,h1.back,h1.keep,h1.size,h1.sz,h1.ow,Nat.le_trans h1.le hw.1,h1.map,h1.calm⟩ (Zmo (hw.2 _ _ _ _ _ _ h2))
section
variable{E:Env}{rec_:Qh}{B:Base}
variable{lo base:Nat}{m:Nat->Option Nat}{F:Nat->Prop}{s:St B}{a:Act}{w:World}
theorem Zra(hr:Rel lo base m F s a w):∀(l:List ResultVar)(Q:V->Prop),(VN E.P s l).holds E.P Q->
  ∃vs xs,Q vs/\(l.mapM (m:=Sem) λ| .tmp t=>pure (a.tmps.getD t undef)| .cell b t=>do loadVar t (<- asAddr (a.tmps.getD b undef))).run E.P w=.ok xs w/\RL F w vs s.n m xs:=by
 intro l
 induction l with
 |nil=>intro Q hq;exact⟨.nil,[],hq,by simp,by simp only[RL]⟩
 |cons r l ih=>
  intro Q hq
  simp only[VN]at hq
  rw[Tree.Yw]at hq
  have one:∀Q':V->Prop,(ZdH E.P s r).holds E.P Q'->∃v x,Q' v/\(match r with| .tmp t=>pure (a.tmps.getD t undef)| .cell b t=>do loadVar t (<- asAddr (a.tmps.getD b undef)):Sem Value).run E.P w=.ok x w/\R F w v s.n m x:=by
   intro Q' hq'
   cases r with
   |tmp t=>exact⟨_,_,hq',rfl,hr.tmp t⟩
   |cell b t=>
    have hx:=hr.tmp b
    obtain⟨v,x,h1,h2,h3⟩:=Zih (P:=E.P) hr.hr hx Q' hq'
    refine⟨v,x,h1,?_,h3⟩
    dsimp only
    rw[<- h2]
    generalize a.tmps.getD b undef=y at hx hq'⊢
    simp only[ZdH]at hq'
    cases hs:s.tmp b<;>rw[hs]at hq' hx<;>try exact hq'.elim
    ·obtain⟨_,B,rfl,_⟩:=hx;rfl
    ·obtain⟨_,B,off,rfl,_⟩:=hx;rfl
  obtain⟨v,x,h1,h2,h3⟩:=one _ hq
  rw[Tree.Yw]at h1
  obtain⟨vs,xs,h4,h5,h6⟩:=ih _ h1
  refine⟨.cons v vs,x::xs,h4,?_,?_⟩
  ·simp_all
  ·grind[RL]
theorem Zrb(hr:Rel lo base m F s a w)(fn:Func){Q:V->Prop}(hq:(VN E.P s fn.results.toList).holds E.P Q) :
  ∃vs x,Q vs/\(results fn a.tmps).run E.P w=.ok x w/\R F w (single vs) s.n m x:=by
 obtain⟨vs,xs,h1,h2,h3⟩:=Zra hr _ Q hq
 refine⟨vs,if h:xs.toArray.size=1 then xs.toArray[0]else .tuple xs.toArray,h1,?_,?_⟩
 ·have hma:(fn.results.mapM (m:=Sem) λ| .tmp t=>pure (a.tmps.getD t undef)| .cell b t=>do loadVar t (<- asAddr (a.tmps.getD b undef))).run E.P w=.ok xs.toArray w:=by
   simp_all[List.toArray,Array.mapM_eq_mapM_toList,Sem.run_map]
  unfold results
  rw[Sem.run_bind]
  exact(congrArg (λr=>Result.andThen r _) hma).trans rfl
 ·cases vs<;>try(simp only[RL]at h3;done)
  ·grind[RL,single,R]
  ·rename_i v t
   have h3':=h3
   obtain⟨x,r,rfl,hv,ht⟩:=h3
   cases t<;>try(simp only[RL]at ht;done)
   all_goals grind[RL,single,R]
variable{n:Nat}
theorem Zro:∀(args:V)(xs:List Value),RL F w args n m xs->∀(i:Nat)(d:Nat->V)(T:PT V)(g:Nat->Value),
  (∀j,R F w (look d T j) n m (g j))->∀j,R F w (look d (setArgs args i T) j) n m (if i<=j/\j<i+xs.length then xs.getD (j-i) Go.undef else g j):=by
 intro args
 induction args with
 |nil=>grind[RL,setArgs]
 |cons a t _ ih=>
  intro xs h i d T g hT j
  obtain⟨x,r,rfl,h1,h2⟩:=h
  have:=ih r h2 (i+1) d (T.set i a) (λj=>if j=i then x else g j) (λj=>by
   by_cases e:j=i
   ·grind[Un]
   ·rw[if_neg e,GR _ _ _ e];exact hT j) j
  grind[setArgs]
 |_=>grind[RL]
variable{hb:Nat->Blk}{h:PT Blk}{xs:Array Value}
theorem enter_rel(hr:HR base m F (look hb h) n w){args:V}(ha:RL F w args n m xs.toList)(k:Nat) :
  Rel w.heap.size base m F (enter hb args k h n) { tmps:=xs++Array.replicate (k-xs.size) undef,defers:=[] } w:=by
 have hlen:args.len=xs.size:=by simpa using XM _ _ ha
 refine⟨hr,⟨[],rfl,List.nodup_nil,zI _,λr hr=>(by cases hr),λr hr=>(by cases hr),λr hr=>(by cases hr)⟩,?_,λi=>?_⟩
 ·grind[enter]
 ·have:=Zro args _ ha 0 (λ_=>.junk) .nil (λ_=>Go.undef) (λj=>by show R F w .junk n m _;simp only[R]) i
  have e:(if 0<=i/\i<0+xs.toList.length then xs.toList.getD (i-0) Go.undef else Go.undef)=(xs++Array.replicate (k-xs.size) undef).getD i Go.undef:=by
   simp only[Nat.zero_le,true_and,Nat.zero_add,Array.length_toList,Nat.sub_zero]
   by_cases hi:i<xs.size
   ·simp_all[Array.getD_eq_getD_getElem?,Array.getElem?_append_left,List.getD_eq_getElem?_getD,Array.getElem?_toList]
   ·rw[if_neg hi,Array.getD_eq_getD_getElem?,Array.getElem?_append_right (by omega),Array.getElem?_replicate]
    grind
  rw[<- e]
  exact this
def closeAll(w:World):List Nat->World
 |[]=>w
 |r::rs=>closeAll (w.putObj r (.deferred zm)) rs
theorem Zou:∀(rs:List Nat)(w:World),(closeAll w rs).heap.size=w.heap.size:=by
 intro rs
 induction rs<;>simp_all[closeAll]
variable{K:Ending->World->Prop}
theorem Zqy{P:Program}{fn:Func}{tmps:Array Value}:∀(rs:List Nat)(w:World),rs.Nodup->(∀r∈rs,w.heap[r]? =zi (.deferred (zi [])))->
  (∃v,(results fn tmps).run P (closeAll w rs)=.ok v (closeAll w rs)/\K (.returned v) (closeAll w rs))->LeavesInM (fen zm) 0 P fn tmps K (rs.map λr=>{ target:=.collected r,args:=#[] }) .returning w:=by
 intro rs
 induction rs with
 |nil=>intro w _ _ h;exact h
 |cons r rs ih=>
  intro w hn ho h
  have hn':=List.nodup_cons.1 hn
  refine⟨by simp,.inl ⟨r,_,rfl,run_takeDeferred (ho r (by simp)),ih _ hn'.2 (λq hq=>?_) h⟩⟩
  grind[World.putObj_heap_other,List.mem_cons_of_mem]
theorem Zmi{r:Nat}{o:Obj}(ho:w.heap[r]? =zi (.deferred (zi []))):Yk w (w.putObj r o):=λB c el fr hB=>by
 have hne:B≠r:=λe=>by subst e;rw[ho]at hB;cases hB
 exact⟨c,fr,by rw[World.putObj_heap_other hne];exact hB,rfl⟩
theorem RB_world{w':World}{blk:Blk}{B:Option Nat}(hs:Yk w w')(hF:∀B,F B->w'.heap[B]? =w.heap[B]?)(hk:∀b,B=zi b->w'.heap[b]? =w.heap[b]?)(hb:RB F w n m blk B):RB F w' n m blk B:=by
 have hm:=λv n m=>Xj (F:=F) (F':=F) hs (λ_ h=>h) hF v n n m m (zI _) (λ_ _ _ h=>h)
 cases blk with
 |none=>exact hb
 |any=>exact hb
 |var cs=>
  obtain⟨b,xs,el,ys,zs,e,hc,hsp,hr⟩:=hb
  exact⟨b,xs,el,ys,zs,e,by rw[hk b e];exact hc,hsp,(hm cs n m).2 _ hr⟩
 |arr es k get=>
  rcases hb with h0|⟨b,c,el,e,hc,hs,hr⟩
  ·exact .inl h0
  refine .inr ⟨b,c,el,e,by rw[hk b e];exact hc,hs,λj hj=>?_⟩
  grind
 |iter mb since seen last=>
  obtain⟨r,x,e,hc,h1⟩:=hb
  refine⟨r,x,e,by rw[hk r e];exact hc,?_⟩
  grind
 |Zk kd st f ks=>
  obtain⟨b,es,clock,e,hc,hE,hf⟩:=hb
  exact⟨b,es,clock,e,by rw[hk b e];exact hc,hE,λk hk'=>⟨(hf k hk').1,λv hv=>(hm (f k).2 n m).1 _ ((hf k hk').2 v hv)⟩⟩
 |rng f ps asg bd row N st pend=>
  obtain⟨l,r,e,hc,h1,h2,h3,h4,h5,h6,h7⟩:=hb
  exact⟨l,r,e,by rw[hk l e];exact hc,h1,h2,h3,h4,h5,h6,λi=>(hm (row i) n m).1 _ (h7 i)⟩
theorem HR.closeAll{h:Nat->Blk}:∀{w:World},HR base m F h n w->∀(rs:List Nat),rs.Nodup->(∀r∈rs,w.heap[r]? =zi (.deferred (zi [])))->(∀r∈rs,¬F r/\∀b,m b≠zi r)->
  HR base m F h n (closeAll w rs)/\∀v x,R F w v n m x->R F (closeAll w rs) v n m x:=by
 intro w hr rs
 induction rs generalizing w with
 |nil=>intro _ _ _;exact⟨hr,λ_ _ h=>h⟩
 |cons r rs ih=>
  intro hn ho hu
  have hn':=List.nodup_cons.1 hn
  have hs:=Zmi (o:=.deferred zm) (ho r (by simp))
  have hF:∀B,F B->(w.putObj r (.deferred zm)).heap[B]? =w.heap[B]?:=λB hB=>World.putObj_heap_other λe=>(hu r (by simp)).1 (by rw[<- e];exact hB)
  have hr':HR base m F h n (w.putObj r (.deferred zm)):=
   ⟨by simpa using hr.low,λB hB=>by simpa using hr.fdom B hB,λb hb=>RB_world hs hF (λk hk=>World.putObj_heap_other λe=>(hu r (by simp)).2 b (by rw[hk,e])) (hr.blk b hb),λb B hB=>by simpa using hr.dom b B hB,hr.new,hr.gl.mono hs (λ_ h=>h) hF,hr.own,hr.inj⟩
  obtain⟨k1,k2⟩:=ih hr' hn'.2 (λq hq=>by
   rw[World.putObj_heap_other (λe=>hn'.1 (by rw[<- e];exact hq))]
   exact ho q (List.mem_cons_of_mem _ hq)) (λq hq=>hu q (List.mem_cons_of_mem _ hq))
  exact⟨k1,λv x h=>k2 v x ((Xj hs (λ_ h=>h) hF v n n m m (zI _) (λ_ _ _ h=>h)).1 x h)⟩
theorem Ext.closeAll{m':Nat->Option Nat}{F':Nat->Prop}{n':Nat}:∀{w':World},Ext base m F n w m' F' n' w'->∀(rs:List Nat),rs.Nodup->(∀r∈rs,w.heap.size<=r)->(∀r∈rs,w'.heap[r]? =zi (.deferred (zi [])))->
  base<=w.heap.size->(∀B,F B->B<w.heap.size)->Ext base m F n w m' F' n' (Fw.closeAll w' rs):=by
 intro w' he rs
 induction rs generalizing w' with
 |nil=>intro _ _ _ _ _;exact he
 |cons r rs ih=>
  intro hn hl ho hb hF
  have hn':=List.nodup_cons.1 hn
  have hr:=hl r (by simp)
  refine ih ⟨he.f,he.back,λB hB=>?_,by simpa using he.size,he.sz.trans (Zmi (ho r (by simp))),⟨λB hB hu=>?_,he.ow.old⟩,he.le,he.map,⟨he.calm.os,he.calm.tape,he.calm.output⟩⟩ hn'.2 (λq hq=>hl q (List.mem_cons_of_mem _ hq)) (λq hq=>?_) hb hF
  ·rw[World.putObj_heap_other (λe=>by subst e;rcases hB with h|h;omega;have:=hF _ h;omega)]
   exact he.keep B hB
  ·rw[World.putObj_heap_other (λe=>by subst e;omega)]
   exact he.ow.un B hB hu
  ·grind[World.putObj_heap_other,List.mem_cons_of_mem]
theorem HR.Zjc{h h':Nat->Blk}(hr:HR base m F h n w){b l:Nat}(hb:m b=zi l){r r':Loop}(hl:w.heap[l]? =zi (.loop r))(hna:h b≠.any){blk:Blk}
  (hh:∀c,h' c=if c=b then blk else h c)(hblk:(∀v x,R F w v n m x->R F (w.putObj l (.loop r')) v n m x)->RB F (w.putObj l (.loop r')) n m blk (zi l)) :
  HR base m F h' n (w.putObj l (.loop r'))/\Ext base m F n w m F n (w.putObj l (.loop r')):=by
 have hown:=hr.own b l hb
 have keep:∀k,k≠l->(w.putObj l (.loop r')).heap[k]? =w.heap[k]?:=λk hk=>World.putObj_heap_other hk
 have hsz:Yk w (w.putObj l (.loop r')):=λB c el fr hB=>by
  grind
 have hkF:∀k,F k->(w.putObj l (.loop r')).heap[k]? =w.heap[k]?:=λk hk=>keep k λe=>by subst e;grind
 have hext:Ext base m F n w m F n (w.putObj l (.loop r')):=
  ⟨λ_ h=>h,λ_ h=>.inl h,λk hk=>keep k (λe=>by subst e;rcases hk with h|h;exact absurd hown.1 (Nat.not_le.2 h);exact hown.2 h),by simp,hsz,
   ⟨λk _ hk=>keep k λe=>hk b (by rw[e];exact hb),λc _ hc _=>⟨c,hc⟩⟩,zI _,λ_ _ _ h=>h,⟨rfl,rfl,rfl⟩⟩
 refine⟨⟨by simpa using hr.low,λk hk=>by simpa using hr.fdom k hk,λc hc=>?_,λc C hC=>by simpa using hr.dom c C hC,hr.new,hr.gl.mono hsz (λ_ h=>h) hkF,hr.own,λc c' C h1 h2 hne=>?_⟩,hext⟩
 ·rw[hh c]
  by_cases e:c=b
  ·subst e
   rw[if_pos rfl,hb]
   exact hblk λv xs hv=>hext.val hv
  ·rw[if_neg e]
   by_cases e2:m c=zi l
   ·rcases hr.inj c b l e2 hb e with h1|h1
    ·rw[h1];exact trivial
    ·grind
   ·exact Ka hext (λk hk=>keep k λe'=>by subst e';exact e2 hk) (hr.blk c hc)
 ·rw[hh c,hh c']
  rcases hr.inj c c' C h1 h2 hne with h3|h3<;>grind
theorem Zq3{d:Nat->V}:∀(ps:List Nat)(args:V)(xs:List Value)(T:PT V)(arr:Array Value),RL F w args n m xs->(∀p∈ps,p<arr.size)->(∀j,R F w (look d T j) n m (arr.getD j Go.undef))->
  (∀j,R F w (look d (ZdG ps args T) j) n m (((ps.zip xs).foldl (λtmps(t,a)=>tmps.setIfInBounds t a) arr).getD j Go.undef))/\((ps.zip xs).foldl (λtmps(t,a)=>tmps.setIfInBounds t a) arr).size=arr.size:=by
 intro ps
 induction ps with
 |nil=>intro args xs T arr _ _ hT;exact⟨hT,rfl⟩
 |cons p ps ih=>
  intro args xs T arr ha hps hT
  cases args<;>simp only[RL]at ha
  ·subst ha;exact⟨hT,rfl⟩
  ·rename_i v r
   obtain⟨x,q,rfl,h1,h2⟩:=ha
   have hp:=hps p (by simp)
   have:=ih r q (T.set p v) (arr.setIfInBounds p x) h2 (λp' hp'=>by simpa using hps p' (List.mem_cons_of_mem _ hp')) (λj=>by
    rw[Yg]
    by_cases e:j=p
    ·simp_all
    ·rw[if_neg e]
     have hget:(arr.setIfInBounds p x).getD j Go.undef=arr.getD j Go.undef:=by
      simp only[Array.getD_eq_getD_getElem?,Array.getElem?_setIfInBounds_ne (Ne.symm e)]
     rw[hget];exact hT j)
   exact⟨this.1,by rw[List.zip_cons_cons,List.foldl_cons];rw[this.2];simp⟩
theorem ZpE(hrec:UG E rec_){b:Nat}{args:V}{Q:V×PT Blk×Nat->Prop}
  (hr:HR base m F (look hb h) n w)(ha:RL F w args n m xs.toList)(hq:(ZcV E rec_ hb b args h n).holds E.P Q)
  (hK:∀v h' n',Q (v,h',n')->∀m' F' w' x,Ext base m F n w m' F' n' w'->HR base m' F' (look hb h') n' w'->R F' w' v n' m' x->K (.returned x) w')(l:Nat)(hml:m b=zi l) :
  ∃r,w.heap[l]? =zi (.loop r)/\xs.size=r.params.size/\∀ro,RoundIn (fen ro) 0 E.P l r.fn ((r.params.zip xs).foldl (λtmps(t,a)=>tmps.setIfInBounds t a) r.tmps) r.assign r.body w K:=by
 have hbn:b<n:=hr.lt (by rw[hml];simp)
 have hblk:=hr.blk b hbn
 unfold ZcV at hq
 cases hh:look hb h b<;>rw[hh]at hq hblk<;>try(exact hq.elim)
 rename_i f ps asg bd row N st pend
 obtain⟨l',r,e,hl,hps,hasg,hbd,hst,hpd,hrl,hrow⟩:=hblk
 obtain rfl:l=l':=by
  grind
 dsimp only at hq
 have hlp':(∀c∈YQ asg++YQ bd,∀g,Qo E f c=zi g->Wq E.P f c):=by
  cases hlp:((YQ asg++YQ bd).all λc=>(Qo E f c).isNone)
  ·rw[hlp]at hq
   exact hq.1
  ·grind
 replace hq:=(Zhc hq).2
 cases hc:(zq st 0&&(zq args.len ps.length&&ps.all λp=>zG p N))&&(XR asg&&XR bd)
 ·rw[hc]at hq
  exact hq.elim
 rw[hc]at hq
 simp at hq
 simp only[zL]at hc
 obtain⟨⟨_,hlen,hall⟩,hna,hnb⟩:=hc
 have hlen:=zO hlen
 have hal:args.len=xs.size:=by simpa using XM _ _ ha
 have hpl:ps.length=r.params.size:=by
  grind
 refine⟨r,hl,by omega,λro=>roundIn_of_wpIn (F:=fen ro) trivial ?_⟩
 rw[Tree.Yw]at hq
 have htmps:=Zq3 (F:=F) (w:=w) (n:=n) (m:=m) (d:=row) ps args xs.toList .nil r.tmps ha (λp hp=>by
  have:=List.all_eq_true.1 hall p hp
  rw[Nat.blt_eq]at this;omega) (λj=>hrow j)
 have hfold:(r.params.zip xs).foldl (λtmps(t,a)=>tmps.setIfInBounds t a) r.tmps=(ps.zip xs.toList).foldl (λtmps(t,a)=>tmps.setIfInBounds t a) r.tmps:=by
  grind[Array.toList_zip]
 have hrel0:Rel w.heap.size base m F ({ t:=ZdG ps args .nil,h,n,N }:St ⟨row,hb⟩) { tmps:=(r.params.zip xs).foldl (λtmps(t,a)=>tmps.setIfInBounds t a) r.tmps,defers:=[] } w:=
  ⟨hr,⟨[],rfl,List.nodup_nil,zI _,λr hr=>(by cases hr),λr hr=>(by cases hr),λr hr=>(by cases hr)⟩,by rw[hfold];rw[htmps.2,hrl],λj=>by
   rw[hfold];exact htmps.1 j⟩
 subst hasg
 refine wpX.wp (ro:=zi l) (hrec (zi l) f r.assign ⟨row,hb⟩ _ w.heap.size base m F _ w _ _ (λc hc=>hlp' c (List.mem_append_left _ hc)) (.inr hna) hrel0 hq λe s' hQ m' F' a' w' h1 h2=>?_)
 cases e with
 |exit id=>exact hQ.elim
 |ret=>exact hQ.elim
 |normal=>
  have hml':=h1.map b hbn l hml
  have hbn':b<s'.n:=h2.hr.lt (by rw[hml'];simp)
  have hblk':=h2.hr.blk b hbn'
  cases hh':look hb s'.h b<;>rw[show s'.blk b=look hb s'.h b from rfl]at hblk'<;>rw[hh']at hQ hblk'<;>try(exact hQ.elim)
  rename_i f1 ps1 asg1 bd1 row1 N1 st1 pd1
  obtain⟨l1,r1,e1,hl1,hps1,hasg1,hbd1,hst1,hpd1,hrl1,hrow1⟩:=hblk'
  obtain rfl:l=l1:=by
   grind
  dsimp only at hQ
  cases hs0:zq st1 0
  ·rw[hs0]at hQ
   exact hQ.elim
  rw[hs0]at hQ
  simp at hQ
  rw[Tree.Yw]at hQ
  have hst1':r1.state=.ready:=by
   rw[hst1,zO hs0]
   rfl
  obtain⟨k1,k2⟩:=h2.hr.Zjc (h':=look hb (s'.h.set b (.rng f1 ps1 asg1 bd1 row1 N1 1 pd1))) (r':={ r1 with state:=.busy }) hml' hl1 (by show look hb s'.h b≠_;rw[hh'];simp) (blk:=.rng f1 ps1 asg1 bd1 row1 N1 1 pd1) (λc=>Yg _ _ _ _ _)
   (λup=>⟨l,_,rfl,World.putObj_heap_same (Zdg hl1),hps1,hasg1,hbd1,rfl,hpd1,hrl1,λi=>up _ _ (hrow1 i)⟩)
  refine⟨_,run_beginRound hl1 hst1',?_⟩
  have hrel1:Rel w.heap.size base m' F' ({ s' with h:=s'.h.set b (.rng f1 ps1 asg1 bd1 row1 N1 1 pd1) }:St ⟨row,hb⟩) a' (w'.putObj l (.loop { r1 with state:=.busy })):=
   ⟨k1,Marks.ext h2.defers k2,h2.size,λi=>k2.val (h2.tmp i)⟩
  subst hbd
  refine wpX.wp (ro:=zi l) (hrec (zi l) f r.body ⟨row,hb⟩ _ w.heap.size base m' F' _ _ _ _ (λc hc=>hlp' c (List.mem_append_right _ hc)) (.inr hnb) hrel1 hQ λe2 s2 hQ2 m2 F2 a2 w2 h3 h4=>?_)
  have hml2:=h3.map b hbn' l hml'
  have hbn2:b<s2.n:=h4.hr.lt (by rw[hml2];simp)
  have hblk2:=h4.hr.blk b hbn2
  cases hh2:look hb s2.h b<;>rw[show s2.blk b=look hb s2.h b from rfl]at hblk2<;>rw[hh2]at hQ2 hblk2<;>try(exact hQ2.elim)
  rename_i f2 ps2 asg2 bd2 Jy N2 st2 pd2
  obtain⟨l2,r2,e2',hl2,hps2,hasg2,hbd2,hst2,hpd2,hrl2,hrow2⟩:=hblk2
  obtain rfl:l=l2:=by
   grind
  dsimp only at hQ2
  cases hs1:zq st2 1
  ·rw[hs1]at hQ2
   exact hQ2.elim
  rw[hs1]at hQ2
  have fin:∀(jump:Option Code),codeOf (zi e2)=jump->e2.GI=jump.isNone->∃v w3,(Instr.endRound l jump).run E.P w2=.ok v w3/\K (.returned v) w3:=by
   intro jump hj hn
   refine⟨_,_,run_endRound jump hl2,?_⟩
   obtain⟨c1,c2⟩:=h4.hr.Zjc (h':=look hb (s2.h.set b (.rng f2 ps2 asg2 bd2 Jy N2 (bif e2.GI then 0 else 2) (zi e2)))) (r':={ r2 with state:=if jump.isNone then .ready else .done,pending:=jump }) hml2 hl2 (by show look hb s2.h b≠_;rw[hh2];simp)
    (blk:=.rng f2 ps2 asg2 bd2 Jy N2 (bif e2.GI then 0 else 2) (zi e2)) (λc=>Yg _ _ _ _ _)
    (λup=>⟨l,_,rfl,World.putObj_heap_same (Zdg hl2),hps2,hasg2,hbd2,by rw[hn];cases jump.isNone<;>rfl,hj.symm,hrl2,λi=>up _ _ (hrow2 i)⟩)
   exact hK _ _ _ hQ2 m2 F2 _ _ (((h1.trans k2).trans h3).trans c2) c1 (by rw[WJ,hn])
  cases e2 with
  |normal=>exact fin zm rfl rfl
  |ret=>exact fin (zi .ret) rfl rfl
  |exit id=>exact fin (zi (.exit id)) rfl rfl
theorem Zhn:∀(v:V),(∀x,R F w v n m x->R F w v.plain n m x)/\(∀xs,RL F w v n m xs->RL F w v.plain n m xs):=by
 intro v
 induction v<;>grind[refine,R,V.plain,RL,zq,zG,Va]
theorem ZcM(hE:E.Ok)(hrec:UG E rec_):UF E (JN E rec_):=by
 intro hb c args h n base m F w xs Q K hr ha hq hK
 cases c with
 |inr b=>exact λl hml=>ZpE hrec hr ha hq hK l hml
 |inl g=>
 simp only[JN]at hq
 cases hkn:Zfy E hb g args h n with
 |some T=>
  rw[hkn]at hq
  unfold Zfy at hkn
  cases hKg:E.hk g with
  |none=>grind
  |some K=>
   rw[hKg]at hkn
   exact evHeap_ok (hE.hk g K hKg) hkn hr ((Zhn args).2 _ ha) hq hK
 |none=>
 rw[hkn]at hq
 cases hf:E.P.funcs[g]? with
 |none=>rw[hf]at hq;exact hq.elim
 |some fn=>
  rw[hf]at hq
  dsimp only at hq
  cases hbd:fn.body with
  |none=>rw[hbd]at hq;exact hq.elim
  |some c=>
   rw[hbd]at hq
   rw[Tree.Yw]at hq
   refine⟨⟨fn,c,hf,hbd,hE.named g fn hf⟩,CallsIn.calls (F:=fen zm) (n:=0) (callsIn_of_wp_marks hf hbd trivial ?_ rfl) (ZkP zm)⟩
   refine wpX.wp (ro:=zm) (hrec zm g c _ (enter hb args.plain fn.ntmps h n) w.heap.size base m F _ w _ _ (λb hmem _ _=>⟨fn,c,hf,hbd,ZlE c b hmem⟩) (.inl rfl) (enter_rel hr ((Zhn args).2 _ ha) fn.ntmps) hq λe s' hQ m' F' a' w' h1 h2=>?_)
   have fin:(VN E.P s' fn.results.toList).holds E.P (λvs=>(zw ((single vs).plain,s'.h,s'.n)).holds E.P Q)->LeavesInM (fen zm) 0 E.P fn a'.tmps K a'.defers .returning w':=by
    intro hq'
    obtain⟨rs,hm⟩:=h2.defers
    rw[hm.eq]
    refine Zqy rs w' hm.nodup hm.obj ?_
    obtain⟨c1,c2⟩:=HR.closeAll h2.hr rs hm.nodup hm.obj hm.un
    have h2':Rel w.heap.size base m' F' s' { a' with defers:=[] } (closeAll w' rs):=
     ⟨c1,⟨[],rfl,List.nodup_nil,(let⟨_,hm⟩:=h2.defers;by rw[Zou];exact hm.le),λr hr=>(by cases hr),λr hr=>(by cases hr),λr hr=>(by cases hr)⟩,h2.size,λi=>c2 _ _ (h2.tmp i)⟩
    obtain⟨vs,x,k1,k2,k3⟩:=Zrb h2' fn hq'
    exact⟨x,k2,hK _ _ _ k1 m' F' _ x (Ext.closeAll h1 rs hm.nodup hm.lo hm.obj hr.low hr.fdom) c1 ((Zhn _).1 _ k3)⟩
   cases e with
   |exit id=>exact hQ.elim
   |normal=>rw[Tree.Yw]at hQ;exact fin hQ
   |ret=>rw[Tree.Yw]at hQ;exact fin hQ
theorem callee_fn{f args:V}{x:Value}{g:FuncId}{out:V}(hc:callee f args=zi (g,out))(hf:R F w f n m x)(ha:RL F w args n m xs.toList) :
  ∃fs cs:Array Value,x=.func (.func g) fs cs/\RL F w out n m (fs++xs++cs).toList:=by
 unfold callee at hc
 grind[R,refine,Zch]
variable{Q:Ex×St B->Prop}{ro:Option Nat}{Qx:Exit->Act->World->Prop}
theorem Zq5(hE:E.Ok)(hrec:UG E rec_){f:FuncId}{g:Operand}{ps:Array Tmp}{asg bd:Code}(hro:ro=zm\/XR (.rangeFunc g ps asg bd)=ze)
(hr:Rel lo base m F s a w)(hq:(Ud E rec_ f (.rangeFunc g ps asg bd) B s).holds E.P Q)
  (hK:∀e s',Q (e,s')->∀m' F' a' w',Ext base m F s.n w m' F' s'.n w'->Rel lo base m' F' s' a' w'->Qx e.J8 a' w'):(Code.rangeFunc g ps asg bd).wpIn (fen ro) 0 E.P Qx a w:=by
 obtain rfl:ro=zm:=hro.resolve_right (by simp[XR])
 simp only[Ud]at hq
 split at hq
 case h_2=>exact hq.elim
 rename_i g' args hcy
 have hc:callee (Zr s g) (.cons (.yld s.n) .nil)=zi (g',args):=by
  revert hcy
  cases hv:Zr s g<;>simp only[Vi]<;>intro h<;>first
   |(split at h<;>first|(rename_i hc;injection h with h;injection h with e1 e2;injection e1 with e1;rw[hc,e1,e2])|cases h)
   |(injection h with h;injection h with e1 e2;cases e1)
 rw[Tree.Yw]at hq
 refine wpIn_rangeFunc (F:=fen zm) λfn _=>?_
 have henter:=run_enterLoop_outer (P:=E.P) (w:=w) fn a.tmps ps asg bd
 generalize hw1:((w.alloc (.deferred (zi []))).alloc (.loop { state:=.ready,pending:=zm,fn,tmps:=a.tmps,params:=ps,assign:=asg,body:=bd,defers:=w.heap.size }))=w1 at henter
 have hsz1:w1.heap.size=w.heap.size+2:=by
  rw[<- hw1]
  simp
 have hkeep:∀B,B<w.heap.size->w1.heap[B]? =w.heap[B]?:=λB hB=>by
  grind[heap_alloc_old]
 have hl1:w1.heap[w.heap.size+1]? =zi (.loop { state:=.ready,pending:=zm,fn,tmps:=a.tmps,params:=ps,assign:=asg,body:=bd,defers:=w.heap.size }):=by
  grind[heap_alloc_new]
 have hd1:w1.heap[w.heap.size]? =zi (.deferred (zi [])):=by
  grind[heap_alloc_old,heap_alloc_new]
 have hlat:Later F w F w1:=⟨λ_ h=>h,λ_ h=>.inl h,hkeep,by omega,λhd B hB=>by have:=hd B hB;omega,by rw[<- hw1];exact⟨rfl,rfl,rfl⟩⟩
 have hr1:=hr.hr.later hlat
 have he0:=hr.hr.ext hlat
 have hnone:∀c,m c≠zi (w.heap.size+1):=λc hc=>by
  have:=hr.hr.dom c _ hc
  omega
 generalize hm':(λc=>if c=s.n then zi (w.heap.size+1)else m c)=m'
 have hex:Ext base m F s.n w m' F (s.n+1) w1:=by
  rw[<- hm']
  exact he0.name (B:=zi (w.heap.size+1)) λk hk=>by
   grind
 have hmn:m' s.n=zi (w.heap.size+1):=by
  grind
 have hname:HR base m' F (look B.h (s.h.set s.n (.rng f ps.toList asg bd s.tmp s.N 0 zm))) (s.n+1) w1:=by
  rw[<- hm']
  refine hr1.name (B:=zi (w.heap.size+1)) (λk hk=>?_) (λc=>Yg _ _ _ _ _) ⟨_,_,rfl,hl1,rfl,rfl,rfl,rfl,rfl,hr.size.symm,λi=>by rw[hm'];exact hex.val (hr.tmp i)⟩
  injection hk with hk
  subst hk
  exact⟨⟨Nat.le_trans hr.hr.low (by omega),λhF=>by have:=hr.hr.fdom _ hF;omega⟩,by omega,λc hc=>absurd hc (hnone c)⟩
 obtain⟨fs,cs,hfn,hy⟩:=callee_fn (F:=F) (w:=w1) (n:=s.n+1) (m:=m') (args:=.cons (.yld s.n) .nil) (xs:=#[.func (.yield (w.heap.size+1)) #[] #[]]) hc (hex.val (hr.Zr g)) (by
  simp only[RL,R]
  exact⟨_,_,rfl,⟨by omega,_,rfl,hmn⟩,rfl⟩)
 generalize hys:fs++ #[Value.func (Fn.yield (w.heap.size+1)) #[] #[]]++cs=ys at hy
 have hcall:=ZcM hE hrec B.h (.inl g') args _ (s.n+1) base m' F w1 ys _ (rangePost (fen zm) 0 E.P (w.heap.size+1) Qx { a with defers:=[{ target:=.collected w.heap.size,args:=#[] }]++a.defers }) hname hy hq (λv h' n' hQ m2 F2 w3 x h1 h2 h3=>?_)
 ·obtain⟨hhas,hcalls⟩:=hcall
  refine⟨_,_,w1,{ target:=.fn (.func g') cs,args:=fs++ #[.func (.yield (w.heap.size+1)) #[] #[]] },w1,g',ys,w1,henter,?_,λ_ _=>trivial,?_,ZfD zm,ZkN hcalls⟩
  ·simp only[resolve]
   rw[hfn]
   have e:Array.map a.eval #[Operand.const (Value.func (Fn.yield (w.heap.size+1)) #[] #[])]= #[Value.func (Fn.yield (w.heap.size+1)) #[] #[]]:=by simp[Act.eval]
   rw[e]
   rfl
  ·simp only[invoke]
   grind[ZgP]
 ·
  dsimp only at hQ
  have hm2:=h1.map s.n (by omega) _ hmn
  have hn2:s.n<n':=h2.lt (by rw[hm2];simp)
  have hblk2:=h2.blk s.n hn2
  cases hh2:look B.h h' s.n<;>rw[hh2]at hQ hblk2<;>try(exact hQ.elim)
  rename_i f2 ps2 asg2 bd2 Jy N2 st2 pd2
  obtain⟨l2,r2,e2',hl2,hps2,hasg2,hbd2,hst2,hpd2,hrl2,hrow2⟩:=hblk2
  obtain rfl:w.heap.size+1=l2:=by
   grind
  dsimp only at hQ
  cases hs1:zq st2 1
  case true=>rw[hs1]at hQ;exact hQ.elim
  rw[hs1]at hQ
  simp only[cond_false]at hQ
  have hnb:r2.state≠.busy:=by
   rw[hst2]
   match st2,hs1 with
   |0,_=>simp[stOf]
   |1,h=>cases h
   |_+2,_=>simp[stOf]
  obtain⟨c1,c2⟩:=h2.Zjc (h':=look B.h (h'.set s.n .any)) (r':={ r2 with state:=.exhausted }) hm2 hl2 (by rw[hh2];simp) (blk:=.any) (λc=>Yg _ _ _ _ _) (λ_=>trivial)
  refine⟨_,_,run_endLoop hl2 hnb,?_⟩
  have hall:=(hex.trans h1).trans c2
  have hmarks:∃rs,Marks lo m' F w1 ([{ target:=.collected w.heap.size,args:=#[] }]++a.defers) rs:=by
   obtain⟨rs,hm⟩:=hr.defers
   have hlt:∀r∈rs,r<w.heap.size:=λr hr'=>Zdg (hm.obj r hr')
   refine⟨w.heap.size::rs,by rw[hm.eq];rfl,List.nodup_cons.2 ⟨λh=>absurd (hlt _ h) (Nat.lt_irrefl _),hm.nodup⟩,Nat.le_trans hm.le (by omega),λr hr'=>?_,λr hr'=>?_,λr hr'=>?_⟩
   ·rcases List.mem_cons.1 hr' with e|h
    ·rw[e]
     exact hm.le
    ·exact hm.lo r h
   ·rcases List.mem_cons.1 hr' with e|h
    ·grind
    ·rw[hkeep r (hlt r h)]
     exact hm.obj r h
   ·rcases List.mem_cons.1 hr' with e|h
    ·rw[e]
     refine⟨λhF=>absurd (hr.hr.fdom _ hF) (Nat.lt_irrefl _),λb hb=>?_⟩
     rw[<- hm']at hb
     dsimp only at hb
     by_cases e2:b=s.n
     ·grind
     ·rw[if_neg e2]at hb
      have:=hr.hr.dom b _ hb
      omega
    ·refine⟨(hm.un r h).1,λb hb=>?_⟩
     rw[<- hm']at hb
     dsimp only at hb
     by_cases e2:b=s.n
     ·grind
     ·rw[if_neg e2]at hb
      exact(hm.un r h).2 b hb
  have hrel:Rel lo base m2 F2 ({ s with h:=h'.set s.n .any,n:=n' }:St B) { a with defers:=[{ target:=.collected w.heap.size,args:=#[] }]++a.defers } (w3.putObj (w.heap.size+1) (.loop { r2 with state:=.exhausted })):=
   ⟨c1,Marks.ext hmarks (h1.trans c2),hr.size,λi=>hall.val (hr.tmp i)⟩
  generalize w3.putObj (w.heap.size+1) (.loop { r2 with state:=.exhausted })=w4 at hall hrel⊢
  rw[hpd2]
  match pd2,hQ with
  |none,hQ=>exact hK .normal _ hQ _ _ _ _ hall hrel
  |some .normal,hQ=>exact hK .normal _ hQ _ _ _ _ hall hrel
  |some .ret,hQ=>exact wpIn_ret (hK .ret _ hQ _ _ _ _ hall hrel)
  |some (.exit i),hQ=>exact wpIn_exit (hK (.exit i) _ hQ _ _ _ _ hall hrel)
theorem ZkJ(hE:E.Ok)(hrec:UG E rec_){id:Nat}{ops:Array Oper}{draw:Bool}
  (hr:Rel lo base m F s a w)(hq:(Gu E (JN E rec_) ops draw s).holds E.P Q)(hK:∀e s',Q (e,s')->∀m' F' a' w',Ext base m F s.n w m' F' s'.n w'->Rel lo base m' F' s' a' w'->Qx e.J8 a' w') :
  (Code.region id ops draw).wpIn (fen ro) 0 E.P Qx a w:=by
 unfold Gu at hq
 cases draw with
 |false=>
  cases hd:ops.toList.all (Xw s.N)
  ·rw[hd]at hq;exact hq.elim
  ·rw[hd]at hq
   simp at hq
   rw[Tree.Yw]at hq
   exact wpIn_region_list (evOps_wp hE (ZcM hE hrec) ops.toList s a w m F _ (λo ho=>List.all_eq_true.1 hd o ho) hr hq λs' hs' m' F' a' w' h1 h2=>hK .normal s' hs' m' F' a' w' h1 h2)
 |true=>
  rw[ZkX]at hq
  cases hd:Gb ops (bfs ops.toList [])
  ·rw[hd]at hq;exact hq.elim
  ·rw[hd]at hq
   simp at hq
   rw[Tree.Yw]at hq
   exact evOpsD_wp hE (ZcM hE hrec) hr hd hq λs' hs' m' F' a' w' h1 h2=>hK .normal s' hs' m' F' a' w' h1 h2
theorem evStep_ok(hE:E.Ok)(hrec:UG E rec_):UG E (Ud E rec_):=by
 intro ro f c B s lo base m F a w Q Qx hin hro hr hq hK
 cases c<;>simp only[Ud]at hq<;>try(exact hq.elim)
 case skip=>exact wpIn_skip (hK .normal s hq m F a w (Ext.refl _ _ _ _ _) hr)
 case label l=>exact wpIn_label (hK .normal s hq m F a w (Ext.refl _ _ _ _ _) hr)
 case exit id=>exact wpIn_exit (hK (.exit id) s hq m F a w (Ext.refl _ _ _ _ _) hr)
 case ret=>exact wpIn_ret (hK .ret s hq m F a w (Ext.refl _ _ _ _ _) hr)
 case scope b=>
  refine Zse (wpX.wp (hrec ro f b B s lo base m F a w _ _ hin hro hr hq λe s' hQ m' F' a' w' h1 h2=>?_))
  have:=hK e s' hQ m' F' a' w' h1 h2
  cases e<;>exact this
 case rangeFunc g ps asg bd=>exact Zq5 hE hrec hro hr hq hK
 case region id ops draw=>
  split at hq
  ·exact ZlR hr hq hK λQ' hr' hq' hK'=>ZkJ hE hrec hr' hq' hK'
  ·exact ZkJ hE hrec hr hq hK
 case seq x y=>
  rw[Tree.Yw]at hq
  have hx:∀b∈YQ x,∀g,Qo E f b=zi g->Wq E.P f b:=λb hb=>hin b (List.mem_append_left _ hb)
  have hy:∀b∈YQ y,∀g,Qo E f b=zi g->Wq E.P f b:=λb hb=>hin b (List.mem_append_right _ hb)
  have hrx:ro=zm\/XR x=ze:=hro.imp id λh=>by
   simp_all[XR,zL]
  have hry:ro=zm\/XR y=ze:=hro.imp id λh=>by
   simp_all[XR,zL]
  refine wpIn_seq (wpX.wp (hrec ro f x B s lo base m F a w _ _ hx hrx hr hq λe s' hQ m' F' a' w' h1 h2=>?_))
  cases e with
  |normal=>exact wpX.wp (hrec ro f y B s' lo base m' F' a' w' Q Qx hy hry h2 hQ λe s'' hQ' m'' F'' a'' w'' h3 h4=>hK e s'' hQ' m'' F'' a'' w'' (h1.trans h3) h4)
  |exit id=>exact hK (.exit id) s' hQ m' F' a' w' h1 h2
  |ret=>exact hK .ret s' hQ m' F' a' w' h1 h2
 case cond c x y=>
  have hx:∀b∈YQ x,∀g,Qo E f b=zi g->Wq E.P f b:=λb hb=>hin b (List.mem_append_left _ hb)
  have hy:∀b∈YQ y,∀g,Qo E f b=zi g->Wq E.P f b:=λb hb=>hin b (List.mem_append_right _ hb)
  have hrx:ro=zm\/XR x=ze:=hro.imp id λh=>by
   simp_all[XR,zL]
  have hry:ro=zm\/XR y=ze:=hro.imp id λh=>by
   simp_all[XR,zL]
  have hc:=hr.Zr c
  have know:∀{B:Base}{s:St B}(_:Rel lo base m F s a w)(c:Operand){st t:Bool},Zr s c=.bool st t->Rel lo base m F (s.Qb c t) a w:=by
   intro B s hr c st t h
   cases c with
   |tmp d=>exact hr.know h
   |_=>exact hr
  have nAt:∀{B:Base}(s:St B)(c:Operand)(t:Bool),(s.Qb c t).n=s.n:=λs c t=>by cases c<;>rfl
  have two:∀{B:Base}{s:St B}{Q:Ex×St B->Prop}{t:Bool},Rel lo base m F s a w->Zr s c=.bool za t->(zB t (rec_ f x B (s.Qb c ze)) (rec_ f y B (s.Qb c za))).holds E.P Q->
    (∀e s',Q (e,s')->∀m' F' a' w',Ext base m F s.n w m' F' s'.n w'->Rel lo base m' F' s' a' w'->Qx e.J8 a' w')->(Code.cond c x y).wpIn (fen ro) 0 E.P Qx a w:=by
   intro B s Q t hr hv hq hK
   have hc:=hr.Zr c
   rw[hv,WJ]at hc
   cases t with
   |true=>exact wpIn_cond_true hc (wpX.wp (hrec ro f x B (s.Qb c ze) lo base m F a w Q Qx hx hrx (know hr c hv) (hq.1 rfl) λe s' hQ m' F' a' w' h1 h2=>hK e s' hQ m' F' a' w' (by rw[nAt]at h1;exact h1) h2))
   |false=>exact wpIn_cond_false hc (wpX.wp (hrec ro f y B (s.Qb c za) lo base m F a w Q Qx hy hry (know hr c hv) (hq.2 rfl) λe s' hQ m' F' a' w' h1 h2=>hK e s' hQ m' F' a' w' (by rw[nAt]at h1;exact h1) h2))
  cases hv:Zr s c<;>rw[hv]at hq hc<;>try exact hq.elim
  rename_i st t
  cases st with
  |true=>
   cases t with
   |true=>exact wpIn_cond_true hc (wpX.wp (hrec ro f x B s lo base m F a w Q Qx hx hrx hr hq hK))
   |false=>exact wpIn_cond_false hc (wpX.wp (hrec ro f y B s lo base m F a w Q Qx hy hry hr hq hK))
  |false=>
   dsimp only at hq
   split at hq
   ·exact two hr hv ⟨λ_=>hq.2,λh=>by rw[hq.1]at h;cases h⟩ hK
   ·exact two hr hv ⟨λh=>(by rw[hq.1]at h;cases h),λ_=>hq.2⟩ hK
   split at hq
   ·have hv':Zr s.sub c=.bool za t:=by
     rw[<- hv]
     cases c<;>rfl
    exact ZlR hr hq hK λQ' hr' hq' hK'=>two hr' hv' hq' hK'
   ·exact two hr hv hq hK
 case block id b=>
  have go:∀{B:Base}{s:St B}{Q:Ex×St B->Prop},Rel lo base m F s a w->((rec_ f b B s).bind (leave id)).holds E.P Q->
    (∀e s',Q (e,s')->∀m' F' a' w',Ext base m F s.n w m' F' s'.n w'->Rel lo base m' F' s' a' w'->Qx e.J8 a' w')->(Code.block id b).wpIn (fen ro) 0 E.P Qx a w:=by
   intro B s Q hr hq hK
   rw[Tree.Yw]at hq
   refine wpIn_block (wpX.wp (hrec ro f b B s lo base m F a w _ _ hin hro hr hq λe s' hQ m' F' a' w' h1 h2=>?_))
   cases e with
   |normal=>exact hK .normal s' hQ m' F' a' w' h1 h2
   |ret=>exact hK .ret s' hQ m' F' a' w' h1 h2
   |exit id'=>
    simp only[leave]at hQ
    simp only[Ex.J8,Exit.inBlock]
    cases he:zq id' id
    ·rw[he]at hQ
     have hne:id'≠id:=λe=>by subst e;simp at he
     rw[if_neg hne]
     exact hK (.exit id') s' hQ m' F' a' w' h1 h2
    ·rw[he]at hQ
     obtain rfl:=zO he
     rw[if_pos rfl]
     exact hK .normal s' hQ m' F' a' w' h1 h2
  split at hq
  ·exact ZqK hr hq hK λQ' hr' hq' hK'=>go hr' hq' hK'
  ·exact go hr hq hK
 case loop b=>
  have hb:∀b'∈YQ b,∀g,Qo E f b'=zi g->Wq E.P f b':=λb' h=>hin b' (List.mem_cons_of_mem _ h)
  split at hq
  ·rename_i g hg
   exact hE.lp f b g (hin b (List.mem_cons_self ..) g hg) hg B s Q hq ro lo base m F a w Qx hro hr hK
  ·rw[Tree.Yw]at hq
   refine JC.round (wpX.wp (hrec ro f b B s lo base m F a w _ _ hb hro hr hq λe s' hQ m' F' a' w' h1 h2=>?_))
   cases e with
   |normal=>exact hrec ro f (.loop b) B s' lo base m' F' a' w' Q Qx hin hro h2 hQ λe s'' hQ' m'' F'' a'' w'' h3 h4=>hK e s'' hQ' m'' F'' a'' w'' (h1.trans h3) h4
   |exit id=>exact hK (.exit id) s' hQ m' F' a' w' h1 h2
   |ret=>exact hK .ret s' hQ m' F' a' w' h1 h2
end
theorem ev_ok{E:Env}(hE:E.Ok):∀k,UG E (ev E k):=by
 intro k
 induction k with
 |zero=>intro ro f c B s lo base m F a w Q Qx _ _ _ hq;exact hq.elim
 |succ k ih=>exact evStep_ok hE ih
theorem mapO_R{F':Nat->Prop}{f:V->V}(hF:∀B,F B->F' B)(hf:∀v x,R F w v n m x->R F' w (f v) n m x):∀(v:V),
  (∀x,R F w v n m x->R F' w (mapO f v) n m x)/\(∀xs,RL F w v n m xs->RL F' w (mapO f v) n m xs):=by
 have keep:∀v,(∀x,R F w v n m x->R F' w v n m x)/\(∀xs,RL F w v n m xs->RL F' w v n m xs):=
  λv=>Xj (Yk.refl w) hF (λ_ _=>rfl) v n n m m (zI _) (λ_ _ _ h=>h)
 intro v
 induction v<;>grind[refine,R,RL,mapO]
variable{h:Nat->Blk}
theorem pubO_R(hr:HR base m F h n w):∀(k:Nat)(v:V)(x:Value),R F w v n m x->R (λB=>F B\/∃b,m b=zi B) w (pubO h k v) n m x:=by
 have keep:∀v,(∀x,R F w v n m x->R (λB=>F B\/∃b,m b=zi B) w v n m x)/\(∀xs,RL F w v n m xs->RL (λB=>F B\/∃b,m b=zi B) w v n m xs):=
  λv=>Xj (Yk.refl w) (λB h=>.inl h) (λ_ _=>rfl) v n n m m (zI _) (λ_ _ _ h=>h)
 intro k
 induction k with
 |zero=>intro v x hx;exact(keep v).1 x hx
 |succ k ih=>
  intro v x hx
  have hx':=Va hx
  unfold pubO
  split
  ·rename_i st b es i q hv
   rw[hv]at hx'
   split
   ·rename_i cs hb
    unfold pubRow
    cases hc:(st&&((mapO (pubO h k) cs).clean&&zK ((i+q)*es) (mapO (pubO h k) cs).len))
    ·grind
    simp
    simp only[zL]at hc
    obtain⟨rfl,hcl,hle⟩:=hc
    have hle':=yA hle
    obtain⟨hbn,a,cap,rfl,hk,hrow⟩:=hx'
    have hblk:=hr.blk b hbn
    rw[hb]at hblk
    obtain⟨B',xs,el',ys,zs,hm,hcell,hsp,hrl⟩:=hblk
    refine⟨a,cap,rfl,hk,?_⟩
    rcases hrow with h0|⟨B,c,el,fr,rfl,hB,hcc,hz⟩
    ·grind
    right
    obtain rfl:B=B':=by rw[hB]at hm;grind
    refine⟨B,i*es,rfl,.inr ⟨b,hB⟩,xs,el',(0,0),hcell,λj hj=>?_⟩
    have hrl1:=(mapO_R (F':=λB=>F B\/∃b,m b=zi B) (λB h=>.inl h) ih cs).2 _ hrl
    have hrl0:=(WS _ hcl n 0 m (λ_=>zm)).2 _ hrl1
    have hlen:=XM _ _ hrl1
    have hjk:(i+j+1)*es<=(i+q)*es:=Nat.mul_le_mul_right es (by omega)
    rw[Nat.add_mul,Nat.one_mul]at hjk
    refine⟨(ys.drop ((i+j)*es)).take es,K9 _ _ (VY _ _ hrl0 _) _,?_,λq hq=>?_⟩
    all_goals grind[Kv]
   ·grind
  ·grind
theorem pubT_R{P:Program}(hr:HR base m F h n w):∀(v:V),
  (∀(x:Value)(Q:V->Prop),R F w v n m x->(Jv h v).holds P Q->∃v',Q v'/\R (λB=>F B\/∃b,m b=zi B) w v' n m x)/\
  (∀(xs:List Value)(Q:V->Prop),RL F w v n m xs->(Jv h v).holds P Q->∃v',Q v'/\RL (λB=>F B\/∃b,m b=zi B) w v' n m xs):=by
 have keep:∀v,(∀x,R F w v n m x->R (λB=>F B\/∃b,m b=zi B) w v n m x)/\(∀xs,RL F w v n m xs->RL (λB=>F B\/∃b,m b=zi B) w v n m xs):=
  λv=>Xj (Yk.refl w) (λB h=>.inl h) (λ_ _=>rfl) v n n m m (zI _) (λ_ _ _ h=>h)
 intro v
 induction v with
 |cons a t ih1 ih2=>
  refine⟨λx Q hx=>by simp only[R]at hx,λxs Q hx hq=>?_⟩
  obtain⟨x,r,rfl,h1,h2⟩:=hx
  simp only[Jv,Tree.Yw]at hq
  obtain⟨a',hq,g1⟩:=ih1.1 _ _ h1 hq
  obtain⟨t',hq,g2⟩:=ih2.2 _ _ h2 hq
  exact⟨_,hq,by simp only[RL];exact⟨x,r,rfl,g1,g2⟩⟩
 |tup cs ih=>
  refine⟨λx Q hx hq=>?_,λxs Q hx=>by simp only[RL]at hx⟩
  obtain⟨xs,rfl,h1⟩:=hx
  simp only[Jv,Tree.Yw]at hq
  obtain⟨t',hq,g⟩:=ih.2 _ _ h1 hq
  exact⟨_,hq,by simp only[R];exact⟨xs,rfl,g⟩⟩
 |agg cs ih=>
  refine⟨λx Q hx hq=>?_,λxs Q hx=>by simp only[RL]at hx⟩
  obtain⟨xs,rfl,h1⟩:=hx
  simp only[Jv,Tree.Yw]at hq
  obtain⟨t',hq,g⟩:=ih.2 _ _ h1 hq
  exact⟨_,hq,by simp only[R];exact⟨xs,rfl,g⟩⟩
 |osp st b es i k c=>
  refine⟨λx Q hx hq=>?_,λxs Q hx=>by simp only[RL]at hx⟩
  simp only[Jv]at hq
  cases hk:zq k 0
  ·rw[hk]at hq;exact⟨_,hq,pubO_R hr _ _ _ hx⟩
  ·obtain rfl:=zO hk
   obtain⟨_,a,cap,rfl,_,_,_⟩:=hx
   exact⟨_,hq,by rw[Wi];exact⟨a,cap,rfl,Nat.zero_le _,.inl rfl⟩⟩
 |osl st b es i k=>
  refine⟨λx Q hx hq=>?_,λxs Q hx=>by simp only[RL]at hx⟩
  simp only[Jv]at hq
  cases hb:h b<;>rw[hb]at hq<;>try exact⟨_,hq,(keep _).1 _ hx⟩
  ·rename_i cs
   dsimp only at hq
   cases hc:(st&&(cs.clean&&zK ((i+k)*es) cs.len))
   ·rw[hc]at hq;exact⟨_,hq,pubO_R hr _ _ _ hx⟩
   rw[hc]at hq
   simp only[zL]at hc
   obtain⟨rfl,h1,h2⟩:=hc
   have:=Zk1 hr (g:=λv=>v) (gN:=λ_=>zm) (λv _=>(keep v).2) hx
   simp only[ZfN,hb,h2,scrub_eq h1,Bool.and_self]at this
   exact⟨_,hq,this λp hp=>by simp only[Vt,hb,h2,Bool.and_self,cond_true]at hp;cases hp⟩
  ·rename_i es' K get
   dsimp only at hq
   cases he:zq es es'
   ·rw[he]at hq;exact hq.elim
   rw[he]at hq
   obtain rfl:=zO he
   have key:i+k<=K->∀st',R (λB=>F B\/∃b,m b=zi B) w (.rsl st' es k λj=>get (i+j)) n m x:=by
    intro hik st'
    obtain⟨hbn,a,cap,rfl,hk,hrow⟩:=hx
    refine⟨a,cap,rfl,hk,?_⟩
    rcases hrow with h0|⟨B,c,el,fr,rfl,hB,hcc,hz⟩
    ·grind
    have hblk:=hr.blk b hbn
    rw[hb]at hblk
    rcases hblk with⟨h0,_⟩|⟨B',c',el',hm,hcell,hz',hall⟩
    ·grind
    right
    obtain rfl:B=B':=by rw[hB]at hm;grind
    refine⟨B,i*es,rfl,.inr ⟨b,hB⟩,c',el',(0,0),hcell,λj hj=>?_⟩
    obtain⟨xs,g1,g2,g3⟩:=hall (i+j) (by omega)
    refine⟨xs,?_,g2,λq hq=>?_⟩
    ·exact(Xj (Yk.refl w) (λB h=>.inl h) (λ_ _=>rfl) _ 0 0 _ _ (zI _) (λ_ _ _ h=>h)).2 _ g1
    ·grind
   cases st
   ·exact⟨_,hq.2,key hq.1 _⟩
   ·cases hle:zK (i+k) K
    ·rw[hle]at hq;exact hq.elim
    ·rw[hle]at hq;exact⟨_,hq,key (yA hle) _⟩
 |_=>exact⟨λx Q hx hq=>⟨_,hq,(keep _).1 _ hx⟩,λxs Q hx hq=>⟨_,hq,(keep _).2 _ hx⟩⟩
theorem Zgo{E:Env}(hE:E.Ok){k:Nat}{g:FuncId}{args v:V}(hhas:Has E.P g)
  (h:(ZT E k g args).holds E.P λr=>∀(F:Nat->Prop)(w:World)(n:Nat)(m:Nat->Option Nat)(x:Value),R F w r n m x->R F w v 0 (λ_=>zm) x):Zh E.P g args v:=by
 refine⟨hhas,λF w xs hfd hgl ha=>?_⟩
 unfold ZT at h
 rw[Tree.Yw]at h
 have hr:HR w.heap.size (λ_=>zm) F (look (λ_=>.none) .nil) 0 w:=
  ⟨zI _,hfd,λb hb=>absurd hb (Nat.not_lt_zero _),λb B hB=>(by cases hB),λ_ _=>rfl,hgl,λb B hB=>(by cases hB),λb b' B hB=>(by cases hB)⟩
 refine(ZcM hE (ev_ok hE k) (λ_=>.none) (.inl g) args .nil 0 w.heap.size (λ_=>zm) F w xs _ (λe w'=>∃x F',e=.returned x/\Later F w F' w'/\R F' w' v 0 (λ_=>zm) x) hr ha h
  λr h' n' hQ m' F' w' x h1 h2 h3=>?_).2
 obtain⟨v',hv',hR⟩:=(pubT_R h2 r).1 x _ h3 hQ
 refine⟨x,λB=>F' B\/∃b,m' b=zi B,rfl,⟨λB hB=>.inl (h1.f B hB),λB hB=>hB.elim (h1.back B) λ⟨b,hb⟩=>.inr (h2.own b B hb).1,λB hB=>h1.keep B (.inl hB),h1.size,λ_ B hB=>hB.elim (h2.fdom B) λ⟨b,hb⟩=>h2.dom b B hb,h1.calm⟩,hv' _ w' n' m' x hR⟩
end Go.Fw
namespace Go.Fw
def V.soft:V->V
 | .cons h t=>.cons h.soft t.soft
 | .int _ k n=>.int za k n
 | .bool _ b=>.bool za b
 | .str _ s=>.str za s
 | .agg cs=>.agg cs.soft
 | .tup vs=>.tup vs.soft
 | .ptr _ b es i o=>.ptr za b es i o
 | .rptr _ es n get i o=>.rptr za es n (λj=>(get j).soft) i o
 | .rsl _ es n get=>.rsl za es n λj=>(get j).soft
 | .osl _ b es i n=>.osl za b es i n
 | .osp _ b es i n c=>.osp za b es i n c
 | .fn f a b=>.fn f a.soft b.soft
 | .ifc _ b=>.ifc za b
 |v=>v
theorem YM{F:Nat->Prop}{w:World}:∀(v:V)(n:Nat)(m:Nat->Option Nat),(∀x,R F w v.soft n m x↔R F w v n m x)/\(∀xs,RL F w v.soft n m xs↔RL F w v n m xs):=by
 intro v
 induction v<;>grind[refine,V.soft,R,RL]
variable{g:FuncId}
theorem Zh.of_soft{P:Program}{args v:V}(h:Zh P g args.soft v):Zh P g args v:=
 ⟨h.1,λF w xs hfd hgl ha=>h.2 F w xs hfd hgl (((YM args 0 _).2 _).2 ha)⟩
structure Con where
 g:FuncId
 ans:V->Option Ans
 al:Bool:=za
def Con.Ok(P:Program)(c:Con):Prop:=
 ∀args,match c.ans args with
  |some (.sure v)=>Zh P c.g args v
  |some (.where_ p v)=>p->Zh P c.g args v
  |some (.fork b v v')=>(b=ze->Zh P c.g args v)/\(b=za->Zh P c.g args v')
  |none=>True
def KU:List Con->FuncId->V->Option Ans
 |[],_,_=>zm
 |c::l,g,args=>bif zq g c.g then(match c.al with
  |true=>c.ans args
  |false=>bif args.known then zm else c.ans args.soft)else KU l g args
def AllOk(P:Program):List Con->Prop
 |[]=>True
 |c::l=>c.Ok P/\AllOk P l
structure Lp where
 f:FuncId
 id:Nat
 g:(B:Base)->St B->Tree (Ex×St B)
def Lp.Ok(P:Program)(l:Lp):Prop:=∀body,Wq P l.f body->Jo body=zi l.id->Zem P body l.g
def Ul:List Lp->FuncId->Nat->Option ((B:Base)->St B->Tree (Ex×St B))
 |[],_,_=>zm
 |c::l,f,i=>bif zq f c.f&&zq i c.id then zi c.g else Ul l f i
def AllLp(P:Program):List Lp->Prop
 |[]=>True
 |c::l=>c.Ok P/\AllLp P l
theorem lookL_ok{P:Program}:∀(l:List Lp),AllLp P l->∀f i g,Ul l f i=zi g->∀body,Wq P f body->Jo body=zi i->Zem P body g:=by
 intro l
 induction l with
 |nil=>intro _ f i g h;cases h
 |cons c l ih=>
  intro hl f i g h body hin hfr
  simp only[Ul]at h
  cases he:zq f c.f&&zq i c.id
  ·rw[he]at h;exact ih hl.2 f i g h body hin hfr
  ·rw[he]at h
   simp only[zL]at he
   obtain rfl:=zO he.1
   obtain rfl:=zO he.2
   injection h with h
   subst h
   exact hl.1 body hin hfr
def Zgs(P : Program) : Bool:=P.funcs.toList.all λfn=> !(fn.name== "runtime.NumGoroutine")
theorem Zw{P:Program}(hm:P.follows .mixedOrders=ze)(hn:Zgs P=ze){l:List Con}(h:AllOk P l){ls:List Lp}(hls:AllLp P ls)(mg:Bool):Env.Ok { P,Γ:=KU l,lp:=Ul ls,mg }:=by
 have key:∀(l:List Con),AllOk P l->∀g args,match KU l g args with|some (.sure v)=>Zh P g args v|some (.where_ p v)=>p->Zh P g args v|some (.fork b v v')=>(b=ze->Zh P g args v)/\(b=za->Zh P g args v')|none=>True:=by
  intro l
  induction l with
  |nil=>
   intro _ g args
   trivial
  |cons c l ih=>
   intro hl g args
   simp only[KU]
   cases he:zq g c.g
   ·exact ih hl.2 g args
   ·obtain rfl:=zO he
    simp only[cond_true]
    cases hal:c.al with
    |true=>exact hl.1 args
    |false=>
     dsimp only
     cases hkn:args.known
     ·simp only[cond_false]
      have:=hl.1 args.soft
      grind[Zh.of_soft]
     ·trivial
 refine⟨hm,λg fn hf=>?_,λg args v h'=>?_,λg args p v h' hp=>?_,λg args b v v' h'=>?_,λf body g hin h'=>?_,λg K h'=>(by cases h')⟩
 ·have hmem:fn∈P.funcs.toList:=Array.mem_toList_iff.2 (Array.mem_of_getElem? hf)
  have:=List.all_eq_true.1 hn fn hmem
  grind
 ·grind
 ·grind
 ·grind
 grind[Qo,lookL_ok]
structure Hc where
 g:FuncId
 k:HK
def Ww:List Hc->FuncId->Option HK
 |[],_=>zm
 |c::l,g=>bif zq g c.g then zi c.k else Ww l g
def AllHk(P:Program):List Hc->Prop
 |[]=>True
 |c::l=>Xo P c.g c.k/\AllHk P l
theorem lookH_ok{P:Program}:∀(l:List Hc),AllHk P l->∀g K,Ww l g=zi K->Xo P g K:=by
 intro l
 induction l with
 |nil=>intro _ g K h;cases h
 |cons c l ih=>
  intro hl g K h
  unfold Ww at h
  cases he:zq g c.g with
  |true=>
   rw[he]at h
   injection h with h
   rw[zO he,<- h]
   exact hl.1
  |false=>rw[he]at h;exact ih hl.2 g K h
theorem Env.Ok.KD{E:Env}(hE:E.Ok){l:List Hc}(h:AllHk E.P l):Env.Ok { E with hk:=Ww l }:=
 ⟨hE.mixed,hE.named,hE.sure,hE.where_,hE.fork,hE.lp,lookH_ok l h⟩
theorem meets{E:Env}(hE:E.Ok)(k:Nat){args v:V}{T:Tree V}(hhas:Has E.P g)(hT:ZT E k g args=T)
  (h:T.holds E.P λr=>r.soft.clean=ze/\r.soft=v.soft):Zh E.P g args v:=by
 refine Zgo hE (k:=k) hhas ?_
 rw[hT]
 refine Tree.XI T (λr hr F w n m x hx=>?_) h
 have h1:=((YM r n m).1 x).2 hx
 have h2:=(WS r.soft hr.1 n 0 m (λ_=>zm)).1 x h1
 simp_all[YM]
theorem Has.of{P:Program}{fn:Func}{c:Code}(hn:Zgs P=ze)(hf:P.funcs[g]? =zi fn)(hb:fn.body=zi c):Has P g:=by
 refine⟨fn,c,hf,hb,?_⟩
 have hmem:fn∈P.funcs.toList:=Array.mem_toList_iff.2 (Array.mem_of_getElem? hf)
 have:=List.all_eq_true.1 hn fn hmem
 grind
end Go.Fw
namespace Go.Fw
def Tree.join:Tree V->V
 | .leaf v=>v.soft
 | .node b t f=>VE b t.join f.join
 | .need _ t=>t.join
 |_=>.junk
variable{α:Type}
def Tree.total:Tree α->Bool
 | .leaf _=>ze
 | .node _ t f=>t.total&&f.total
 |_=>za
def Tree.pre:Tree α->Prop
 | .leaf _=>True
 | .node b t f=>(b=ze->t.pre)/\(b=za->f.pre)
 | .need p t=>p/\t.pre
 |_=>False
theorem Tree.Zme:∀T:Tree α,T.total=ze->T.pre:=by
 intro T
 induction T with
 |leaf a=>intro _;trivial
 |node b t f iht ihf=>intro h;simp only[Tree.total,zL]at h;exact⟨λ_=>iht h.1,λ_=>ihf h.2⟩
 |_=>intro h;cases h
def Tree.YO:Tree V->Bool
 | .leaf v=>v.clean
 | .node _ t f=>t.YO&&f.YO
 | .need _ t=>t.YO
 |_=>ze
theorem Tree.Zqn{P:Program}:∀T:Tree V,T.pre->T.YO=ze->
  T.holds P λr=>∀(F:Nat->Prop)(w:World)(n:Nat)(m:Nat->Option Nat)(x:Value),R F w r n m x->R F w r 0 (λ_=>zm) x/\R F w T.join 0 (λ_=>zm) x:=by
 intro T
 induction T with
 |leaf v=>
  intro _ hc F w n m x hx
  have h1:=(WS v hc n 0 m (λ_=>zm)).1 x hx
  exact⟨h1,((YM v 0 _).1 x).2 h1⟩
 |node b t f iht ihf=>
  intro hp hc
  simp only[Tree.YO,zL]at hc
  refine⟨λhb=>Tree.XI t (λr hr F w n m x hx=>?_) (iht (hp.1 hb) hc.1),λhb=>Tree.XI f (λr hr F w n m x hx=>?_) (ihf (hp.2 hb) hc.2)⟩
  ·subst hb
   obtain⟨h1,h2⟩:=hr F w n m x hx
   exact⟨h1,VF h2⟩
  ·subst hb
   obtain⟨h1,h2⟩:=hr F w n m x hx
   exact⟨h1,VF h2⟩
 |need p t ih=>intro hp hc;exact⟨hp.1,ih hp.2 hc⟩
 |_=>intro hp;exact hp.elim
variable{g:FuncId}
theorem ZiW{E:Env}(hE:E.Ok)(k:Nat){args v:V}(hhas:Has E.P g)(hp:(ZT E k g args).pre)(hc:(ZT E k g args).YO=ze)(hv:(ZT E k g args).join=v):Zh E.P g args v:=by
 grind[refine,Zgo,Tree.XI,Tree.Zqn]
structure Tree.Pre{α:Type}(T:Tree α):Prop where
 h:T.pre
theorem Xn{E:Env}{T:Tree V}(hE:E.Ok)(k:Nat){args v:V}(hhas:Has E.P g)(hT:ZT E k g args=T)(hp:T.Pre)(hc:T.YO=ze)(hv:T.join=v):Zh E.P g args v:=by
 subst hT
 exact ZiW hE k hhas hp.h hc hv
def V.toInt:V->Int
 | .int _ _ n=>n
 |_=>0
def V.toBool:V->Bool
 | .bool _ b=>b
 |_=>za
def V.at:V->Nat->V
 | .agg cs,i=>cs.nth i
 | .tup cs,i=>cs.nth i
 |_,_=>.junk
end Go.Fw
namespace Go.Fw
theorem Tree.Zp5{α β:Type}{P:Program}{T:Tree α}{g:α->β}{T':Tree β}(h:(T.bind λx=>.leaf (g x))=T'){Q:β->Prop}(hq:T'.holds P Q):T.holds P λx=>Q (g x):=by
 subst h
 exact(Tree.Yw T).1 hq
def rowOf:List V->V
 |[]=>.nil
 |v::l=>.cons v (rowOf l)
section
variable{B:Base}
def putT:List Nat->V->PT V->PT V
 |k::ks,.cons v r,t=>putT ks r (t.set k v)
 |_,_,t=>t
end
def QZ(P:Program)(f:FuncId)(id:Nat):Code:=
 match P.funcs[f]? with
 |some fn=>match fn.body with
  |some c=>match(Qc c).filter (λb=>match Jo b with|some i=>zq i id|none=>za)with
   |[b]=>b
   |_=>.skip
  |none=>.skip
 |none=>.skip
def G9(P:Program)(f:FuncId)(id:Nat):Bool:=
 match P.funcs[f]? with
 |some fn=>match fn.body with
  |some c=>match(Qc c).filter (λb=>match Jo b with|some i=>zq i id|none=>za)with
   |[_]=>ze
   |_=>za
  |none=>za
 |none=>za
theorem loops_in:∀(c b:Code),b∈Qc c->∀b'∈YQ b,b'∈Qc c:=by
 intro c
 induction c<;>grind[Qc,ZlE]
theorem KW{P:Program}{l:Lp}(h1:G9 P l.f l.id=ze)(h:(∀b'∈YQ (QZ P l.f l.id),Wq P l.f b')->Zem P (QZ P l.f l.id) l.g):l.Ok P:=by
 intro body ⟨fn,c,hf,hc,hmem⟩ hfr
 have hb:body=QZ P l.f l.id:=by
  unfold G9 at h1
  unfold QZ
  rw[hf]at h1⊢
  dsimp only at h1⊢
  rw[hc]at h1⊢
  dsimp only at h1⊢
  have hm:body∈(Qc c).filter (λb=>match Jo b with|some i=>zq i l.id|none=>za):=by
   simp_all
  grind
 subst hb
 exact h λb' hb'=>⟨fn,c,hf,hc,loops_in c _ hmem b' hb'⟩
structure Tree.Hold{α:Type}(P:Program)(T:Tree α)(Q:α->Prop):Prop where
 h:T.holds P Q
end Go.Fw
namespace Go.Fw
structure RV where
 f:FuncId
 ps:List Nat
 asg:Code
 bd:Code
 N:Nat
 st:Nat
 pend:Option Ex
section
variable{B:Base}
end
end Go.Fw
namespace Go.Fw
def BOk(n0:Nat)(x y:Blk):Prop:=(x=.any->y=.any)/\∀(F:Nat->Prop)(w:World)(n:Nat)(m:Nat->Option Nat)(B:Option Nat)(b:Nat),b<n0->B=m b->RB F w n m x B->RB F w n0 (Qz m n0) y B
def putX:List Nat->List Blk->PT Blk->PT Blk
 |b::bs,y::ys,t=>putX bs ys (t.set b y)
 |_,_,t=>t
theorem Zml{d:Nat->Blk}{Q:Nat->Blk->Prop}:∀(bs:List Nat)(ys:List Blk)(t:PT Blk),(∀j,Q j (look d t j))->(∀(i b:Nat) y,bs[i]? =zi b->ys[i]? =zi y->Q b y)->∀j,Q j (look d (putX bs ys t) j):=by
 intro bs
 induction bs with
 |nil=>
  intro ys t ht _
  exact ht
 |cons b bs ih=>
  intro ys t ht hq
  cases ys with
  |nil=>exact ht
  |cons y ys=>
   refine ih ys (t.set b y) (λj=>?_) λi b' y' h1 h2=>hq (i+1) b' y' (by simpa using h1) (by simpa using h2)
   rw[Yg]
   by_cases e:j=b
   ·rw[if_pos e,e]
    exact hq 0 b y rfl rfl
   grind
section
variable{B:Base}
end
variable{n0:Nat}
theorem BOk.map{kd:MK}{st st':Bool}{ks:Ks}{f f':Value->Bool×V}(h:∀k,kd.is k=ze->(f k).1=(f' k).1/\((f k).1=ze->(f k).2.QJ n0=ze/\(f k).2.soft=(f' k).2.soft)):BOk n0 (.Zk kd st f ks) (.Zk kd st' f' zm):=by
 refine⟨λh=>(by cases h),λF w n m B b _ _ hB=>?_⟩
 obtain⟨b',es,clock,k1,k2,k3,k4⟩:=hB
 refine⟨b',es,clock,k1,k2,KG.unk k3.ent,λk hk=>?_⟩
 obtain⟨h1,h2⟩:=k4 k hk
 obtain⟨h3,h4⟩:=h k hk
 refine⟨by rw[<- h3];exact h1,λv hv=>?_⟩
 have ht:(f k).1=ze:=by
  grind
 obtain⟨h5,h6⟩:=h4 ht
 have h7:=(Zap (F:=F) (w:=w) (m:=m) (f k).2 n h5).1 v (h2 v hv)
 rw[<- (YM _ _ _).1,h6,(YM _ _ _).1]at h7
 exact h7
theorem BOk.any(x:Blk):BOk n0 x .any:=⟨λ_=>rfl,λ_ _ _ _ _ _ _ _ _=>trivial⟩
theorem BOk.rng{f f':FuncId}{ps:List Nat}{asg bd:Code}{row row':Nat->V}{N st:Nat}{pd:Option Ex}(h:∀i,(row i).QJ n0=ze/\(row i).soft=(row' i).soft\/row' i=.junk):BOk n0 (.rng f ps asg bd row N st pd) (.rng f' ps asg bd row' N st pd):=by
 refine⟨λh=>(by cases h),λF w n m B b hb e hB=>?_⟩
 obtain⟨l,r,k1,k2,k3,k4,k5,k6,k7,k8,k9⟩:=hB
 refine⟨l,r,k1,k2,k3,k4,k5,k6,k7,k8,λi=>?_⟩
 rcases h i with⟨h1,h2⟩|h1
 ·have h7:=(Zap (F:=F) (w:=w) (m:=m) (row i) n h1).1 _ (k9 i)
  rw[<- (YM _ _ _).1,h2,(YM _ _ _).1]at h7
  exact h7
 grind[R]
end Go.Fw
namespace Go.Fw
def V.ren(f:Nat->Option Nat):V->V
 | .cons h t=>.cons (h.ren f) (t.ren f)
 | .agg cs=>.agg (cs.ren f)
 | .tup cs=>.tup (cs.ren f)
 | .ptr st b es i o=>match f b with|some c=>.ptr st c es i o|none=>.junk
 | .osl st b es i n=>match f b with|some c=>.osl st c es i n|none=>.junk
 | .osp st b es i n c0=>match f b with|some c=>.osp st c es i n c0|none=>.junk
 | .fn g a b=>.fn g (a.ren f) (b.ren f)
 | .yld b=>match f b with|some c=>.yld c|none=>.junk
 | .mp b=>match f b with|some c=>.mp c|none=>.junk
 |v=>v
variable{F:Nat->Prop}{w:World}{n n0:Nat}{m m' f:Nat->Option Nat}
theorem R_ren(hf:∀b c,f b=zi c->c<n0/\m' c=m b):∀(v:V),
  (∀x,R F w v n m x->R F w (v.ren f) n0 m' x)/\(∀xs,RL F w v n m xs->RL F w (v.ren f) n0 m' xs):=by
 intro v
 induction v<;>grind[refine,R,V.ren,RL]
def Um:List (Nat×Nat)->Nat->Option Nat
 |[],_=>zm
 |(s,c)::r,b=>bif zq s b then zi c else Um r b
def Qe:List (Nat×Nat)->Nat->Option Nat
 |[],_=>zm
 |(s,c)::r,b=>bif zq c b then zi s else Qe r b
def okN(n0 n1:Nat):List (Nat×Nat)->Bool
 |[]=>ze
 |(s,c)::r=>(zG c n0&&(zK n1 c||Nat.beq s c))&&(((Um r s).isNone&&(Qe r c).isNone)&&okN n0 n1 r)
variable{n1:Nat}
theorem ZgB:∀{σ:List (Nat×Nat)},okN n0 n1 σ=ze->∀b c,Um σ b=zi c->Qe σ c=zi b/\c<n0/\(n1<=c\/b=c):=by
 intro σ
 induction σ with
 |nil=>
  intro _ b c h
  cases h
 |cons p r ih=>
  obtain⟨s,d⟩:=p
  intro h b c hb
  simp only[okN,zL,Bool.or_eq_true]at h
  obtain⟨⟨h1,h2⟩,⟨h3,h4⟩,h5⟩:=h
  simp only[Um]at hb
  simp only[Qe]
  cases hs:zq s b
  ·grind[zq,zO]
  simp_all
theorem Zdv:∀{σ:List (Nat×Nat)},okN n0 n1 σ=ze->∀b c,Qe σ c=zi b->Um σ b=zi c:=by
 intro σ
 induction σ with
 |nil=>
  intro _ b c h
  cases h
 |cons p r ih=>
  obtain⟨s,d⟩:=p
  intro h b c hb
  simp only[okN,zL,Bool.or_eq_true]at h
  obtain⟨_,⟨h3,h4⟩,h5⟩:=h
  simp only[Qe]at hb
  simp only[Um]
  cases hd:zq d c
  ·grind[zq,zO]
  simp_all
def renF(n1:Nat)(σ:List (Nat×Nat))(b:Nat):Option Nat:=
 match Um σ b with
 |some c=>zi c
 |none=>bif zG b n1 then zi b else zm
def Jh(n1:Nat)(σ:List (Nat×Nat))(m:Nat->Option Nat)(c:Nat):Option Nat:=
 match Qe σ c with
 |some b=>m b
 |none=>if c<n1 then m c else zm
theorem renF_ok{σ:List (Nat×Nat)}(h:okN n0 n1 σ=ze)(h01:n1<=n0)(m:Nat->Option Nat):∀b c,renF n1 σ b=zi c->c<n0/\Jh n1 σ m c=m b:=by
 intro b c hb
 unfold renF at hb
 cases hl:Um σ b with
 |some c'=>
  rw[hl]at hb
  injection hb with hb
  subst hb
  obtain⟨k1,k2,_⟩:=ZgB h b c' hl
  grind[Jh]
 |none=>
  rw[hl]at hb
  dsimp only at hb
  cases hlt:zG b n1
  ·grind
  ·rw[hlt]at hb
   injection hb with hb
   subst hb
   have hlt':b<n1:=by simpa[Nat.blt_eq]using hlt
   refine⟨by omega,?_⟩
   unfold Jh
   cases hs:Qe σ b with
   |none=>grind
   |some b'=>
    have k:=Zdv h b' b hs
    obtain⟨_,_,k3⟩:=ZgB h b' b k
    grind
def Blk.ren(f:Nat->Option Nat):Blk->Blk
 | .var cs=>.var (cs.ren f)
 | .Zk kd st g ks=>.Zk kd st (λk=>((g k).1,(g k).2.ren f)) ks
 | .iter mb since seen last=>match mb with
  |Option.none=>.iter Option.none since seen last
  |Option.some b=>match f b with
   |Option.some c=>.iter (Option.some c) since seen last
   |Option.none=>.any
 | .rng g ps asg bd row N st pd=>.rng g ps asg bd (λi=>(row i).ren f) N st pd
 |x=>x
theorem RB_ren(hf:∀b c,f b=zi c->c<n0/\m' c=m b){x:Blk}{B:Option Nat}(h:RB F w n m x B):RB F w n0 m' (x.ren f) B:=by
 cases x with
 |none=>exact h
 |any=>exact h
 |var cs=>
  obtain⟨b',xs,el,ys,zs,k1,k2,k3,k4⟩:=h
  exact⟨b',xs,el,ys,zs,k1,k2,k3,(R_ren hf _).2 _ k4⟩
 |arr es k get=>exact h
 |Zk kd st g ks=>
  obtain⟨b',es,clock,k1,k2,k3,k4⟩:=h
  exact⟨b',es,clock,k1,k2,k3,λk hk=>⟨(k4 k hk).1,λv hv=>(R_ren hf _).1 _ ((k4 k hk).2 v hv)⟩⟩
 |iter mb since seen last=>
  obtain⟨r,y,e,hc,h1⟩:=h
  cases mb with
  |none=>exact⟨r,y,e,hc,h1⟩
  |some b=>
   obtain⟨z,h2,h3,h4⟩:=h1
   show RB F w n0 m' (match f b with|some c=>Blk.iter (zi c) since seen last|none=>.any) B
   cases hb:f b with
   |none=>exact trivial
   |some c=>exact⟨r,y,e,hc,z,(hf b c hb).1,h3,by rw[(hf b c hb).2];exact h4⟩
 |rng g ps asg bd row N st pend=>
  obtain⟨l,r,e,hc,h1,h2,h3,h4,h5,h6,h7⟩:=h
  exact⟨l,r,e,hc,h1,h2,h3,h4,h5,h6,λi=>(R_ren hf _).1 _ (h7 i)⟩
inductive Src where
 |own
 |tmp (t:Nat)
 |cell (b i:Nat)
 |tcell (t i:Nat)
def V.name?:V->Option Nat
 | .osl _ b _ _ _=>zi b
 | .osp _ b _ _ _ _=>zi b
 | .ptr _ b _ _ _=>zi b
 | .mp b=>zi b
 |_=>zm
section
variable{B:Base}
def Uy(x:St B)(p:Nat×Src):Nat:=
 match p.2 with
 | .own=>p.1
 | .tmp t=>match(x.tmp t).name? with
  |some b=>b
  |none=>p.1
 | .cell b i=>match x.blk b with
  | .var cs=>match(cs.nth i).name? with
   |some b=>b
   |none=>p.1
  |_=>p.1
 | .tcell t i=>match x.tmp t with
  | .agg cs=>match(cs.nth i).name? with
   |some b=>b
   |none=>p.1
  |_=>p.1
def sigma(x:St B)(KH:List (Nat×Src)):List (Nat×Nat):=KH.map λp=>(Uy x p,p.1)
def blkAt(x:St B)(b:Nat):Blk:=bif zG b x.n then x.blk b else .none
def vwN(n1 n0 N0:Nat)(KT:List Nat)(KH:List (Nat×Src))(x:St B):Bool×V×List Blk:=
 let σ:=sigma x KH
 (((zq x.N N0&&zK n1 x.n)&&(okN n0 n1 σ&&zK n1 n0)),
  rowOf (KT.map λt=>(x.tmp t).ren (renF n1 σ)),KH.map λp=>(blkAt x (Uy x p)).ren (renF n1 σ))
def Yl(n0 N0:Nat)(KT:List Nat)(KH:List (Nat×Src))(ts:V)(ys:List Blk):St B:={ t:=putT KT ts (.fill .junk),h:=putX (KH.map (·.1)) ys (.fill .any),n:=n0,N:=N0 }
end
def Le(n:Nat)(v v':V):Prop:=∀(F:Nat->Prop)(w:World)(m:Nat->Option Nat),(∀x,R F w v n m x->R F w v' n m x)/\(∀xs,RL F w v n m xs->RL F w v' n m xs)
theorem Le.soft{v v':V}(h:v.soft=v'.soft):Le n v v':=λF w m=>
 ⟨λx hx=>by rw[<- (YM v n m).1,h,(YM v' n m).1]at hx;exact hx,λx hx=>by rw[<- (YM v n m).2,h,(YM v' n m).2]at hx;exact hx⟩
theorem Le.cons{a b c d:V}(h:Le n a c)(h':Le n b d):Le n (.cons a b) (.cons c d):=λF w m=>
 ⟨λx hx=>by simp only[R]at hx,λxs hx=>by
  simp only[RL]at hx⊢
  obtain⟨x,r,e,h1,h2⟩:=hx
  exact⟨x,r,e,(h F w m).1 _ h1,(h' F w m).2 _ h2⟩⟩
variable{es:Nat}
theorem Le.Zo{b i:Nat}{st:Bool}(h:b<n):Le n .Zo (.osl st b es i 0):=λF w m=>
 ⟨λx hx=>by simp only[R]at hx⊢;exact⟨h,zm,0,hx,zI _,.inl rfl⟩,λxs hx=>by simp only[RL]at hx⟩
def LeK(n:Nat)(x y:Blk):Prop:=(x=.any->y=.any)/\∀(F:Nat->Prop)(w:World)(m:Nat->Option Nat)(B:Option Nat),RB F w n m x B->RB F w n m y B
theorem LeK.refl(x:Blk):LeK n x x:=⟨id,λ_ _ _ _ h=>h⟩
theorem LeK.any(x:Blk):LeK n x .any:=⟨λ_=>rfl,λ_ _ _ _ _=>trivial⟩
theorem LeK.var{c c':V}(h:Le n c c'):LeK n (.var c) (.var c'):=⟨λe=>(by cases e),λF w m B hb=>by
 obtain⟨b,xs,el,ys,zs,k1,k2,k3,k4⟩:=hb
 exact⟨b,xs,el,ys,zs,k1,k2,k3,(h F w m).2 _ k4⟩⟩
variable{g:Nat->V}
theorem LeK.arr{k k':Nat}{g':Nat->V}(hn:k=k')(h:∀j,j<k->g j=g' j):LeK n (.arr es k g) (.arr es k' g'):=⟨λe=>(by cases e),λF w m B hb=>by
 subst hn
 rcases hb with h0|⟨b,c,el,k1,k2,k3,k4⟩
 ·exact .inl h0
 ·exact .inr ⟨b,c,el,k1,k2,k3,λj hj=>by rw[<- h j hj];exact k4 j hj⟩⟩
theorem LeK.none:LeK n .none (.arr es 0 g):=⟨λe=>(by cases e),λF w m B hb=>.inl ⟨rfl,hb⟩⟩
theorem LeK.rng{f f':FuncId}{ps:List Nat}{asg bd:Code}{row row':Nat->V}{N st:Nat}{pd:Option Ex}(h:∀i,Le n (row i) (row' i)):LeK n (.rng f ps asg bd row N st pd) (.rng f' ps asg bd row' N st pd):=⟨λe=>(by cases e),λF w m B hb=>by
 obtain⟨l,r,e,hc,h1,h2,h3,h4,h5,h6,h7⟩:=hb
 exact⟨l,r,e,hc,h1,h2,h3,h4,h5,h6,λi=>(h i F w m).1 _ (h7 i)⟩⟩
theorem LeK.Zk{kd:MK}{st st':Bool}{ks:Ks}{f f':Value->Bool×V}(h:∀k,kd.is k=ze->(f k).1=(f' k).1/\Le n (f k).2 (f' k).2):LeK n (.Zk kd st f ks) (.Zk kd st' f' Option.none):=⟨λe=>(by cases e),λF w m B hb=>by
 obtain⟨b',es,clock,k1,k2,k3,k4⟩:=hb
 exact⟨b',es,clock,k1,k2,KG.unk k3.ent,λk hk=>⟨by rw[<- (h k hk).1];exact(k4 k hk).1,λv hv=>((h k hk).2 F w m).1 _ ((k4 k hk).2 v hv)⟩⟩⟩
theorem Le.junk(v:V)(hv:v.one=ze):Le n v .junk:=λF w m=>⟨λx _=>by simp only[R],λxs h=>by cases v<;>first|(cases hv;done)|(simp only[RL]at h)⟩
theorem Le.refl(v:V):Le n v v:=λ_ _ _=>⟨λ_ h=>h,λ_ h=>h⟩
def XL(n:Nat):List Blk->List Blk->Prop
 |[],[]=>True
 |x::xs,y::ys=>LeK n x y/\XL n xs ys
 |_,_=>False
theorem LeKs_get:∀(xs ys:List Blk),XL n xs ys->∀(i:Nat) y,ys[i]? =zi y->∃x,xs[i]? =zi x/\LeK n x y:=by
 intro xs
 induction xs with
 |nil=>intro ys h i y hy;cases ys with|nil=>simp at hy|cons=>exact h.elim
 |cons a xs ih=>
  intro ys h i y hy
  cases ys with
  |nil=>exact h.elim
  |cons b ys=>
   cases i with
   |zero=>simp at hy;subst hy;exact⟨a,rfl,h.1⟩
   |succ i=>obtain⟨x,h1,h2⟩:=ih ys h.2 i y (by simpa using hy);exact⟨x,by simpa using h1,h2⟩
def WT{B:Base}(n1 n0 N0:Nat)(KT:List Nat)(KH:List (Nat×Src))(x:St B)(ts:V)(ys:List Blk):Prop:=
 (vwN n1 n0 N0 KT KH x).1=ze/\Le n0 (vwN n1 n0 N0 KT KH x).2.1 ts/\XL n0 (vwN n1 n0 N0 KT KH x).2.2 ys
theorem Zmp{vs:List V}{g:Nat->Value}:∀(KT:List Nat),vs.length=KT.length->(∀(i k:Nat)(v:V),KT[i]? =zi k->vs[i]? =zi v->R F w v n m (g k))->RL F w (rowOf vs) n m (KT.map g):=by
 induction vs with
 |nil=>grind[rowOf,RL]
 |cons v vs ih=>
  intro KT hl h
  cases KT with
  |nil=>cases hl
  |cons k ks=>
   simp only[rowOf,List.map_cons,RL]
   exact⟨_,_,rfl,h 0 k v rfl rfl,ih ks (by simpa using hl) λi k' v' h1 h2=>h (i+1) k' v' (by simpa using h1) (by simpa using h2)⟩
theorem Zmk{d:Nat->V}{g:Nat->Value}:∀(KT:List Nat)(ts:V)(t:PT V),(∀j,R F w (look d t j) n m (g j))->RL F w ts n m (KT.map g)->∀j,R F w (look d (putT KT ts t) j) n m (g j):=by
 intro KT
 induction KT with
 |nil=>
  intro ts t ht _
  exact ht
 |cons k ks ih=>
  intro ts t ht hs
  cases ts<;>simp only[List.map_cons,RL]at hs
  ·grind
  ·rename_i a r
   obtain⟨x,q,e,h1,h2⟩:=hs
   injection e with e1 e2
   subst e1
   subst e2
   refine ih r (t.set k a) (λj=>?_) h2<;>grind[refine,Yg]
theorem okN_mem:∀{σ:List (Nat×Nat)},okN n0 n1 σ=ze->∀b c,(b,c)∈σ->Qe σ c=zi b:=by
 intro σ
 induction σ with
 |nil=>grind
 |cons p r ih=>
  obtain⟨s,d⟩:=p
  intro h b c hb
  simp only[okN,zL,Bool.or_eq_true]at h
  obtain⟨_,⟨h3,h4⟩,h5⟩:=h
  simp only[Qe]
  cases hb with
  |head=>simp
  |tail _ hb=>
   have k:=ih h5 b c hb
   grind[zq,zO]
section
variable{B:Base}
variable{base n1 n0 N0:Nat}{m:Nat->Option Nat}{F:Nat->Prop}{KT:List Nat}{KH:List (Nat×Src)}
theorem ZaM{B':Base}{lo:Nat}{x:St B}{a:Act}{w:World}{ts:V}{ys:List Blk}(hr:Rel lo base m F x a w)(h:WT n1 n0 N0 KT KH x ts ys) :
  n1<=n0/\Rel lo base (Jh n1 (sigma x KH) m) F (Yl n0 N0 KT KH ts ys:St B') a w/\(∀b,b<n1->∀B,m b=zi B->Jh n1 (sigma x KH) m b=zi B)/\∀b B,Jh n1 (sigma x KH) m b=zi B->∃c,m c=zi B:=by
 obtain⟨h1,h2,h3⟩:=h
 simp only[vwN]at h1 h2 h3
 simp only[zL]at h1
 obtain⟨⟨hN,hn⟩,hok,h01⟩:=h1
 have hn:=yA hn
 have hN:=zO hN
 have h01:=yA h01
 generalize hσ:sigma x KH=σ at hok h2 h3
 have hf:=renF_ok hok h01 m
 have hmem:∀i p,KH[i]? =zi p->(Uy x p,p.1)∈σ:=λi p hp=>by
  rw[<- hσ]
  exact List.mem_map.2 ⟨p,List.mem_of_getElem? hp,rfl⟩
 have hinv:∀c k,Jh n1 σ m c=zi k->∃b,m b=zi k/\(Qe σ c=zi b\/(Qe σ c=zm/\c<n1/\b=c)):=by
  grind[Jh,Qe]
 have hks:∀(i c:Nat),(KH.map (·.1))[i]? =zi c->∃p:Nat×Src,KH[i]? =zi p/\p.1=c:=λi c hc=>by
  grind
 have hget:∀(i c:Nat) y,(KH.map (·.1))[i]? =zi c->ys[i]? =zi y->∃p:Nat×Src,KH[i]? =zi p/\p.1=c/\LeK n0 ((blkAt x (Uy x p)).ren (renF n1 σ)) y:=λi c y hc hy=>by
  grind[LeKs_get]
 have hany:∀c,(Qe σ c=zm\/∃b,Qe σ c=zi b/\b<x.n/\x.blk b=.any)->(Yl n0 N0 KT KH ts ys:St B').blk c=.any:=by
  intro c hc
  refine Zml (d:=B'.h) (Q:=λj y=>(Qe σ j=zm\/∃b,Qe σ j=zi b/\b<x.n/\x.blk b=.any)->y=.any) (KH.map (·.1)) ys (.fill .any) (λj _=>rfl) (λi c y hi hy hc=>?_) c hc
  obtain⟨p,hp,e,hle⟩:=hget i c y hi hy
  have hs:=okN_mem hok _ _ (hmem i p hp)
  rw[e]at hs
  rcases hc with hc|⟨b,hb,hbn,hb2⟩
  ·grind
  ·rw[hs]at hb
   injection hb with hb
   refine hle.1 ?_
   rw[hb]
   unfold blkAt
   rw[hb2,show zG b x.n=ze by rw[Nat.blt_eq];exact hbn]
   rfl
 refine⟨h01,?_,?_,λc k hk=>let⟨b,hb,_⟩:=hinv c k hk;⟨b,hb⟩⟩
 refine⟨⟨hr.hr.low,hr.hr.fdom,λc hc=>?_,λc k hk=>?_,λc hc=>?_,hr.hr.gl,λc k hk=>?_,λc c' k hk hk' hne=>?_⟩,Marks.sub hr.defers (λc k hk=>let⟨b,hb,_⟩:=hinv c k hk;⟨b,hb⟩),hr.size.trans hN,λj=>?_⟩
 ·refine Zml (d:=B'.h) (Q:=λj y=>j<n0->RB F w n0 (Jh n1 σ m) y (Jh n1 σ m j)) (KH.map (·.1)) ys (.fill .any) (λj _=>trivial) (λi c' y hi hy _=>?_) c hc
  obtain⟨p,hp,e,hle⟩:=hget i c' y hi hy
  refine hle.2 F w _ _ ?_
  have hs:=okN_mem hok _ _ (hmem i p hp)
  rw[e]at hs
  have hm:Jh n1 σ m c'=m (Uy x p):=by
   grind[Jh]
  rw[hm]
  refine RB_ren hf ?_ (n:=x.n)
  unfold blkAt
  cases hlt:zG (Uy x p) x.n
  ·exact hr.hr.new _ (by
    rcases Nat.lt_or_ge (Uy x p) x.n with h|h
    ·rw[<- Nat.blt_eq]at h;rw[h]at hlt;cases hlt
    ·exact h)
  ·exact hr.hr.blk _ (show Uy x p<x.n by simpa[Nat.blt_eq]using hlt)
 ·obtain⟨b,hb,_⟩:=hinv c k hk
  exact hr.hr.dom b k hb
 ·cases hq:Jh n1 σ m c with
  |none=>rfl
  |some k=>
   exfalso
   have hc':n0<=c:=hc
   obtain⟨b,hb,hs|⟨_,hs,_⟩⟩:=hinv c k hq
   ·have:=(ZgB hok b c (Zdv hok b c hs)).2.1
    omega
   ·omega
 ·obtain⟨b,hb,_⟩:=hinv c k hk
  exact hr.hr.own b k hb
 ·obtain⟨b,hb,hs⟩:=hinv c k hk
  obtain⟨b',hb',hs'⟩:=hinv c' k hk'
  by_cases e:b=b'
  ·subst e
   rcases hs with hs|⟨hs,_,e1⟩
   ·rcases hs' with hs'|⟨hs',_,e2⟩
    ·have k1:=Zdv hok b c hs
     grind[Zdv]
    grind
   grind
  ·rcases hr.hr.inj b b' k hb hb' e with h|h
   ·left
    rcases hs with hs|⟨hs,_,_⟩
    ·exact hany c (.inr ⟨b,hs,hr.hr.lt (by rw[hb];simp),h⟩)
    grind
   ·right
    rcases hs' with hs'|⟨hs',_,_⟩
    ·exact hany c' (.inr ⟨b',hs',hr.hr.lt (by rw[hb'];simp),h⟩)
    grind
 ·refine Zmk (g:=λj=>a.tmps.getD j Go.undef) KT ts (.fill .junk) (λj=>by show R F w .junk n0 _ _;simp only[R]) ((h2 F w _).2 _ (Zmp KT (by rw[List.length_map]) λi k v hk hv=>?_)) j
  rw[List.getElem?_map,hk]at hv
  injection hv with hv
  subst hv
  exact(R_ren hf _).1 _ (hr.tmp k)
 ·intro b hb k hk
  unfold Jh
  cases hs:Qe σ b with
  |none=>grind
  |some b'=>
   obtain⟨_,_,k3⟩:=ZgB hok b' b (Zdv hok b' b hs)
   grind
theorem ZbC{m2 m':Nat->Option Nat}{F':Nat->Prop}{n n2:Nat}{w w':World}(h:Ext base m F n w m2 F' n2 w')(h0:n<=n0)(hm:∀b,b<n->∀B,m2 b=zi B->m' b=zi B)(hs:∀b B,m' b=zi B->∃c,m2 c=zi B):Ext base m F n w m' F' n0 w':=
 ⟨h.f,h.back,h.keep,h.size,h.sz,h.ow.sub hs,h0,λb hb B hB=>hm b hb B (h.map b hb B hB),h.calm⟩
theorem ev_okP{E:Env}(hE:E.Ok){P:Program}(hP:E.P=P)(k:Nat)(ro:Option Nat)(f:FuncId)(c:Code)(B:Base)(s:St B)(lo base:Nat)(m:Nat->Option Nat)(F:Nat->Prop)(a:Act)(w:World)(Q:Ex×St B->Prop)(Qx:Exit->Act->World->Prop)
  (h1:∀b∈YQ c,Wq P f b)(h2:ro=zm\/XR c=ze)(h3:Rel lo base m F s a w)
  (h4:(ev E k f c B s).holds P Q)(h5:∀e s',Q (e,s')->∀m' F' a' w',Ext base m F s.n w m' F' s'.n w'->Rel lo base m' F' s' a' w'->Qx e.J8 a' w'):wpX P ro c Qx a w:=by
 subst hP
 exact ev_ok hE k ro f c B s lo base m F a w Q Qx (λb hb _ _=>h1 b hb) h2 h3 h4 h5
variable{f:FuncId}
theorem loop_renN{P:Program}{ι:Type}{E:ι->Env}(hE:∀i,(E i).Ok)(hP:∀i,(E i).P=P){k:Nat}{b:Code}(hin:∀b'∈YQ b,Wq P f b')(ts:ι->V)(ys:ι->List Blk)(Inv:ι->Prop)(μ:ι->Nat)(Φ:Ex×St B->Prop)
  (step:∀i,Inv i->(ev (E i) k f b B (Yl n0 N0 KT KH (ts i) (ys i))).holds P λx=>match x.1 with
   | .normal=>∃i',Inv i'/\μ i'<μ i/\WT n1 n0 N0 KT KH x.2 (ts i') (ys i')
   |e=>∃ts' ys',WT n1 n0 N0 KT KH x.2 ts' ys'/\Φ (e,Yl n0 N0 KT KH ts' ys'))
{s:St B}(hn:s.n=n1){i0:ι}(h0:Inv i0)(hs:WT n1 n0 N0 KT KH s (ts i0) (ys i0)):V3 P b s Φ:=by
 intro ro lo base m F a w Q hro hr hQ
 have main:∀(q:Nat)(i:ι),μ i<=q->Inv i->∀m1 F1 a1 w1,Ext base m F s.n w m1 F1 n0 w1->Rel lo base m1 F1 (Yl n0 N0 KT KH (ts i) (ys i):St B) a1 w1->JC P ro b Q a1 w1:=by
  intro q
  induction q with
  |zero=>
   intro i hi hI m1 F1 a1 w1 hx hr1
   refine JC.round (wpX.wp (ev_okP (hE i) (hP i) k ro f b B _ lo base m1 F1 a1 w1 _ _ hin hro hr1 (step i hI) λe s' hPs m2 F2 a2 w2 k1 k2=>?_))
   have hx1:=hx.trans k1
   cases e with
   |normal=>obtain⟨i',_,h2,_⟩:=hPs;omega
   |exit id=>obtain⟨ts',bs',h1,h2⟩:=hPs;obtain⟨c1,c2,c3,c4⟩:=ZaM (B':=B) k2 h1;exact hQ (.exit id) _ h2 _ _ _ _ (ZbC hx1 (show s.n<=n0 by omega) (λb hb=>c3 b (by omega)) c4) c2
   |ret=>obtain⟨ts',bs',h1,h2⟩:=hPs;obtain⟨c1,c2,c3,c4⟩:=ZaM (B':=B) k2 h1;exact hQ .ret _ h2 _ _ _ _ (ZbC hx1 (show s.n<=n0 by omega) (λb hb=>c3 b (by omega)) c4) c2
  |succ q ih=>
   intro i hi hI m1 F1 a1 w1 hx hr1
   refine JC.round (wpX.wp (ev_okP (hE i) (hP i) k ro f b B _ lo base m1 F1 a1 w1 _ _ hin hro hr1 (step i hI) λe s' hPs m2 F2 a2 w2 k1 k2=>?_))
   have hx1:=hx.trans k1
   cases e with
   |normal=>obtain⟨i',h1,h2,h3⟩:=hPs;obtain⟨c1,c2,c3,c4⟩:=ZaM (B':=B) k2 h3;exact ih i' (by omega) h1 _ _ _ _ (ZbC hx1 (by omega) (λb hb=>c3 b (by omega)) c4) c2
   |exit id=>obtain⟨ts',bs',h1,h2⟩:=hPs;obtain⟨c1,c2,c3,c4⟩:=ZaM (B':=B) k2 h1;exact hQ (.exit id) _ h2 _ _ _ _ (ZbC hx1 (show s.n<=n0 by omega) (λb hb=>c3 b (by omega)) c4) c2
   |ret=>obtain⟨ts',bs',h1,h2⟩:=hPs;obtain⟨c1,c2,c3,c4⟩:=ZaM (B':=B) k2 h1;exact hQ .ret _ h2 _ _ _ _ (ZbC hx1 (show s.n<=n0 by omega) (λb hb=>c3 b (by omega)) c4) c2
 obtain⟨c1,c2,c3,c4⟩:=ZaM (B':=B) hr hs
 exact main (μ i0) i0 (zI _) h0 _ F a w (ZbC (Ext.refl base m F s.n w) (by omega) (λb hb=>c3 b (by omega)) c4) c2
theorem ZlD{P:Program}{ι:Type}{E:ι->Env}(hE:∀i,(E i).Ok)(hP:∀i,(E i).P=P){k:Nat}{b:Code}(hin:∀b'∈YQ b,Wq P f b')(ts:ι->V)(ys:ι->List Blk)(Inv:ι->Prop)(μ:ι->Nat)(Φ:Ex×St B->Prop)
  {T:ι->Tree (Ex×Bool×V×List Blk)}(hT:∀i,Inv i->((ev (E i) k f b B (Yl n0 N0 KT KH (ts i) (ys i))).bind λx=>zw (x.1,vwN n1 n0 N0 KT KH x.2))=T i)
  (step:∀i,Inv i->(T i).holds P λy=>match y.1 with
   | .normal=>y.2.1=ze/\∃i',Inv i'/\μ i'<μ i/\Le n0 y.2.2.1 (ts i')/\XL n0 y.2.2.2 (ys i')
   |e=>y.2.1=ze/\∃ts' ys',Le n0 y.2.2.1 ts'/\XL n0 y.2.2.2 ys'/\Φ (e,Yl n0 N0 KT KH ts' ys'))
{s:St B}(hn:s.n=n1){i0:ι}(h0:Inv i0)(hs:WT n1 n0 N0 KT KH s (ts i0) (ys i0)):V3 P b s Φ:=by
 refine loop_renN hE hP (k:=k) hin ts ys Inv μ Φ (λi hi=>?_) hn h0 hs
 refine Tree.XI _ (λx hx=>?_) (Tree.Zp5 (hT i hi) (step i hi))
 obtain⟨e,s'⟩:=x
 cases e with
 |normal=>obtain⟨h1,i',h2,h3,h4,h5⟩:=hx;exact⟨i',h2,h3,h1,h4,h5⟩
 |exit id=>obtain⟨h1,ts',bs',h2,h3,h4⟩:=hx;exact⟨ts',bs',⟨h1,h2,h3⟩,h4⟩
 |ret=>obtain⟨h1,ts',bs',h2,h3,h4⟩:=hx;exact⟨ts',bs',⟨h1,h2,h3⟩,h4⟩
end
end Go.Fw
namespace Go.Fw
section
variable{B:Base}
end
def Xc(n:Nat)(f:Nat->Bool):Bool:=Nat.rec ze (λk r=>f k&&r) n
variable{f:Nat->Bool}
theorem ZkW{n:Nat}:Xc n f=ze->∀k,k<n->f k=ze:=by
 induction n<;>grind[Xc]
universe u
def sameI(a b:Int):Bool:=decide (a=b)
def sameK(a b:IntKind):Bool:=decide (a=b)
def sameS:List UInt8->List UInt8->Bool
 |[],[]=>ze
 |a::l,b::r=>zq a.toNat b.toNat&&sameS l r
 |_,_=>za
theorem sameS_eq:∀l r:List UInt8,sameS l r=ze->l=r:=by
 intro l
 induction l with
 |nil=>intro r h;cases r with|nil=>rfl|cons=>cases h
 |cons a l ih=>
  intro r h
  cases r with
  |nil=>cases h
  |cons b r=>
   simp only[sameS,zL]at h
   rw[UInt8.toNat_inj.1 (zO h.1),ih r h.2]
def YI:V->V->Bool
 | .cons h t,y=>match y with| .cons h' t'=>YI h h'&&YI t t'|_=>za
 | .nil,y=>match y with| .nil=>ze|_=>za
 | .int _ k n,y=>match y with| .int _ k' n'=>sameK k k'&&sameI n n'|_=>za
 | .bool _ b,y=>match y with| .bool _ b'=>b==b'|_=>za
 | .str _ s,y=>match y with| .str _ s'=>sameS s s'|_=>za
 | .agg cs,y=>match y with| .agg cs'=>YI cs cs'|_=>za
 | .tup cs,y=>match y with| .tup cs'=>YI cs cs'|_=>za
 | .rsl _ es n get,y=>match y with
  | .rsl _ es' n' get'=>(zq es es'&&zq n n')&&WU n λj=>YI (get j) (get' j)
  |_=>za
 | .Zo,y=>match y with| .Zo=>ze| .rsl _ _ n _=>zq n 0|_=>za
 | .esl nn es,y=>match y with
  | .rsl _ es' n _=>zq n 0&&zq es es'
  | .esl nn' es'=>(nn|| !nn')&&zq es es'
  |_=>za
 | .nilptr,y=>match y with| .nilptr=>ze|_=>za
 | .nilmap,y=>match y with| .nilmap=>ze|_=>za
 | .nilif,y=>match y with| .nilif=>ze|_=>za
 |_,_=>za
theorem allN_all:∀{k:Nat},WU k f=ze->∀j,j<k->f j=ze:=by
 intro k
 induction k<;>grind[WU]
theorem sameV_R{F:Nat->Prop}{w:World}:∀(v v':V),YI v v'=ze->∀(n:Nat)(m:Nat->Option Nat),(∀x,R F w v n m x->R F w v' n m x)/\(∀xs,RL F w v n m xs->RL F w v' n m xs):=by
 intro v
 induction v with
 |cons h t ih1 ih2=>
  intro v' hs n m
  cases v'<;>simp only[YI]at hs<;>try(cases hs;done)
  grind[refine,R,RL]
 |nil=>grind[YI]
 |int st k q=>
  intro v' hs n m
  cases v'<;>simp only[YI]at hs<;>try(cases hs;done)
  simp_all[zL,sameK,sameI,R,RL]
 |bool st b=>
  intro v' hs n m
  cases v'<;>simp only[YI]at hs<;>try(cases hs;done)
  grind[R,RL]
 |str st s=>
  intro v' hs n m
  cases v'<;>simp only[YI]at hs<;>try(cases hs;done)
  grind[sameS_eq,R,RL]
 |agg cs ih=>
  intro v' hs n m
  cases v'<;>simp only[YI]at hs<;>try(cases hs;done)
  grind[refine,RL,R]
 |tup cs ih=>
  intro v' hs n m
  cases v'<;>simp only[YI]at hs<;>try(cases hs;done)
  grind[refine,RL,R]
 |rsl st es k get ih=>
  intro v' hs n m
  cases v'<;>simp only[YI]at hs<;>try(cases hs;done)
  simp only[zL]at hs
  grind[zO,refine,RL,R,allN_all]
 |Zo=>
  intro v' hs n m
  refine⟨λx h=>?_,λxs h=>by simp only[RL]at h⟩
  cases v'<;>simp only[YI]at hs<;>try(cases hs;done)
  ·simp_all[zO,R,zI]
  ·exact h
 |esl nn es=>
  intro v' hs n m
  refine⟨λx h=>?_,λxs h=>by simp only[RL]at h⟩
  cases v'<;>simp only[YI]at hs<;>try(cases hs;done)
  ·simp only[zL]at hs
   obtain rfl:=zO hs.1
   grind[R]
  grind[R,refine]
 |nilptr=>grind[YI]
 |nilmap=>grind[YI]
 |nilif=>grind[YI]
 |_=>grind[YI]
theorem Zh.same{P:Program}{g:FuncId}{args v v':V}(h:Zh P g args v)(hv:YI v v'=ze):Zh P g args v':=
 ⟨h.1,λF w xs h1 h2 h3=>(h.2 F w xs h1 h2 h3).mono λ_ _ ⟨x,F',e1,e2,e3⟩=>⟨x,F',e1,e2,(sameV_R _ _ hv 0 _).1 _ e3⟩⟩
end Go.Fw
namespace Go.Fw
universe u
structure Box(α:Type u) where
 f:α
variable{α:Type}
def Tree.bnd{β:Type}(T:Tree α)(k:α->Tree β):Tree β:=
 Tree.rec (motive:=λ_=>Tree β) (λa=>k a) .stuck (λb _ _ t f=>.node b t f) (λp _ t=>.need p t) (λσ _ t=>.all σ t) (λp _ t=>.given p t) (λ_ _ t f=>.both t f) T
theorem Tree.Qj{β:Type}(T:Tree α)(k:α->Tree β):T.bnd k=T.bind k:=by
 induction T with
 |leaf a=>rfl
 |stuck=>rfl
 |node b t f iht ihf=>show zB b (t.bnd k) (f.bnd k)=_;rw[iht,ihf];rfl
 |need p t ih=>show Tree.need p (t.bnd k)=_;rw[ih];rfl
 |all σ t ih=>show Tree.all σ (λx=>(t x).bnd k)=_;rw[funext ih];rfl
 |given p t ih=>show Tree.given p (t.bnd k)=_;rw[ih];rfl
 |both t f iht ihf=>show Tree.both (t.bnd k) (f.bnd k)=_;rw[iht,ihf];rfl
def wrapF(k:IntKind)(n:Int):Int:=
 match n with
 | .ofNat m=>match k with
  | .i64=>bif zK m 9223372036854775807 then .ofNat m else k.wrap n
  | .u32=>bif zK m 4294967295 then .ofNat m else k.wrap n
  | .u64=>bif zK m 18446744073709551615 then .ofNat m else k.wrap n
  | .u8=>bif zK m 255 then .ofNat m else k.wrap n
  |k=>k.wrap n
 | .negSucc m=>match k with
  | .i64=>bif zK m 9223372036854775807 then .negSucc m else k.wrap n
  |k=>k.wrap n
variable{m:Nat}
theorem i64_nat(h:zK m 9223372036854775807=ze):zT m=IntKind.i64.wrap (zT m):=by
 have h:=yA h
 grind[IntWalk.i64_in]
theorem i64_neg(h:zK m 9223372036854775807=ze):Int.negSucc m=IntKind.i64.wrap (Int.negSucc m):=by
 have h:=yA h
 grind[IntWalk.i64_in]
theorem u32_nat(h:zK m 4294967295=ze):zT m=IntKind.u32.wrap (zT m):=by
 have h:=yA h
 grind[IntWalk.u32_in]
theorem u64_nat(h:zK m 18446744073709551615=ze):zT m=IntKind.u64.wrap (zT m):=by
 have h:=yA h
 grind[IntWalk.u64_in]
theorem u8_nat(h:zK m 255=ze):zT m=IntKind.u8.wrap (zT m):=by
 have h:=yA h
 grind[IntWalk.u8_in]
theorem Zco{b:Bool}{x y:α}(h:b=ze->x=y):(bif b then x else y)=y:=by
 grind
theorem wrapF_eq(k:IntKind)(n:Int):wrapF k n=k.wrap n:=by
 cases n with
 |ofNat m=>
  cases k
  case i64=>exact Zco i64_nat
  case u32=>exact Zco u32_nat
  case u64=>exact Zco u64_nat
  case u8=>exact Zco u8_nat
  all_goals rfl
 |negSucc m=>
  cases k
  case i64=>exact Zco i64_neg
  all_goals rfl
def mkW(st:Bool)(k:IntKind)(n:Int):V:=
 match st with
 |true=>ZfH (wrapF k n) λn=>.int ze k n
 |false=>.int za k (k.wrap n)
theorem mkW_eq(st:Bool)(k:IntKind)(n:Int):mkW st k n=mkInt st k (k.wrap n):=by
 cases st<;>simp only[mkW,mkInt,wrapF_eq]
def ltF(a b:Int):Bool:=
 match a with
 | .ofNat m=>match b with| .ofNat n=>zG m n| .negSucc _=>za
 | .negSucc m=>match b with| .ofNat _=>ze| .negSucc n=>zG n m
def eqF(a b:Int):Bool:=
 match a with
 | .ofNat m=>match b with| .ofNat n=>zq m n| .negSucc _=>za
 | .negSucc m=>match b with| .ofNat _=>za| .negSucc n=>zq m n
theorem Zhu(a b:Nat):zG a b=decide (a<b):=by
 grind[zG,Nat.blt_eq]
theorem beq_dec(a b:Nat):zq a b=decide (a=b):=by
 cases h:zq a b
 ·exact(decide_eq_false λe=>by subst e;simp at h).symm
 ·simp_all
theorem ltF_eq(a b:Int):ltF a b=decide (a<b):=by
 cases a with
 |ofNat m=>
  cases b with
  |ofNat n=>show zG m n=decide ((m:Int)<(n:Int));grind[Zhu]
  |negSucc n=>exact(decide_eq_false (show ¬(m:Int)<Int.negSucc n by omega)).symm
 |negSucc m=>
  cases b with
  |ofNat n=>exact(decide_eq_true (show Int.negSucc m<(n:Int)by omega)).symm
  |negSucc n=>have:=Int.negSucc_eq n;show zG n m=_;grind[Zhu]
theorem eqF_eq(a b:Int):eqF a b=(a==b):=by
 have e:(a==b)=decide (a=b):=by cases h:decide (a=b)<;>simp_all
 cases a with
 |ofNat m=>
  cases b with
  |ofNat n=>show zq m n=decide ((m:Int)=(n:Int));grind[beq_dec]
  |negSucc n=>exact(decide_eq_false (λh=>by cases h)).symm
 |negSucc m=>
  cases b with
  |ofNat n=>exact(decide_eq_false (λh=>by cases h)).symm
  |negSucc n=>show zq m n=_;grind[beq_dec]
def mkQ(st:Bool)(quick slow:Bool):V:=
 match st with
 |true=>match quick with|true=>.bool ze ze|false=>.bool ze za
 |false=>.bool za slow
theorem mkQ_eq{st quick slow:Bool}(h:quick=slow):mkQ st quick slow=Qq st slow:=by subst h;cases st<;>cases quick<;>rfl
def Q6(k:Nat):Nat->List Bool:=Nat.rec (λ_=>[]) (λ_ ih i=>bif zq i 0 then []else bif zq (i%2) 1 then ze::ih (i/2)else za::ih (i/2-1)) k
def pathOf(i:Nat):List Bool:=Q6 (i+1) i
def getP(p:List Bool):PT α->Option α:=
 List.rec (motive:=λ_=>PT α->Option α)
  (λt=>PT.casesOn (motive:=λ_=>Option α) t zm (λv=>zi v) (λv _ _=>v))
  (λb _ ih t=>PT.casesOn (motive:=λ_=>Option α) t zm (λv=>zi v) (λ_ l r=>Bool.casesOn (motive:=λ_=>Option α) b (ih r) (ih l))) p
def setP(p:List Bool):PT α->α->PT α:=
 List.rec (motive:=λ_=>PT α->α->PT α)
  (λt x=>PT.casesOn (motive:=λ_=>PT α) t (.node (zi x) .nil .nil) (λv=>.node (zi x) (.fill v) (.fill v)) (λ_ l r=>.node (zi x) l r))
  (λb _ ih t x=>PT.casesOn (motive:=λ_=>PT α) t
   (Bool.casesOn (motive:=λ_=>PT α) b (.node zm .nil (ih .nil x)) (.node zm (ih .nil x) .nil))
   (λv=>Bool.casesOn (motive:=λ_=>PT α) b (.node (zi v) (.fill v) (ih (.fill v) x)) (.node (zi v) (ih (.fill v) x) (.fill v)))
   (λv l r=>Bool.casesOn (motive:=λ_=>PT α) b (.node v l (ih r x)) (.node v (ih l x) r))) p
theorem getP_eq:∀(k:Nat)(t:PT α)(i:Nat),i<k->getP (Q6 k i) t=t.get i:=by
 intro k
 induction k with
 |zero=>grind
 |succ k ih=>
  intro t i h
  show getP (bif zq i 0 then []else bif zq (i%2) 1 then ze::Q6 k (i/2)else za::Q6 k (i/2-1)) t=_
  cases h0:zq i 0
  ·have hi:i≠0:=λe=>by subst e;cases h0
   cases h1:zq (i%2) 1
   ·cases t with
    |nil=>rfl
    |fill v=>rfl
    |node v l r=>show getP (Q6 k (i/2-1)) r=_;grind[PT.get]
   ·cases t with
    |nil=>rfl
    |fill v=>rfl
    |node v l r=>show getP (Q6 k (i/2)) l=_;grind[PT.get]
  ·cases t with
   |nil=>rfl
   |fill v=>rfl
   |node v l r=>simp only[PT.get,h0];rfl
theorem setP_eq(x:α):∀(k:Nat)(t:PT α)(i:Nat),i<k->setP (Q6 k i) t x=PT.Qt k t i x:=by
 intro k
 induction k with
 |zero=>grind
 |succ k ih=>
  intro t i h
  show setP (bif zq i 0 then []else bif zq (i%2) 1 then ze::Q6 k (i/2)else za::Q6 k (i/2-1)) t x=_
  have e:PT.Qt (k+1) t i x=(match t with
   | .nil=>bif zq i 0 then .node (zi x) .nil .nil else bif zq (i%2) 1 then .node zm (PT.Qt k .nil (i/2) x) .nil else .node zm .nil (PT.Qt k .nil (i/2-1) x)
   | .fill v=>bif zq i 0 then .node (zi x) (.fill v) (.fill v)else bif zq (i%2) 1 then .node (zi v) (PT.Qt k (.fill v) (i/2) x) (.fill v)else .node (zi v) (.fill v) (PT.Qt k (.fill v) (i/2-1) x)
   | .node v l r=>bif zq i 0 then .node (zi x) l r else bif zq (i%2) 1 then .node v (PT.Qt k l (i/2) x) r else .node v l (PT.Qt k r (i/2-1) x)):=by cases t<;>rfl
  rw[e]
  cases h0:zq i 0
  ·have hi:i≠0:=λe=>by subst e;cases h0
   cases h1:zq (i%2) 1
   ·simp
    cases t with
    |nil=>show PT.node zm .nil (setP (Q6 k (i/2-1)) .nil x)=_;grind
    |fill v=>show PT.node (zi v) (.fill v) (setP (Q6 k (i/2-1)) (.fill v) x)=_;grind
    |node v l r=>show PT.node v l (setP (Q6 k (i/2-1)) r x)=_;grind
   ·simp
    cases t with
    |nil=>show PT.node zm (setP (Q6 k (i/2)) .nil x) .nil=_;grind
    |fill v=>show PT.node (zi v) (setP (Q6 k (i/2)) (.fill v) x) (.fill v)=_;grind
    |node v l r=>show PT.node v (setP (Q6 k (i/2)) l x) r=_;grind
  ·cases t<;>rfl
def getB(p:List Bool):Box (PT α->Option α):=
 List.rec (motive:=λ_=>Box (PT α->Option α)) ⟨λt=>PT.rec (motive:=λ_=>Option α) zm (λv=>zi v) (λv _ _ _ _=>v) t⟩
  (λb _ ih=>Bool.rec (motive:=λ_=>Box (PT α->Option α)) ⟨λt=>PT.rec (motive:=λ_=>Option α) zm (λv=>zi v) (λ_ _ r _ _=>ih.f r) t⟩ ⟨λt=>PT.rec (motive:=λ_=>Option α) zm (λv=>zi v) (λ_ l _ _ _=>ih.f l) t⟩ b) p
theorem getB_eq:∀(p:List Bool)(t:PT α),(getB p).f t=getP p t:=by
 intro p
 induction p with
 |nil=>intro t;cases t<;>rfl
 |cons b p ih=>intro t;cases b<;>cases t<;>first|rfl|exact ih _
def JA(p:List Bool):Box (PT α->α->PT α):=
 List.rec (motive:=λ_=>Box (PT α->α->PT α)) ⟨λt x=>PT.rec (motive:=λ_=>PT α) (.node (zi x) .nil .nil) (λv=>.node (zi x) (.fill v) (.fill v)) (λ_ l r _ _=>.node (zi x) l r) t⟩
  (λb _ ih=>Bool.rec (motive:=λ_=>Box (PT α->α->PT α))
   ⟨λt x=>PT.rec (motive:=λ_=>PT α) (.node zm .nil (ih.f .nil x)) (λv=>.node (zi v) (.fill v) (ih.f (.fill v) x)) (λv l r _ _=>.node v l (ih.f r x)) t⟩
   ⟨λt x=>PT.rec (motive:=λ_=>PT α) (.node zm (ih.f .nil x) .nil) (λv=>.node (zi v) (ih.f (.fill v) x) (.fill v)) (λv l r _ _=>.node v (ih.f l x) r) t⟩ b) p
theorem setB_eq:∀(p:List Bool)(t:PT α)(x:α),(JA p).f t x=setP p t x:=by
 intro p
 induction p with
 |nil=>intro t x;cases t<;>rfl
 |cons b p ih=>
  intro t x
  cases b<;>cases t
  ·show PT.node zm .nil ((JA p).f .nil x)=_;rw[ih];rfl
  ·rename_i v;show PT.node (zi v) (.fill v) ((JA p).f (.fill v) x)=_;rw[ih];rfl
  ·rename_i v l r;show PT.node v l ((JA p).f r x)=_;rw[ih];rfl
  ·show PT.node zm ((JA p).f .nil x) .nil=_;rw[ih];rfl
  ·rename_i v;show PT.node (zi v) ((JA p).f (.fill v) x) (.fill v)=_;rw[ih];rfl
  ·rename_i v l r;show PT.node v ((JA p).f l x) r=_;rw[ih];rfl
def WE(d:Nat->α)(t:PT α)(i:Nat):α:=Option.rec (motive:=λ_=>α) (d i) (λv=>v) ((getB (pathOf i)).f t)
theorem KV(d:Nat->α)(t:PT α)(i:Nat):WE d t i=look d t i:=by
 unfold WE look pathOf
 rw[getB_eq,getP_eq _ _ _ (Nat.lt_succ_self i)]
 cases t.get i<;>rfl
theorem Zjg(t:PT α)(i:Nat)(x:α):(JA (pathOf i)).f t x=t.set i x:=by rw[setB_eq];exact setP_eq x (i+1) t i (Nat.lt_succ_self i)
def cnd{α:Type u}(b:Bool)(x y:α):α:=Bool.rec (motive:=λ_=>α) y x b
theorem cnd_eq{α:Type u}(b:Bool)(x y:α):cnd b x y=bif b then x else y:=by cases b<;>rfl
def stOp(x:Operand):Box ((B:Base)->St B->V):=
 match x with
 | .tmp t=>⟨λB s=>Option.rec (motive:=λ_=>V) (B.t t) (λv=>v) ((getB (pathOf t)).f s.t)⟩
 | .const v=>⟨λ_ _=>V.ofValue v⟩
 |x=>⟨λ_ s=>Zr s x⟩
theorem Qf(x:Operand)(B:Base)(s:St B):(stOp x).f B s=Zr s x:=by
 cases x<;>first|rfl|exact KV _ _ _
def Qu(d:Option Tmp):Box ((B:Base)->St B->V->St B):=
 match d with
 |some d=>⟨λ_ s v=>{ s with t:=(JA (pathOf d)).f s.t v }⟩
 |none=>⟨λ_ s _=>s⟩
theorem KA(d:Option Tmp)(B:Base)(s:St B)(v:V):(Qu d).f B s v=s.put d v:=by
 cases d<;>simp_all[Qu,St.put,Zjg]
def stInt(op:BinOp):Box (Bool->Bool->IntKind->Int->Int->Tree V):=
 match op with
 | .add=>⟨λs s' k a b=>.leaf (mkW (s&&s') k (a+b))⟩
 | .sub=>⟨λs s' k a b=>.leaf (mkW (s&&s') k (a-b))⟩
 | .mul=>⟨λs s' k a b=>.leaf (mkW (s&&s') k (a*b))⟩
 | .eql=>⟨λs s' _ a b=>.leaf (mkQ (s&&s') (eqF a b) (a==b))⟩
 | .neq=>⟨λs s' _ a b=>.leaf (mkQ (s&&s') (!eqF a b) (a != b))⟩
 | .lss=>⟨λs s' _ a b=>.leaf (mkQ (s&&s') (ltF a b) (decide (a<b)))⟩
 | .leq=>⟨λs s' _ a b=>.leaf (mkQ (s&&s') (!ltF b a) (decide (a<=b)))⟩
 | .gtr=>⟨λs s' _ a b=>.leaf (mkQ (s&&s') (ltF b a) (decide (a>b)))⟩
 | .geq=>⟨λs s' _ a b=>.leaf (mkQ (s&&s') (!ltF a b) (decide (a>=b)))⟩
 |op=>⟨λs s' k a b=>evInt op s s' k a b⟩
theorem stInt_eq(op:BinOp)(s s':Bool)(k:IntKind)(a b:Int):(stInt op).f s s' k a b=evInt op s s' k a b:=by
 cases op<;>simp only[stInt,evInt,intBit,intCmp,mkW_eq]
 all_goals grind[mkQ_eq,eqF_eq,eqF,ltF_eq,ltF]
def kindF(k k':IntKind):Bool:=zq k.ctorIdx k'.ctorIdx
theorem kindF_eq(k k':IntKind):kindF k k'=decide (k=k'):=by cases k<;>cases k'<;>rfl
def stBin(P:Program)(op:BinOp)(t:TypeId):Box (V->V->Tree V):=
 match Zbf op with
 |true=>⟨λx y=>JM P op t x y⟩
 |false=>⟨λx y=>match x with
  | .int s k a=>match y with
   | .int s' k' b=>cnd (kindF k k') ((stInt op).f s s' k a b) .stuck
   |_=>.stuck
  |x=>JM P op t x y⟩
theorem stBin_eq(P:Program)(op:BinOp)(t:TypeId)(x y:V):(stBin P op t).f x y=JM P op t x y:=by
 unfold stBin
 cases h:Zbf op
 all_goals grind[JM,stInt_eq,kindF_eq,cnd_eq]
def stIfc(P:Program)(op:BinOp)(t:TypeId)(x y:Operand):Box (V->V->Tree V):=
 match P.underlying t with
 |some (.interface _)=>⟨λa b=>match Ub P op t x y a b with
  |some T=>T
  |none=>JM P op t a b⟩
 |_=>stBin P op t
theorem Zmz(P:Program)(op:BinOp)(t:TypeId)(x y:Operand)(a b:V):zi ((stIfc P op t x y).f a b)=(match Ub P op t x y a b with
  |some T=>zi T
  |none=>zi (JM P op t a b)):=by
 unfold stIfc
 split<;>grind[Ub,stBin_eq]
def nthO(o:Nat):V->Option V:=Nat.rec (motive:=λ_=>V->Option V)
 (λv=>match v with| .cons h _=>zi h|_=>zm) (λ_ ih v=>match v with| .cons _ t=>ih t|_=>zm) o
theorem nthO_eq:∀(o:Nat)(v:V),nthO o v=bif zG o v.len then zi (v.nth o)else zm:=by
 intro o
 induction o with
 |zero=>
  intro v
  cases v<;>rfl
 |succ o ih=>
  intro v
  cases v<;>try rfl
  rename_i h t
  show nthO o t=bif zG (o+1) (t.len+1)then zi (V.nth (.cons h t) (o+1))else zm
  rw[ih t]
  rfl
def takeO(z:Nat):V->Option V:=Nat.rec (motive:=λ_=>V->Option V)
 (λ_=>zi .nil) (λ_ ih v=>match v with| .cons h t=>(match ih t with|some r=>zi (.cons h r)|none=>zm)|_=>zm) z
theorem takeO_eq:∀(z:Nat)(v:V),takeO z v=bif zK z v.len then zi (v.take z)else zm:=by
 intro z
 induction z with
 |zero=>
  intro v
  have:zK 0 v.len=ze:=by cases v.len<;>rfl
  cases v<;>rfl
 |succ z ih=>
  intro v
  cases v<;>try rfl
  rename_i h t
  show(match takeO z t with|some r=>zi (.cons h r)|none=>zm)=bif zK (z+1) (t.len+1)then zi (V.take (.cons h t) (z+1))else zm
  rw[ih t]
  have e:zK (z+1) (t.len+1)=zK z t.len:=rfl
  rw[e]
  cases zK z t.len<;>rfl
def dropO(o:Nat):V->V:=Nat.rec (motive:=λ_=>V->V) (λv=>v) (λ_ ih v=>match v with| .cons _ t=>ih t|v=>v) o
theorem dropO_eq:∀(o:Nat)(v:V),dropO o v=v.drop o:=by
 intro o
 induction o with
 |zero=>intro v;cases v<;>rfl
 |succ o ih=>
  intro v
  cases v<;>try rfl
  rename_i h t
  show dropO o t=V.drop (.cons h t) (o+1)
  rw[ih t];rfl
theorem drop_len:∀(o:Nat)(v:V),(v.drop o).len=v.len-o:=by
 intro o
 induction o with
 |zero=>intro v;cases v<;>rfl
 |succ o ih=>
  intro v
  cases v<;>try(simp[V.drop,V.len];done)
  grind[V.drop,V.len,zq,Nat.add_sub_cancel]
def ZbJ(P:Program)(t:TypeId):Box (V->Nat->Option V):=
 match Uz P t with
 |some ze=>match ZW P t with
  |some (z+1)=>⟨λcs o=>match takeO (z+1) (dropO o cs)with|some r=>zi (.agg r)|none=>zm⟩
  |_=>⟨λcs o=>partOf P t cs o⟩
 |some za=>⟨λcs o=>nthO o cs⟩
 |none=>⟨λ_ _=>zm⟩
theorem ZmB(P:Program)(t:TypeId)(cs:V)(o:Nat):(ZbJ P t).f cs o=partOf P t cs o:=by
 unfold ZbJ
 cases h:Uz P t with
 |none=>grind[partOf]
 |some b=>
  cases b with
  |false=>grind[partOf,nthO_eq]
  |true=>
   cases hz:ZW P t with
   |none=>rfl
   |some z=>cases z<;>grind[partOf,takeO_eq,dropO_eq,drop_len,zK,yA,Nat.ble_eq_true_of_le]
def ZdQ(P:Program)(t:TypeId):Box ((Nat->Blk)->V->Tree V):=⟨λh x=>
 match x with
 | .ptr st b es i o=>match h b with
  | .var cs=>bif st then(match(ZbJ P t).f cs (i*es+o)with|some v=>.leaf v|none=>.stuck)else .stuck
  | .arr es' n get=>bif zq es es' then atIdx st i n (match(ZbJ P t).f (get i) o with|some v=>.leaf v|none=>.stuck)else .stuck
  |_=>.stuck
 | .rptr _ _ _ get i o=>match(ZbJ P t).f (get i) o with|some v=>.leaf v|none=>.stuck
 |_=>.stuck⟩
theorem Zji(P:Program)(t:TypeId)(h:Nat->Blk)(x:V):(ZdQ P t).f h x=Vq P h t x:=by
 have e:∀o:Option V,(match o with|some v=>zw v|none=>.stuck)=Tree.Ur o:=λo=>by cases o<;>rfl
 simp only[ZdQ,ZmB,e]
 rfl
def ZgY(P:Program)(t:TypeId)(f:Nat):Box (V->Tree V):=
 match ZcW P t f with
 |some (off,_)=>⟨λx=>match x with
  | .ptr st b es i o=>.leaf (.ptr st b es i (o+off))
  | .rptr st es n get i o=>.leaf (.rptr st es n get i (o+off))
  |_=>.stuck⟩
 |none=>⟨λ_=>.stuck⟩
theorem Zmx(P:Program)(t:TypeId)(x:V)(f:Nat):(ZgY P t f).f x=ZcO P t x f:=by
 unfold ZgY ZcO
 cases ZcW P t f<;>rfl
def ZgX(P:Program)(t:TypeId)(f:Nat):Box (V->Tree V):=
 match P.underlying t with
 |some (.struct fields)=>match fields[f]? with
  |some fd=>⟨λx=>match x with
   | .agg cs=>match(ZbJ P fd.type).f cs fd.offset with|some v=>.leaf v|none=>.stuck
   |_=>.stuck⟩
  |none=>⟨λ_=>.stuck⟩
 |_=>⟨λ_=>.stuck⟩
theorem Zmy(P:Program)(t:TypeId)(x:V)(f:Nat):(ZgX P t f).f x=ZcN P t x f:=by
 have e:∀o:Option V,(match o with|some v=>zw v|none=>.stuck)=Tree.Ur o:=λo=>by cases o<;>rfl
 unfold ZgX ZcN
 split
 ·rename_i fields hu
  simp only[hu]
  cases fields[f]? <;>grind[ZmB]
 ·grind
def ZgZ(P:Program)(t:TypeId):Box (V->V->Tree V):=
 match P.underlying t with
 |some (.slice e)=>match ZW P e with
  |some z=>⟨λx ix=>match ix with
   | .int s _ j=>match x with
    | .rsl st es n get=>bif zq z es then Ke (st&&s) j n λq=>.leaf (.rptr (st&&s) es n get q 0)else .stuck
    | .osl st b es i n=>bif zq z es then Ke (st&&s) j n λq=>.leaf (.ptr (st&&s) b es (i+q) 0)else .stuck
    |_=>.stuck
   |_=>.stuck⟩
  |none=>⟨λx ix=>Gs P t x ix⟩
 |_=>⟨λx ix=>Gs P t x ix⟩
theorem ZmA(P:Program)(t:TypeId)(x ix:V):(ZgZ P t).f x ix=Gs P t x ix:=by
 unfold ZgZ
 split
 ·rename_i e hu
  cases hz:ZW P e<;>grind[ZW,Gs]
 ·rfl
def Zjk(P:Program)(t:TypeId):Box ((Nat->Blk)->PT Blk->V->V->Tree (PT Blk)):=
 match ZW P t with
 |some z=>⟨λg h x v=>bif zq v.cells.len z&&(v.cells.YN&&v.solid)then
  match x with
  | .ptr st b es i o=>(Za2 (WE g h b) st es i o z v).bnd λblk=>.leaf (h.set b blk)
  |_=>.stuck
  else .stuck⟩
 |none=>⟨λ_ _ _ _=>.stuck⟩
theorem Zrx(P:Program)(t:TypeId)(g:Nat->Blk)(h:PT Blk)(x v:V):(Zjk P t).f g h x v=Za1 P g h t x v:=by
 unfold Zjk Za1
 cases ZW P t<;>grind[ZW,KV,Tree.Qj]
def among(gs:List FuncId)(g:FuncId):Bool:=List.rec za (λx _ ih=>bif zq g x then ze else ih) gs
def Zas(l:List Operand):Box ((B:Base)->St B->V):=
 List.rec ⟨λ_ _=>.nil⟩ (λx _ ih=>⟨λB s=>.cons ((stOp x).f B s) (ih.f B s)⟩) l
theorem Zhq(l:List Operand)(B:Base)(s:St B):(Zas l).f B s=.ofList (l.map (Zr s)):=by
 induction l with
 |nil=>rfl
 |cons x l ih=>show V.cons ((stOp x).f B s) ((Zas l).f B s)=_;rw[ih,Qf];rfl
theorem ZqS(l:List V):(V.ofList l).app .nil=V.ofList l:=by
 induction l with
 |nil=>rfl
 |cons v l ih=>show V.cons v ((V.ofList l).app .nil)=_;rw[ih];rfl
theorem nil_app(v:V):V.nil.app v=v:=rfl
abbrev OperF:=Xh->(B:Base)->St B->(St B->Tree (St B))->Tree (St B)
def QG(E:Env)(o:Oper):OperF:=λcall _ s k=>(Xl E call s o.op).bind λr=>k ({ s with h:=r.2.1,n:=r.2.2 }.put o.dst r.1)
def Jw(T:(B:Base)->St B->Tree V)(d:Option Tmp):OperF:=λ_ B s k=>(T B s).bnd λv=>k ((Qu d).f B s v)
variable{E:Env}{B:Base}
theorem Ky{o:Oper}{T:(B:Base)->St B->Tree V}{call:Xh}{s:St B}{k:St B->Tree (St B)}(h:evQ E (Zr s) s.blk o.op=zi (T B s)):Jw T o.dst call B s k=QG E o call B s k:=by
 unfold Jw QG Xl
 rw[h]
 simp only[Tree.Qj,KA]
 generalize T B s=T'
 induction T'<;>simp_all[Tree.bind]
def Zmw(E:Env)(gs:List FuncId)(o:Oper)(c:Call):Box OperF:=
 match c.callee with
 | .builtin b=>match b with
  | .len=>⟨Jw (λB s=>match Gl E.P .len c.argTypes.toList ((Zas c.args.toList).f B s)with|some T=>T|none=>.stuck) o.dst⟩
  |_=>⟨QG E o⟩
 | .value f=>match f with
  | .func g=>match among gs g with
   |false=>⟨λcall B s k=>(call B.h (.inl g) ((Zas c.args.toList).f B s) s.h s.n).bnd λr=>k ((Qu o.dst).f B { s with h:=r.2.1,n:=r.2.2 } r.1)⟩
   |true=>⟨QG E o⟩
  |f=>⟨λcall B s k=>match(stOp f).f B s with
   | .fn (.func g) first cap=>bif among gs g then QG E o call B s k else
     (call B.h (.inl g) (first.app (((Zas c.args.toList).f B s).app cap)) s.h s.n).bnd λr=>k ((Qu o.dst).f B { s with h:=r.2.1,n:=r.2.2 } r.1)
   | .yld b=>(call B.h (.inr b) ((Zas c.args.toList).f B s) s.h s.n).bnd λr=>k ((Qu o.dst).f B { s with h:=r.2.1,n:=r.2.2 } r.1)
   |_=>QG E o call B s k⟩
 |_=>⟨QG E o⟩
def Kz(E:Env)(gs:List FuncId)(o:Oper):Box OperF:=
 match o.op with
 | .move x=>⟨λ_ B s k=>k ((Qu o.dst).f B s ((stOp x).f B s))⟩
 | .assign x=>⟨λ_ B s k=>k ((Qu o.dst).f B s ((stOp x).f B s))⟩
 | .load t a=>⟨Jw (λB s=>(ZdQ E.P t).f (WE B.h s.h) ((stOp a).f B s)) o.dst⟩
 | .binOp op t x y _=>⟨Jw (λB s=>(stIfc E.P op t x y).f ((stOp x).f B s) ((stOp y).f B s)) o.dst⟩
 | .unOp op _ x=>⟨Jw (λB s=>evUn op ((stOp x).f B s)) o.dst⟩
 | .fieldAddr t x f=>⟨Jw (λB s=>(ZgY E.P t f).f ((stOp x).f B s)) o.dst⟩
 | .field t x f=>⟨Jw (λB s=>(ZgX E.P t f).f ((stOp x).f B s)) o.dst⟩
 | .indexAddr t x ix=>⟨Jw (λB s=>(ZgZ E.P t).f ((stOp x).f B s).Wl ((stOp ix).f B s)) o.dst⟩
 | .index t x ix=>⟨Jw (λB s=>ZcQ E.P t ((stOp x).f B s) ((stOp ix).f B s)) o.dst⟩
 | .extract x i=>⟨Jw (λB s=>Zfw ((stOp x).f B s) i) o.dst⟩
 | .nilCheck x=>⟨Jw (λB s=>Zij ((stOp x).f B s)) o.dst⟩
 | .pick c x y=>⟨Jw (λB s=>Zfz ((stOp c).f B s) ((stOp x).f B s) ((stOp y).f B s)) o.dst⟩
 | .store t a x=>⟨λ_ B s k=>((Zjk E.P t).f B.h s.h ((stOp a).f B s) ((stOp x).f B s)).bnd λh=>k ((Qu o.dst).f B { s with h:=h } .undef)⟩
 | .call c=>Zmw E gs o c
 |_=>⟨QG E o⟩
def Among(E:Env)(gs:List FuncId):Prop:=∀g args,among gs g=za->E.Γ g args=zm
variable{gs:List FuncId}
theorem ZhU(hΓ:Among E gs){ρ:Operand->V}{h:Nat->Blk}{c:Call}{f:Operand}(hc:c.callee=.value f)(hf:∀g out,callee (ρ f) (.ofList (c.args.toList.map ρ))=zi (g,out)->among gs g=za) :
  evQ E ρ h (.call c)=zm/\Gr E ρ h f c=zm:=by
 simp only[evQ,Gr,hc]
 cases hcal:callee (ρ f) (.ofList (c.args.toList.map ρ))with
 |none=>grind
 |some r=>
  obtain⟨g,out⟩:=r
  dsimp only
  rw[hΓ g _ (hf g out hcal),hΓ g _ (hf g out hcal)]
  grind
theorem stOper_eq(hΓ:Among E gs)(o:Oper)(call:Xh)(B:Base)(s:St B)(k:St B->Tree (St B)):(Kz E gs o).f call B s k=QG E o call B s k:=by
 unfold Kz
 have hblk:WE B.h s.h=s.blk:=funext λb=>KV _ _ _
 split
 case h_1 x ho=>simp only[QG,ho,Xl,evQ,Tree.bind,KA,Qf]
 case h_2 x ho=>simp only[QG,ho,Xl,evQ,Tree.bind,KA,Qf]
 case h_3 t a ho=>dsimp only;grind[Ky,evQ,Zji,Qf]
 case h_4 op t x y _ ho=>dsimp only;grind[Ky,evQ,Qf,Zmz]
 case h_5 op _ x ho=>dsimp only;grind[Ky,evQ,Qf]
 case h_6 t x f ho=>dsimp only;grind[Ky,evQ,Qf,Zmx]
 case h_7 t x f ho=>dsimp only;grind[Ky,evQ,Qf,Zmy]
 case h_8 t x f ho=>dsimp only;grind[Ky,evQ,Qf,ZmA]
 case h_9 t x ix ho=>dsimp only;grind[Ky,evQ,Qf]
 case h_10 x i ho=>dsimp only;grind[Ky,evQ,Qf]
 case h_11 x ho=>dsimp only;grind[Ky,evQ,Qf]
 case h_12 c x y ho=>dsimp only;grind[Ky,evQ,Qf]
 case h_13 t a x ho=>
  simp only[QG,ho,Xl,evQ,Zrx,Qf,KA,Tree.Qj]
  generalize Za1 E.P B.h s.h t (Zr s a) (Zr s x)=T'
  induction T'<;>simp_all[Tree.bind]
 case h_14 c ho=>
  unfold Zmw
  split
  case h_1 b hc=>
   split
   ·dsimp only
    refine Ky ?_
    rw[ho]
    simp only[evQ,hc,Zhq]
    rfl
   ·rfl
  case h_2 f hc=>
   split
   case h_1 g=>
    cases ha:among gs g
    ·obtain⟨e1,e2⟩:=ZhU hΓ (ρ:=Zr s) (h:=s.blk) hc (λg' out h=>by
      injection h with h;injection h with h1 h2;subst h1;exact ha)
     simp_all[QG,Xl,Zhq,Tree.Qj,KA,Vi,Zr,callee,nil_app,ZqS]
    ·rfl
   case h_2 f hf=>
    dsimp only
    rw[Qf,Zhq]
    split
    ·rename_i g first cap hv
     cases ha:among gs g
     ·obtain⟨e1,e2⟩:=ZhU hΓ (ρ:=Zr s) (h:=s.blk) hc (λg' out h=>by
       rw[hv]at h
       injection h with h;injection h with h1 h2;subst h1;exact ha)
      simp_all[QG,Xl,Tree.Qj,KA,Vi,callee]
     ·rfl
    ·rename_i b hv
     obtain⟨e1,e2⟩:=ZhU hΓ (ρ:=Zr s) (h:=s.blk) hc (λg' out h=>by
      rw[hv]at h
      cases h)
     simp_all[QG,Xl,Tree.Qj,KA,Vi]
    ·rfl
  grind
 grind
def J7(E:Env)(gs:List FuncId)(ops:Array Oper)(l:List Oper):Box (Xh->(B:Base)->St B->Tree (St B)):=
 List.rec (motive:=λ_=>Box (Xh->(B:Base)->St B->Tree (St B))) ⟨λ_ _ s=>.leaf s⟩ (λo _ ih=>match o.guard with
  |none=>⟨λcall B s=>(Kz E gs o).f call B s λs'=>ih.f call B s'⟩
  |some _=>⟨λcall B s=>match guardOf ops (WE B.t s.t) o with
   | .bad=>.stuck
   | .yes=>(Kz E gs o).f call B s λs'=>ih.f call B s'
   | .no=>ih.f call B ((Qu o.dst).f B s .undef)
   | .dyn d b want=>match want with
    |true=>.node b ((Kz E gs o).f call B (s.know d ze) λs'=>ih.f call B s') (ih.f call B ((s.know d za).put o.dst .undef))
    |false=>.node b (ih.f call B ((s.know d ze).put o.dst .undef)) ((Kz E gs o).f call B (s.know d za) λs'=>ih.f call B s')⟩) l
theorem stOps_eq(hΓ:Among E gs)(ops:Array Oper)(call:Xh)(B:Base):∀(l:List Oper)(s:St B),(J7 E gs ops l).f call B s=JO E call ops l s:=by
 intro l
 induction l with
 |nil=>intro s;rfl
 |cons o rest ih=>
  intro s
  have go:∀s:St B,((Kz E gs o).f call B s λs'=>(J7 E gs ops rest).f call B s')=(Xl E call s o.op).bind λr=>JO E call ops rest ({ s with h:=r.2.1,n:=r.2.2 }.put o.dst r.1):=by
   grind[stOper_eq,QG]
  have ht:WE B.t s.t=s.tmp:=funext λb=>KV _ _ _
  have e:(J7 E gs ops (o::rest)).f call B s=(match o.guard with
   |none=>(Kz E gs o).f call B s λs'=>(J7 E gs ops rest).f call B s'
   |some _=>match guardOf ops (WE B.t s.t) o with
    | .bad=>.stuck
    | .yes=>(Kz E gs o).f call B s λs'=>(J7 E gs ops rest).f call B s'
    | .no=>(J7 E gs ops rest).f call B ((Qu o.dst).f B s .undef)
    | .dyn d b want=>match want with
     |true=>.node b ((Kz E gs o).f call B (s.know d ze) λs'=>(J7 E gs ops rest).f call B s') ((J7 E gs ops rest).f call B ((s.know d za).put o.dst .undef))
     |false=>.node b ((J7 E gs ops rest).f call B ((s.know d ze).put o.dst .undef)) ((Kz E gs o).f call B (s.know d za) λs'=>(J7 E gs ops rest).f call B s')):=by
   unfold J7
   dsimp only
   cases o.guard<;>rfl
  grind[JO,KA,guardOf]
def ZgL:Op->Bool
 | .move _| .assign _| .load _ _| .binOp .. | .unOp .. | .fieldAddr .. | .field .. | .indexAddr .. | .index .. | .extract .. | .pick ..=>ze
 |_=>za
def Zg2(E:Env)(o:Op):Box ((B:Base)->St B->Tree V):=
 match o with
 | .move x=>⟨λB s=>.leaf ((stOp x).f B s)⟩
 | .assign x=>⟨λB s=>.leaf ((stOp x).f B s)⟩
 | .load t a=>⟨λB s=>(ZdQ E.P t).f (WE B.h s.h) ((stOp a).f B s)⟩
 | .binOp op t x y _=>⟨λB s=>(stIfc E.P op t x y).f ((stOp x).f B s) ((stOp y).f B s)⟩
 | .unOp op _ x=>⟨λB s=>evUn op ((stOp x).f B s)⟩
 | .fieldAddr t x f=>⟨λB s=>(ZgY E.P t f).f ((stOp x).f B s)⟩
 | .field t x f=>⟨λB s=>(ZgX E.P t f).f ((stOp x).f B s)⟩
 | .indexAddr t x ix=>⟨λB s=>(ZgZ E.P t).f ((stOp x).f B s).Wl ((stOp ix).f B s)⟩
 | .index t x ix=>⟨λB s=>ZcQ E.P t ((stOp x).f B s) ((stOp ix).f B s)⟩
 | .extract x i=>⟨λB s=>Zfw ((stOp x).f B s) i⟩
 | .pick c x y=>⟨λB s=>Zfz ((stOp c).f B s) ((stOp x).f B s) ((stOp y).f B s)⟩
 |_=>⟨λ_ _=>.stuck⟩
theorem opndK_nil(s:St B)(x:Operand):Z4 s [] x=Zr s x:=by cases x<;>rfl
theorem stTree_eq{call:Xh}{s:St B}{nb sz nm:Nat}{o:Op}(h:ZgL o=ze):evD E call s nb sz nm [] o=((Zg2 E o).f B s).bind λv=>.leaf (v,zm):=by
 have hblk:WE B.h s.h=s.blk:=funext λb=>KV _ _ _
 have hK:Z4 s []=Zr s:=funext λx=>opndK_nil s x
 cases o<;>try(cases h;done)
 all_goals simp only[evD,evDQ,hK,Zg2,Qf,Zji,hblk,Zmx,Zmy,ZmA]
 case binOp op t x y t'=>
  grind[Zmz,Zr,evQ,Ub]
 all_goals rfl
abbrev StepD':=Xh->Nat->List (Nat×Ft)->(B:Base)->St B->Tree (St B)
def Zhs(ops:Array Oper)(bf:List Nat)(nb j:Nat)(fps:List (Nat×Ft))(o:Oper)(s:St B)(d:Tree (V×Option (Nat×Blk)))(T:Tree (V×PT Blk×Nat))(pf:St B->V->St B)(k:List (Nat×Ft)->St B->Tree (St B)):Tree (St B):=
 bif (!Zet s o.op||d.Kn)&&(!T.Kn&&(T.flat&&Xw s.N o))then
  T.bnd λr=>
   bif ZbB s.n r&&Y1 ops bf nb j fps VK then k ((j,VK)::fps) (pf s r.1)
   else bif bigAt ops bf j o&&Y1 ops bf nb j fps (Jl r.2.1)then k ((j,Jl r.2.1)::fps) (pf { s with h:=s.h.over r.2.1,n:=r.2.2 } r.1)
   else bif Y1 ops bf nb j fps (foot s (nb+j) o.op)&&(d.flat&&Xw s.N o)then d.bnd λr=>k ((j,foot s (nb+j) o.op)::fps) (pf (s.wr r.2) r.1)else .stuck
 else bif Y1 ops bf nb j fps (foot s (nb+j) o.op)&&(d.flat&&Xw s.N o)then d.bnd λr=>k ((j,foot s (nb+j) o.op)::fps) (pf (s.wr r.2) r.1)else .stuck
def ZbI(E:Env)(ops:Array Oper)(bf:List Nat)(l:List Oper):Nat->Box StepD':=
 List.rec (motive:=λ_=>Nat->Box StepD') (λ_=>⟨λ_ _ _ _ s=>.leaf s⟩) (λo rest ih j=>match o.guard with
  |none=>match KS o.op with
   |true=>⟨λcall nb fps B s=>Zhs ops bf nb j fps o s (evD E call s nb ops.size (nb+j) [] o.op) (Xl E call s.sub o.op) ((Qu o.dst).f B) (λfps s=>(ih (j+1)).f call nb fps B s)⟩
   |false=>match ZgL o.op with
    |true=>⟨λcall nb fps B s=>match(Zg2 E o.op).f B s with
     | .leaf v=>bif Y1 ops bf nb j fps (foot s (nb+j) o.op)&&Xw s.N o then(ih (j+1)).f call nb ((j,foot s (nb+j) o.op)::fps) B ((Qu o.dst).f B s v)else .stuck
     |_=>XZ E call ops bf nb (o::rest) j fps [] s⟩
    |false=>⟨λcall nb fps B s=>match evD E call s nb ops.size (nb+j) [] o.op with
     | .leaf r=>bif Y1 ops bf nb j fps (foot s (nb+j) o.op)&&Xw s.N o then(ih (j+1)).f call nb ((j,foot s (nb+j) o.op)::fps) B ((Qu o.dst).f B (s.wr r.2) r.1)else .stuck
     |_=>XZ E call ops bf nb (o::rest) j fps [] s⟩
  |some _=>⟨λcall nb fps _ s=>XZ E call ops bf nb (o::rest) j fps [] s⟩) l
theorem stOpsD_eq(E:Env)(ops:Array Oper)(bf:List Nat)(call:Xh)(nb:Nat)(B:Base):∀(l:List Oper)(j:Nat)(fps:List (Nat×Ft))(s:St B),(ZbI E ops bf l j).f call nb fps B s=XZ E call ops bf nb l j fps [] s:=by
 intro l
 induction l with
 |nil=>intro j fps s;rfl
 |cons o rest ih=>
  intro j fps s
  have hk:∀o:Oper,QD ops o []=[]:=λo=>rfl
  have hk2:Qn o []=[]:=by unfold Qn;grind
  have e1:ZbI E ops bf (o::rest) j=(match o.guard with
  |none=>match KS o.op with
   |true=>⟨λcall nb fps B s=>Zhs ops bf nb j fps o s (evD E call s nb ops.size (nb+j) [] o.op) (Xl E call s.sub o.op) ((Qu o.dst).f B) (λfps s=>(ZbI E ops bf rest (j+1)).f call nb fps B s)⟩
   |false=>match ZgL o.op with
    |true=>⟨λcall nb fps B s=>match(Zg2 E o.op).f B s with
     | .leaf v=>bif Y1 ops bf nb j fps (foot s (nb+j) o.op)&&Xw s.N o then(ZbI E ops bf rest (j+1)).f call nb ((j,foot s (nb+j) o.op)::fps) B ((Qu o.dst).f B s v)else .stuck
     |_=>XZ E call ops bf nb (o::rest) j fps [] s⟩
    |false=>⟨λcall nb fps B s=>match evD E call s nb ops.size (nb+j) [] o.op with
     | .leaf r=>bif Y1 ops bf nb j fps (foot s (nb+j) o.op)&&Xw s.N o then(ZbI E ops bf rest (j+1)).f call nb ((j,foot s (nb+j) o.op)::fps) B ((Qu o.dst).f B (s.wr r.2) r.1)else .stuck
     |_=>XZ E call ops bf nb (o::rest) j fps [] s⟩
  |some _=>⟨λcall nb fps _ s=>XZ E call ops bf nb (o::rest) j fps [] s⟩):=rfl
  rw[e1]
  cases hg:o.guard with
  |some g=>rfl
  |none=>
   cases hb:KS o.op
   ·cases hq:ZgL o.op
    ·dsimp only
     split
     ·rename_i r hv
      rw[ih,KA]
      simp only[XZ,guardOf,hg,hb,hk,hk2,hv,Tree.flat,Bool.false_and,cond_false]
      rfl
     ·rfl
    ·dsimp only
     split
     ·rename_i v hv
      have hD:evD E call s nb ops.size (nb+j) [] o.op=.leaf (v,zm):=by rw[stTree_eq hq,hv];rfl
      rw[ih,KA]
      simp only[XZ,guardOf,hg,hb,hk,hk2,hD,Tree.flat,Bool.false_and,cond_false]
      rfl
     ·rfl
   ·simp_all[Zhs,Tree.Qj,KA,XZ,guardOf,Bool.true_and]
def topOf(l:List Oper):Nat:=List.rec 0 (λo _ ih=>match o.dst with|some d=>(bif zK ih (d+1)then d+1 else ih)|none=>ih) l
theorem ble_dec(a b:Nat):zK a b=decide (a<=b):=by
 grind[zK,Nat.ble_eq_true_of_le,yA]
theorem top_aux(a d N:Nat):(zG d N&&zK a N)=zK (bif zK a (d+1)then d+1 else a) N:=by
 grind[Zhu,ble_dec]
theorem topOf_ok(N:Nat):∀l:List Oper,l.all (Xw N)=zK (topOf l) N:=by
 intro l
 induction l with
 |nil=>exact Nat.ble_eq_true_of_le (Nat.zero_le N)
 |cons o l ih=>grind[topOf,Xw,top_aux]
def Zjf:V->Nat->PT V->PT V:=λv=>V.rec (motive:=λ_=>Nat->PT V->PT V)
 (λ_ T=>T) (λ_ T=>T) (λ_ T=>T) (λh _ _ ih i T=>ih (i+1) ((JA (pathOf i)).f T h)) (λ_ _ _ _ T=>T) (λ_ _ _ T=>T) (λ_ _ _ T=>T) (λ_ _ _ T=>T) (λ_ _ _ T=>T)
 (λ_ _ _ _ _ _ T=>T) (λ_ _ _ _ _ _ _ _ T=>T) (λ_ T=>T) (λ_ _ _ _ _ _ T=>T) (λ_ _ _ _ _ _ T=>T) (λ_ _ _ _ _ _ _ T=>T) (λ_ T=>T) (λ_ _ _ _ _ _ T=>T) (λ_ T=>T) (λ_ T=>T) (λ_ T=>T) (λ_ _ T=>T) (λ_ _ T=>T) (λ_ _ _ T=>T) (λ_ _ _ T=>T) (λ_ _ _ _ _ _ T=>T) v
theorem Zrn:∀(v:V)(i:Nat)(T:PT V),Zjf v i T=setArgs v i T:=by
 intro v
 induction v with
 |cons h t ih1 ih2=>intro i T;show Zjf t (i+1) ((JA (pathOf i)).f T h)=setArgs t (i+1) (T.set i h);rw[ih2,Zjg]
 |_=>intro i T;rfl
def enterS(hb:Nat->Blk)(args:V)(ntmps:Nat)(h:PT Blk)(n:Nat):St (Base.fn hb):={ t:=Zjf args 0 .nil,h,n,N:=args.len+(ntmps-args.len) }
theorem enterS_eq(hb:Nat->Blk)(args:V)(ntmps:Nat)(h:PT Blk)(n:Nat):enterS hb args ntmps h n=enter hb args ntmps h n:=by unfold enterS enter;rw[Zrn]
def Zg0(P:Program)(r:ResultVar):Box ((B:Base)->St B->Tree V):=
 match r with
 | .tmp t=>⟨λB s=>.leaf (WE B.t s.t t)⟩
 | .cell a t=>⟨λB s=>(ZdQ P t).f (WE B.h s.h) (WE B.t s.t a)⟩
def Zjj(P:Program)(l:List ResultVar):Box ((B:Base)->St B->Tree V):=
 List.rec (motive:=λ_=>Box ((B:Base)->St B->Tree V)) ⟨λ_ _=>.leaf .nil⟩ (λr _ ih=>⟨λB s=>((Zg0 P r).f B s).bnd λv=>(ih.f B s).bnd λvs=>.leaf (.cons v vs)⟩) l
theorem Zrw(P:Program)(B:Base)(s:St B):∀l:List ResultVar,(Zjj P l).f B s=VN P s l:=by
 intro l
 have hblk:WE B.h s.h=s.blk:=funext λb=>KV _ _ _
 have hone:∀r,(Zg0 P r).f B s=ZdH P s r:=λr=>by
  cases r<;>simp only[Zg0,ZdH,KV,Zji,hblk]
 induction l<;>simp_all[Zg0,Zjj,zw,Tree.Qj,VN]
def ZgW(E:Env)(g:FuncId):Box (Qh->(Nat->Blk)->V->PT Blk->Nat->Tree (V×PT Blk×Nat)):=
 match E.P.funcs[g]? with
 |some fn=>match fn.body with
  |some c=>⟨λrec_ hb args h n=>(rec_ g c (Base.fn hb) (enterS hb args.plain fn.ntmps h n)).bnd λx=>match x.1 with
   | .exit _=>.stuck
   |_=>((Zjj E.P fn.results.toList).f _ x.2).bnd λvs=>.leaf ((single vs).plain,x.2.h,x.2.n)⟩
  |none=>⟨λ_ _ _ _ _=>.stuck⟩
 |none=>⟨λ_ _ _ _ _=>.stuck⟩
def ZdP(E:Env)(g:FuncId):Box (Qh->(Nat->Blk)->V->PT Blk->Nat->Tree (V×PT Blk×Nat)):=
 match E.hk g with
 |some K=>⟨λrec_ hb args h n=>match Zfx K hb args.plain h n (reachOf hb args.plain h n)with
  |some T=>T
  |none=>(ZgW E g).f rec_ hb args h n⟩
 |none=>ZgW E g
def yieldS(E:Env)(rec_:Qh)(hb:Nat->Blk)(b:Nat)(args:V)(h:PT Blk)(n:Nat):Tree (V×PT Blk×Nat):=
 match WE hb h b with
 | .rng f ps asg bd row N st _=>
  Zal (bif (YQ asg++YQ bd).all λc=>(Qo E f c).isNone then zm else zi (∀c∈YQ asg++YQ bd,∀g,Qo E f c=zi g->Wq E.P f c))
  (bif (zq st 0&&(zq args.len ps.length&&ps.all λp=>zG p N))&&(XR asg&&XR bd)then
   (rec_ f asg ⟨row,hb⟩ { t:=ZdG ps args .nil,h,n,N }).bnd λx=>match x.1 with
    | .normal=>match WE hb x.2.h b with
     | .rng f' ps' asg' bd' row' N' st' pd'=>bif zq st' 0 then
       (rec_ f bd ⟨row,hb⟩ { x.2 with h:=(JA (pathOf b)).f x.2.h (.rng f' ps' asg' bd' row' N' 1 pd') }).bnd λy=>match WE hb y.2.h b with
        | .rng f2 ps2 asg2 bd2 Jy N2 st2 _=>bif zq st2 1 then
          .leaf (.bool ze y.1.GI,(JA (pathOf b)).f y.2.h (.rng f2 ps2 asg2 bd2 Jy N2 (bif y.1.GI then 0 else 2) (zi y.1)),y.2.n)else .stuck
        |_=>.stuck
      else .stuck
     |_=>.stuck
    |_=>.stuck
  else .stuck)
 |_=>.stuck
theorem yieldS_eq(E:Env)(rec_:Qh)(hb:Nat->Blk)(b:Nat)(args:V)(h:PT Blk)(n:Nat):yieldS E rec_ hb b args h n=ZcV E rec_ hb b args h n:=by
 unfold yieldS ZcV
 simp only[KV,Tree.Qj,Zjg]
 rfl
def callS(E:Env)(rec_:Qh):Xh:=λhb g args h n=>
 match g with
 | .inr b=>yieldS E rec_ hb b args h n
 | .inl g=>(ZdP E g).f rec_ hb args h n
theorem Zfj(E:Env)(rec_:Qh):callS E rec_=JN E rec_:=by
 funext hb g args h n
 cases g with
 |inr b=>exact yieldS_eq E rec_ hb b args h n
 |inl g=>
  show(ZdP E g).f rec_ hb args h n=_
  have hbody:(ZgW E g).f rec_ hb args h n=(match E.P.funcs[g]? with
    |some fn=>match fn.body with
     |some c=>(rec_ g c (Base.fn hb) (enter hb args.plain fn.ntmps h n)).bind λx=>
      match x.1 with
      | .exit _=>.stuck
      |_=>(VN E.P x.2 fn.results.toList).bind λvs=>.leaf ((single vs).plain,x.2.h,x.2.n)
     |none=>.stuck
    |none=>.stuck):=by
   unfold ZgW
   cases E.P.funcs[g]? with
   |none=>rfl
   |some fn=>
    dsimp only
    cases fn.body<;>simp_all[Tree.Qj,enterS_eq,Zrw]
  unfold ZdP
  simp only[JN,Zfy]
  cases E.hk g<;>grind
abbrev StepS:=Qh->(B:Base)->St B->Tree (Ex×St B)
def St.withN(s:St B)(N:Nat):St B:={ t:=s.t,h:=s.h,n:=s.n,N }
theorem St.ZmL(s:St B):s.withN s.N=s:=rfl
def ZdR(E:Env)(gs:List FuncId)(ops:Array Oper)(draw:Bool):Box StepS:=
 match draw with
 |false=>⟨λrec_ B s=>Vr s.N λN=>cnd (zK (topOf ops.toList) N) (((J7 E gs ops ops.toList).f (callS E rec_) B (s.withN N)).bnd λs'=>.leaf (.normal,s')) .stuck⟩
 |true=>forceList (bfs ops.toList []) λbf=>match Gb ops bf with
  |true=>⟨λrec_ B s=>Vr s.N λN=>((ZbI E ops bf ops.toList 0).f (callS E rec_) s.n [] B ((s.withN N).VD ops)).bnd λs'=>.leaf (.normal,s')⟩
  |false=>⟨λ_ _ _=>.stuck⟩
theorem Zrv(hΓ:Among E gs)(ops:Array Oper)(draw:Bool)(rec_:Qh)(B:Base)(s:St B):(ZdR E gs ops draw).f rec_ B s=Gu E (JN E rec_) ops draw s:=by
 cases draw with
 |false=>simp only[ZdR,Gu,topOf_ok,stOps_eq hΓ,Tree.Qj,Zfj,cnd_eq,Za5,St.ZmL]
 |true=>
  simp only[ZdR,Gu,ZkX]
  cases Gb ops (bfs ops.toList [])
  all_goals grind[Tree.Qj,Zfj,Za5,St.ZmL,stOpsD_eq]
def Zg1(E:Env)(gs:List FuncId)(f:FuncId)(c:Code):Box StepS:=
 match c with
 | .skip=>⟨λ_ _ s=>.leaf (.normal,s)⟩
 | .label _=>⟨λ_ _ s=>.leaf (.normal,s)⟩
 | .exit id=>⟨λ_ _ s=>.leaf (.exit id,s)⟩
 | .ret=>⟨λ_ _ s=>.leaf (.ret,s)⟩
 | .scope b=>⟨λrec_ B s=>rec_ f b B s⟩
 | .region _ ops draw=>match E.mg&&ops.toList.any (λo=>o.guard.isSome)with
  |true=>⟨λrec_ _ s=>merged s λs=>(ZdR E gs ops draw).f rec_ _ s⟩
  |false=>ZdR E gs ops draw
 | .seq a b=>⟨λrec_ B s=>(rec_ f a B s).bnd λx=>match x.1 with
  | .normal=>rec_ f b B x.2
  |e=>.leaf (e,x.2)⟩
 | .cond c a b=>⟨λrec_ B s=>match(stOp c).f B s with
  | .bool ze t=>match t with
   |true=>rec_ f a B s
   |false=>rec_ f b B s
  | .bool za t=>match E.KC f c s.tmp with
   |some ze=>.need (t=ze) (rec_ f a B (s.Qb c ze))
   |some za=>.need (t=za) (rec_ f b B (s.Qb c za))
   |none=>match E.mg&&!E.nm f with
    |true=>merged s λs=>.node t (rec_ f a _ (s.Qb c ze)) (rec_ f b _ (s.Qb c za))
    |false=>.node t (rec_ f a B (s.Qb c ze)) (rec_ f b B (s.Qb c za))
  |_=>.stuck⟩
 | .block id b=>match E.mg&&!E.nm f with
  |true=>⟨λrec_ _ s=>Zdq s λs=>(rec_ f b _ s).bnd (leave id)⟩
  |false=>⟨λrec_ B s=>(rec_ f b B s).bnd (leave id)⟩
 | .loop b=>match Qo E f b with
  |some g=>⟨λ_ B s=>g B s⟩
  |none=>⟨λrec_ B s=>(rec_ f b B s).bnd λx=>match x.1 with
   | .normal=>rec_ f (.loop b) B x.2
   |e=>.leaf (e,x.2)⟩
 | .rangeFunc g ps asg bd=>⟨λrec_ B s=>match Vi ((stOp g).f B s) (.cons (.yld s.n) .nil)with
  |some (.inl g',args)=>((ZdP E g').f rec_ B.h args (s.h.set s.n (.rng f ps.toList asg bd s.tmp s.N 0 zm)) (s.n+1)).bnd λr=>
   match WE B.h r.2.1 s.n with
   | .rng _ _ _ _ _ _ st pend=>bif zq st 1 then .stuck else .leaf (pend.getD .normal,{ s with h:=r.2.1.set s.n .any,n:=r.2.2 })
   |_=>.stuck
  |_=>.stuck⟩
 |_=>⟨λ_ _ _=>.stuck⟩
theorem stStep_eq(hΓ:Among E gs)(f:FuncId)(c:Code)(rec_:Qh)(B:Base)(s:St B):(Zg1 E gs f c).f rec_ B s=Ud E rec_ f c B s:=by
 cases c<;>simp only[Zg1,Ud]<;>try rfl
 case region id ops draw=>
  cases E.mg&&ops.toList.any (λo=>o.guard.isSome)<;>grind[Zrv]
 case seq a b=>rw[Tree.Qj];rfl
 case cond c a b=>rw[Qf];rfl
 case block id b=>
  cases E.mg&&!E.nm f<;>grind[Tree.Qj]
 case loop b=>
  cases Qo E f b with
  |none=>dsimp only;rw[Tree.Qj];rfl
  |some g=>rfl
 case rangeFunc g ps asg bd=>
  rw[Qf]
  cases Vi (Zr s g) (.cons (.yld s.n) .nil)with
  |none=>rfl
  |some r=>
   obtain⟨g',args⟩:=r
   cases g' with
   |inr b=>rfl
   |inl g'=>
    dsimp only
    rw[Tree.Qj]
    have:(ZdP E g').f rec_ B.h args (s.h.set s.n (.rng f ps.toList asg bd s.tmp s.N 0 zm)) (s.n+1)=JN E rec_ B.h (.inl g') args (s.h.set s.n (.rng f ps.toList asg bd s.tmp s.N 0 zm)) (s.n+1):=by
     rw[<- Zfj];rfl
    grind[KV]
def evS(E:Env)(gs:List FuncId)(k:Nat):Qh:=Nat.rec (motive:=λ_=>Qh) (λ_ _ _ _=>.stuck) (λ_ ih f c B s=>(Zg1 E gs f c).f ih B s) k
theorem evS_eq(hΓ:Among E gs):∀k,evS E gs k=ev E k:=by
 grind[Zg1,evS,Ud,ev,stStep_eq]
def Ya(E:Env)(gs:List FuncId)(k:Nat)(g:FuncId)(args:V):Tree V:=(callS E (evS E gs k) (λ_=>.none) (.inl g) args .nil 0).bnd λr=>Jv (WE (λ_=>.none) r.2.1) r.1
theorem ZcP(hΓ:Among E gs)(k:Nat)(g:FuncId)(args:V):Ya E gs k g args=ZT E k g args:=by
 unfold Ya ZT
 rw[Tree.Qj,Zfj,evS_eq hΓ]
 congr 1
 funext r
 rw[show WE (λ_=>Blk.none) r.2.1=look (λ_=>.none) r.2.1 from funext λb=>KV _ _ _]
end Go.Fw
namespace Go.Fw
def Yc:List Con->List FuncId
 |[]=>[]
 |c::l=>c.g::Yc l
theorem ZjP:∀(l:List Con)(g:FuncId)(args:V),among (Yc l) g=za->KU l g args=zm:=by
 intro l
 induction l<;>simp_all[zq,among,Yc,KU]
abbrev Zl(P:Program)(l:List Con)(ls:List Lp)(mg:Bool):Env:={ P,Γ:=KU l,lp:=Ul ls,mg }
theorem ZaX{P:Program}{l:List Con}{ls:List Lp}{mg:Bool}:Among (Zl P l ls mg) (Yc l):=λg args h=>ZjP l g args h
theorem QE{P:Program}(o N:Nat){E:Nat->Env}{gs:List FuncId}(hΓ:∀c,Among (E c) gs)(hP:∀c,(E c).P=P)(k:Nat){g:FuncId}{args res:Nat->V}(hhas:Has P g)
  (h1:(Xc N λc=>(Ya (E (o+c)) gs k g (args (o+c))).total&&((Ya (E (o+c)) gs k g (args (o+c))).YO&&YI (Ya (E (o+c)) gs k g (args (o+c))).join (res (o+c))))=ze){c:Nat}(ho:o<=c)(hc:c<o+N)(hE:(E c).Ok):Zh P g (args c) (res c):=by
 obtain⟨d,rfl⟩:∃d,c=o+d:=⟨c-o,by omega⟩
 have h:=ZkW h1 d (by omega)
 simp only[ZcP (hΓ _),zL]at h
 have:=ZiW (v:=(ZT (E (o+d)) k g (args (o+d))).join) hE k (by rw[hP];exact hhas) (Tree.Zme _ h.1) h.2.1 rfl
 rw[hP]at this
 exact this.same h.2.2
end Go.Fw
end
