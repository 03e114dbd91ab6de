/- The evaluator is sound: what it says of a piece of code, and of a call, the model does. -/
import Derived.Test.YtnjjailadijdlaaGreatDoorMAk
import Derived.RangeFuncRecord
set_option maxRecDepth 100000
set_option linter.unusedVariables false
set_option linter.unusedSimpArgs false
noncomputable section
namespace Go.Fw
def wpX (P:Program) (ro:Option Nat) (c:Code) (Q:Exit->Act->World->Prop) (a:Act) (w:World):Prop:=
 match c with
 | .loop b=>Jb P ro b Q a w
 | c=>c.wpIn (fen ro) 0 P Q a w
theorem wpX.wp {P:Program} {ro:Option Nat} {c:Code} {Q:Exit->Act->World->Prop} {a:Act} {w:World} (h:wpX P ro c Q a w):c.wpIn (fen ro) 0 P Q a w:=by
 cases c <;> first | exact Jb.wp h | exact h
def Vn (E:Env) (rec_:Wo):Prop:=
 ∀ (ro:Option Nat) (f:FuncId) (c:Code) (B:Base) (s:St B) (lo base:Nat) (m:Nat->Option Nat) (F:Nat->Prop) (a:Act) (w:World) (Q:Ex×St B->Prop) (Qx:Exit->Act->World->Prop),(∀ b ∈ Yr c,∀ g,Wv E f b = some g->XI E.P f b)->(ro = none\/Xa c = true)->Rel lo base m F s a w ->
  (rec_ f c B s).holds E.P Q->(∀ e s',Q (e,s')->∀ m' F' a' w',Ext base m F s.n w m' F' s'.n w'->Rel lo base m' F' s' a' w'->Qx e.QY a' w')->wpX E.P ro c Qx a w
theorem Gh {P:Program} {b:Frame} {a:Act} {k:List Item} {cs:List Frame} {w:World} {c:Code}:step P (lone (b.atR a (.code (.scope c) :: k)) cs w) = .next (lone (b.atR a (.code c :: .inScope c :: k)) cs w):=
 step_lone_go (by simp [stepG,stepG.exec,Frame.atR])
theorem ZiS {P:Program} {b:Frame} {a:Act} {k:List Item} {cs:List Frame} {w:World} {c:Code}:step P (lone (b.atR a (.inScope c :: k)) cs w) = .next (lone (b.atR a k) cs w):=
 step_lone_go (by simp [stepG,stepG.exec,Frame.atR])
def noJump (Q:Exit->Act->World->Prop):Exit->Act->World->Prop
 | .goto _,_,_=>False
 | e,a,w=>Q e a w
theorem Zi9 {F:Fence} {n:Nat} {P:Program} {Q:Exit->Act->World->Prop} {a:Act} {w:World} {c:Code} (h:c.wpIn F n P (noJump Q) a w):(Code.scope c).wpIn F n P Q a w:=by
 intro b k cs hro hb hr
 have h0:(lone (b.atR a (.code (.scope c) :: k)) cs w).fenced P F:=fenced_calm hb hr rfl
 obtain ⟨e,a₁,w₁,hq,harr⟩:=h b (.inScope c :: k) cs hro hb hr
 cases e with
 | normal=>exact ⟨.normal,a₁,w₁,hq,.head h0 Gh (StepsIn.trans harr (.one (fenced_calm hb hr rfl) ZiS))⟩
 | exit id=>
  have hx:exitTo id (.inScope c :: k) = exitTo id k:=by simp [exitTo]
  exact ⟨.exit id,a₁,w₁,hq,fun k' hk=>.head h0 Gh (harr.1 k' (by rw [hx]; exact hk)),
   fun hr' hk=>let ⟨k₁,h1,h2⟩:=harr.2 hr' (by rw [hx]; exact hk); ⟨k₁,h1,.head h0 Gh h2⟩⟩
 | goto l=>exact hq.elim
 | ret=>exact ⟨_,a₁,w₁,hq,.of_steps (.one h0 Gh) harr⟩
 | panic ch=>exact ⟨_,a₁,w₁,hq,.of_steps (.one h0 Gh) harr⟩
 | outgrown=>exact ⟨_,a₁,w₁,hq,.of_steps (.one h0 Gh) harr⟩
theorem Zh8 {P:Program} {ro:Option Nat} {B:Base} {s:St B} {f:St s.bs->Tree (Ex×St s.bs)} {c:Code} {lo base:Nat} {m:Nat->Option Nat} {F:Nat->Prop} {a:Act} {w:World} {Q:Ex×St B->Prop} {Qx:Exit->Act->World->Prop} (hr:Rel lo base m F s a w)
  (hq:(merged s f).holds P Q) (hK:∀ e s',Q (e,s')->∀ m' F' a' w',Ext base m F s.n w m' F' s'.n w'->Rel lo base m' F' s' a' w'->Qx e.QY a' w')
  (run:∀ (Q':Ex×St s.bs->Prop),Rel lo base m F s.sub a w->(f s.sub).holds P Q'->(∀ e s',Q' (e,s')->∀ m' F' a' w',Ext base m F s.sub.n w m' F' s'.n w'->Rel lo base m' F' s' a' w'->Qx e.QY a' w')->wpX P ro c Qx a w):wpX P ro c Qx a w:=by
 refine run _ (sub_rel hr) (Zl0 hq) fun e s' ⟨y,hy,he,hw⟩ m' F' a' w' h1 h2=>?_
 dsimp only at he
 subst he
 exact hK y.1 (s.Kt y.2) hy m' F' a' w' ⟨h1.f,h1.back,h1.keep,h1.size,h1.sz,h1.ow,Nat.le_trans h1.le hw.1,h1.map,h1.calm⟩ (Zgc (hw.2 _ _ _ _ _ _ h2))
theorem Zkw {P:Program} {ro:Option Nat} {B:Base} {s:St B} {f:St s.bs->Tree (Ex×St s.bs)} {c:Code} {lo base:Nat} {m:Nat->Option Nat} {F:Nat->Prop} {a:Act} {w:World} {Q:Ex×St B->Prop} {Qx:Exit->Act->World->Prop} (hr:Rel lo base m F s a w)
  (hq:(Zax s f).holds P Q) (hK:∀ e s',Q (e,s')->∀ m' F' a' w',Ext base m F s.n w m' F' s'.n w'->Rel lo base m' F' s' a' w'->Qx e.QY a' w')
  (run:∀ (Q':Ex×St s.bs->Prop),Rel lo base m F s.sub a w->(f s.sub).holds P Q'->(∀ e s',Q' (e,s')->∀ m' F' a' w',Ext base m F s.sub.n w m' F' s'.n w'->Rel lo base m' F' s' a' w'->Qx e.QY a' w')->wpX P ro c Qx a w):wpX P ro c Qx a w:=by
 refine run _ (sub_rel hr) (Zjf hq) fun e s' ⟨y,hy,he,hw⟩ m' F' a' w' h1 h2=>?_
 dsimp only at he
 subst he
 exact hK y.1 (s.Kt y.2) hy m' F' a' w' ⟨h1.f,h1.back,h1.keep,h1.size,h1.sz,h1.ow,Nat.le_trans h1.le hw.1,h1.map,h1.calm⟩ (Zgc (hw.2 _ _ _ _ _ _ h2))
section
variable {E:Env} {rec_:Wo} {B:Base}
theorem ZlC {lo base:Nat} {m:Nat->Option Nat} {F:Nat->Prop} {s:St B} {a:Act} {w:World} (hr:Rel lo base m F s a w):∀ (l:List ResultVar) (Q:V->Prop),(KC E.P s l).holds E.P Q ->
  ∃ vs xs,Q vs/\(l.mapM (m:=Sem) fun | .tmp t=>pure (a.tmps.getD t undef) | .cell b t=>do loadVar t (<- asAddr (a.tmps.getD b undef))).run E.P w = .ok xs w/\RL F w vs s.n m xs:=by
 intro l
 induction l with
 | nil=>intro Q hq; exact ⟨.nil,[],hq,by simp,by simp only [RL]⟩
 | cons r l ih=>
  intro Q hq
  simp only [KC] at hq
  rw [Tree.Ya] at hq
  have one:∀ Q':V->Prop,(ZaU E.P s r).holds E.P Q'->∃ v x,Q' v/\(match r with | .tmp t=>pure (a.tmps.getD t undef) | .cell b t=>do loadVar t (<- asAddr (a.tmps.getD b undef)):Sem Value).run E.P w = .ok x w/\R F w v s.n m x:=by
   intro Q' hq'
   cases r with
   | tmp t=>exact ⟨_,_,hq',rfl,hr.tmp t⟩
   | cell b t=>
    have hx:=hr.tmp b
    obtain ⟨v,x,h1,h2,h3⟩:=Zfg (P:=E.P) hr.hr hx Q' hq'
    refine ⟨v,x,h1,?_,h3⟩
    dsimp only
    rw [<- h2]
    generalize a.tmps.getD b undef = y at hx hq' ⊢
    simp only [ZaU] at hq'
    cases hs:s.tmp b <;> rw [hs] at hq' hx <;> try exact hq'.elim
    ·rw [Xi] at hx; obtain ⟨_,B,rfl,_⟩:=hx; rfl
    ·rw [WW] at hx; obtain ⟨_,B,off,rfl,_⟩:=hx; rfl
  obtain ⟨v,x,h1,h2,h3⟩:=one _ hq
  rw [Tree.Ya] at h1
  obtain ⟨vs,xs,h4,h5,h6⟩:=ih _ h1
  refine ⟨.cons v vs,x :: xs,h4,?_,?_⟩
  ·rw [List.mapM_cons]
   cases r with
   | tmp t=>
    simp only [pure_bind] at h2 ⊢
    have h2:a.tmps.getD t undef = x:=by injection h2
    rw [h2]
    simp only [Sem.run_bind,h5,Result.andThen_ok,Sem.run_pure]
   | cell b t=>
    dsimp only at h2 ⊢
    simp only [Sem.run_bind] at h2 ⊢
    rw [h2]
    simp only [Result.andThen_ok,h5,Sem.run_pure]
  ·simp only [RL]; exact ⟨x,xs,rfl,h3,h6⟩
theorem Ziy {lo base:Nat} {m:Nat->Option Nat} {F:Nat->Prop} {s:St B} {a:Act} {w:World} (hr:Rel lo base m F s a w) (fn:Func) {Q:V->Prop} (hq:(KC E.P s fn.results.toList).holds E.P Q) :
  ∃ vs x,Q vs/\(results fn a.tmps).run E.P w = .ok x w/\R F w (single vs) s.n m x:=by
 obtain ⟨vs,xs,h1,h2,h3⟩:=ZlC hr _ Q hq
 refine ⟨vs,if h:xs.toArray.size = 1 then xs.toArray[0] else .tuple xs.toArray,h1,?_,?_⟩
 ·have hma:(fn.results.mapM (m:=Sem) fun | .tmp t=>pure (a.tmps.getD t undef) | .cell b t=>do loadVar t (<- asAddr (a.tmps.getD b undef))).run E.P w = .ok xs.toArray w:=by
   have:(fn.results.mapM (m:=Sem) fun | .tmp t=>pure (a.tmps.getD t undef) | .cell b t=>do loadVar t (<- asAddr (a.tmps.getD b undef))) =
     List.toArray <$> (fn.results.toList.mapM fun | .tmp t=>pure (a.tmps.getD t undef) | .cell b t=>do loadVar t (<- asAddr (a.tmps.getD b undef))):=by
    rw [Array.mapM_eq_mapM_toList]
   rw [this,Sem.run_map,h2]; rfl
  unfold results
  rw [Sem.run_bind]
  exact (congrArg (fun r=>Result.andThen r _) hma).trans rfl
 ·cases vs <;> try (simp only [RL] at h3; done)
  ·simp only [RL] at h3; subst h3
   rw [dif_neg (by simp)]
   simp only [single,R]
   exact ⟨_,rfl,by simp only [RL]⟩
  ·rename_i v t
   have h3':=h3
   simp only [RL] at h3
   obtain ⟨x,r,rfl,hv,ht⟩:=h3
   cases t <;> try (simp only [RL] at ht; done)
   ·simp only [RL] at ht; subst ht
    rw [dif_pos (by simp)]
    exact hv
   ·simp only [RL] at ht
    obtain ⟨y,r',rfl,_,_⟩:=ht
    rw [dif_neg (by simp)]
    simp only [single,R]
    exact ⟨_,rfl,h3'⟩
theorem Zi1 {F:Nat->Prop} {w:World} {n:Nat} {m:Nat->Option Nat}:∀ (args:V) (xs:List Value),RL F w args n m xs->∀ (i:Nat) (d:Nat->V) (T:PT V) (g:Nat->Value),
  (∀ j,R F w (look d T j) n m (g j))->∀ j,R F w (look d (setArgs args i T) j) n m (if i<=j/\j < i + xs.length then xs.getD (j - i) Go.undef else g j):=by
 intro args
 induction args with
 | nil=>intro xs h i d T g hT j; simp only [RL] at h; subst h; simp only [setArgs]; rw [if_neg (by simp)]; exact hT j
 | cons a t _ ih=>
  intro xs h i d T g hT j
  simp only [RL] at h
  obtain ⟨x,r,rfl,h1,h2⟩:=h
  have:=ih r h2 (i + 1) d (T.set i a) (fun j=>if j = i then x else g j) (fun j=>by
   by_cases e:j = i
   ·subst e
    rw [if_pos rfl]
    rw [KF]; exact h1
   ·rw [if_neg e,Vo _ _ _ e]; exact hT j) j
  simp only [setArgs]
  by_cases e:j = i
  ·subst e
   rw [if_neg (by omega),if_pos rfl] at this
   rw [if_pos (by simp)]
   simpa using this
  ·by_cases e2:i + 1<=j/\j < i + 1 + r.length
   ·rw [if_pos e2] at this
    rw [if_pos (by simp; omega)]
    have:j - i = (j - (i + 1)) + 1:=by omega
    rw [this,List.getD_cons_succ]
    assumption
   ·rw [if_neg e2,if_neg e] at this
    rw [if_neg (by simp; omega)]
    exact this
 | _=>intro xs h; simp only [RL] at h
theorem enter_rel {base:Nat} {m:Nat->Option Nat} {F:Nat->Prop} {hb:Nat->Blk} {h:PT Blk} {n:Nat} {w:World} (hr:HR base m F (look hb h) n w) {args:V} {xs:Array Value} (ha:RL F w args n m xs.toList) (k:Nat) :
  Rel w.heap.size base m F (enter hb args k h n) { tmps:=xs ++ Array.replicate (k - xs.size) undef,defers:=[] } w:=by
 have hlen:args.len = xs.size:=by simpa using Y5 _ _ ha
 refine ⟨hr,⟨[],rfl,List.nodup_nil,Nat.le_refl _,fun r hr=>(by cases hr),fun r hr=>(by cases hr),fun r hr=>(by cases hr)⟩,?_,fun i=>?_⟩
 ·simp [enter,hlen]
 ·have:=Zi1 args _ ha 0 (fun _=>.junk) .nil (fun _=>Go.undef) (fun j=>by show R F w .junk n m _; simp only [R]) i
  simp only [enter,St.tmp]
  have e:(if 0<=i/\i < 0 + xs.toList.length then xs.toList.getD (i - 0) Go.undef else Go.undef) = (xs ++ Array.replicate (k - xs.size) undef).getD i Go.undef:=by
   simp only [Nat.zero_le,true_and,Nat.zero_add,Array.length_toList,Nat.sub_zero]
   by_cases hi:i < xs.size
   ·rw [if_pos hi,Array.getD_eq_getD_getElem?,Array.getElem?_append_left hi,List.getD_eq_getElem?_getD,Array.getElem?_toList]
   ·rw [if_neg hi,Array.getD_eq_getD_getElem?,Array.getElem?_append_right (by omega),Array.getElem?_replicate]
    split <;> rfl
  rw [<- e]
  exact this
def closeAll (w:World):List Nat->World
 | []=>w
 | r :: rs=>closeAll (w.putObj r (.deferred none)) rs
theorem Zkr:∀ (rs:List Nat) (w:World),(closeAll w rs).heap.size = w.heap.size:=by
 intro rs
 induction rs with
 | nil=>intro w; rfl
 | cons r rs ih=>intro w; rw [closeAll,ih]; simp
theorem Zlw {P:Program} {fn:Func} {tmps:Array Value} {K:Ending->World->Prop}:∀ (rs:List Nat) (w:World),rs.Nodup->(∀ r ∈ rs,w.heap[r]? = some (.deferred (some []))) ->
  (∃ v,(results fn tmps).run P (closeAll w rs) = .ok v (closeAll w rs)/\K (.returned v) (closeAll w rs))->LeavesInM (fen none) 0 P fn tmps K (rs.map fun r=>{ target:=.collected r,args:=#[] }) .returning w:=by
 intro rs
 induction rs with
 | nil=>intro w _ _ h; exact h
 | cons r rs ih=>
  intro w hn ho h
  have hn':=List.nodup_cons.1 hn
  refine ⟨by simp,.inl ⟨r,_,rfl,run_takeDeferred (ho r (by simp)),ih _ hn'.2 (fun q hq=>?_) h⟩⟩
  rw [World.putObj_heap_other (fun e=>hn'.1 (by rw [<- e]; exact hq))]
  exact ho q (List.mem_cons_of_mem _ hq)
theorem ZhF {w:World} {r:Nat} {o:Obj} (ho:w.heap[r]? = some (.deferred (some []))):Z4 w (w.putObj r o):=fun B c el fr hB=>by
 have hne:B ≠ r:=fun e=>by subst e; rw [ho] at hB; cases hB
 exact ⟨c,fr,by rw [World.putObj_heap_other hne]; exact hB,rfl⟩
theorem RB_world {F:Nat->Prop} {w w':World} {n:Nat} {m:Nat->Option Nat} {blk:Blk} {B:Option Nat} (hs:Z4 w w') (hF:∀ B,F B->w'.heap[B]? = w.heap[B]?) (hk:∀ b,B = some b->w'.heap[b]? = w.heap[b]?) (hb:RB F w n m blk B):RB F w' n m blk B:=by
 have hm:=fun v n m=>YK (F:=F) (F':=F) hs (fun _ h=>h) hF v n n m m (Nat.le_refl _) (fun _ _ _ h=>h)
 cases blk with
 | none=>exact hb
 | any=>exact hb
 | var cs=>
  obtain ⟨b,xs,el,ys,zs,e,hc,hsp,hr⟩:=hb
  exact ⟨b,xs,el,ys,zs,e,by rw [hk b e]; exact hc,hsp,(hm cs n m).2 _ hr⟩
 | arr es k get=>
  rcases hb with h0 | ⟨b,c,el,e,hc,hs,hr⟩
  ·exact .inl h0
  refine .inr ⟨b,c,el,e,by rw [hk b e]; exact hc,hs,fun j hj=>?_⟩
  obtain ⟨xs,h1,h2,h3⟩:=hr j hj
  exact ⟨xs,(hm (get j) 0 _).2 _ h1,h2,h3⟩
 | iter mb since seen last=>
  obtain ⟨r,x,e,hc,h1⟩:=hb
  refine ⟨r,x,e,by rw [hk r e]; exact hc,?_⟩
  cases mb with
  | none=>exact h1
  | some b=>obtain ⟨y,h2,h3,h4⟩:=h1; exact ⟨y,h2,h3,h4⟩
 | Ze kd st f ks=>
  obtain ⟨b,es,clock,e,hc,hE,hf⟩:=hb
  exact ⟨b,es,clock,e,by rw [hk b e]; exact hc,hE,fun k hk'=>⟨(hf k hk').1,fun v hv=>(hm (f k).2 n m).1 _ ((hf k hk').2 v hv)⟩⟩
 | rng f ps asg bd row N st pend=>
  obtain ⟨l,r,e,hc,h1,h2,h3,h4,h5,h6,h7⟩:=hb
  exact ⟨l,r,e,by rw [hk l e]; exact hc,h1,h2,h3,h4,h5,h6,fun i=>(hm (row i) n m).1 _ (h7 i)⟩
theorem HR.closeAll {base:Nat} {m:Nat->Option Nat} {F:Nat->Prop} {h:Nat->Blk} {n:Nat}:∀ {w:World},HR base m F h n w->∀ (rs:List Nat),rs.Nodup->(∀ r ∈ rs,w.heap[r]? = some (.deferred (some [])))->(∀ r ∈ rs,¬ F r/\∀ b,m b ≠ some r) ->
  HR base m F h n (closeAll w rs)/\∀ v x,R F w v n m x->R F (closeAll w rs) v n m x:=by
 intro w hr rs
 induction rs generalizing w with
 | nil=>intro _ _ _; exact ⟨hr,fun _ _ h=>h⟩
 | cons r rs ih=>
  intro hn ho hu
  have hn':=List.nodup_cons.1 hn
  have hs:=ZhF (o:=.deferred none) (ho r (by simp))
  have hF:∀ B,F B->(w.putObj r (.deferred none)).heap[B]? = w.heap[B]?:=fun B hB=>World.putObj_heap_other fun e=>(hu r (by simp)).1 (by rw [<- e]; exact hB)
  have hr':HR base m F h n (w.putObj r (.deferred none)):=
   ⟨by simpa using hr.low,fun B hB=>by simpa using hr.fdom B hB,fun b hb=>RB_world hs hF (fun k hk=>World.putObj_heap_other fun e=>(hu r (by simp)).2 b (by rw [hk,e])) (hr.blk b hb),fun b B hB=>by simpa using hr.dom b B hB,hr.new,hr.gl.mono hs (fun _ h=>h) hF,hr.own,hr.inj⟩
  obtain ⟨k1,k2⟩:=ih hr' hn'.2 (fun q hq=>by
   rw [World.putObj_heap_other (fun e=>hn'.1 (by rw [<- e]; exact hq))]
   exact ho q (List.mem_cons_of_mem _ hq)) (fun q hq=>hu q (List.mem_cons_of_mem _ hq))
  exact ⟨k1,fun v x h=>k2 v x ((YK hs (fun _ h=>h) hF v n n m m (Nat.le_refl _) (fun _ _ _ h=>h)).1 x h)⟩
theorem Ext.closeAll {base:Nat} {m m':Nat->Option Nat} {F F':Nat->Prop} {n n':Nat} {w:World}:∀ {w':World},Ext base m F n w m' F' n' w'->∀ (rs:List Nat),rs.Nodup->(∀ r ∈ rs,w.heap.size<=r)->(∀ r ∈ rs,w'.heap[r]? = some (.deferred (some []))) ->
  base<=w.heap.size->(∀ B,F B->B < w.heap.size)->Ext base m F n w m' F' n' (Fw.closeAll w' rs):=by
 intro w' he rs
 induction rs generalizing w' with
 | nil=>intro _ _ _ _ _; exact he
 | cons r rs ih=>
  intro hn hl ho hb hF
  have hn':=List.nodup_cons.1 hn
  have hr:=hl r (by simp)
  refine ih ⟨he.f,he.back,fun B hB=>?_,by simpa using he.size,he.sz.trans (ZhF (ho r (by simp))),⟨fun B hB hu=>?_,he.ow.old⟩,he.le,he.map,⟨he.calm.os,he.calm.tape,he.calm.output⟩⟩ hn'.2 (fun q hq=>hl q (List.mem_cons_of_mem _ hq)) (fun q hq=>?_) hb hF
  ·rw [World.putObj_heap_other (fun e=>by subst e; rcases hB with h | h; omega; have:=hF _ h; omega)]
   exact he.keep B hB
  ·rw [World.putObj_heap_other (fun e=>by subst e; omega)]
   exact he.ow.un B hB hu
  ·rw [World.putObj_heap_other (fun e=>hn'.1 (by rw [<- e]; exact hq))]
   exact ho q (List.mem_cons_of_mem _ hq)
theorem HR.Zel {base:Nat} {m:Nat->Option Nat} {F:Nat->Prop} {h h':Nat->Blk} {n:Nat} {w:World} (hr:HR base m F h n w) {b l:Nat} (hb:m b = some l) {r r':Loop} (hl:w.heap[l]? = some (.loop r)) (hna:h b ≠ .any) {blk:Blk}
  (hh:∀ c,h' c = if c = b then blk else h c) (hblk:(∀ v x,R F w v n m x->R F (w.putObj l (.loop r')) v n m x)->RB F (w.putObj l (.loop r')) n m blk (some l)) :
  HR base m F h' n (w.putObj l (.loop r'))/\Ext base m F n w m F n (w.putObj l (.loop r')):=by
 have hown:=hr.own b l hb
 have keep:∀ k,k ≠ l->(w.putObj l (.loop r')).heap[k]? = w.heap[k]?:=fun k hk=>World.putObj_heap_other hk
 have hsz:Z4 w (w.putObj l (.loop r')):=fun B c el fr hB=>by
  have hne:B ≠ l:=fun e=>by subst e; rw [hl] at hB; cases hB
  exact ⟨c,fr,by rw [keep B hne]; exact hB,rfl⟩
 have hkF:∀ k,F k->(w.putObj l (.loop r')).heap[k]? = w.heap[k]?:=fun k hk=>keep k fun e=>by subst e; exact hown.2 hk
 have hext:Ext base m F n w m F n (w.putObj l (.loop r')):=
  ⟨fun _ h=>h,fun _ h=>.inl h,fun k hk=>keep k (fun e=>by subst e; rcases hk with h | h; exact absurd hown.1 (Nat.not_le.2 h); exact hown.2 h),by simp,hsz,
   ⟨fun k _ hk=>keep k fun e=>hk b (by rw [e]; exact hb),fun c _ hc _=>⟨c,hc⟩⟩,Nat.le_refl _,fun _ _ _ h=>h,⟨rfl,rfl,rfl⟩⟩
 refine ⟨⟨by simpa using hr.low,fun k hk=>by simpa using hr.fdom k hk,fun c hc=>?_,fun c C hC=>by simpa using hr.dom c C hC,hr.new,hr.gl.mono hsz (fun _ h=>h) hkF,hr.own,fun c c' C h1 h2 hne=>?_⟩,hext⟩
 ·rw [hh c]
  by_cases e:c = b
  ·subst e
   rw [if_pos rfl,hb]
   exact hblk fun v xs hv=>hext.val hv
  ·rw [if_neg e]
   by_cases e2:m c = some l
   ·rcases hr.inj c b l e2 hb e with h1 | h1
    ·rw [h1]; exact trivial
    ·exact absurd h1 hna
   ·exact JD hext (fun k hk=>keep k fun e'=>by subst e'; exact e2 hk) (hr.blk c hc)
 ·rw [hh c,hh c']
  rcases hr.inj c c' C h1 h2 hne with h3 | h3
  ·left
   rw [if_neg (fun e=>hna (by rw [<- e]; exact h3))]
   exact h3
  ·right
   rw [if_neg (fun e=>hna (by rw [<- e]; exact h3))]
   exact h3
theorem Zmj {F:Nat->Prop} {w:World} {n:Nat} {m:Nat->Option Nat} {d:Nat->V}:∀ (ps:List Nat) (args:V) (xs:List Value) (T:PT V) (arr:Array Value),RL F w args n m xs->(∀ p ∈ ps,p < arr.size)->(∀ j,R F w (look d T j) n m (arr.getD j Go.undef)) ->
  (∀ j,R F w (look d (Zai ps args T) j) n m (((ps.zip xs).foldl (fun tmps (t,a)=>tmps.setIfInBounds t a) arr).getD j Go.undef))/\((ps.zip xs).foldl (fun tmps (t,a)=>tmps.setIfInBounds t a) arr).size = arr.size:=by
 intro ps
 induction ps with
 | nil=>intro args xs T arr _ _ hT; exact ⟨hT,rfl⟩
 | cons p ps ih=>
  intro args xs T arr ha hps hT
  cases args <;> simp only [RL] at ha
  ·subst ha; exact ⟨hT,rfl⟩
  ·rename_i v r
   obtain ⟨x,q,rfl,h1,h2⟩:=ha
   have hp:=hps p (by simp)
   have:=ih r q (T.set p v) (arr.setIfInBounds p x) h2 (fun p' hp'=>by simpa using hps p' (List.mem_cons_of_mem _ hp')) (fun j=>by
    rw [ZR]
    by_cases e:j = p
    ·subst e
     rw [if_pos rfl]
     have hget:(arr.setIfInBounds j x).getD j Go.undef = x:=by simp [Array.getD_eq_getD_getElem?,hp]
     rw [hget]; exact h1
    ·rw [if_neg e]
     have hget:(arr.setIfInBounds p x).getD j Go.undef = arr.getD j Go.undef:=by
      simp only [Array.getD_eq_getD_getElem?,Array.getElem?_setIfInBounds_ne (Ne.symm e)]
     rw [hget]; exact hT j)
   exact ⟨this.1,by rw [List.zip_cons_cons,List.foldl_cons]; rw [this.2]; simp⟩
theorem Zl3 (hrec:Vn E rec_) {hb:Nat->Blk} {b:Nat} {args:V} {h:PT Blk} {n base:Nat} {m:Nat->Option Nat} {F:Nat->Prop} {w:World} {xs:Array Value} {Q:V×PT Blk×Nat->Prop} {K:Ending->World->Prop}
  (hr:HR base m F (look hb h) n w) (ha:RL F w args n m xs.toList) (hq:(GX E rec_ hb b args h n).holds E.P Q)
  (hK:∀ v h' n',Q (v,h',n')->∀ m' F' w' x,Ext base m F n w m' F' n' w'->HR base m' F' (look hb h') n' w'->R F' w' v n' m' x->K (.returned x) w') (l:Nat) (hml:m b = some l) :
  ∃ r,w.heap[l]? = some (.loop r)/\xs.size = r.params.size/\∀ ro,RoundIn (fen ro) 0 E.P l r.fn ((r.params.zip xs).foldl (fun tmps (t,a)=>tmps.setIfInBounds t a) r.tmps) r.assign r.body w K:=by
 have hbn:b < n:=hr.lt (by rw [hml]; simp)
 have hblk:=hr.blk b hbn
 unfold GX at hq
 cases hh:look hb h b <;> rw [hh] at hq hblk <;> try (exact hq.elim)
 rename_i f ps asg bd row N st pend
 obtain ⟨l',r,e,hl,hps,hasg,hbd,hst,hpd,hrl,hrow⟩:=hblk
 obtain rfl:l = l':=by rw [hml] at e; injection e
 dsimp only at hq
 have hlp':(∀ c ∈ Yr asg ++ Yr bd,∀ g,Wv E f c = some g->XI E.P f c):=by
  cases hlp:((Yr asg ++ Yr bd).all fun c=>(Wv E f c).isNone)
  ·rw [hlp] at hq
   exact hq.1
  ·intro c hmem g hg
   have:=List.all_eq_true.1 hlp c hmem
   rw [hg] at this; cases this
 replace hq:=(Zcs hq).2
 cases hc:(Nat.beq st 0&&(Nat.beq args.len ps.length&&ps.all fun p=>Nat.blt p N))&&(Xa asg&&Xa bd)
 ·rw [hc] at hq; exact hq.elim
 rw [hc] at hq
 simp only [cond_true] at hq
 simp only [Bool.and_eq_true] at hc
 obtain ⟨⟨_,hlen,hall⟩,hna,hnb⟩:=hc
 have hlen:=Nat.eq_of_beq_eq_true hlen
 have hal:args.len = xs.size:=by simpa using Y5 _ _ ha
 have hpl:ps.length = r.params.size:=by rw [<- hps]; simp
 refine ⟨r,hl,by omega,fun ro=>roundIn_of_wpIn (F:=fen ro) trivial ?_⟩
 rw [Tree.Ya] at hq
 have htmps:=Zmj (F:=F) (w:=w) (n:=n) (m:=m) (d:=row) ps args xs.toList .nil r.tmps ha (fun p hp=>by
  have:=List.all_eq_true.1 hall p hp
  rw [Nat.blt_eq] at this; omega) (fun j=>hrow j)
 have hfold:(r.params.zip xs).foldl (fun tmps (t,a)=>tmps.setIfInBounds t a) r.tmps = (ps.zip xs.toList).foldl (fun tmps (t,a)=>tmps.setIfInBounds t a) r.tmps:=by
  rw [<- hps,<- Array.foldl_toList,Array.toList_zip]
 have hrel0:Rel w.heap.size base m F ({ t:=Zai ps args .nil,h,n,N }:St ⟨row,hb⟩) { tmps:=(r.params.zip xs).foldl (fun tmps (t,a)=>tmps.setIfInBounds t a) r.tmps,defers:=[] } w:=
  ⟨hr,⟨[],rfl,List.nodup_nil,Nat.le_refl _,fun r hr=>(by cases hr),fun r hr=>(by cases hr),fun r hr=>(by cases hr)⟩,by rw [hfold]; dsimp only; rw [htmps.2,hrl],fun j=>by
   rw [hfold]; exact htmps.1 j⟩
 have hasg0:=hasg
 subst hasg
 refine wpX.wp (ro:=some l) (hrec (some l) f r.assign ⟨row,hb⟩ _ w.heap.size base m F _ w _ _ (fun c hc=>hlp' c (List.mem_append_left _ hc)) (.inr hna) hrel0 hq fun e s' hQ m' F' a' w' h1 h2=>?_)
 cases e with
 | exit id=>exact hQ.elim
 | ret=>exact hQ.elim
 | normal=>
  dsimp only at hQ
  have hml':=h1.map b hbn l hml
  have hbn':b < s'.n:=h2.hr.lt (by rw [hml']; simp)
  have hblk':=h2.hr.blk b hbn'
  cases hh':look hb s'.h b <;> rw [show s'.blk b = look hb s'.h b from rfl] at hblk' <;> rw [hh'] at hQ hblk' <;> try (exact hQ.elim)
  rename_i f1 ps1 asg1 bd1 row1 N1 st1 pd1
  obtain ⟨l1,r1,e1,hl1,hps1,hasg1,hbd1,hst1,hpd1,hrl1,hrow1⟩:=hblk'
  obtain rfl:l = l1:=by rw [hml'] at e1; injection e1
  dsimp only at hQ
  cases hs0:Nat.beq st1 0
  ·rw [hs0] at hQ; exact hQ.elim
  rw [hs0] at hQ
  simp only [cond_true] at hQ
  rw [Tree.Ya] at hQ
  have hst1':r1.state = .ready:=by rw [hst1,Nat.eq_of_beq_eq_true hs0]; rfl
  obtain ⟨k1,k2⟩:=h2.hr.Zel (h':=look hb (s'.h.set b (.rng f1 ps1 asg1 bd1 row1 N1 1 pd1))) (r':={ r1 with state:=.busy }) hml' hl1 (by show look hb s'.h b ≠ _; rw [hh']; simp) (blk:=.rng f1 ps1 asg1 bd1 row1 N1 1 pd1) (fun c=>ZR _ _ _ _ _)
   (fun up=>⟨l,_,rfl,World.putObj_heap_same (ZaG hl1),hps1,hasg1,hbd1,rfl,hpd1,hrl1,fun i=>up _ _ (hrow1 i)⟩)
  refine ⟨_,run_beginRound hl1 hst1',?_⟩
  have hrel1:Rel w.heap.size base m' F' ({ s' with h:=s'.h.set b (.rng f1 ps1 asg1 bd1 row1 N1 1 pd1) }:St ⟨row,hb⟩) a' (w'.putObj l (.loop { r1 with state:=.busy })):=
   ⟨k1,Marks.ext h2.defers k2,h2.size,fun i=>k2.val (h2.tmp i)⟩
  subst hbd
  refine wpX.wp (ro:=some l) (hrec (some l) f r.body ⟨row,hb⟩ _ w.heap.size base m' F' _ _ _ _ (fun c hc=>hlp' c (List.mem_append_right _ hc)) (.inr hnb) hrel1 hQ fun e2 s2 hQ2 m2 F2 a2 w2 h3 h4=>?_)
  have hml2:=h3.map b hbn' l hml'
  have hbn2:b < s2.n:=h4.hr.lt (by rw [hml2]; simp)
  have hblk2:=h4.hr.blk b hbn2
  dsimp only at hQ2
  cases hh2:look hb s2.h b <;> rw [show s2.blk b = look hb s2.h b from rfl] at hblk2 <;> rw [hh2] at hQ2 hblk2 <;> try (exact hQ2.elim)
  rename_i f2 ps2 asg2 bd2 QN N2 st2 pd2
  obtain ⟨l2,r2,e2',hl2,hps2,hasg2,hbd2,hst2,hpd2,hrl2,hrow2⟩:=hblk2
  obtain rfl:l = l2:=by rw [hml2] at e2'; injection e2'
  dsimp only at hQ2
  cases hs1:Nat.beq st2 1
  ·rw [hs1] at hQ2; exact hQ2.elim
  rw [hs1] at hQ2
  simp only [cond_true] at hQ2
  have fin:∀ (jump:Option Code),codeOf (some e2) = jump->e2.Vu = jump.isNone->∃ v w3,(Instr.endRound l jump).run E.P w2 = .ok v w3/\K (.returned v) w3:=by
   intro jump hj hn
   refine ⟨_,_,run_endRound jump hl2,?_⟩
   obtain ⟨c1,c2⟩:=h4.hr.Zel (h':=look hb (s2.h.set b (.rng f2 ps2 asg2 bd2 QN N2 (bif e2.Vu then 0 else 2) (some e2)))) (r':={ r2 with state:=if jump.isNone then .ready else .done,pending:=jump }) hml2 hl2 (by show look hb s2.h b ≠ _; rw [hh2]; simp)
    (blk:=.rng f2 ps2 asg2 bd2 QN N2 (bif e2.Vu then 0 else 2) (some e2)) (fun c=>ZR _ _ _ _ _)
    (fun up=>⟨l,_,rfl,World.putObj_heap_same (ZaG hl2),hps2,hasg2,hbd2,by rw [hn]; cases jump.isNone <;> rfl,hj.symm,hrl2,fun i=>up _ _ (hrow2 i)⟩)
   exact hK _ _ _ hQ2 m2 F2 _ _ (((h1.trans k2).trans h3).trans c2) c1 (by rw [XP,hn])
  cases e2 with
  | normal=>exact fin none rfl rfl
  | ret=>exact fin (some .ret) rfl rfl
  | exit id=>exact fin (some (.exit id)) rfl rfl
theorem Zee {F:Nat->Prop} {w:World} {n:Nat} {m:Nat->Option Nat}:∀ (v:V),(∀ x,R F w v n m x->R F w v.plain n m x)/\(∀ xs,RL F w v n m xs->RL F w v.plain n m xs):=by
 intro v
 induction v with
 | cons h t ih1 ih2=>
  refine ⟨fun x h=>by simp only [R] at h,fun xs h=>?_⟩
  simp only [V.plain,RL] at h ⊢
  obtain ⟨x,r,rfl,h1,h2⟩:=h
  exact ⟨x,r,rfl,ih1.1 _ h1,ih2.2 _ h2⟩
 | agg cs ih=>
  refine ⟨fun x h=>?_,fun xs h=>by simp only [RL] at h⟩
  simp only [V.plain,R] at h ⊢
  obtain ⟨xs,rfl,h1⟩:=h
  exact ⟨xs,rfl,ih.2 _ h1⟩
 | tup cs ih=>
  refine ⟨fun x h=>?_,fun xs h=>by simp only [RL] at h⟩
  simp only [V.plain,R] at h ⊢
  obtain ⟨xs,rfl,h1⟩:=h
  exact ⟨xs,rfl,ih.2 _ h1⟩
 | osp st b es i k c=>
  refine ⟨fun x h=>?_,fun xs h=>by simp only [RL] at h⟩
  simp only [V.plain]
  cases (st&&(Nat.beq k 0&&Nat.blt 0 c))
  ·exact JV h
  ·exact h
 | _=>exact ⟨fun x h=>h,fun xs h=>h⟩
theorem Zbc (hE:E.Ok) (hrec:Vn E rec_):V7 E (Q9 E rec_):=by
 intro hb c args h n base m F w xs Q K hr ha hq hK
 cases c with
 | inr b=>exact fun l hml=>Zl3 hrec hr ha hq hK l hml
 | inl g=>
 simp only [Q9] at hq
 cases hkn:Zde E hb g args h n with
 | some T=>
  rw [hkn] at hq
  unfold Zde at hkn
  cases hKg:E.hk g with
  | none=>rw [hKg] at hkn; cases hkn
  | some K=>
   rw [hKg] at hkn
   exact evHeap_ok (hE.hk g K hKg) hkn hr ((Zee args).2 _ ha) hq hK
 | none=>
 rw [hkn] at hq
 dsimp only at hq
 cases hf:E.P.funcs[g]? with
 | none=>rw [hf] at hq; exact hq.elim
 | some fn=>
  rw [hf] at hq
  dsimp only at hq
  cases hbd:fn.body with
  | none=>rw [hbd] at hq; exact hq.elim
  | some c=>
   rw [hbd] at hq
   dsimp only at hq
   rw [Tree.Ya] at hq
   refine ⟨⟨fn,c,hf,hbd,hE.named g fn hf⟩,CallsIn.calls (F:=fen none) (n:=0) (callsIn_of_wp_marks hf hbd trivial ?_ rfl) (Zh4 none)⟩
   refine wpX.wp (ro:=none) (hrec none g c _ (enter hb args.plain fn.ntmps h n) w.heap.size base m F _ w _ _ (fun b hmem _ _=>⟨fn,c,hf,hbd,Zia c b hmem⟩) (.inl rfl) (enter_rel hr ((Zee args).2 _ ha) fn.ntmps) hq fun e s' hQ m' F' a' w' h1 h2=>?_)
   have fin:(KC E.P s' fn.results.toList).holds E.P (fun vs=>(Tree.leaf ((single vs).plain,s'.h,s'.n)).holds E.P Q)->LeavesInM (fen none) 0 E.P fn a'.tmps K a'.defers .returning w':=by
    intro hq'
    obtain ⟨rs,hm⟩:=h2.defers
    rw [hm.eq]
    refine Zlw rs w' hm.nodup hm.obj ?_
    obtain ⟨c1,c2⟩:=HR.closeAll h2.hr rs hm.nodup hm.obj hm.un
    have h2':Rel w.heap.size base m' F' s' { a' with defers:=[] } (closeAll w' rs):=
     ⟨c1,⟨[],rfl,List.nodup_nil,(let ⟨_,hm⟩:=h2.defers; by rw [Zkr]; exact hm.le),fun r hr=>(by cases hr),fun r hr=>(by cases hr),fun r hr=>(by cases hr)⟩,h2.size,fun i=>c2 _ _ (h2.tmp i)⟩
    obtain ⟨vs,x,k1,k2,k3⟩:=Ziy h2' fn hq'
    exact ⟨x,k2,hK _ _ _ k1 m' F' _ x (Ext.closeAll h1 rs hm.nodup hm.lo hm.obj hr.low hr.fdom) c1 ((Zee _).1 _ k3)⟩
   cases e with
   | exit id=>exact hQ.elim
   | normal=>dsimp only at hQ; rw [Tree.Ya] at hQ; exact fin hQ
   | ret=>dsimp only at hQ; rw [Tree.Ya] at hQ; exact fin hQ
theorem callee_fn {F:Nat->Prop} {w:World} {n:Nat} {m:Nat->Option Nat} {f args:V} {x:Value} {xs:Array Value} {g:FuncId} {out:V} (hc:callee f args = some (g,out)) (hf:R F w f n m x) (ha:RL F w args n m xs.toList) :
  ∃ fs cs:Array Value,x = .func (.func g) fs cs/\RL F w out n m (fs ++ xs ++ cs).toList:=by
 unfold callee at hc
 cases f <;> try (cases hc; done)
 rename_i f first cap
 cases f <;> try (cases hc; done)
 simp only [Option.some.injEq,Prod.mk.injEq] at hc
 obtain ⟨rfl,rfl⟩:=hc
 simp only [R] at hf
 obtain ⟨fs,cs,rfl,h1,h2⟩:=hf
 refine ⟨fs,cs,rfl,?_⟩
 simp only [Array.toList_append,List.append_assoc]
 exact VQ _ _ h1 _ _ (VQ _ _ ha _ _ h2)
theorem Zjn (hE:E.Ok) (hrec:Vn E rec_) {ro:Option Nat} {f:FuncId} {g:Operand} {ps:Array Tmp} {asg bd:Code} (hro:ro = none\/Xa (.rangeFunc g ps asg bd) = true) {s:St B} {lo base:Nat} {m:Nat->Option Nat} {F:Nat->Prop} {a:Act} {w:World}
  {Q:Ex×St B->Prop} {Qx:Exit->Act->World->Prop} (hr:Rel lo base m F s a w) (hq:(Kr E rec_ f (.rangeFunc g ps asg bd) B s).holds E.P Q)
  (hK:∀ e s',Q (e,s')->∀ m' F' a' w',Ext base m F s.n w m' F' s'.n w'->Rel lo base m' F' s' a' w'->Qx e.QY a' w'):(Code.rangeFunc g ps asg bd).wpIn (fen ro) 0 E.P Qx a w:=by
 obtain rfl:ro = none:=hro.resolve_right (by simp [Xa])
 simp only [Kr] at hq
 split at hq
 case h_2=>exact hq.elim
 rename_i g' args hcy
 have hc:callee (Zg s g) (.cons (.yld s.n) .nil) = some (g',args):=by
  revert hcy
  cases hv:Zg s g <;> simp only [Km] <;> intro h <;> first
   | (split at h <;> first | (rename_i hc; injection h with h; injection h with e1 e2; injection e1 with e1; rw [hc,e1,e2]) | cases h)
   | (injection h with h; injection h with e1 e2; cases e1)
 rw [Tree.Ya] at hq
 refine wpIn_rangeFunc (F:=fen none) fun fn _=>?_
 have henter:=run_enterLoop_outer (P:=E.P) (w:=w) fn a.tmps ps asg bd
 generalize hw1:((w.alloc (.deferred (some []))).alloc (.loop { state:=.ready,pending:=none,fn,tmps:=a.tmps,params:=ps,assign:=asg,body:=bd,defers:=w.heap.size })) = w1 at henter
 have hsz1:w1.heap.size = w.heap.size + 2:=by rw [<- hw1]; simp
 have hkeep:∀ B,B < w.heap.size->w1.heap[B]? = w.heap[B]?:=fun B hB=>by
  rw [<- hw1,heap_alloc_old _ _ _ (by simp; omega),heap_alloc_old _ _ _ hB]
 have hl1:w1.heap[w.heap.size + 1]? = some (.loop { state:=.ready,pending:=none,fn,tmps:=a.tmps,params:=ps,assign:=asg,body:=bd,defers:=w.heap.size }):=by
  rw [<- hw1]
  have:=heap_alloc_new (w.alloc (.deferred (some []))) (.loop { state:=.ready,pending:=none,fn,tmps:=a.tmps,params:=ps,assign:=asg,body:=bd,defers:=w.heap.size })
  simpa using this
 have hd1:w1.heap[w.heap.size]? = some (.deferred (some [])):=by
  rw [<- hw1,heap_alloc_old _ _ _ (by simp)]
  exact heap_alloc_new w _
 have hlat:Later F w F w1:=⟨fun _ h=>h,fun _ h=>.inl h,hkeep,by omega,fun hd B hB=>by have:=hd B hB; omega,by rw [<- hw1]; exact ⟨rfl,rfl,rfl⟩⟩
 have hr1:=hr.hr.later hlat
 have he0:=hr.hr.ext hlat
 have hnone:∀ c,m c ≠ some (w.heap.size + 1):=fun c hc=>by have:=hr.hr.dom c _ hc; omega
 generalize hm':(fun c=>if c = s.n then some (w.heap.size + 1) else m c) = m'
 have hex:Ext base m F s.n w m' F (s.n + 1) w1:=by
  rw [<- hm']
  exact he0.name (B:=some (w.heap.size + 1)) fun k hk=>by injection hk with hk; left; omega
 have hmn:m' s.n = some (w.heap.size + 1):=by rw [<- hm']; simp
 have hname:HR base m' F (look B.h (s.h.set s.n (.rng f ps.toList asg bd s.tmp s.N 0 none))) (s.n + 1) w1:=by
  rw [<- hm']
  refine hr1.name (B:=some (w.heap.size + 1)) (fun k hk=>?_) (fun c=>ZR _ _ _ _ _) ⟨_,_,rfl,hl1,rfl,rfl,rfl,rfl,rfl,hr.size.symm,fun i=>by rw [hm']; exact hex.val (hr.tmp i)⟩
  injection hk with hk
  subst hk
  exact ⟨⟨Nat.le_trans hr.hr.low (by omega),fun hF=>by have:=hr.hr.fdom _ hF; omega⟩,by omega,fun c hc=>absurd hc (hnone c)⟩
 obtain ⟨fs,cs,hfn,hy⟩:=callee_fn (F:=F) (w:=w1) (n:=s.n + 1) (m:=m') (args:=.cons (.yld s.n) .nil) (xs:=#[.func (.yield (w.heap.size + 1)) #[] #[]]) hc (hex.val (hr.Zg g)) (by
  simp only [RL,R]
  exact ⟨_,_,rfl,⟨by omega,_,rfl,hmn⟩,rfl⟩)
 generalize hys:fs ++ #[Value.func (Fn.yield (w.heap.size + 1)) #[] #[]] ++ cs = ys at hy
 have hcall:=Zbc hE hrec B.h (.inl g') args _ (s.n + 1) base m' F w1 ys _ (rangePost (fen none) 0 E.P (w.heap.size + 1) Qx { a with defers:=[{ target:=.collected w.heap.size,args:=#[] }] ++ a.defers }) hname hy hq (fun v h' n' hQ m2 F2 w3 x h1 h2 h3=>?_)
 ·obtain ⟨hhas,hcalls⟩:=hcall
  refine ⟨_,_,w1,{ target:=.fn (.func g') cs,args:=fs ++ #[.func (.yield (w.heap.size + 1)) #[] #[]] },w1,g',ys,w1,henter,?_,fun _ _=>trivial,?_,Zct none,Zio hcalls⟩
  ·simp only [resolve]
   rw [hfn]
   have e:Array.map a.eval #[Operand.const (Value.func (Fn.yield (w.heap.size + 1)) #[] #[])] = #[Value.func (Fn.yield (w.heap.size + 1)) #[] #[]]:=by simp [Act.eval]
   rw [e]
   rfl
  ·simp only [invoke]
   rw [<- hys] at *
   exact ZdR hhas _ _
 ·
  dsimp only at hQ
  have hm2:=h1.map s.n (by omega) _ hmn
  have hn2:s.n < n':=h2.lt (by rw [hm2]; simp)
  have hblk2:=h2.blk s.n hn2
  cases hh2:look B.h h' s.n <;> rw [hh2] at hQ hblk2 <;> try (exact hQ.elim)
  rename_i f2 ps2 asg2 bd2 QN N2 st2 pd2
  obtain ⟨l2,r2,e2',hl2,hps2,hasg2,hbd2,hst2,hpd2,hrl2,hrow2⟩:=hblk2
  obtain rfl:w.heap.size + 1 = l2:=by rw [hm2] at e2'; injection e2'
  dsimp only at hQ
  cases hs1:Nat.beq st2 1
  case true=>rw [hs1] at hQ; exact hQ.elim
  rw [hs1] at hQ
  simp only [cond_false] at hQ
  have hnb:r2.state ≠ .busy:=by
   rw [hst2]
   match st2,hs1 with
   | 0,_=>simp [stOf]
   | 1,h=>cases h
   | _ + 2,_=>simp [stOf]
  obtain ⟨c1,c2⟩:=h2.Zel (h':=look B.h (h'.set s.n .any)) (r':={ r2 with state:=.exhausted }) hm2 hl2 (by rw [hh2]; simp) (blk:=.any) (fun c=>ZR _ _ _ _ _) (fun _=>trivial)
  refine ⟨_,_,run_endLoop hl2 hnb,?_⟩
  have hall:=(hex.trans h1).trans c2
  have hmarks:∃ rs,Marks lo m' F w1 ([{ target:=.collected w.heap.size,args:=#[] }] ++ a.defers) rs:=by
   obtain ⟨rs,hm⟩:=hr.defers
   have hlt:∀ r ∈ rs,r < w.heap.size:=fun r hr'=>ZaG (hm.obj r hr')
   refine ⟨w.heap.size :: rs,by rw [hm.eq]; rfl,List.nodup_cons.2 ⟨fun h=>absurd (hlt _ h) (Nat.lt_irrefl _),hm.nodup⟩,Nat.le_trans hm.le (by omega),fun r hr'=>?_,fun r hr'=>?_,fun r hr'=>?_⟩
   ·rcases List.mem_cons.1 hr' with e | h
    ·rw [e]; exact hm.le
    ·exact hm.lo r h
   ·rcases List.mem_cons.1 hr' with e | h
    ·rw [e]; exact hd1
    ·rw [hkeep r (hlt r h)]; exact hm.obj r h
   ·rcases List.mem_cons.1 hr' with e | h
    ·rw [e]
     refine ⟨fun hF=>absurd (hr.hr.fdom _ hF) (Nat.lt_irrefl _),fun b hb=>?_⟩
     rw [<- hm'] at hb
     dsimp only at hb
     by_cases e2:b = s.n
     ·rw [if_pos e2] at hb; injection hb with hb; omega
     ·rw [if_neg e2] at hb; have:=hr.hr.dom b _ hb; omega
    ·refine ⟨(hm.un r h).1,fun b hb=>?_⟩
     rw [<- hm'] at hb
     dsimp only at hb
     by_cases e2:b = s.n
     ·rw [if_pos e2] at hb; injection hb with hb; have:=hlt r h; omega
     ·rw [if_neg e2] at hb; exact (hm.un r h).2 b hb
  have hrel:Rel lo base m2 F2 ({ s with h:=h'.set s.n .any,n:=n' }:St B) { a with defers:=[{ target:=.collected w.heap.size,args:=#[] }] ++ a.defers } (w3.putObj (w.heap.size + 1) (.loop { r2 with state:=.exhausted })):=
   ⟨c1,Marks.ext hmarks (h1.trans c2),hr.size,fun i=>hall.val (hr.tmp i)⟩
  generalize w3.putObj (w.heap.size + 1) (.loop { r2 with state:=.exhausted }) = w4 at hall hrel ⊢
  rw [hpd2]
  match pd2,hQ with
  | none,hQ=>exact hK .normal _ hQ _ _ _ _ hall hrel
  | some .normal,hQ=>exact hK .normal _ hQ _ _ _ _ hall hrel
  | some .ret,hQ=>exact wpIn_ret (hK .ret _ hQ _ _ _ _ hall hrel)
  | some (.exit i),hQ=>exact wpIn_exit (hK (.exit i) _ hQ _ _ _ _ hall hrel)
theorem Zgj {ro:Option Nat} (hE:E.Ok) (hrec:Vn E rec_) {s:St B} {lo base:Nat} {m:Nat->Option Nat} {F:Nat->Prop} {a:Act} {w:World} {Q:Ex×St B->Prop} {Qx:Exit->Act->World->Prop} {id:Nat} {ops:Array Oper} {draw:Bool}
  (hr:Rel lo base m F s a w) (hq:(Um E (Q9 E rec_) ops draw s).holds E.P Q) (hK:∀ e s',Q (e,s')->∀ m' F' a' w',Ext base m F s.n w m' F' s'.n w'->Rel lo base m' F' s' a' w'->Qx e.QY a' w') :
  (Code.region id ops draw).wpIn (fen ro) 0 E.P Qx a w:=by
 unfold Um at hq
 cases draw with
 | false=>
  dsimp only at hq
  cases hd:ops.toList.all (YW s.N)
  ·rw [hd] at hq; exact hq.elim
  ·rw [hd] at hq
   simp only [cond_true] at hq
   rw [Tree.Ya] at hq
   exact wpIn_region_list (evOps_wp hE (Zbc hE hrec) ops.toList s a w m F _ (fun o ho=>List.all_eq_true.1 hd o ho) hr hq fun s' hs' m' F' a' w' h1 h2=>hK .normal s' hs' m' F' a' w' h1 h2)
 | true=>
  dsimp only at hq
  rw [ZgO] at hq
  cases hd:VW ops (bfs ops.toList [])
  ·rw [hd] at hq; exact hq.elim
  ·rw [hd] at hq
   simp only [cond_true] at hq
   rw [Tree.Ya] at hq
   exact evOpsD_wp hE (Zbc hE hrec) hr hd hq fun s' hs' m' F' a' w' h1 h2=>hK .normal s' hs' m' F' a' w' h1 h2
theorem evStep_ok (hE:E.Ok) (hrec:Vn E rec_):Vn E (Kr E rec_):=by
 intro ro f c B s lo base m F a w Q Qx hin hro hr hq hK
 cases c <;> simp only [Kr] at hq <;> try (exact hq.elim)
 case skip=>exact wpIn_skip (hK .normal s hq m F a w (Ext.refl _ _ _ _ _) hr)
 case label l=>exact wpIn_label (hK .normal s hq m F a w (Ext.refl _ _ _ _ _) hr)
 case exit id=>exact wpIn_exit (hK (.exit id) s hq m F a w (Ext.refl _ _ _ _ _) hr)
 case ret=>exact wpIn_ret (hK .ret s hq m F a w (Ext.refl _ _ _ _ _) hr)
 case scope b=>
  refine Zi9 (wpX.wp (hrec ro f b B s lo base m F a w _ _ hin hro hr hq fun e s' hQ m' F' a' w' h1 h2=>?_))
  have:=hK e s' hQ m' F' a' w' h1 h2
  cases e <;> exact this
 case rangeFunc g ps asg bd=>exact Zjn hE hrec hro hr hq hK
 case region id ops draw=>
  split at hq
  ·exact Zh8 hr hq hK fun Q' hr' hq' hK'=>Zgj hE hrec hr' hq' hK'
  ·exact Zgj hE hrec hr hq hK
 case seq x y=>
  rw [Tree.Ya] at hq
  have hx:∀ b ∈ Yr x,∀ g,Wv E f b = some g->XI E.P f b:=fun b hb=>hin b (List.mem_append_left _ hb)
  have hy:∀ b ∈ Yr y,∀ g,Wv E f b = some g->XI E.P f b:=fun b hb=>hin b (List.mem_append_right _ hb)
  have hrx:ro = none\/Xa x = true:=hro.imp id fun h=>by simp only [Xa,Bool.and_eq_true] at h; exact h.1
  have hry:ro = none\/Xa y = true:=hro.imp id fun h=>by simp only [Xa,Bool.and_eq_true] at h; exact h.2
  refine wpIn_seq (wpX.wp (hrec ro f x B s lo base m F a w _ _ hx hrx hr hq fun e s' hQ m' F' a' w' h1 h2=>?_))
  cases e with
  | normal=>exact wpX.wp (hrec ro f y B s' lo base m' F' a' w' Q Qx hy hry h2 hQ fun e s'' hQ' m'' F'' a'' w'' h3 h4=>hK e s'' hQ' m'' F'' a'' w'' (h1.trans h3) h4)
  | exit id=>exact hK (.exit id) s' hQ m' F' a' w' h1 h2
  | ret=>exact hK .ret s' hQ m' F' a' w' h1 h2
 case cond c x y=>
  have hx:∀ b ∈ Yr x,∀ g,Wv E f b = some g->XI E.P f b:=fun b hb=>hin b (List.mem_append_left _ hb)
  have hy:∀ b ∈ Yr y,∀ g,Wv E f b = some g->XI E.P f b:=fun b hb=>hin b (List.mem_append_right _ hb)
  have hrx:ro = none\/Xa x = true:=hro.imp id fun h=>by simp only [Xa,Bool.and_eq_true] at h; exact h.1
  have hry:ro = none\/Xa y = true:=hro.imp id fun h=>by simp only [Xa,Bool.and_eq_true] at h; exact h.2
  have hc:=hr.Zg c
  have know:∀ {B:Base} {s:St B} (_:Rel lo base m F s a w) (c:Operand) {st t:Bool},Zg s c = .bool st t->Rel lo base m F (s.Wh c t) a w:=by
   intro B s hr c st t h
   cases c with
   | tmp d=>exact hr.know h
   | _=>exact hr
  have nAt:∀ {B:Base} (s:St B) (c:Operand) (t:Bool),(s.Wh c t).n = s.n:=fun s c t=>by cases c <;> rfl
  have two:∀ {B:Base} {s:St B} {Q:Ex×St B->Prop} {t:Bool},Rel lo base m F s a w->Zg s c = .bool false t->(Tree.node t (rec_ f x B (s.Wh c true)) (rec_ f y B (s.Wh c false))).holds E.P Q ->
    (∀ e s',Q (e,s')->∀ m' F' a' w',Ext base m F s.n w m' F' s'.n w'->Rel lo base m' F' s' a' w'->Qx e.QY a' w')->(Code.cond c x y).wpIn (fen ro) 0 E.P Qx a w:=by
   intro B s Q t hr hv hq hK
   have hc:=hr.Zg c
   rw [hv,XP] at hc
   cases t with
   | true=>exact wpIn_cond_true hc (wpX.wp (hrec ro f x B (s.Wh c true) lo base m F a w Q Qx hx hrx (know hr c hv) (hq.1 rfl) fun e s' hQ m' F' a' w' h1 h2=>hK e s' hQ m' F' a' w' (by rw [nAt] at h1; exact h1) h2))
   | false=>exact wpIn_cond_false hc (wpX.wp (hrec ro f y B (s.Wh c false) lo base m F a w Q Qx hy hry (know hr c hv) (hq.2 rfl) fun e s' hQ m' F' a' w' h1 h2=>hK e s' hQ m' F' a' w' (by rw [nAt] at h1; exact h1) h2))
  cases hv:Zg s c <;> rw [hv] at hq hc <;> try exact hq.elim
  rename_i st t
  rw [XP] at hc
  cases st with
  | true=>
   cases t with
   | true=>exact wpIn_cond_true hc (wpX.wp (hrec ro f x B s lo base m F a w Q Qx hx hrx hr hq hK))
   | false=>exact wpIn_cond_false hc (wpX.wp (hrec ro f y B s lo base m F a w Q Qx hy hry hr hq hK))
  | false=>
   dsimp only at hq
   split at hq
   ·exact two hr hv ⟨fun _=>hq.2,fun h=>by rw [hq.1] at h; cases h⟩ hK
   ·exact two hr hv ⟨fun h=>(by rw [hq.1] at h; cases h),fun _=>hq.2⟩ hK
   split at hq
   ·have hv':Zg s.sub c = .bool false t:=by
     rw [<- hv]
     cases c <;> rfl
    exact Zh8 hr hq hK fun Q' hr' hq' hK'=>two hr' hv' hq' hK'
   ·exact two hr hv hq hK
 case block id b=>
  have go:∀ {B:Base} {s:St B} {Q:Ex×St B->Prop},Rel lo base m F s a w->((rec_ f b B s).bind (leave id)).holds E.P Q ->
    (∀ e s',Q (e,s')->∀ m' F' a' w',Ext base m F s.n w m' F' s'.n w'->Rel lo base m' F' s' a' w'->Qx e.QY a' w')->(Code.block id b).wpIn (fen ro) 0 E.P Qx a w:=by
   intro B s Q hr hq hK
   rw [Tree.Ya] at hq
   refine wpIn_block (wpX.wp (hrec ro f b B s lo base m F a w _ _ hin hro hr hq fun e s' hQ m' F' a' w' h1 h2=>?_))
   cases e with
   | normal=>exact hK .normal s' hQ m' F' a' w' h1 h2
   | ret=>exact hK .ret s' hQ m' F' a' w' h1 h2
   | exit id'=>
    simp only [leave] at hQ
    simp only [Ex.QY,Exit.inBlock]
    cases he:Nat.beq id' id
    ·rw [he] at hQ
     have hne:id' ≠ id:=fun e=>by subst e; simp at he
     rw [if_neg hne]
     exact hK (.exit id') s' hQ m' F' a' w' h1 h2
    ·rw [he] at hQ
     obtain rfl:=Nat.eq_of_beq_eq_true he
     rw [if_pos rfl]
     exact hK .normal s' hQ m' F' a' w' h1 h2
  split at hq
  ·exact Zkw hr hq hK fun Q' hr' hq' hK'=>go hr' hq' hK'
  ·exact go hr hq hK
 case loop b=>
  have hb:∀ b' ∈ Yr b,∀ g,Wv E f b' = some g->XI E.P f b':=fun b' h=>hin b' (List.mem_cons_of_mem _ h)
  split at hq
  ·rename_i g hg
   exact hE.lp f b g (hin b (List.mem_cons_self ..) g hg) hg B s Q hq ro lo base m F a w Qx hro hr hK
  ·rw [Tree.Ya] at hq
   refine Jb.round (wpX.wp (hrec ro f b B s lo base m F a w _ _ hb hro hr hq fun e s' hQ m' F' a' w' h1 h2=>?_))
   cases e with
   | normal=>exact hrec ro f (.loop b) B s' lo base m' F' a' w' Q Qx hin hro h2 hQ fun e s'' hQ' m'' F'' a'' w'' h3 h4=>hK e s'' hQ' m'' F'' a'' w'' (h1.trans h3) h4
   | exit id=>exact hK (.exit id) s' hQ m' F' a' w' h1 h2
   | ret=>exact hK .ret s' hQ m' F' a' w' h1 h2
end
theorem ev_ok {E:Env} (hE:E.Ok):∀ k,Vn E (ev E k):=by
 intro k
 induction k with
 | zero=>intro ro f c B s lo base m F a w Q Qx _ _ _ hq; exact hq.elim
 | succ k ih=>rw [ev_succ]; exact evStep_ok hE ih
theorem mapO_R {F F':Nat->Prop} {w:World} {n:Nat} {m:Nat->Option Nat} {f:V->V} (hF:∀ B,F B->F' B) (hf:∀ v x,R F w v n m x->R F' w (f v) n m x):∀ (v:V),
  (∀ x,R F w v n m x->R F' w (Jf f v) n m x)/\(∀ xs,RL F w v n m xs->RL F' w (Jf f v) n m xs):=by
 have keep:∀ v,(∀ x,R F w v n m x->R F' w v n m x)/\(∀ xs,RL F w v n m xs->RL F' w v n m xs):=
  fun v=>YK (Z4.refl w) hF (fun _ _=>rfl) v n n m m (Nat.le_refl _) (fun _ _ _ h=>h)
 intro v
 induction v with
 | cons a t ih1 ih2=>
  refine ⟨fun x hx=>by simp only [R] at hx,fun xs hx=>?_⟩
  simp only [RL] at hx
  obtain ⟨x,r,rfl,h1,h2⟩:=hx
  simp only [Jf,RL]
  exact ⟨x,r,rfl,ih1.1 _ h1,ih2.2 _ h2⟩
 | tup cs ih=>
  refine ⟨fun x hx=>?_,fun xs hx=>by simp only [RL] at hx⟩
  simp only [R] at hx
  obtain ⟨xs,rfl,h1⟩:=hx
  simp only [Jf,R]
  exact ⟨xs,rfl,ih.2 _ h1⟩
 | agg cs ih=>
  refine ⟨fun x hx=>?_,fun xs hx=>by simp only [RL] at hx⟩
  simp only [R] at hx
  obtain ⟨xs,rfl,h1⟩:=hx
  simp only [Jf,R]
  exact ⟨xs,rfl,ih.2 _ h1⟩
 | osl st b es i k=>exact ⟨fun x hx=>hf _ _ hx,fun xs hx=>by simp only [RL] at hx⟩
 | osp st b es i k c=>exact ⟨fun x hx=>hf _ _ hx,fun xs hx=>by simp only [RL] at hx⟩
 | _=>exact keep _
theorem pubO_R {base:Nat} {m:Nat->Option Nat} {F:Nat->Prop} {h:Nat->Blk} {n:Nat} {w:World} (hr:HR base m F h n w):∀ (k:Nat) (v:V) (x:Value),R F w v n m x->R (fun B=>F B\/∃ b,m b = some B) w (pubO h k v) n m x:=by
 have keep:∀ v,(∀ x,R F w v n m x->R (fun B=>F B\/∃ b,m b = some B) w v n m x)/\(∀ xs,RL F w v n m xs->RL (fun B=>F B\/∃ b,m b = some B) w v n m xs):=
  fun v=>YK (Z4.refl w) (fun B h=>.inl h) (fun _ _=>rfl) v n n m m (Nat.le_refl _) (fun _ _ _ h=>h)
 intro k
 induction k with
 | zero=>intro v x hx; exact (keep v).1 x hx
 | succ k ih=>
  intro v x hx
  have hx':=JV hx
  unfold pubO
  split
  ·rename_i st b es i q hv
   rw [hv] at hx'
   split
   ·rename_i cs hb
    unfold pubRow
    cases hc:(st&&((Jf (pubO h k) cs).clean&&Nat.ble ((i + q) * es) (Jf (pubO h k) cs).len))
    ·exact (keep v).1 x hx
    simp only [cond_true]
    simp only [Bool.and_eq_true] at hc
    obtain ⟨rfl,hcl,hle⟩:=hc
    have hle':=Nat.le_of_ble_eq_true hle
    rw [Yb] at hx'
    obtain ⟨hbn,a,cap,rfl,hk,hrow⟩:=hx'
    have hblk:=hr.blk b hbn
    rw [hb] at hblk
    obtain ⟨B',xs,el',ys,zs,hm,hcell,hsp,hrl⟩:=hblk
    rw [Xk]
    refine ⟨a,cap,rfl,hk,?_⟩
    rcases hrow with h0 | ⟨B,c,el,fr,rfl,hB,hcc,hz⟩
    ·exact .inl (by omega)
    right
    obtain rfl:B = B':=by rw [hB] at hm; injection hm
    refine ⟨B,i * es,rfl,.inr ⟨b,hB⟩,xs,el',(0,0),hcell,fun j hj=>?_⟩
    have hrl1:=(mapO_R (F':=fun B=>F B\/∃ b,m b = some B) (fun B h=>.inl h) ih cs).2 _ hrl
    have hrl0:=(WU _ hcl n 0 m (fun _=>none)).2 _ hrl1
    have hlen:=Y5 _ _ hrl1
    rw [hlen] at hle'
    have hpl:=KY hsp
    have hjk:(i + j + 1) * es<=(i + q) * es:=Nat.mul_le_mul_right es (by omega)
    rw [Nat.add_mul,Nat.one_mul] at hjk
    refine ⟨(ys.drop ((i + j) * es)).take es,Kn _ _ (K8 _ _ hrl0 _) _,?_,fun q hq=>?_⟩
    ·simp; omega
    ·rw [List.getElem?_take_of_lt hq,List.getElem?_drop,<- Nat.add_mul]
     exact Jv hsp (by omega)
   ·exact (keep v).1 x hx
  ·exact (keep v).1 x hx
theorem pubT_R {P:Program} {base:Nat} {m:Nat->Option Nat} {F:Nat->Prop} {h:Nat->Blk} {n:Nat} {w:World} (hr:HR base m F h n w):∀ (v:V),
  (∀ (x:Value) (Q:V->Prop),R F w v n m x->(QA h v).holds P Q->∃ v',Q v'/\R (fun B=>F B\/∃ b,m b = some B) w v' n m x) /\
  (∀ (xs:List Value) (Q:V->Prop),RL F w v n m xs->(QA h v).holds P Q->∃ v',Q v'/\RL (fun B=>F B\/∃ b,m b = some B) w v' n m xs):=by
 have keep:∀ v,(∀ x,R F w v n m x->R (fun B=>F B\/∃ b,m b = some B) w v n m x)/\(∀ xs,RL F w v n m xs->RL (fun B=>F B\/∃ b,m b = some B) w v n m xs):=
  fun v=>YK (Z4.refl w) (fun B h=>.inl h) (fun _ _=>rfl) v n n m m (Nat.le_refl _) (fun _ _ _ h=>h)
 intro v
 induction v with
 | cons a t ih1 ih2=>
  refine ⟨fun x Q hx=>by simp only [R] at hx,fun xs Q hx hq=>?_⟩
  simp only [RL] at hx
  obtain ⟨x,r,rfl,h1,h2⟩:=hx
  simp only [QA,Tree.Ya] at hq
  obtain ⟨a',hq,g1⟩:=ih1.1 _ _ h1 hq
  obtain ⟨t',hq,g2⟩:=ih2.2 _ _ h2 hq
  exact ⟨_,hq,by simp only [RL]; exact ⟨x,r,rfl,g1,g2⟩⟩
 | tup cs ih=>
  refine ⟨fun x Q hx hq=>?_,fun xs Q hx=>by simp only [RL] at hx⟩
  simp only [R] at hx
  obtain ⟨xs,rfl,h1⟩:=hx
  simp only [QA,Tree.Ya] at hq
  obtain ⟨t',hq,g⟩:=ih.2 _ _ h1 hq
  exact ⟨_,hq,by simp only [R]; exact ⟨xs,rfl,g⟩⟩
 | agg cs ih=>
  refine ⟨fun x Q hx hq=>?_,fun xs Q hx=>by simp only [RL] at hx⟩
  simp only [R] at hx
  obtain ⟨xs,rfl,h1⟩:=hx
  simp only [QA,Tree.Ya] at hq
  obtain ⟨t',hq,g⟩:=ih.2 _ _ h1 hq
  exact ⟨_,hq,by simp only [R]; exact ⟨xs,rfl,g⟩⟩
 | osp st b es i k c=>
  refine ⟨fun x Q hx hq=>?_,fun xs Q hx=>by simp only [RL] at hx⟩
  simp only [QA] at hq
  cases hk:Nat.beq k 0
  ·rw [hk] at hq; exact ⟨_,hq,pubO_R hr _ _ _ hx⟩
  ·rw [hk] at hq
   obtain rfl:=Nat.eq_of_beq_eq_true hk
   rw [QX] at hx
   obtain ⟨_,a,cap,rfl,_,_,_⟩:=hx
   exact ⟨_,hq,by rw [Xk]; exact ⟨a,cap,rfl,Nat.zero_le _,.inl rfl⟩⟩
 | osl st b es i k=>
  refine ⟨fun x Q hx hq=>?_,fun xs Q hx=>by simp only [RL] at hx⟩
  simp only [QA] at hq
  cases hb:h b <;> rw [hb] at hq <;> try exact ⟨_,hq,(keep _).1 _ hx⟩
  ·rename_i cs
   dsimp only at hq
   cases hc:(st&&(cs.clean&&Nat.ble ((i + k) * es) cs.len))
   ·rw [hc] at hq; exact ⟨_,hq,pubO_R hr _ _ _ hx⟩
   rw [hc] at hq
   simp only [Bool.and_eq_true] at hc
   obtain ⟨rfl,h1,h2⟩:=hc
   have:=ZfV hr hx
   simp only [Zeg,V.Xo,Zcz,hb,h1,h2,Bool.and_self,cond_true] at this
   exact ⟨_,hq,this fun p hp=>by simp only [Zd9,V.Xo,ZcL,hb] at hp; cases hp⟩
  ·rename_i es' K get
   dsimp only at hq
   cases he:Nat.beq es es'
   ·rw [he] at hq; exact hq.elim
   rw [he] at hq
   obtain rfl:=Nat.eq_of_beq_eq_true he
   have key:i + k<=K->∀ st',R (fun B=>F B\/∃ b,m b = some B) w (.rsl st' es k fun j=>get (i + j)) n m x:=by
    intro hik st'
    rw [Yb] at hx
    obtain ⟨hbn,a,cap,rfl,hk,hrow⟩:=hx
    rw [Xk]
    refine ⟨a,cap,rfl,hk,?_⟩
    rcases hrow with h0 | ⟨B,c,el,fr,rfl,hB,hcc,hz⟩
    ·exact .inl (by omega)
    have hblk:=hr.blk b hbn
    rw [hb] at hblk
    rcases hblk with ⟨h0,_⟩ | ⟨B',c',el',hm,hcell,hz',hall⟩
    ·exact .inl (by omega)
    right
    obtain rfl:B = B':=by rw [hB] at hm; injection hm
    refine ⟨B,i * es,rfl,.inr ⟨b,hB⟩,c',el',(0,0),hcell,fun j hj=>?_⟩
    obtain ⟨xs,g1,g2,g3⟩:=hall (i + j) (by omega)
    refine ⟨xs,?_,g2,fun q hq=>?_⟩
    ·exact (YK (Z4.refl w) (fun B h=>.inl h) (fun _ _=>rfl) _ 0 0 _ _ (Nat.le_refl _) (fun _ _ _ h=>h)).2 _ g1
    ·rw [<- Nat.add_mul]; exact g3 q hq
   cases st
   ·exact ⟨_,hq.2,key hq.1 _⟩
   ·dsimp only at hq
    cases hle:Nat.ble (i + k) K
    ·rw [hle] at hq; exact hq.elim
    ·rw [hle] at hq; exact ⟨_,hq,key (Nat.le_of_ble_eq_true hle) _⟩
 | _=>exact ⟨fun x Q hx hq=>⟨_,hq,(keep _).1 _ hx⟩,fun xs Q hx hq=>⟨_,hq,(keep _).2 _ hx⟩⟩
theorem ZeK {E:Env} (hE:E.Ok) {k:Nat} {g:FuncId} {args v:V} (hhas:Has E.P g)
  (h:(ZQ E k g args).holds E.P fun r=>∀ (F:Nat->Prop) (w:World) (n:Nat) (m:Nat->Option Nat) (x:Value),R F w r n m x->R F w v 0 (fun _=>none) x):Zi E.P g args v:=by
 refine ⟨hhas,fun F w xs hfd hgl ha=>?_⟩
 unfold ZQ at h
 rw [Tree.Ya] at h
 have hr:HR w.heap.size (fun _=>none) F (look (fun _=>.none) .nil) 0 w:=
  ⟨Nat.le_refl _,hfd,fun b hb=>absurd hb (Nat.not_lt_zero _),fun b B hB=>(by cases hB),fun _ _=>rfl,hgl,fun b B hB=>(by cases hB),fun b b' B hB=>(by cases hB)⟩
 refine (Zbc hE (ev_ok hE k) (fun _=>.none) (.inl g) args .nil 0 w.heap.size (fun _=>none) F w xs _ (fun e w'=>∃ x F',e = .returned x/\Later F w F' w'/\R F' w' v 0 (fun _=>none) x) hr ha h
  fun r h' n' hQ m' F' w' x h1 h2 h3=>?_).2
 obtain ⟨v',hv',hR⟩:=(pubT_R h2 r).1 x _ h3 hQ
 refine ⟨x,fun B=>F' B\/∃ b,m' b = some B,rfl,⟨fun B hB=>.inl (h1.f B hB),fun B hB=>hB.elim (h1.back B) fun ⟨b,hb⟩=>.inr (h2.own b B hb).1,fun B hB=>h1.keep B (.inl hB),h1.size,fun _ B hB=>hB.elim (h2.fdom B) fun ⟨b,hb⟩=>h2.dom b B hb,h1.calm⟩,hv' _ w' n' m' x hR⟩
end Go.Fw
namespace Go.Fw
def V.soft:V->V
 | .cons h t=>.cons h.soft t.soft
 | .int _ k n=>.int false k n
 | .bool _ b=>.bool false b
 | .str _ s=>.str false s
 | .agg cs=>.agg cs.soft
 | .tup vs=>.tup vs.soft
 | .ptr _ b es i o=>.ptr false b es i o
 | .rptr _ es n get i o=>.rptr false es n (fun j=>(get j).soft) i o
 | .rsl _ es n get=>.rsl false es n fun j=>(get j).soft
 | .osl _ b es i n=>.osl false b es i n
 | .osp _ b es i n c=>.osp false b es i n c
 | .fn f a b=>.fn f a.soft b.soft
 | .ifc _ b=>.ifc false b
 | v=>v
theorem Y7 {F:Nat->Prop} {w:World}:∀ (v:V) (n:Nat) (m:Nat->Option Nat),(∀ x,R F w v.soft n m x↔R F w v n m x)/\(∀ xs,RL F w v.soft n m xs↔RL F w v n m xs):=by
 intro v
 induction v with
 | cons h t ih1 ih2=>
  intro n m
  refine ⟨fun x=>by simp only [V.soft,R],fun xs=>?_⟩
  simp only [V.soft,RL,(ih1 n m).1,(ih2 n m).2]
 | agg cs ih=>intro n m; exact ⟨fun x=>by simp only [V.soft,R,(ih n m).2],fun xs=>by simp only [V.soft,RL]⟩
 | tup cs ih=>intro n m; exact ⟨fun x=>by simp only [V.soft,R,(ih n m).2],fun xs=>by simp only [V.soft,RL]⟩
 | fn f a b ih1 ih2=>intro n m; exact ⟨fun x=>by simp only [V.soft,R,(ih1 n m).2,(ih2 n m).2],fun xs=>by simp only [V.soft,RL]⟩
 | rptr st es k get i o ih=>intro n m; exact ⟨fun x=>by simp only [V.soft,R,fun j=>(ih j 0 fun _=>none).2],fun xs=>by simp only [V.soft,RL]⟩
 | rsl st es k get ih=>intro n m; exact ⟨fun x=>by simp only [V.soft,R,fun j=>(ih j 0 fun _=>none).2],fun xs=>by simp only [V.soft,RL]⟩
 | _=>intro n m; exact ⟨fun x=>by simp only [V.soft,R],fun xs=>by simp only [V.soft,RL]⟩
theorem Zi.ZbS {P:Program} {g:FuncId} {args v:V} (h:Zi P g args.soft v):Zi P g args v:=
 ⟨h.1,fun F w xs hfd hgl ha=>h.2 F w xs hfd hgl (((Y7 args 0 _).2 _).2 ha)⟩
structure Con where
 g:FuncId
 ans:V->Option Ans
 al:Bool:=false
def Con.Ok (P:Program) (c:Con):Prop:=
 ∀ args,match c.ans args with
  | some (.sure v)=>Zi P c.g args v
  | some (.where_ p v)=>p->Zi P c.g args v
  | some (.fork b v v')=>(b = true->Zi P c.g args v)/\(b = false->Zi P c.g args v')
  | none=>True
def QE:List Con->FuncId->V->Option Ans
 | [],_,_=>none
 | c :: l,g,args=>bif Nat.beq g c.g then (match c.al with
   | true=>c.ans args
   | false=>bif args.known then none else c.ans args.soft) else QE l g args
def Wy (P:Program):List Con->Prop
 | []=>True
 | c :: l=>c.Ok P/\Wy P l
structure Lp where
 f:FuncId
 id:Nat
 g:(B:Base)->St B->Tree (Ex×St B)
def Lp.Ok (P:Program) (l:Lp):Prop:=∀ body,XI P l.f body->Qp body = some l.id->ZdS P body l.g
def K9:List Lp->FuncId->Nat->Option ((B:Base)->St B->Tree (Ex×St B))
 | [],_,_=>none
 | c :: l,f,i=>bif Nat.beq f c.f&&Nat.beq i c.id then some c.g else K9 l f i
def AllLp (P:Program):List Lp->Prop
 | []=>True
 | c :: l=>c.Ok P/\AllLp P l
theorem lookL_ok {P:Program}:∀ (l:List Lp),AllLp P l->∀ f i g,K9 l f i = some g->∀ body,XI P f body->Qp body = some i->ZdS P body g:=by
 intro l
 induction l with
 | nil=>intro _ f i g h; cases h
 | cons c l ih=>
  intro hl f i g h body hin hfr
  simp only [K9] at h
  cases he:Nat.beq f c.f&&Nat.beq i c.id
  ·rw [he] at h; exact ih hl.2 f i g h body hin hfr
  ·rw [he] at h
   simp only [Bool.and_eq_true] at he
   obtain rfl:=Nat.eq_of_beq_eq_true he.1
   obtain rfl:=Nat.eq_of_beq_eq_true he.2
   injection h with h
   subst h
   exact hl.1 body hin hfr
def ZbR (P : Program) : Bool := P.funcs.toList.all fun fn => !(fn.name == "runtime.NumGoroutine")
theorem Zu {P:Program} (hm:P.follows .mixedOrders = true) (hn:ZbR P = true) {l:List Con} (h:Wy P l) {ls:List Lp} (hls:AllLp P ls) (mg:Bool):Env.Ok { P,Γ:=QE l,lp:=K9 ls,mg }:=by
 have key:∀ (l:List Con),Wy P l->∀ g args,match QE l g args with | some (.sure v)=>Zi P g args v | some (.where_ p v)=>p->Zi P g args v | some (.fork b v v')=>(b = true->Zi P g args v)/\(b = false->Zi P g args v') | none=>True:=by
  intro l
  induction l with
  | nil=>intro _ g args; trivial
  | cons c l ih=>
   intro hl g args
   simp only [QE]
   cases he:Nat.beq g c.g
   ·exact ih hl.2 g args
   ·obtain rfl:=Nat.eq_of_beq_eq_true he
    simp only [cond_true]
    cases hal:c.al with
    | true=>exact hl.1 args
    | false=>
     dsimp only
     cases hkn:args.known
     ·simp only [cond_false]
      have:=hl.1 args.soft
      cases hc:c.ans args.soft with
      | none=>trivial
      | some a=>
       rw [hc] at this
       cases a with
       | sure v=>exact Zi.ZbS this
       | where_ p v=>exact fun hp=>Zi.ZbS (this hp)
       | fork b v v'=>exact ⟨fun h=>Zi.ZbS (this.1 h),fun h=>Zi.ZbS (this.2 h)⟩
     ·trivial
 refine ⟨hm,fun g fn hf=>?_,fun g args v h'=>?_,fun g args p v h' hp=>?_,fun g args b v v' h'=>?_,fun f body g hin h'=>?_,fun g K h'=>(by cases h')⟩
 ·have hmem:fn ∈ P.funcs.toList:=Array.mem_toList_iff.2 (Array.mem_of_getElem? hf)
  have:=List.all_eq_true.1 hn fn hmem
  simpa using this
 ·have:=key l h g args; rw [show QE l g args = _ from h'] at this; exact this
 ·have:=key l h g args; rw [show QE l g args = _ from h'] at this; exact this hp
 ·have:=key l h g args; rw [show QE l g args = _ from h'] at this; exact this
 ·unfold Wv at h'
  split at h'
  ·rename_i i hi; exact lookL_ok ls hls f i g h' body hin hi
  ·cases h'
structure Hc where
 g:FuncId
 k:HK
def WR:List Hc->FuncId->Option HK
 | [],_=>none
 | c :: l,g=>bif Nat.beq g c.g then some c.k else WR l g
def AllHk (P:Program):List Hc->Prop
 | []=>True
 | c :: l=>Xj P c.g c.k/\AllHk P l
theorem lookH_ok {P:Program}:∀ (l:List Hc),AllHk P l->∀ g K,WR l g = some K->Xj P g K:=by
 intro l
 induction l with
 | nil=>intro _ g K h; cases h
 | cons c l ih=>
  intro hl g K h
  unfold WR at h
  cases he:Nat.beq g c.g with
  | true=>
   rw [he] at h
   injection h with h
   rw [Nat.eq_of_beq_eq_true he,<- h]
   exact hl.1
  | false=>rw [he] at h; exact ih hl.2 g K h
theorem Env.Ok.JU {E:Env} (hE:E.Ok) {l:List Hc} (h:AllHk E.P l):Env.Ok { E with hk:=WR l }:=
 ⟨hE.mixed,hE.named,hE.sure,hE.where_,hE.fork,hE.lp,lookH_ok l h⟩
theorem meets {E:Env} (hE:E.Ok) (k:Nat) {g:FuncId} {args v:V} {T:Tree V} (hhas:Has E.P g) (hT:ZQ E k g args = T)
  (h:T.holds E.P fun r=>r.soft.clean = true/\r.soft = v.soft):Zi E.P g args v:=by
 refine ZeK hE (k:=k) hhas ?_
 rw [hT]
 refine Tree.Xh T (fun r hr F w n m x hx=>?_) h
 have h1:=((Y7 r n m).1 x).2 hx
 have h2:=(WU r.soft hr.1 n 0 m (fun _=>none)).1 x h1
 rw [hr.2] at h2
 exact ((Y7 v 0 _).1 x).1 h2
theorem Has.of {P:Program} {g:FuncId} {fn:Func} {c:Code} (hn:ZbR P = true) (hf:P.funcs[g]? = some fn) (hb:fn.body = some c):Has P g:=by
 refine ⟨fn,c,hf,hb,?_⟩
 have hmem:fn ∈ P.funcs.toList:=Array.mem_toList_iff.2 (Array.mem_of_getElem? hf)
 have:=List.all_eq_true.1 hn fn hmem
 simpa using this
end Go.Fw
namespace Go.Fw
def Tree.join:Tree V->V
 | .leaf v=>v.soft
 | .node b t f=>Kg b t.join f.join
 | .need _ t=>t.join
 | _=>.junk
def Tree.total {α:Type}:Tree α->Bool
 | .leaf _=>true
 | .node _ t f=>t.total&&f.total
 | _=>false
def Tree.pre {α:Type}:Tree α->Prop
 | .leaf _=>True
 | .node b t f=>(b = true->t.pre)/\(b = false->f.pre)
 | .need p t=>p/\t.pre
 | _=>False
theorem Tree.ZgV {α:Type}:∀ T:Tree α,T.total = true->T.pre:=by
 intro T
 induction T with
 | leaf a=>intro _; trivial
 | node b t f iht ihf=>intro h; simp only [Tree.total,Bool.and_eq_true] at h; exact ⟨fun _=>iht h.1,fun _=>ihf h.2⟩
 | _=>intro h; cases h
def Tree.Yu:Tree V->Bool
 | .leaf v=>v.clean
 | .node _ t f=>t.Yu&&f.Yu
 | .need _ t=>t.Yu
 | _=>true
theorem Tree.Zh9 {P:Program}:∀ T:Tree V,T.pre->T.Yu = true ->
  T.holds P fun r=>∀ (F:Nat->Prop) (w:World) (n:Nat) (m:Nat->Option Nat) (x:Value),R F w r n m x->R F w r 0 (fun _=>none) x/\R F w T.join 0 (fun _=>none) x:=by
 intro T
 induction T with
 | leaf v=>
  intro _ hc F w n m x hx
  have h1:=(WU v hc n 0 m (fun _=>none)).1 x hx
  exact ⟨h1,((Y7 v 0 _).1 x).2 h1⟩
 | node b t f iht ihf=>
  intro hp hc
  simp only [Tree.Yu,Bool.and_eq_true] at hc
  refine ⟨fun hb=>Tree.Xh t (fun r hr F w n m x hx=>?_) (iht (hp.1 hb) hc.1),fun hb=>Tree.Xh f (fun r hr F w n m x hx=>?_) (ihf (hp.2 hb) hc.2)⟩
  ·subst hb
   obtain ⟨h1,h2⟩:=hr F w n m x hx
   exact ⟨h1,Ku h2⟩
  ·subst hb
   obtain ⟨h1,h2⟩:=hr F w n m x hx
   exact ⟨h1,Ku h2⟩
 | need p t ih=>intro hp hc; exact ⟨hp.1,ih hp.2 hc⟩
 | _=>intro hp; exact hp.elim
theorem ZeR {E:Env} (hE:E.Ok) (k:Nat) {g:FuncId} {args v:V} (hhas:Has E.P g) (hp:(ZQ E k g args).pre) (hc:(ZQ E k g args).Yu = true) (hv:(ZQ E k g args).join = v):Zi E.P g args v:=by
 refine ZeK hE (k:=k) hhas (Tree.Xh _ (fun r hr F w n m x hx=>?_) (Tree.Zh9 _ hp hc))
 rw [<- hv]
 exact (hr F w n m x hx).2
structure Tree.Pre {α:Type} (T:Tree α):Prop where
 h:T.pre
theorem YI {E:Env} {T:Tree V} (hE:E.Ok) (k:Nat) {g:FuncId} {args v:V} (hhas:Has E.P g) (hT:ZQ E k g args = T) (hp:T.Pre) (hc:T.Yu = true) (hv:T.join = v):Zi E.P g args v:=by
 subst hT
 exact ZeR hE k hhas hp.h hc hv
def V.toInt:V->Int
 | .int _ _ n=>n
 | _=>0
def V.toBool:V->Bool
 | .bool _ b=>b
 | _=>false
def V.at:V->Nat->V
 | .agg cs,i=>cs.nth i
 | .tup cs,i=>cs.nth i
 | _,_=>.junk
end Go.Fw
end
