/- A region that draws its order: its operations in the order of the text serve for every order. -/
import Derived.Test.YtnjjailadijdlaaGreatDoorMAh
set_option maxRecDepth 100000
set_option linter.unusedVariables false
set_option linter.unusedSimpArgs false
noncomputable section
namespace Go.Fw
def XC (m:Nat->Option Nat) (n:Nat):Nat->Option Nat:=fun b=>if b < n then m b else none
theorem GL {F:Nat->Prop} {w:World} {n0:Nat} {m:Nat->Option Nat}:∀ (v:V) (n:Nat),v.YX n0 = true->(∀ x,R F w v n m x->R F w v n0 (XC m n0) x)/\(∀ xs,RL F w v n m xs->RL F w v n0 (XC m n0) xs):=by
 intro v
 induction v with
 | cons h t ih1 ih2=>
  intro n hb
  simp only [V.YX,Bool.and_eq_true] at hb
  refine ⟨fun x h=>by simp only [R] at h,fun xs h=>?_⟩
  simp only [RL] at h ⊢
  obtain ⟨x,r,rfl,h1,h2⟩:=h
  exact ⟨x,r,rfl,(ih1 n hb.1).1 _ h1,(ih2 n hb.2).2 _ h2⟩
 | agg cs ih=>
  intro n hb
  refine ⟨fun x h=>?_,fun xs h=>by simp only [RL] at h⟩
  simp only [R] at h ⊢
  obtain ⟨xs,rfl,h1⟩:=h
  exact ⟨xs,rfl,(ih n hb).2 _ h1⟩
 | tup cs ih=>
  intro n hb
  refine ⟨fun x h=>?_,fun xs h=>by simp only [RL] at h⟩
  simp only [R] at h ⊢
  obtain ⟨xs,rfl,h1⟩:=h
  exact ⟨xs,rfl,(ih n hb).2 _ h1⟩
 | fn f a b ih1 ih2=>
  intro n hb
  simp only [V.YX,Bool.and_eq_true] at hb
  refine ⟨fun x h=>?_,fun xs h=>by simp only [RL] at h⟩
  simp only [R] at h ⊢
  obtain ⟨xs,ys,rfl,h1,h2⟩:=h
  exact ⟨xs,ys,rfl,(ih1 n hb.1).2 _ h1,(ih2 n hb.2).2 _ h2⟩
 | ptr st b es i o=>
  intro n hb
  have hb':b < n0:=by simpa [V.YX,Nat.blt_eq] using hb
  refine ⟨fun x h=>?_,fun xs h=>by simp only [RL] at h⟩
  simp only [R] at h ⊢
  obtain ⟨_,B,hx,h⟩:=h
  exact ⟨hb',B,hx,by unfold XC; rw [if_pos hb']; exact h⟩
 | osl st b es i k=>
  intro n hb
  have hb':b < n0:=by simpa [V.YX,Nat.blt_eq] using hb
  refine ⟨fun x h=>?_,fun xs h=>by simp only [RL] at h⟩
  simp only [R] at h ⊢
  obtain ⟨_,a,cap,hx,hk,h⟩:=h
  exact ⟨hb',a,cap,hx,hk,h.imp id fun ⟨B,c,el,fr,ha,h,hc⟩=>⟨B,c,el,fr,ha,by unfold XC; rw [if_pos hb']; exact h,hc⟩⟩
 | osp st b es i k c=>
  intro n hb
  have hb':b < n0:=by simpa [V.YX,Nat.blt_eq] using hb
  refine ⟨fun x h=>?_,fun xs h=>by simp only [RL] at h⟩
  simp only [R] at h ⊢
  obtain ⟨_,a,cap,hx,hk,hk2,h⟩:=h
  exact ⟨hb',a,cap,hx,hk,hk2,h.imp id fun ⟨B,c,el,fr,ha,h,hc⟩=>⟨B,c,el,fr,ha,by unfold XC; rw [if_pos hb']; exact h,hc⟩⟩
 | yld b=>
  intro n hb
  have hb':b < n0:=by simpa [V.YX,Nat.blt_eq] using hb
  refine ⟨fun x h=>?_,fun xs h=>by simp only [RL] at h⟩
  simp only [R] at h ⊢
  obtain ⟨_,l,hx,h⟩:=h
  exact ⟨hb',l,hx,by unfold XC; rw [if_pos hb']; exact h⟩
 | mp b=>
  intro n hb
  have hb':b < n0:=by simpa [V.YX,Nat.blt_eq] using hb
  refine ⟨fun x h=>?_,fun xs h=>by simp only [RL] at h⟩
  simp only [R] at h ⊢
  obtain ⟨_,l,hx,h⟩:=h
  exact ⟨hb',l,hx,by unfold XC; rw [if_pos hb']; exact h⟩
 | rptr st es k get i o ih=>
  intro n _
  exact ⟨fun x h=>by simp only [R] at h ⊢; exact h,fun xs h=>by simp only [RL] at h⟩
 | rsl st es k get ih=>
  intro n _
  exact ⟨fun x h=>by simp only [R] at h ⊢; exact h,fun xs h=>by simp only [RL] at h⟩
 | nil=>intro n _; exact ⟨fun x h=>by simp only [R] at h,fun xs h=>by simp only [RL] at h ⊢; exact h⟩
 | junk=>intro n _; exact ⟨fun x h=>by simp only [R],fun xs h=>by simp only [RL] at h⟩
 | _=>intro n _; exact ⟨fun x h=>by simp only [R] at h ⊢; exact h,fun xs h=>by simp only [RL] at h⟩
theorem Tree.pick {α:Type} {P:Program}:∀ (T:Tree α) {Q:α->Prop},T.flat = true->T.holds P Q->∃ r,T.holds P (fun x=>x = r)/\Q r:=by
 intro T
 induction T with
 | leaf a=>exact fun _ h=>⟨a,rfl,h⟩
 | stuck=>exact fun _ h=>h.elim
 | node b t f iht ihf=>
  intro Q hf h
  simp only [Tree.flat,Bool.and_eq_true] at hf
  cases b with
  | true=>obtain ⟨r,h1,h2⟩:=iht hf.1 (h.1 rfl); exact ⟨r,⟨fun _=>h1,fun h=>by cases h⟩,h2⟩
  | false=>obtain ⟨r,h1,h2⟩:=ihf hf.2 (h.2 rfl); exact ⟨r,⟨(fun h=>by cases h),fun _=>h1⟩,h2⟩
 | need p t ih=>intro Q hf h; obtain ⟨r,h1,h2⟩:=ih hf h.2; exact ⟨r,⟨h.1,h1⟩,h2⟩
 | all σ t _=>intro Q hf; cases hf
 | given p t _=>intro Q hf; cases hf
 | both t f _ _=>intro Q hf; cases hf
theorem bfOf_bit (after:Array Edge) (acc:List Nat) (e:Nat) (h:(bfOf after acc).testBit e = true) :
  ∃ ed ∈ after.toList,Region.binds .any ed = true/\(e = ed.on\/(acc.getD ed.on 0).testBit e = true):=by
 have key:∀ (l:List Edge) (s:Nat),(l.foldl (fun s e=>if Region.binds .any e then s ||| 2 ^ e.on ||| acc.getD e.on 0 else s) s).testBit e = true ->
   s.testBit e = true\/∃ ed ∈ l,Region.binds .any ed = true/\(e = ed.on\/(acc.getD ed.on 0).testBit e = true):=by
  intro l
  induction l with
  | nil=>exact fun s h=>.inl h
  | cons ed l ih=>
   intro s h
   simp only [List.foldl_cons] at h
   rcases ih _ h with h1 | ⟨ed',h1,h2⟩
   ·split at h1
    ·rename_i hb
     simp only [Nat.testBit_or,Bool.or_eq_true] at h1
     rcases h1 with (h1 | h1) | h1
     ·exact .inl h1
     ·rw [Nat.testBit_two_pow] at h1
      exact .inr ⟨ed,by simp,hb,.inl (of_decide_eq_true h1).symm⟩
     ·exact .inr ⟨ed,by simp,hb,.inr h1⟩
    ·exact .inl h1
   ·exact .inr ⟨ed',List.mem_cons_of_mem _ h1,h2⟩
 rcases key _ _ h with h | h
 ·simp at h
 ·exact h
theorem bfs_spec (ops:List Oper):∀ (l:List Oper) (acc:List Nat),acc.length + l.length = ops.length->(∀ i,l[i]? = ops[acc.length + i]?) ->
  (∀ i,i < acc.length->∀ o,ops[i]? = some o->∀ e,(acc.getD i 0).testBit e = true->∃ ed ∈ o.after.toList,Region.binds .any ed = true/\(e = ed.on\/(acc.getD ed.on 0).testBit e = true)) ->
  ∀ i o,ops[i]? = some o->∀ e,((bfs l acc).getD i 0).testBit e = true->∃ ed ∈ o.after.toList,Region.binds .any ed = true/\(e = ed.on\/((bfs l acc).getD ed.on 0).testBit e = true):=by
 intro l
 induction l with
 | nil=>
  intro acc hl _ h i o ho e he
  have hi:i < acc.length:=by
   rcases Nat.lt_or_ge i ops.length with h' | h'
   ·simp at hl; omega
   ·rw [List.getElem?_eq_none h'] at ho; cases ho
  exact h i hi o ho e he
 | cons o rest ih=>
  intro acc hl hget h
  simp only [bfs,Gy]
  have grow:∀ k e,(acc.getD k 0).testBit e = true->((acc ++ [bfOf o.after acc]).getD k 0).testBit e = true:=by
   intro k e he
   by_cases hk:k < acc.length
   ·rw [List.getD_eq_getElem?_getD,List.getElem?_append_left hk,<- List.getD_eq_getElem?_getD]; exact he
   ·rw [List.getD_eq_getElem?_getD,List.getElem?_eq_none (by omega)] at he; simp at he
  refine ih (acc ++ [bfOf o.after acc]) (by simp at hl ⊢; omega) (fun i=>?_) (fun i hi o' ho' e he=>?_)
  ·have:=hget (i + 1)
   simp only [List.getElem?_cons_succ,List.length_append,List.length_cons,List.length_nil] at this ⊢
   rw [this]
   congr 1
   omega
  ·by_cases hlt:i < acc.length
   ·rw [List.getD_eq_getElem?_getD,List.getElem?_append_left hlt,<- List.getD_eq_getElem?_getD] at he
    obtain ⟨ed,h1,h2,h3⟩:=h i hlt o' ho' e he
    exact ⟨ed,h1,h2,h3.imp id (grow _ _)⟩
   ·have hie:i = acc.length:=by simp at hi; omega
    subst hie
    have h0:=hget 0
    simp only [List.getElem?_cons_zero,Nat.add_zero] at h0
    rw [<- h0] at ho'
    injection ho' with ho'
    subst ho'
    rw [List.getD_eq_getElem?_getD,List.getElem?_append_right (Nat.le_refl _)] at he
    simp only [Nat.sub_self,List.getElem?_cons_zero,Option.getD_some] at he
    obtain ⟨ed,h1,h2,h3⟩:=bfOf_bit _ _ _ he
    exact ⟨ed,h1,h2,h3.imp id (grow _ _)⟩
def Wi {B:Base} (s:St B) (kn:List (Nat×Bool)):Prop:=∀ p ∈ kn,s.tmp p.1 = .bool false p.2
def StepD (E:Env) (call:YL) (ops:Array Oper) (nb nm:Nat) (o:Oper) {B:Base} (s s':St B) (f:Ft):Prop:=
 (∃ (r:V×Option (Nat×Blk)) (kn:List (Nat×Bool)),truth ops s.tmp o = some true/\Wi s kn/\(∀ p ∈ kn,p.1 ∈ looks ops o)/\(evD E call s nb ops.size nm kn o.op).flat = true /\
  ((evD E call s nb ops.size nm kn o.op).holds E.P fun x=>x = r)/\YW s.N o = true/\s' = (s.wr r.2).put o.dst r.1/\f = foot s nm o.op) \/
 (∃ (r:V×PT Blk×Nat),truth ops s.tmp o = some true/\J6 o.op = true/\((YR E call s.sub o.op).holds E.P fun x=>x = r)/\YW s.N o = true/\UL s.n r = true/\s' = s.put o.dst r.1/\f = Kz) \/
 (∃ (r:V×PT Blk×Nat),truth ops s.tmp o = some true/\J6 o.op = true/\((YR E call s.sub o.op).holds E.P fun x=>x = r)/\YW s.N o = true/\s' = ({ s with h:=s.h.over r.2.1,n:=r.2.2 }:St B).put o.dst r.1/\f = Qv r.2.1) \/
 (truth ops s.tmp o = some false/\YW s.N o = true/\s' = s.put o.dst .undef/\f = W9)
theorem ZlT (nb sz:Nat) (a:Ft):clash nb sz a W9 = false:=by
 obtain ⟨m,l,q,w⟩:=a
 cases m with
 | none=>cases l <;> rfl
 | some x=>obtain ⟨w,c⟩:=x; cases c <;> cases l <;> rfl
theorem St.wr_N {B:Base} (s:St B) (x:Option (Nat×Blk)):(s.wr x).N = s.N:=by cases x <;> rfl
theorem St.wr_n {B:Base} (s:St B) (x:Option (Nat×Blk)):(s.wr x).n = s.n:=by cases x <;> rfl
theorem St.wr_t {B:Base} (s:St B) (x:Option (Nat×Blk)):(s.wr x).t = s.t:=by cases x <;> rfl
theorem St.Ky {B:Base} (s:St B) (d:Option Tmp) (v:V):(s.put d v).N = s.N:=by cases d <;> rfl
theorem St.QT {B:Base} (s:St B) (d:Option Tmp) (v:V):(s.put d v).n = s.n:=by cases d <;> rfl
theorem St.KD {B:Base} (s:St B) (d:Option Tmp) (v:V):(s.put d v).h = s.h:=by cases d <;> rfl
def Tree.All {α:Type} (p:α->Prop):Tree α->Prop
 | .leaf a=>p a
 | .stuck=>True
 | .node _ t f=>t.All p/\f.All p
 | .need _ t=>t.All p
 | .all _ t=>∀ x,(t x).All p
 | .given _ t=>t.All p
 | .both t f=>t.All p/\f.All p
theorem Tree.Zbg {α β:Type} {p:β->Prop} {k:α->Tree β} (h:∀ a,(k a).All p):∀ T:Tree α,(T.bind k).All p:=by
 intro T
 induction T with
 | leaf a=>exact h a
 | stuck=>trivial
 | node b t f iht ihf=>exact ⟨iht,ihf⟩
 | need q t ih=>exact ih
 | all σ t ih=>exact fun x=>ih x
 | given p t ih=>exact ih
 | both t f iht ihf=>exact ⟨iht,ihf⟩
theorem Tree.All_bindA {α β:Type} {p:β->Prop} {q:α->Prop} {k:α->Tree β} (h:∀ a,q a->(k a).All p):∀ T:Tree α,T.All q->(T.bind k).All p:=by
 intro T
 induction T with
 | leaf a=>exact h a
 | stuck=>exact fun _=>trivial
 | node b t f iht ihf=>exact fun hT=>⟨iht hT.1,ihf hT.2⟩
 | need q t ih=>exact ih
 | all σ t ih=>exact fun hT x=>ih x (hT x)
 | given p t ih=>exact ih
 | both t f iht ihf=>exact fun hT=>⟨iht hT.1,ihf hT.2⟩
theorem Zli {α:Type} {q:α->Prop} {p:Option Prop} {T:Tree α} (h:T.All q):(Uk p T).All q:=by
 cases p <;> exact h
theorem Tree.All_holds {α:Type} {P:Program} {p:α->Prop}:∀ (T:Tree α) {Q:α->Prop},T.flat = true->T.All p->T.holds P Q->∃ r,p r/\Q r:=by
 intro T Q hf ha h
 induction T with
 | leaf a=>exact ⟨a,ha,h⟩
 | stuck=>exact h.elim
 | node b t f iht ihf=>
  simp only [Tree.flat,Bool.and_eq_true] at hf
  cases b with
  | true=>exact iht hf.1 ha.1 (h.1 rfl)
  | false=>exact ihf hf.2 ha.2 (h.2 rfl)
 | need q t ih=>exact ih hf ha h.2
 | all σ t _=>cases hf
 | given p t _=>cases hf
 | both t f _ _=>cases hf
theorem Zgo {P:Program} {h:Nat->Blk} {t:TypeId} {x k:V} {y:Bool×V} {bb:Nat×Blk} (hp:XM P h t x k y = some bb):x = .mp bb.1:=by
 unfold XM at hp
 split at hp
 case h_2=>cases hp
 split at hp
 case h_2=>cases hp
 split at hp
 case h_2=>cases hp
 split at hp
 case h_2=>cases hp
 split at hp
 case h_2=>cases hp
 injection hp with hp
 rw [<- hp]
theorem Zhq {P:Program} {h h':Nat->Blk} {t:TypeId} {x k:V} {y:Bool×V} (hb:∀ b,x = .mp b->h b = h' b):XM P h t x k y = XM P h' t x k y:=by
 unfold XM
 cases x <;> try rfl
 dsimp only
 rw [hb _ rfl]
theorem ZlZ {P:Program} {h h':Nat->Blk} {t:TypeId} {x ix:V} {ok:Bool} (hb:∀ b,x = .mp b->h b = h' b):Gc P h t x ix ok = Gc P h' t x ix ok:=by
 unfold Gc
 cases x <;> try rfl
 dsimp only
 rw [hb _ rfl]
theorem ZbL {B:Base} {s:St B} {nm:Nat} {blk:Blk} {v:V} {p:V×Option (Nat×Blk)->Prop} (h1:∀ v blk,p (v,some (nm,blk))):(Xq s nm blk v).All p:=by
 unfold Xq
 cases s.blk nm <;> first | trivial | exact h1 _ _
theorem Zge {B:Base} {s:St B} {nm:Nat} {rl:Bool} {r:V×PT Blk×Nat} {p:V×Option (Nat×Blk)->Prop} (h0:∀ v,p (v,none)) (h1:∀ v blk,p (v,some (nm,blk))):(Ua s nm rl r).All p:=by
 unfold Ua
 cases (r.1.clean&&(!rl || r.1.YG))
 ·simp only [cond_false]
  cases r.1 <;> try trivial
  rename_i st b es i n
  dsimp only
  cases look (fun _=>Blk.none) r.2.1 b <;> try trivial
  ·rename_i cs
   dsimp only
   cases (cs.clean&&(!rl || cs.YG))
   ·trivial
   ·exact ZbL h1
  ·rename_i es' k get
   dsimp only
   cases rl
   ·exact ZbL h1
   ·cases st
    ·exact ZbL h1
    ·dsimp only
     cases XB k (fun j=>(get j).YG)
     ·trivial
     ·exact ZbL h1
 ·exact h0 _
theorem ZhG {B:Base} {s:St B} {nm:Nat} {rl:Bool} {r:V×PT Blk×Nat} {p:V×Option (Nat×Blk)->Prop} (h0:∀ v,p (v,none)) (h1:∀ v blk,p (v,some (nm,blk))):(layR s nm rl r).All p:=by
 obtain ⟨v,h',n'⟩:=r
 unfold layR
 dsimp only
 split
 ·exact Tree.All_bindA (p:=p) (q:=fun (r:V×Option (Nat×Blk))=>∀ u,p (u,r.2)) (k:=fun x=>.leaf (.agg (.cons x.1 .nil),x.2)) (fun a ha=>by show p (_,a.2); exact ha _) _ (Zge (fun v u=>h0 u) (fun v blk u=>h1 u blk))
 ·exact Zge h0 h1
theorem ZhO {E:Env} {call:YL} {B:Base} {s:St B} {nm:Nat} {g:FuncId} {fa:V} {p:V×Option (Nat×Blk)->Prop} (h0:∀ v,p (v,none)) (h1:∀ v blk,p (v,some (nm,blk))):(Kj E call s nm g fa).All p:=by
 unfold Kj
 cases E.Γ g fa with
 | none=>exact Tree.Zbg (fun r=>ZhG h0 h1) _
 | some a=>
  cases a with
  | sure v=>dsimp only; cases (v.clean&&v.YG); exact trivial; exact h0 _
  | where_ q v=>dsimp only; cases (v.clean&&v.YG); exact trivial; exact h0 _
  | fork b v v'=>exact trivial
theorem evD_All {E:Env} {call:YL} {B:Base} {s:St B} {nb sz nm:Nat} {kn:List (Nat×Bool)} {o:Op}:(evD E call s nb sz nm kn o).All fun r=>r.2 = none\/∃ b blk,r.2 = some (b,blk)/\((foot s nm o).m = some (true,some b)\/(foot s nm o).l = some b):=by
 have quiet:∀ (o:Op),(evDQ E call s nb sz nm kn o).All fun r=>r.2 = none\/∃ b blk,r.2 = some (b,blk)/\((foot s nm o).m = some (true,some b)\/(foot s nm o).l = some b):=by
  intro o
  unfold evDQ
  cases evQ E (Zx s kn) s.blk o with
  | none=>
   dsimp only
   unfold evVal
   cases o <;> try trivial
   rename_i c
   dsimp only
   cases hcal:c.callee <;> try trivial
   rename_i f
   have hl:(foot s nm (.call c)).l = some nm:=by simp only [foot,hcal]
   generalize (Vs (foot s nm (.call c)).m (seen nb sz s.blk)) = hh
   dsimp only
   cases callee (Zx s kn f) (.ofList (c.args.toList.map (Zx s kn))) with
   | none=>trivial
   | some r=>
    dsimp only
    cases r.2.clean
    ·simp only [cond_false]
     cases (freeze hh r.2).clean
     ·simp only [cond_false]
      cases (fz hh 6 r.2).clean
      ·trivial
      ·exact ZhO (fun v=>.inl rfl) (fun v blk=>.inr ⟨_,_,rfl,.inr hl⟩)
     ·exact Zli (ZhO (fun v=>.inl rfl) (fun v blk=>.inr ⟨_,_,rfl,.inr hl⟩))
    ·exact Tree.Zbg (fun a=>ZhG (fun v=>.inl rfl) (fun v blk=>.inr ⟨_,_,rfl,.inr hl⟩)) _
  | some T=>refine Tree.Zbg ?_ T; intro a; exact Or.inl rfl
 have new:∀ (cs:Blk) (v:V) {o:Op},(foot s nm o).l = some nm->(Xq s nm cs v).All fun r=>r.2 = none\/∃ b blk,r.2 = some (b,blk)/\((foot s nm o).m = some (true,some b)\/(foot s nm o).l = some b):=by
  intro cs v o hf
  exact ZbL fun v blk=>Or.inr ⟨_,_,rfl,.inr hf⟩
 cases o with
 | store t a x=>
  simp only [evD,Zb6]
  cases ZB E.P t with
  | none=>trivial
  | some z=>
   dsimp only
   cases (Nat.beq (Zx s kn x).cells.len z&&((Zx s kn x).cells.Xp&&(Zx s kn x).solid))
   ·trivial
   ·simp only [cond_true,foot]
    cases Zg s a <;> try trivial
    refine Tree.Zbg ?_ _
    intro blk
    exact Or.inr ⟨_,_,rfl,.inl rfl⟩
 | load t a=>simp only [evD]; refine Tree.Zbg ?_ _; intro v; exact Or.inl rfl
 | alloc t=>
  simp only [evD]
  cases Xc E.P t with
  | none=>trivial
  | some cs=>exact new _ _ rfl
 | box t x=>
  simp only [evD]
  cases (Zx s kn x).solid
  ·trivial
  ·exact new _ _ rfl
 | buildSlice t len ps=>
  simp only [evD]
  cases KN E.P t len (ps.toList.map fun p=>(p.1,Zx s kn p.2)) with
  | none=>trivial
  | some zc=>exact new _ _ rfl
 | makeSlice t len cap=>
  simp only [evD]
  cases UW E.P t (Zx s kn len) (Zx s kn cap) with
  | none=>trivial
  | some zc=>exact new _ _ rfl
 | makeMap t r=>
  simp only [evD]
  cases Vk E.P t (r.map (Zx s kn)) with
  | none=>trivial
  | some blk=>exact new _ _ rfl
 | mapUpdate t mx k x=>
  simp only [evD]
  cases hz:XM E.P s.blk t (Zg s mx) (Zx s kn k) (true,Zx s kn x) with
  | none=>trivial
  | some bb=>exact Or.inr ⟨_,_,rfl,.inl (by simp only [foot]; rw [Zgo hz])⟩
 | insert t mx k x=>
  simp only [evD]
  cases hz:XM E.P s.blk t (Zg s mx) (Zx s kn k) (true,Zx s kn x) with
  | none=>trivial
  | some bb=>exact Or.inr ⟨_,_,rfl,.inl (by simp only [foot]; rw [Zgo hz])⟩
 | _=>exact quiet _
structure Path (E:Env) (call:YL) (ops:Array Oper) (bf:List Nat) (nb:Nat) {B:Base} (S:Nat->St B) (fp:Nat->Ft):Prop where
 step:∀ i o,ops[i]? = some o->StepD E call ops nb (nb + i) o (S i) (S (i + 1)) (fp i)
 cl:∀ i j,i < j->j < ops.size->JZ ops bf nb i j (fp i) (fp j) = true->(bf.getD j 0).testBit i = true
def Road (E:Env) (call:YL) (ops:Array Oper) (bf:List Nat) (nb:Nat) (l:List Oper) (j:Nat) (fps:List (Nat×Ft)) {B:Base} (s:St B) (Q:St B->Prop):Prop:=
 ∃ (S:Nat->St B) (fp:Nat->Ft),S j = s/\Q (S (j + l.length)) /\
   (∀ i o,l[i]? = some o->StepD E call ops nb (nb + (j + i)) o (S (j + i)) (S (j + i + 1)) (fp (j + i))) /\
   (∀ i,i < l.length->∀ p ∈ fps,JZ ops bf nb p.1 (j + i) p.2 (fp (j + i)) = true->(bf.getD (j + i) 0).testBit p.1 = true) /\
   (∀ i k,i < k->k < l.length->JZ ops bf nb (j + i) (j + k) (fp (j + i)) (fp (j + k)) = true->(bf.getD (j + k) 0).testBit (j + i) = true)
theorem Zf0 {o:Oper} {B:Base} {s s2:St B} {kn:List (Nat×Bool)} (h:Wi s kn) (v:V) (ht:s2.t = s.t):Wi (s2.put o.dst v) (Wn o kn):=by
 intro p hp
 unfold Wn at hp
 cases hd:o.dst with
 | none=>rw [hd] at hp; simp only [St.put,St.tmp,ht]; exact h p hp
 | some d=>
  rw [hd] at hp
  simp only [List.mem_filter,Bool.not_eq_true'] at hp
  have hne:p.1 ≠ d:=fun e=>by rw [e] at hp; simp at hp
  simp only [St.put,St.tmp,ht]
  rw [Vo _ _ _ hne]
  exact h p hp.1
theorem Zeo {B:Base} {s:St B} {kn:List (Nat×Bool)} (h:Wi s kn) (t:Nat):refine kn t (s.tmp t) = s.tmp t\/∃ c,refine kn t (s.tmp t) = .bool true c/\s.tmp t = .bool false c:=by
 induction kn with
 | nil=>exact .inl rfl
 | cons p kn ih=>
  obtain ⟨d,c⟩:=p
  simp only [refine]
  cases he:Nat.beq d t
  ·exact ih fun p hp=>h p (List.mem_cons_of_mem _ hp)
  ·obtain rfl:=Nat.eq_of_beq_eq_true he
   exact .inr ⟨c,rfl,h (d,c) (by simp)⟩
theorem kn_put {o:Oper} {B:Base} {s:St B} {kn:List (Nat×Bool)} (h:Wi s kn) (v:V) (x:Option (Nat×Blk)):Wi ((s.wr x).put o.dst v) (Wn o kn):=Zf0 h v (by cases x <;> rfl)
theorem Ze0 {ops:Array Oper} {B:Base} {s:St B} {kn:List (Nat×Bool)} (h:Wi s kn) {o:Oper} {r:Bool} (ht:truth ops (fun t=>refine kn t (s.tmp t)) o = some r):truth ops s.tmp o = some r:=by
 unfold truth at ht ⊢
 cases hg:o.guard with
 | none=>rw [hg] at ht; exact ht
 | some gw=>
  obtain ⟨j,want⟩:=gw
  rw [hg] at ht
  dsimp only at ht ⊢
  cases hj:ops[j]? with
  | none=>rw [hj] at ht; exact ht
  | some p=>
   rw [hj] at ht
   dsimp only at ht ⊢
   cases hd:p.dst with
   | none=>rw [hd] at ht; exact ht
   | some d=>
    rw [hd] at ht
    dsimp only at ht ⊢
    rcases Zeo h d with h1 | ⟨c,h1,h2⟩
    ·rw [h1] at ht; exact ht
    ·rw [h1] at ht; rw [h2]; exact ht
theorem knOf_ok {ops:Array Oper} {o:Oper} {B:Base} {s:St B} {kn:List (Nat×Bool)} (h:Wi s kn):Wi s (WG ops o kn)/\∀ p ∈ WG ops o kn,p.1 ∈ looks ops o:=by
 refine ⟨fun p hp=>h p (List.mem_filter.1 hp).1,fun p hp=>?_⟩
 have:=(List.mem_filter.1 hp).2
 simpa using this
theorem path_of {E:Env} {call:YL} {ops:Array Oper} {bf:List Nat} {nb:Nat} {B:Base}:∀ (l:List Oper) (j:Nat) (fps:List (Nat×Ft)) (kn:List (Nat×Bool)) (s:St B) (Q:St B->Prop),
  Wi s kn->(Xe E call ops bf nb l j fps kn s).holds E.P Q->Road E call ops bf nb l j fps s Q:=by
 intro l
 induction l with
 | nil=>intro j fps kn s Q _ h; exact ⟨fun _=>s,fun _=>W9,rfl,h,by simp,by simp,by simp⟩
 | cons o rest ih=>
  intro j fps kn s Q hkn h
  have glue:∀ (kn:List (Nat×Bool)) (s':St B) (fp0:Ft),Wi s' kn->StepD E call ops nb (nb + j) o s s' fp0->(∀ p ∈ fps,JZ ops bf nb p.1 j p.2 fp0 = true->(bf.getD j 0).testBit p.1 = true) ->
    (Xe E call ops bf nb rest (j + 1) ((j,fp0) :: fps) kn s').holds E.P Q->Road E call ops bf nb (o :: rest) j fps s Q:=by
   intro kn s' fp0 hkn' hstep hcl hrest
   obtain ⟨S,fp,h0,h1,h2,h3,h4⟩:=ih (j + 1) ((j,fp0) :: fps) kn s' Q hkn' hrest
   refine ⟨fun i=>if i = j then s else S i,fun i=>if i = j then fp0 else fp i,by simp,?_,?_,?_,?_⟩
   ·simp only [List.length_cons]
    rw [if_neg (by omega)]
    rw [show j + (rest.length + 1) = j + 1 + rest.length by omega]
    exact h1
   ·intro i o' ho'
    cases i with
    | zero=>
     simp only [List.getElem?_cons_zero,Option.some.injEq] at ho'
     subst ho'
     simp only [Nat.add_zero,if_true]
     rw [if_neg (by omega),h0]
     exact hstep
    | succ i=>
     simp only [List.getElem?_cons_succ] at ho'
     have:=h2 i o' ho'
     dsimp only
     simp only [if_neg (show ¬ j + (i + 1) = j by omega),if_neg (show ¬ j + (i + 1) + 1 = j by omega)]
     rw [show j + (i + 1) = j + 1 + i by omega]
     exact this
   ·intro i hi p hp hc
    cases i with
    | zero=>simp only [Nat.add_zero,if_true] at hc ⊢; exact hcl p hp hc
    | succ i=>
     dsimp only at hc
     simp only [if_neg (show ¬ j + (i + 1) = j by omega)] at hc
     rw [show j + (i + 1) = j + 1 + i by omega] at hc ⊢
     exact h3 i (by simpa using hi) p (List.mem_cons_of_mem _ hp) hc
   ·intro i k hik hk hc
    cases i with
    | zero=>
     obtain ⟨k',rfl⟩:∃ k',k = k' + 1:=⟨k - 1,by omega⟩
     simp only [Nat.add_zero,if_true] at hc
     simp only [if_neg (show ¬ j + (k' + 1) = j by omega)] at hc
     rw [show j + (k' + 1) = j + 1 + k' by omega] at hc ⊢
     exact h3 k' (by simpa using hk) (j,fp0) (by simp) hc
    | succ i=>
     obtain ⟨k',rfl⟩:∃ k',k = k' + 1:=⟨k - 1,by omega⟩
     simp only [if_neg (show ¬ j + (i + 1) = j by omega),if_neg (show ¬ j + (k' + 1) = j by omega)] at hc
     rw [show j + (i + 1) = j + 1 + i by omega,show j + (k' + 1) = j + 1 + k' by omega] at hc ⊢
     exact h4 i k' (by omega) (by simpa using hk) hc
  have small:∀ (kn:List (Nat×Bool)),Wi s kn->truth ops s.tmp o = some true->(bif YE ops bf nb j fps (foot s (nb + j) o.op)&&((evD E call s nb ops.size (nb + j) (WG ops o kn) o.op).flat&&YW s.N o) then
     (evD E call s nb ops.size (nb + j) (WG ops o kn) o.op).bind fun r=>Xe E call ops bf nb rest (j + 1) ((j,foot s (nb + j) o.op) :: fps) (Wn o kn) ((s.wr r.2).put o.dst r.1)
    else .stuck).holds E.P Q->Road E call ops bf nb (o :: rest) j fps s Q:=by
   intro kn hkn hw hq
   cases hall:YE ops bf nb j fps (foot s (nb + j) o.op)
   ·rw [hall] at hq; exact hq.elim
   ·cases hfl:(evD E call s nb ops.size (nb + j) (WG ops o kn) o.op).flat
    ·rw [hall,hfl] at hq; exact hq.elim
    ·cases hd:YW s.N o
     ·rw [hall,hfl,hd] at hq; exact hq.elim
     ·rw [hall,hfl,hd] at hq
      simp only [Bool.and_self,cond_true] at hq
      rw [Tree.Ya] at hq
      obtain ⟨r,hr1,hr2⟩:=Tree.pick _ hfl hq
      refine glue _ _ (foot s (nb + j) o.op) (kn_put hkn r.1 r.2) (.inl ⟨r,WG ops o kn,hw,(knOf_ok hkn).1,(knOf_ok hkn).2,hfl,hr1,hd,rfl,rfl⟩) (fun p hp hc=>?_) hr2
      have:=List.all_eq_true.1 hall p hp
      simpa [hc] using this
  have go:∀ (kn:List (Nat×Bool)),Wi s kn->truth ops s.tmp o = some true->(bif J6 o.op&&((!ZcP s o.op || (evD E call s nb ops.size (nb + j) (WG ops o kn) o.op).JH)&&(!(YR E call s.sub o.op).JH&&((YR E call s.sub o.op).flat&&YW s.N o))) then
    (YR E call s.sub o.op).bind fun r=>
     bif UL s.n r&&YE ops bf nb j fps Kz then Xe E call ops bf nb rest (j + 1) ((j,Kz) :: fps) (Wn o kn) (s.put o.dst r.1)
     else bif bigAt ops bf j o&&YE ops bf nb j fps (Qv r.2.1) then Xe E call ops bf nb rest (j + 1) ((j,Qv r.2.1) :: fps) (Wn o kn) (({ s with h:=s.h.over r.2.1,n:=r.2.2 }:St B).put o.dst r.1)
     else (bif YE ops bf nb j fps (foot s (nb + j) o.op)&&((evD E call s nb ops.size (nb + j) (WG ops o kn) o.op).flat&&YW s.N o) then
      (evD E call s nb ops.size (nb + j) (WG ops o kn) o.op).bind fun r=>Xe E call ops bf nb rest (j + 1) ((j,foot s (nb + j) o.op) :: fps) (Wn o kn) ((s.wr r.2).put o.dst r.1)
     else .stuck)
    else (bif YE ops bf nb j fps (foot s (nb + j) o.op)&&((evD E call s nb ops.size (nb + j) (WG ops o kn) o.op).flat&&YW s.N o) then
      (evD E call s nb ops.size (nb + j) (WG ops o kn) o.op).bind fun r=>Xe E call ops bf nb rest (j + 1) ((j,foot s (nb + j) o.op) :: fps) (Wn o kn) ((s.wr r.2).put o.dst r.1)
     else .stuck)).holds E.P Q->Road E call ops bf nb (o :: rest) j fps s Q:=by
   intro kn hkn hw hq
   cases hcond:(J6 o.op&&((!ZcP s o.op || (evD E call s nb ops.size (nb + j) (WG ops o kn) o.op).JH)&&(!(YR E call s.sub o.op).JH&&((YR E call s.sub o.op).flat&&YW s.N o))))
   ·rw [hcond] at hq
    exact small kn hkn hw hq
   ·rw [hcond] at hq
    simp only [cond_true] at hq
    simp only [Bool.and_eq_true] at hcond
    obtain ⟨hib,_,_,hfl,hd⟩:=hcond
    rw [Tree.Ya] at hq
    obtain ⟨r,hr1,hr2⟩:=Tree.pick _ hfl hq
    cases hqu:UL s.n r&&YE ops bf nb j fps Kz
    ·rw [hqu] at hr2
     simp only [cond_false] at hr2
     cases hbg:bigAt ops bf j o&&YE ops bf nb j fps (Qv r.2.1)
     ·rw [hbg] at hr2
      exact small kn hkn hw hr2
     ·rw [hbg] at hr2
      simp only [cond_true] at hr2
      simp only [Bool.and_eq_true] at hbg
      refine glue (Wn o kn) (({ s with h:=s.h.over r.2.1,n:=r.2.2 }:St B).put o.dst r.1) (Qv r.2.1) (Zf0 (s2:={ s with h:=s.h.over r.2.1,n:=r.2.2 }) hkn r.1 rfl) (.inr (.inr (.inl ⟨r,hw,hib,hr1,hd,rfl,rfl⟩))) (fun p hp hc=>?_) hr2
      have:=List.all_eq_true.1 hbg.2 p hp
      simpa [hc] using this
    ·rw [hqu] at hr2
     simp only [cond_true] at hr2
     simp only [Bool.and_eq_true] at hqu
     refine glue (Wn o kn) (s.put o.dst r.1) Kz (Zf0 hkn r.1 rfl) (.inr (.inl ⟨r,hw,hib,hr1,hd,hqu.1,rfl,rfl⟩)) (fun p hp hc=>?_) hr2
     have:=List.all_eq_true.1 hqu.2 p hp
     simpa [hc] using this
  have no:∀ (kn:List (Nat×Bool)),Wi s kn->truth ops s.tmp o = some false->(bif YW s.N o then Xe E call ops bf nb rest (j + 1) ((j,W9) :: fps) (Wn o kn) (s.put o.dst .undef) else .stuck).holds E.P Q ->
    Road E call ops bf nb (o :: rest) j fps s Q:=by
   intro kn hkn hw hq
   cases hd:YW s.N o
   ·rw [hd] at hq; exact hq.elim
   ·rw [hd] at hq
    exact glue _ _ W9 (kn_put hkn .undef none) (.inr (.inr (.inr ⟨hw,hd,rfl,rfl⟩))) (fun p _ hc=>by unfold JZ at hc; rw [ZlT] at hc; cases hc) hq
  unfold Xe at h
  dsimp only at h
  have ht:=Zgs (ops:=ops) (val:=fun t=>refine kn t (s.tmp t)) (o:=o)
  cases hg:guardOf ops (fun t=>refine kn t (s.tmp t)) o with
  | bad=>rw [hg] at h; exact h.elim
  | yes=>rw [hg] at h ht; exact go kn hkn (Ze0 hkn ht) h
  | no=>rw [hg] at h ht; exact no kn hkn (Ze0 hkn ht) h
  | dyn d b want=>
   rw [hg] at h ht
   obtain ⟨ht,hval⟩:=ht
   have ht:=Ze0 hkn ht
   have hd:s.tmp d = .bool false b:=by
    rcases Zeo hkn d with h1 | ⟨c,h1,_⟩
    ·rw [<- h1]; exact hval
    ·rw [h1] at hval; cases hval
   have hkn':Wi s ((d,b) :: kn):=by
    intro p hp
    cases hp with
    | head=>exact hd
    | tail _ hp=>exact hkn p hp
   cases want with
   | true=>
    cases b with
    | true=>exact go _ hkn' ht (h.1 rfl)
    | false=>exact no _ hkn' ht (h.2 rfl)
   | false=>
    cases b with
    | true=>exact no _ hkn' ht (h.1 rfl)
    | false=>exact go _ hkn' ht (h.2 rfl)
theorem Zdh {ops:Array Oper} {B:Base} {s s':St B} {o:Oper} (h:∀ t ∈ looks ops o,s.tmp t = s'.tmp t):truth ops s.tmp o = truth ops s'.tmp o:=by
 unfold truth
 cases hg:o.guard with
 | none=>rfl
 | some gw=>
  obtain ⟨j,want⟩:=gw
  dsimp only
  cases hj:ops[j]? with
  | none=>rfl
  | some p=>
   dsimp only
   cases hd:p.dst with
   | none=>rfl
   | some d=>
    dsimp only
    rw [h d (by simp [looks,hg,hj,hd])]
theorem Zgw {B:Base} {s s':St B}:∀ {x:Operand},(∀ t,x = .tmp t->s.tmp t = s'.tmp t)->Zg s x = Zg s' x
 | .tmp t,h=>h t rfl
 | .const _,_=>rfl
 | .global _,_=>rfl
 | .func _,_=>rfl
theorem ZkJ {B:Base} {s s':St B} {kn:List (Nat×Bool)} {x:Operand} (h:Zg s x = Zg s' x):Zx s kn x = Zx s' kn x:=by
 cases x with
 | tmp t=>simp only [Zx]; rw [show s.tmp t = s'.tmp t from h]
 | _=>exact h
theorem Zmg {P:Program} {h h':Nat->Blk} {t:TypeId} {x:V} (hb:∀ st b es i o,x = .ptr st b es i o->h b = h' b):JX P h t x = JX P h' t x:=by
 unfold JX
 cases x <;> try rfl
 dsimp only
 rw [hb _ _ _ _ _ rfl]
theorem ZkM {P:Program} {h h':Nat->Blk} {src dst:TypeId} {x:V} (hb:∀ st b es i k,x = .osl st b es i k->h b = h' b):Gg P h src dst x = Gg P h' src dst x:=by
 unfold Gg Zbd
 cases x <;> try rfl
 dsimp only
 rw [hb _ _ _ _ _ rfl]
theorem Zj6 {P:Program} {h h':Nat->Blk} {t:TypeId} {x:V} {lo hi mx:Option V} (hb:∀ st b es i o,x = .ptr st b es i o->h b = h' b):UQ P h t x lo hi mx = UQ P h' t x lo hi mx:=by
 unfold UQ
 cases x <;> try rfl
 dsimp only
 rw [hb _ _ _ _ _ rfl]
theorem Zk1 {v:V} {t:Nat} {st:Bool} {b es i o:Nat}:∀ kn:List (Nat×Bool),refine kn t v = .ptr st b es i o->v = .ptr st b es i o:=by
 intro kn
 induction kn with
 | nil=>exact fun h=>h
 | cons p kn ih=>
  intro h
  simp only [refine] at h
  cases hp:Nat.beq p.1 t <;> rw [hp] at h
  ·exact ih h
  ·cases h
theorem ZlJ {B:Base} {s s':St B} {nm:Nat} {rl:Bool} (h:s.blk nm = s'.blk nm):layR s nm rl = layR s' nm rl:=by
 funext r
 unfold layR Ua Xq
 rw [h]
theorem evD_congr {E:Env} {call:YL} {B:Base} {s s':St B} {nb sz nm:Nat} {kn:List (Nat×Bool)} {o:Op} (hx:∀ x ∈ o.operands,Zg s x = Zg s' x) (hb0:∀ w c b,(foot s' nm o).m = some (w,c)->((c = none/\Qh nb sz b = false)\/c = some b)->s.blk b = s'.blk b)
  (hl0:∀ b,(foot s' nm o).l = some b->s.blk b = s'.blk b):evD E call s nb sz nm kn o = evD E call s' nb sz nm kn o:=by
 have hb:∀ w b,(foot s' nm o).m = some (w,some b)->s.blk b = s'.blk b:=fun w b h=>hb0 w _ b h (.inr rfl)
 have hnew:∀ (cs:Blk) v,s.blk nm = s'.blk nm->Xq s nm cs v = Xq s' nm cs v:=fun cs v h=>by unfold Xq; rw [h]
 have hK:∀ x ∈ o.operands,Zx s kn x = Zx s' kn x:=fun x h=>ZkJ (hx x h)
 have lists:∀ (l:List Operand),(∀ x ∈ l,Zx s kn x = Zx s' kn x)->l.map (Zx s kn) = l.map (Zx s' kn):=fun l h=>List.map_congr_left h
 have opts:∀ (l:Option Operand),(∀ x ∈ l.toArray,Zx s kn x = Zx s' kn x)->l.map (Zx s kn) = l.map (Zx s' kn):=fun l h=>by
  cases l with
  | none=>rfl
  | some x=>simp only [Option.map_some,h x (by simp)]
 have parts:∀ (ps:List (Nat×Operand)),(∀ p ∈ ps,Zx s kn p.2 = Zx s' kn p.2)->(ps.map fun p=>(p.1,Zx s kn p.2)) = (ps.map fun p=>(p.1,Zx s' kn p.2)):=
  fun ps h=>List.map_congr_left fun p hp=>by rw [h p hp]
 cases o <;> simp only [Op.operands] at hx hK <;> simp only [evD,evDQ,evQ,evVal]
 case store t a x=>
  rw [hx a (by simp),hK x (by simp)]
  unfold Zb6
  cases ZB E.P t with
  | none=>rfl
  | some z=>
   dsimp only
   cases hc:Zg s' a <;> try rfl
   dsimp only
   rw [hb true _ (by simp only [foot,hc])]
 case load t a=>
  rw [hx a (by simp)]
  rw [Zmg fun st b es i o h=>hb false b (by simp only [foot,h])]
 case alloc t=>
  have h1:=hl0 nm rfl
  cases Xc E.P t with
  | none=>rfl
  | some cs=>exact hnew _ _ h1
 case box t x=>
  have h1:=hl0 nm rfl
  rw [hK x (by simp),hnew _ _ h1]
 case makeSlice t len cap=>
  have h1:=hl0 nm rfl
  rw [hK len (by simp),hK cap (by simp)]
  cases UW E.P t (Zx s' kn len) (Zx s' kn cap) with
  | none=>rfl
  | some zc=>exact hnew _ _ h1
 case makeMap t r=>
  have h1:=hl0 nm rfl
  rw [opts r fun y h=>hK y (by simp at h ⊢; simp [h])]
  cases Vk E.P t (r.map (Zx s' kn)) with
  | none=>rfl
  | some blk=>exact hnew _ _ h1
 case mapUpdate t mx k x=>
  rw [hx mx (by simp),hK k (by simp),hK x (by simp)]
  rw [Zhq fun b h=>hb true b (by simp only [foot,h])]
 case insert t mx k x=>
  rw [hx mx (by simp),hK k (by simp),hK x (by simp)]
  rw [Zhq fun b h=>hb true b (by simp only [foot,h])]
 case lookup t x ix ok=>
  rw [hK x (by simp),hK ix (by simp)]
  have hc:∀ b,Zx s' kn x = .mp b->s.blk b = s'.blk b:=by
   intro b h
   refine hb false b ?_
   have h2:Zg s' x = .mp b:=by
    cases x with
    | tmp t=>
     simp only [Zx] at h
     have key:∀ kn:List (Nat×Bool),refine kn t (s'.tmp t) = .mp b->s'.tmp t = .mp b:=by
      intro kn
      induction kn with
      | nil=>exact fun h=>h
      | cons p kn ih=>
       intro h
       simp only [refine] at h
       cases hp:Nat.beq p.1 t <;> rw [hp] at h
       ·exact ih h
       ·cases h
     exact key kn h
    | _=>exact h
   simp only [foot,h2]
  rw [ZlZ hc]
 case convert src dst x=>
  rw [hK x (by simp)]
  have hc:∀ st b es i k,Zx s' kn x = .osl st b es i k->s.blk b = s'.blk b:=by
   intro st b es i k h
   refine hb false b ?_
   have h2:Zg s' x = .osl st b es i k:=by
    cases x with
    | tmp t=>
     simp only [Zx] at h
     have key:∀ kn:List (Nat×Bool),refine kn t (s'.tmp t) = .osl st b es i k->s'.tmp t = .osl st b es i k:=by
      intro kn
      induction kn with
      | nil=>exact fun h=>h
      | cons p kn ih=>
       intro h
       simp only [refine] at h
       cases hp:Nat.beq p.1 t <;> rw [hp] at h
       ·exact ih h
       ·cases h
     exact key kn h
    | _=>exact h
   simp only [foot,h2]
  rw [ZkM hc]
 case call c=>
  have hargs:c.args.toList.map (Zx s kn) = c.args.toList.map (Zx s' kn):=lists _ fun x h=>hK x (by simp [Call.operands]; right; simpa using h)
  cases hcal:c.callee <;> dsimp only
  ·rename_i f
   have ho:∀ l:List Operand,(∀ x ∈ l,Zg s x = Zg s' x)->l.map (Zg s) = l.map (Zg s'):=fun l h=>List.map_congr_left h
   have e:foot s nm (.call c) = foot s' nm (.call c):=by
    simp only [foot,hcal]
    rw [hx f (by simp [Call.operands,hcal]),ho c.args.toList fun x h=>hx x (by simp [Call.operands]; right; simpa using h)]
   have e2:Vs (foot s nm (.call c)).m (seen nb sz s.blk) = Vs (foot s' nm (.call c)).m (seen nb sz s'.blk):=by
    rw [e]
    cases hf:(foot s' nm (.call c)).m with
    | none=>rfl
    | some r=>
     obtain ⟨w,cc⟩:=r
     have hcc:cc = none:=by
      simp only [foot,hcal] at hf
      cases hz:callee (Zg s' f) (.ofList (c.args.toList.map (Zg s'))) with
      | none=>rw [hz] at hf; cases hf
      | some q=>
       rw [hz] at hf
       dsimp only at hf
       cases hq:q.2.clean <;> rw [hq] at hf
       ·injection hf with hf; injection hf with _ hf; exact hf.symm
       ·cases hf
     have hb':∀ w c' b,(foot s' nm (.call c)).m = some (w,c')->((c' = none/\Qh nb sz b = false)\/c' = some b)->s.blk b = s'.blk b:=hb0
     refine funext fun b=>?_
     show (bif Qh nb sz b then Blk.any else s.blk b) = (bif Qh nb sz b then Blk.any else s'.blk b)
     cases hr:Qh nb sz b
     ·exact hb' w cc b hf (.inl ⟨hcc,hr⟩)
     ·rfl
   have e3:∀ rl,layR s nm rl = layR s' nm rl:=fun rl=>ZlJ (hl0 nm (by simp only [foot,hcal]))
   have e4:∀ g fa,Kj E call s nm g fa = Kj E call s' nm g fa:=fun g fa=>by unfold Kj; rw [e3]
   simp only [e3,e4]
   rw [hargs,hK f (by simp [Call.operands,hcal]),e2]
  ·rw [hargs]
 case build t ps=>rw [parts _ fun p hp=>hK p.2 (by simp; exact ⟨p.1,by simpa using hp⟩)]
 case buildSlice t n ps=>
  have h1:=hl0 nm rfl
  rw [parts _ fun p hp=>hK p.2 (by simp; exact ⟨p.1,by simpa using hp⟩)]
  cases KN E.P t n (ps.toList.map fun p=>(p.1,Zx s' kn p.2)) with
  | none=>rfl
  | some zc=>exact hnew _ _ h1
 case makeFunc f first cap=>
  rw [lists first.toList fun x h=>hK x (by simp; left; simpa using h),lists cap.toList fun x h=>hK x (by simp; right; simpa using h)]
 case slice t x lo hi mx=>
  rw [hK x (by simp),opts lo fun y h=>hK y (by simp at h ⊢; simp [h]),opts hi fun y h=>hK y (by simp at h ⊢; simp [h]),opts mx fun y h=>hK y (by simp at h ⊢; simp [h])]
  have hc:∀ st b es i o,Zx s' kn x = .ptr st b es i o->s.blk b = s'.blk b:=by
   intro st b es i o h
   refine hb false b ?_
   have h2:Zg s' x = .ptr st b es i o:=by
    cases x with
    | tmp t=>exact Zk1 kn h
    | _=>exact h
   simp only [foot,h2]
  rw [Zj6 hc]
 case pick c x y=>rw [hK c (by simp),hK x (by simp),hK y (by simp)]
 all_goals first
  | rfl
  | (rename_i x _; rw [hK x (by simp)]; done)
  | (rename_i x; rw [hK x (by simp)]; done)
  | (rename_i x y; rw [hK x (by simp),hK y (by simp)]; done)
  | (rename_i x y _; rw [hK x (by simp),hK y (by simp)]; done)
end Go.Fw
end
