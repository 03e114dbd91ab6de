/- Ways brought together: nothing false is said. -/
import Derived.Test.YtnjjailadijdlaaGreatDoorMAj
set_option maxRecDepth 100000
set_option linter.unusedVariables false
set_option linter.unusedSimpArgs false
noncomputable section
namespace Go.Fw
theorem ZhB {F:Nat->Prop} {w:World} {b:Bool} {x y:Blk} {n:Nat} {m:Nat->Option Nat} {z:Option Nat} (h:RB F w n m (bif b then x else y) z):RB F w n m (Uf b x y) z:=by
 unfold Uf
 split
 ·rename_i cs cs'
  cases hs:WY cs cs'
  ·trivial
  ·have e:(bif b then (Blk.var cs) else .var cs') = .var (bif b then cs else cs'):=by cases b <;> rfl
   rw [e] at h
   obtain ⟨B,xs,el,ys,zs,h1,h2,hsp,h3⟩:=h
   exact ⟨B,xs,el,ys,zs,h1,h2,hsp,(Zfd b cs cs' n m).2 hs _ h3⟩
 ·cases b <;> exact h
 ·rename_i kd st f ks kd' st' f' ks'
  cases hs:JJ kd kd'
  ·trivial
  ·obtain rfl:=Zd3 hs
   cases b with
   | true=>
    obtain ⟨B,es,clock,e,hc,hE,hf⟩:=h
    exact ⟨B,es,clock,e,hc,J2.unk hE.ent,fun k hk=>⟨(hf k hk).1,fun v hv=>Ku (b:=true) ((hf k hk).2 v hv)⟩⟩
   | false=>
    obtain ⟨B,es,clock,e,hc,hE,hf⟩:=h
    exact ⟨B,es,clock,e,hc,J2.unk hE.ent,fun k hk=>⟨(hf k hk).1,fun v hv=>Ku (b:=false) ((hf k hk).2 v hv)⟩⟩
 ·trivial
theorem ZdU (g:Nat->Blk) (h:PT Blk) (n k j:Nat):look g (KO h n k) j = if n<=j/\j < n + k then .any else look g h j:=by
 induction k with
 | zero=>rw [if_neg (by omega)]; rfl
 | succ k ih=>
  show look g ((KO h n k).set (n + k) .any) j = _
  rw [ZR,ih]
  by_cases e:j = n + k
  ·rw [if_pos e,if_pos (by omega)]
  ·rw [if_neg e]
   by_cases e2:n<=j/\j < n + k
   ·rw [if_pos e2,if_pos (by omega)]
   ·rw [if_neg e2,if_neg (by omega)]
section
variable {B:Base}
def Weak (s s':St B):Prop:=s.n<=s'.n/\∀ (lo base:Nat) (m:Nat->Option Nat) (F:Nat->Prop) (a:Act) (w:World),Rel lo base m F s a w->Rel lo base m F s' a w
theorem Weak.refl (s:St B):Weak s s:=⟨Nat.le_refl _,fun _ _ _ _ _ _ h=>h⟩
theorem Weak.trans {s s1 s2:St B} (h:Weak s s1) (h':Weak s1 s2):Weak s s2:=⟨Nat.le_trans h.1 h'.1,fun _ _ _ _ _ _ hr=>h'.2 _ _ _ _ _ _ (h.2 _ _ _ _ _ _ hr)⟩
def WX (x y:Ex×St B):Prop:=x.1 = y.1/\Weak x.2 y.2
theorem U7 {β:Type} (d:Nat->β) (f:Nat->β) (t u:PT β) (ht:t.fin = true) (hu:u.fin = true) (k:Nat):look d (t.both f u 1 0) k = match t.get k,u.get k with | none,none=>d k | _,_=>f k:=by
 unfold look
 rw [PT.get_both _ _ _ _ _ _ ht hu]
 simp only [Nat.one_mul,Nat.add_zero]
 cases t.get k <;> cases u.get k <;> rfl
theorem Zh5 {α:Type} {p:Bool} {a b:α} (h:(bif p then some a else none) = some b):p = true/\a = b:=by
 cases p
 ·cases h
 ·injection h with h; exact ⟨rfl,h⟩
theorem ZlO {c:Bool} {s1 s2 s:St B} (h:Zcq c s1 s2 = some s):Weak (bif c then s1 else s2) s:=by
 unfold Zcq at h
 dsimp only at h
 generalize hlo:(bif Nat.ble s1.n s2.n then s1.n else s2.n) = lo at h
 generalize hhi:(bif Nat.ble s1.n s2.n then s2.n else s1.n) = hi at h
 have hle:lo<=hi/\lo<=s1.n/\lo<=s2.n/\s1.n<=hi/\s2.n<=hi:=by
  subst hlo; subst hhi
  cases hb:Nat.ble s1.n s2.n
  ·have:¬ s1.n<=s2.n:=fun h=>by rw [Nat.ble_eq_true_of_le h] at hb; cases hb
   simp only [cond_false]; omega
  ·have:=Nat.le_of_ble_eq_true hb
   simp only [cond_true]; omega
 clear hlo hhi
 obtain ⟨hc,h⟩:=Zh5 h
 simp only [Bool.and_eq_true] at hc
 have hN:=Nat.eq_of_beq_eq_true hc.2.2
 subst h
 generalize hx:(bif c then s1 else s2) = x
 have hxN:x.N = s1.N:=by subst hx; cases c <;> simp [hN]
 have hxn:lo<=x.n/\x.n<=hi:=by subst hx; cases c <;> simp <;> omega
 have htmp:∀ k,x.tmp k = bif c then s1.tmp k else s2.tmp k:=by intro k; subst hx; cases c <;> rfl
 have hblk:∀ k,x.blk k = bif c then s1.blk k else s2.blk k:=by intro k; subst hx; cases c <;> rfl
 have hany:∀ b,x.blk b = .any->look B.h (KO (s1.h.both (fun k=>Uf c (s1.blk k) (s2.blk k)) s2.h 1 0) lo (hi - lo)) b = .any:=by
  intro b hb
  rw [ZdU]
  by_cases e:lo<=b/\b < lo + (hi - lo)
  ·rw [if_pos e]
  ·rw [if_neg e,U7 _ _ _ _ (PT.QO _ _ _ _ hc.2.1.1) (PT.QO _ _ _ _ hc.2.1.2)]
   rw [hblk] at hb
   have hm:Uf c (s1.blk b) (s2.blk b) = .any:=by
    cases c
    ·rw [show s2.blk b = .any from hb]; unfold Uf; cases s1.blk b <;> rfl
    ·rw [show s1.blk b = .any from hb]; unfold Uf; rfl
   cases e1:s1.h.get b with
   | some _=>exact hm
   | none=>
    cases e2:s2.h.get b with
    | some _=>exact hm
    | none=>
     have k1:s1.blk b = B.h b:=by simp only [St.blk,look,e1]
     have k2:s2.blk b = B.h b:=by simp only [St.blk,look,e2]
     rw [k1,k2] at hb
     cases c <;> exact hb
 refine ⟨hxn.2,fun lo' base m F a w hr=>?_⟩
 have hext:Ext base m F x.n w m F hi w:=⟨fun _ h=>h,fun _ h=>.inl h,fun _ _=>rfl,Nat.le_refl _,Z4.refl w,Own.refl m w,hxn.2,fun _ _ _ h=>h,Calm.refl w⟩
 refine ⟨⟨hr.hr.low,hr.hr.fdom,fun b hb=>?_,hr.hr.dom,fun b hb=>hr.hr.new b (Nat.le_trans hxn.2 hb),hr.hr.gl,hr.hr.own,fun b b' C h1 h2 hne=>(hr.hr.inj b b' C h1 h2 hne).imp (hany b) (hany b')⟩,hr.defers,hr.size.trans hxN,fun k=>?_⟩
 ·have hb':b < hi:=hb
  show RB F w hi m (look B.h (KO _ _ _) b) (m b)
  rw [ZdU]
  by_cases e:lo<=b/\b < lo + (hi - lo)
  ·rw [if_pos e]; trivial
  ·rw [if_neg e,U7 _ _ _ _ (PT.QO _ _ _ _ hc.2.1.1) (PT.QO _ _ _ _ hc.2.1.2)]
   have h1:=JD hext (fun _ _=>rfl) (hr.hr.blk b (by omega))
   rw [hblk] at h1
   cases e1:s1.h.get b with
   | some _=>exact ZhB h1
   | none=>
    cases e2:s2.h.get b with
    | some _=>exact ZhB h1
    | none=>
     have k1:s1.blk b = B.h b:=by simp only [St.blk,look,e1]
     have k2:s2.blk b = B.h b:=by simp only [St.blk,look,e2]
     rw [k1,k2] at h1
     cases c <;> exact h1
 ·show R F w (look B.t (PT.both _ _ _ 1 0) k) hi m _
  rw [U7 _ _ _ _ (PT.QO _ _ _ _ hc.1.1) (PT.QO _ _ _ _ hc.1.2)]
  have h1:=hext.val (hr.tmp k)
  rw [htmp] at h1
  cases e1:s1.t.get k with
  | some _=>exact Ku h1
  | none=>
   cases e2:s2.t.get k with
   | some _=>exact Ku h1
   | none=>
    have k1:s1.tmp k = B.t k:=by simp only [St.tmp,look,e1]
    have k2:s2.tmp k = B.t k:=by simp only [St.tmp,look,e2]
    rw [k1,k2] at h1
    cases c <;> exact h1
theorem bif_tr {p a:Bool} (h:(bif p then a else false) = true):p = true/\a = true:=by
 cases p
 ·cases h
 ·exact ⟨rfl,h⟩
theorem eqV_R {F:Nat->Prop} {w:World}:∀ (v v':V),eqV v v' = true->∀ (n:Nat) (m:Nat->Option Nat),(∀ x,R F w v' n m x->R F w v n m x)/\(∀ xs,RL F w v' n m xs->RL F w v n m xs):=by
 intro v
 induction v with
 | cons h t ih1 ih2=>
  intro v' hs n m
  cases v' <;> simp only [eqV] at hs <;> try (cases hs; done)
  simp only [Bool.and_eq_true] at hs
  refine ⟨fun x h=>by simp only [R] at h,fun xs h=>?_⟩
  simp only [RL] at h ⊢
  obtain ⟨x,r,rfl,h1,h2⟩:=h
  exact ⟨x,r,rfl,(ih1 _ hs.1 n m).1 _ h1,(ih2 _ hs.2 n m).2 _ h2⟩
 | int st k q=>
  intro v' hs n m
  cases v' <;> simp only [eqV] at hs <;> try (cases hs; done)
  have hs:=(bif_tr hs).2
  simp only [Bool.and_eq_true,decide_eq_true_eq] at hs
  obtain ⟨rfl,rfl⟩:=hs
  exact ⟨fun x h=>by simp only [R] at h ⊢; exact h,fun xs h=>by simp only [RL] at h⟩
 | bool st b=>
  intro v' hs n m
  cases v' <;> simp only [eqV] at hs <;> try (cases hs; done)
  obtain rfl:=eq_of_beq (bif_tr hs).2
  exact ⟨fun x h=>by simp only [R] at h ⊢; exact h,fun xs h=>by simp only [RL] at h⟩
 | agg cs ih=>
  intro v' hs n m
  cases v' <;> simp only [eqV] at hs <;> try (cases hs; done)
  refine ⟨fun x h=>?_,fun xs h=>by simp only [RL] at h⟩
  simp only [R] at h ⊢
  obtain ⟨xs,rfl,h1⟩:=h
  exact ⟨xs,rfl,(ih _ hs n m).2 _ h1⟩
 | tup cs ih=>
  intro v' hs n m
  cases v' <;> simp only [eqV] at hs <;> try (cases hs; done)
  refine ⟨fun x h=>?_,fun xs h=>by simp only [RL] at h⟩
  simp only [R] at h ⊢
  obtain ⟨xs,rfl,h1⟩:=h
  exact ⟨xs,rfl,(ih _ hs n m).2 _ h1⟩
 | ptr st b es i o=>
  intro v' hs n m
  cases v' <;> simp only [eqV] at hs <;> try (cases hs; done)
  simp only [Bool.and_eq_true,Nat.beq_eq] at hs
  obtain ⟨_,⟨rfl,rfl⟩,rfl,rfl⟩:=hs
  exact ⟨fun x h=>by simp only [R] at h ⊢; exact h,fun xs h=>by simp only [RL] at h⟩
 | osl st b es i k=>
  intro v' hs n m
  cases v' <;> simp only [eqV] at hs <;> try (cases hs; done)
  simp only [Bool.and_eq_true,Nat.beq_eq] at hs
  obtain ⟨_,⟨rfl,rfl⟩,rfl,rfl⟩:=hs
  exact ⟨fun x h=>by simp only [R] at h ⊢; exact h,fun xs h=>by simp only [RL] at h⟩
 | osp st b es i k c=>
  intro v' hs n m
  cases v' <;> simp only [eqV] at hs <;> try (cases hs; done)
  simp only [Bool.and_eq_true,Nat.beq_eq] at hs
  obtain ⟨_,⟨rfl,rfl⟩,⟨rfl,rfl⟩,rfl⟩:=hs
  exact ⟨fun x h=>by simp only [R] at h ⊢; exact h,fun xs h=>by simp only [RL] at h⟩
 | mp b=>
  intro v' hs n m
  cases v' <;> simp only [eqV] at hs <;> try (cases hs; done)
  simp only [Nat.beq_eq] at hs
  subst hs
  exact ⟨fun x h=>h,fun xs h=>h⟩
 | esl nn es=>
  intro v' hs n m
  cases v' <;> simp only [eqV] at hs <;> try (cases hs; done)
  simp only [Bool.and_eq_true,Nat.beq_eq] at hs
  obtain ⟨h1,rfl⟩:=hs
  obtain rfl:=eq_of_beq h1
  exact ⟨fun x h=>h,fun xs h=>h⟩
 | nil=>intro v' hs n m; cases v' <;> simp only [eqV] at hs <;> first | (cases hs; done) | exact ⟨fun _ h=>h,fun _ h=>h⟩
 | Zz=>intro v' hs n m; cases v' <;> simp only [eqV] at hs <;> first | (cases hs; done) | exact ⟨fun _ h=>h,fun _ h=>h⟩
 | nilptr=>intro v' hs n m; cases v' <;> simp only [eqV] at hs <;> first | (cases hs; done) | exact ⟨fun _ h=>h,fun _ h=>h⟩
 | nilmap=>intro v' hs n m; cases v' <;> simp only [eqV] at hs <;> first | (cases hs; done) | exact ⟨fun _ h=>h,fun _ h=>h⟩
 | nilfn=>intro v' hs n m; cases v' <;> simp only [eqV] at hs <;> first | (cases hs; done) | exact ⟨fun _ h=>h,fun _ h=>h⟩
 | nilif=>intro v' hs n m; cases v' <;> simp only [eqV] at hs <;> first | (cases hs; done) | exact ⟨fun _ h=>h,fun _ h=>h⟩
 | _=>intro v' hs; simp only [eqV] at hs; cases hs
theorem meetV_R {F:Nat->Prop} {w:World} {b:Bool} {x y:V} {n:Nat} {m:Nat->Option Nat} {z:Value} (h:R F w (bif b then x else y) n m z):R F w (meetV x y) n m z:=by
 unfold meetV
 cases hs:eqV x y
 ·simp only [cond_false,R]
 ·cases b
  ·exact (eqV_R x y hs n m).1 z h
  ·exact h
theorem meetB_R {F:Nat->Prop} {w:World} {b:Bool} {x y:Blk} {n:Nat} {m:Nat->Option Nat} {z:Option Nat} (h:RB F w n m (bif b then x else y) z):RB F w n m (VK x y) z:=by
 unfold VK
 split
 ·rename_i cs cs'
  cases hs:eqV cs cs'
  ·trivial
  ·cases b
   ·obtain ⟨B,xs,el,ys,zs,h1,h2,hsp,h3⟩:=h
    exact ⟨B,xs,el,ys,zs,h1,h2,hsp,(eqV_R cs cs' hs n m).2 _ h3⟩
   ·exact h
 ·cases b <;> exact h
 ·trivial
theorem Zis {c:Bool} {s1 s2 s:St B} (h:meetSt s1 s2 = some s):Weak (bif c then s1 else s2) s:=by
 unfold meetSt at h
 dsimp only at h
 generalize hlo:(bif Nat.ble s1.n s2.n then s1.n else s2.n) = lo at h
 generalize hhi:(bif Nat.ble s1.n s2.n then s2.n else s1.n) = hi at h
 have hle:lo<=hi/\lo<=s1.n/\lo<=s2.n/\s1.n<=hi/\s2.n<=hi:=by
  subst hlo; subst hhi
  cases hb:Nat.ble s1.n s2.n
  ·have:¬ s1.n<=s2.n:=fun h=>by rw [Nat.ble_eq_true_of_le h] at hb; cases hb
   simp only [cond_false]; omega
  ·have:=Nat.le_of_ble_eq_true hb
   simp only [cond_true]; omega
 clear hlo hhi
 obtain ⟨hc,h⟩:=Zh5 h
 simp only [Bool.and_eq_true] at hc
 have hN:=Nat.eq_of_beq_eq_true hc.2.2
 subst h
 generalize hx:(bif c then s1 else s2) = x
 have hxN:x.N = s1.N:=by subst hx; cases c <;> simp [hN]
 have hxn:lo<=x.n/\x.n<=hi:=by subst hx; cases c <;> simp <;> omega
 have htmp:∀ k,x.tmp k = bif c then s1.tmp k else s2.tmp k:=by intro k; subst hx; cases c <;> rfl
 have hblk:∀ k,x.blk k = bif c then s1.blk k else s2.blk k:=by intro k; subst hx; cases c <;> rfl
 have hany:∀ b,x.blk b = .any->look B.h (KO (s1.h.both (fun k=>VK (s1.blk k) (s2.blk k)) s2.h 1 0) lo (hi - lo)) b = .any:=by
  intro b hb
  rw [ZdU]
  by_cases e:lo<=b/\b < lo + (hi - lo)
  ·rw [if_pos e]
  ·rw [if_neg e,U7 _ _ _ _ (PT.QO _ _ _ _ hc.2.1.1) (PT.QO _ _ _ _ hc.2.1.2)]
   rw [hblk] at hb
   have hm:VK (s1.blk b) (s2.blk b) = .any:=by
    cases c
    ·rw [show s2.blk b = .any from hb]; unfold VK; cases s1.blk b <;> rfl
    ·rw [show s1.blk b = .any from hb]; unfold VK; rfl
   cases e1:s1.h.get b with
   | some _=>exact hm
   | none=>
    cases e2:s2.h.get b with
    | some _=>exact hm
    | none=>
     have k1:s1.blk b = B.h b:=by simp only [St.blk,look,e1]
     have k2:s2.blk b = B.h b:=by simp only [St.blk,look,e2]
     rw [k1,k2] at hb
     cases c <;> exact hb
 refine ⟨hxn.2,fun lo' base m F a w hr=>?_⟩
 have hext:Ext base m F x.n w m F hi w:=⟨fun _ h=>h,fun _ h=>.inl h,fun _ _=>rfl,Nat.le_refl _,Z4.refl w,Own.refl m w,hxn.2,fun _ _ _ h=>h,Calm.refl w⟩
 refine ⟨⟨hr.hr.low,hr.hr.fdom,fun b hb=>?_,hr.hr.dom,fun b hb=>hr.hr.new b (Nat.le_trans hxn.2 hb),hr.hr.gl,hr.hr.own,fun b b' C h1 h2 hne=>(hr.hr.inj b b' C h1 h2 hne).imp (hany b) (hany b')⟩,hr.defers,hr.size.trans hxN,fun k=>?_⟩
 ·have hb':b < hi:=hb
  show RB F w hi m (look B.h (KO _ _ _) b) (m b)
  rw [ZdU]
  by_cases e:lo<=b/\b < lo + (hi - lo)
  ·rw [if_pos e]; trivial
  ·rw [if_neg e,U7 _ _ _ _ (PT.QO _ _ _ _ hc.2.1.1) (PT.QO _ _ _ _ hc.2.1.2)]
   have h1:=JD hext (fun _ _=>rfl) (hr.hr.blk b (by omega))
   rw [hblk] at h1
   cases e1:s1.h.get b with
   | some _=>exact meetB_R h1
   | none=>
    cases e2:s2.h.get b with
    | some _=>exact meetB_R h1
    | none=>
     have k1:s1.blk b = B.h b:=by simp only [St.blk,look,e1]
     have k2:s2.blk b = B.h b:=by simp only [St.blk,look,e2]
     rw [k1,k2] at h1
     cases c <;> exact h1
 ·show R F w (look B.t (PT.both _ _ _ 1 0) k) hi m _
  rw [U7 _ _ _ _ (PT.QO _ _ _ _ hc.1.1) (PT.QO _ _ _ _ hc.1.2)]
  have h1:=hext.val (hr.tmp k)
  rw [htmp] at h1
  cases e1:s1.t.get k with
  | some _=>exact meetV_R h1
  | none=>
   cases e2:s2.t.get k with
   | some _=>exact meetV_R h1
   | none=>
    have k1:s1.tmp k = B.t k:=by simp only [St.tmp,look,e1]
    have k2:s2.tmp k = B.t k:=by simp only [St.tmp,look,e2]
    rw [k1,k2] at h1
    cases c <;> exact h1
def sel:QS B->Option (Ex×St B)
 | []=>none
 | x :: r=>bif x.1 then some x.2 else sel r
theorem Zgq:∀ (e e':Ex),UN e e' = true->e = e'
 | .normal,.normal,_=>rfl
 | .ret,.ret,_=>rfl
 | .exit i,.exit j,h=>by rw [Nat.eq_of_beq_eq_true h]
theorem sel_map (l:QS B) (f:Bool->Bool) (hf:∀ b,f b = b):sel (l.map fun | (p,x)=>(f p,x)) = sel l:=by
 induction l with
 | nil=>rfl
 | cons x r ih=>simp only [List.map_cons,sel]; rw [ih,hf]
theorem comb_weak:∀ (k:Nat) (c:Bool) (l1 l2 l:QS B),comb k c l1 l2 = some l->∀ x,sel (bif c then l1 else l2) = some x->∃ y,sel l = some y/\WX x y:=by
 intro k
 induction k with
 | zero=>intro c l1 l2 l h; cases h
 | succ k ih=>
  intro c l1 l2 l h x hx
  cases l1 with
  | nil=>
   have h:some (l2.map fun | (p,x)=>(bif c then false else p,x)) = some l:=h
   injection h with h; subst h
   cases c with
   | true=>cases hx
   | false=>exact ⟨x,by rw [sel_map l2 (fun b=>bif false then false else b) (fun b=>rfl)]; exact hx,rfl,Weak.refl _⟩
  | cons x1 r1=>
   obtain ⟨p1,e1,s1⟩:=x1
   cases l2 with
   | nil=>
    have h:some (((p1,e1,s1) :: r1).map fun | (p,x)=>(bif c then p else false,x)) = some l:=h
    injection h with h; subst h
    cases c with
    | false=>cases hx
    | true=>exact ⟨x,by rw [sel_map ((p1,e1,s1) :: r1) (fun b=>bif true then b else false) (fun b=>rfl)]; exact hx,rfl,Weak.refl _⟩
   | cons x2 r2=>
    obtain ⟨p2,e2,s2⟩:=x2
    have h:(bif UN e1 e2 then match Zcq c s1 s2 with
     | some s=>match comb k c r1 r2 with
      | some r=>some ((bif c then p1 else p2,e1,s) :: r)
      | none=>none
     | none=>none
    else bif Nat.blt e1.key e2.key then match comb k c r1 ((p2,e2,s2) :: r2) with
     | some r=>some ((bif c then p1 else false,e1,s1) :: r)
     | none=>none
    else match comb k c ((p1,e1,s1) :: r1) r2 with
     | some r=>some ((bif c then false else p2,e2,s2) :: r)
     | none=>none) = some l:=h
    cases he:UN e1 e2
    ·rw [he] at h
     simp only [cond_false] at h
     cases hk:Nat.blt e1.key e2.key
     ·rw [hk] at h
      simp only [cond_false] at h
      split at h
      ·rename_i r hr
       injection h with h; subst h
       have:=ih c ((p1,e1,s1) :: r1) r2 r hr
       cases c with
       | true=>simp only [cond_true,sel,cond_false] at hx this ⊢; exact this x hx
       | false=>
        simp only [cond_false,sel] at hx this ⊢
        cases p2
        ·exact this x hx
        ·exact ⟨x,hx,rfl,Weak.refl _⟩
      ·cases h
     ·rw [hk] at h
      simp only [cond_true] at h
      split at h
      ·rename_i r hr
       injection h with h; subst h
       have:=ih c r1 ((p2,e2,s2) :: r2) r hr
       cases c with
       | false=>simp only [sel,cond_false] at hx this ⊢; exact this x hx
       | true=>
        simp only [cond_true,sel] at hx this ⊢
        cases p1
        ·exact this x hx
        ·exact ⟨x,hx,rfl,Weak.refl _⟩
      ·cases h
    ·rw [he] at h
     simp only [cond_true] at h
     split at h
     ·rename_i s hs
      split at h
      ·rename_i r hr
       injection h with h; subst h
       have:=ih c r1 r2 r hr
       have hw:=ZlO hs
       have hee:=Zgq _ _ he
       cases c with
       | true=>
        simp only [cond_true,sel] at hx this hw ⊢
        cases p1
        ·exact this x hx
        ·injection hx with hx
         subst hx
         exact ⟨_,rfl,rfl,hw⟩
       | false=>
        simp only [cond_false,sel] at hx this hw ⊢
        cases p2
        ·exact this x hx
        ·injection hx with hx
         subst hx
         exact ⟨_,rfl,hee.symm,hw⟩
      ·cases h
     ·cases h
def Needs {α:Type} (T:Tree α):Prop:=match needs T with | none=>True | some p=>p
theorem Zgk {P:Program}:∀ (T:Tree (Ex×St B)) (l:QS B) (Q:Ex×St B->Prop),ways T = some l->Needs T->(∀ y,sel l = some y->Q y)->T.holds P fun x=>∃ y,Q y/\WX x y:=by
 intro T
 induction T with
 | leaf x=>
  intro l Q h _ hq
  injection h with h; subst h
  exact ⟨x,hq x rfl,rfl,Weak.refl _⟩
 | stuck=>intro l Q h; cases h
 | all σ t _=>intro l Q h; cases h
 | given p t _=>intro l Q h; cases h
 | both t f _ _=>intro l Q h; cases h
 | need p t ih=>
  intro l Q h hn hq
  have hn':p/\Needs t:=by
   unfold Needs at hn ⊢
   simp only [needs] at hn
   cases hm:needs t with
   | none=>rw [hm] at hn; exact ⟨hn,trivial⟩
   | some q=>rw [hm] at hn; exact hn
  exact ⟨hn'.1,ih l Q h hn'.2 hq⟩
 | node c t f iht ihf=>
  intro l Q h hn hq
  simp only [ways] at h
  split at h
  ·rename_i l1 h1
   split at h
   ·rename_i l2 h2
    have hw:=comb_weak _ _ _ _ _ h
    have hn':(c = true->Needs t)/\(c = false->Needs f):=by
     unfold Needs at hn ⊢
     simp only [needs] at hn
     cases hm:needs t <;> cases hm':needs f <;> rw [hm,hm'] at hn <;> dsimp only at hn ⊢
     ·exact ⟨fun _=>trivial,fun _=>trivial⟩
     ·exact ⟨fun _=>trivial,hn⟩
     ·exact ⟨hn,fun _=>trivial⟩
     ·exact hn
    have step:∀ (l':QS B) (T':Tree (Ex×St B)),(bif c then l1 else l2) = l'->(∀ Q':Ex×St B->Prop,(∀ y,sel l' = some y->Q' y)->T'.holds P fun x=>∃ y,Q' y/\WX x y)->T'.holds P fun x=>∃ y,Q y/\WX x y:=by
     intro l' T' hl hT
     refine Tree.Xh T' (fun x ⟨y,⟨z,hz1,hz2⟩,hy⟩=>⟨z,hz1,hy.1.trans hz2.1,hy.2.trans hz2.2⟩) (hT (fun y=>∃ z,Q z/\WX y z) fun y hy=>?_)
     obtain ⟨z,hz1,hz2⟩:=hw y (by rw [hl]; exact hy)
     exact ⟨z,hq z hz1,hz2⟩
    exact ⟨fun hc=>step l1 t (by rw [hc]; rfl) fun Q' hQ'=>iht l1 Q' h1 (hn'.1 hc) hQ',fun hc=>step l2 f (by rw [hc]; rfl) fun Q' hQ'=>ihf l2 Q' h2 (hn'.2 hc) hQ'⟩
   ·cases h
  ·cases h
theorem Zft {P:Program}:∀ (l:QS B) (Q:Ex×St B->Prop),(VY l).holds P Q->∀ y,sel l = some y->Q y
 | [],_,h,_,_=>h.elim
 | [x],Q,h,y,hy=>by
  simp only [sel] at hy
  cases hb:x.1
  ·rw [hb] at hy; cases hy
  ·rw [hb] at hy; injection hy with hy; subst hy; exact h
 | x :: x' :: r,Q,h,y,hy=>by
  have h':(x.1 = true->Q x.2)/\(x.1 = false->(VY (x' :: r)).holds P Q):=h
  simp only [sel] at hy
  cases hb:x.1
  ·rw [hb] at hy
   exact Zft (x' :: r) Q (h'.2 hb) y hy
  ·rw [hb] at hy
   injection hy with hy; subst hy; exact h'.1 hb
theorem Zhg {P:Program} {T:Tree (Ex×St B)} {Q:Ex×St B->Prop} (h:(Zc2 T).holds P Q):T.holds P fun x=>∃ y,Q y/\WX x y:=by
 have refl:T.holds P Q->T.holds P fun x=>∃ y,Q y/\WX x y:=Tree.Xh T fun x hx=>⟨x,hx,rfl,Weak.refl _⟩
 have main:(match ways T with
  | some l=>match needs T with
   | none=>VY l
   | some p=>.need p (VY l)
  | none=>T).holds P Q->T.holds P fun x=>∃ y,Q y/\WX x y:=by
  intro h
  split at h
  ·rename_i l hl
   split at h
   ·rename_i hn
    exact Zgk T l Q hl (by unfold Needs; rw [hn]; trivial) (Zft l Q h)
   ·rename_i p hn
    exact Zgk T l Q hl (by unfold Needs; rw [hn]; exact h.1) (Zft l Q h.2)
  ·exact refl h
 unfold Zc2 at h
 split at h
 ·exact refl h
 ·exact main h
theorem Zgy {x y:Option (Ex×St B)} {r:Ex×St B} (h:meetX x y = some r):(∃ a,x = some a/\WX a r)/\∃ a,y = some a/\WX a r:=by
 unfold meetX at h
 split at h
 ·rename_i e s
  split at h
  ·rename_i e' s'
   cases he:UN e e'
   ·rw [he] at h; cases h
   ·rw [he] at h
    simp only [cond_true] at h
    split at h
    ·rename_i q hq
     injection h with h
     subst h
     obtain rfl:=Zgq _ _ he
     exact ⟨⟨_,rfl,rfl,Zis (c:=true) hq⟩,_,rfl,rfl,Zis (c:=false) hq⟩
    ·cases h
  ·cases h
 ·cases h
theorem WX.trans {x y z:Ex×St B} (h:WX x y) (h':WX y z):WX x z:=⟨h.1.trans h'.1,h.2.trans h'.2⟩
theorem Zgf {P:Program}:∀ (T:Tree (Ex×St B)) (r:Ex×St B),Vt T = some r->Needs T->T.holds P fun x=>WX x r:=by
 intro T
 induction T with
 | leaf x=>
  intro r h _
  injection h with h; subst h
  exact ⟨rfl,Weak.refl _⟩
 | stuck=>intro r h; cases h
 | all σ t _=>intro r h; cases h
 | given p t _=>intro r h; cases h
 | need p t ih=>
  intro r h hn
  have hn':p/\Needs t:=by
   unfold Needs at hn ⊢
   simp only [needs] at hn
   cases hm:needs t with
   | none=>rw [hm] at hn; exact ⟨hn,trivial⟩
   | some q=>rw [hm] at hn; exact hn
  exact ⟨hn'.1,ih r h hn'.2⟩
 | node c t f iht ihf=>
  intro r h hn
  obtain ⟨⟨x,hx,h1⟩,y,hy,h2⟩:=Zgy h
  have hn':(c = true->Needs t)/\(c = false->Needs f):=by
   unfold Needs at hn ⊢
   simp only [needs] at hn
   cases hm:needs t <;> cases hm':needs f <;> rw [hm,hm'] at hn <;> dsimp only at hn ⊢
   ·exact ⟨fun _=>trivial,fun _=>trivial⟩
   ·exact ⟨fun _=>trivial,hn⟩
   ·exact ⟨hn,fun _=>trivial⟩
   ·exact hn
  exact ⟨fun hc=>Tree.Xh t (fun _ h=>h.trans h1) (iht x hx (hn'.1 hc)),fun hc=>Tree.Xh f (fun _ h=>h.trans h2) (ihf y hy (hn'.2 hc))⟩
 | both t f iht ihf=>
  intro r h hn
  obtain ⟨⟨x,hx,h1⟩,y,hy,h2⟩:=Zgy h
  have hn':Needs t/\Needs f:=by
   unfold Needs at hn ⊢
   simp only [needs] at hn
   cases hm:needs t <;> cases hm':needs f <;> rw [hm,hm'] at hn <;> dsimp only at hn ⊢
   ·exact ⟨trivial,trivial⟩
   ·exact ⟨trivial,hn⟩
   ·exact ⟨hn,trivial⟩
   ·exact hn
  exact ⟨Tree.Xh t (fun _ h=>h.trans h1) (iht x hx hn'.1),Tree.Xh f (fun _ h=>h.trans h2) (ihf y hy hn'.2)⟩
theorem ZkC {P:Program} {T:Tree (Ex×St B)} {Q:Ex×St B->Prop} (h:(collapse T).holds P Q):T.holds P fun x=>∃ y,Q y/\WX x y:=by
 have refl:T.holds P Q->T.holds P fun x=>∃ y,Q y/\WX x y:=Tree.Xh T fun x hx=>⟨x,hx,rfl,Weak.refl _⟩
 unfold collapse at h
 split at h
 ·exact refl h
 ·split at h
  ·rename_i r hr
   split at h
   ·rename_i hn
    exact Tree.Xh T (fun x hx=>⟨r,h,hx⟩) (Zgf T r hr (by unfold Needs; rw [hn]; trivial))
   ·rename_i p hn
    exact Tree.Xh T (fun x hx=>⟨r,h.2,hx⟩) (Zgf T r hr (by unfold Needs; rw [hn]; exact h.1))
  ·exact refl h
theorem sub_rel {s:St B} {lo base:Nat} {m:Nat->Option Nat} {F:Nat->Prop} {a:Act} {w:World} (hr:Rel lo base m F s a w):Rel lo base m F s.sub a w:=
 ⟨hr.hr,hr.defers,hr.size,hr.tmp⟩
theorem Zgc {s:St B} {s1:St s.bs} {lo base:Nat} {m:Nat->Option Nat} {F:Nat->Prop} {a:Act} {w:World} (hr:Rel lo base m F s1 a w):Rel lo base m F (s.Kt s1) a w:=by
 have ht:∀ i,(s.Kt s1).tmp i = s1.tmp i:=fun i=>Zdc _ _ _ _
 have hb:(s.Kt s1).blk = s1.blk:=funext fun i=>Zdc _ _ _ _
 exact ⟨by rw [hb]; exact hr.hr,hr.defers,hr.size,fun i=>by rw [ht]; exact hr.tmp i⟩
theorem Zl0 {P:Program} {s:St B} {f:St s.bs->Tree (Ex×St s.bs)} {Q:Ex×St B->Prop} (h:(merged s f).holds P Q) :
  (f s.sub).holds P fun x=>∃ y,Q (y.1,s.Kt y.2)/\WX x y:=by
 unfold merged at h
 rw [Tree.Ya] at h
 exact Zhg h
theorem Zjf {P:Program} {s:St B} {f:St s.bs->Tree (Ex×St s.bs)} {Q:Ex×St B->Prop} (h:(Zax s f).holds P Q) :
  (f s.sub).holds P fun x=>∃ y,Q (y.1,s.Kt y.2)/\WX x y:=by
 unfold Zax at h
 rw [Tree.Ya] at h
 exact Tree.Xh _ (fun x ⟨y,⟨z,hz,hyz⟩,hxy⟩=>⟨z,hz,hxy.trans hyz⟩) (Zhg (ZkC h))
end
end Go.Fw
namespace Go.Fw
section
variable {F:Nat->Prop} {w:World} {n n':Nat} {m m':Nat->Option Nat} {f:Nat->Option Nat}
theorem R_rnm (hf:∀ b c,f b = some c->b < n->c < n'/\m' c = m b):∀ (v:V),
  (∀ x,R F w v n m x->R F w (v.rnm f) n' m' x)/\(∀ xs,RL F w v n m xs->RL F w (v.rnm f) n' m' xs):=by
 intro v
 induction v with
 | cons h t ih1 ih2=>
  refine ⟨fun x h=>by simp only [R] at h,fun xs h=>?_⟩
  simp only [V.rnm,RL] at h ⊢
  obtain ⟨x,r,rfl,h1,h2⟩:=h
  exact ⟨x,r,rfl,ih1.1 _ h1,ih2.2 _ h2⟩
 | agg cs ih=>
  refine ⟨fun x h=>?_,fun xs h=>by simp only [RL] at h⟩
  simp only [V.rnm,R] at h ⊢
  obtain ⟨xs,rfl,h1⟩:=h
  exact ⟨xs,rfl,ih.2 _ h1⟩
 | tup cs ih=>
  refine ⟨fun x h=>?_,fun xs h=>by simp only [RL] at h⟩
  simp only [V.rnm,R] at h ⊢
  obtain ⟨xs,rfl,h1⟩:=h
  exact ⟨xs,rfl,ih.2 _ h1⟩
 | fn g a b ih1 ih2=>
  refine ⟨fun x h=>?_,fun xs h=>by simp only [RL] at h⟩
  simp only [V.rnm,R] at h ⊢
  obtain ⟨xs,ys,rfl,h1,h2⟩:=h
  exact ⟨xs,ys,rfl,ih1.2 _ h1,ih2.2 _ h2⟩
 | ptr st b es i o=>
  refine ⟨fun x h=>?_,fun xs h=>by simp only [RL] at h⟩
  simp only [R] at h
  obtain ⟨hb,B,hx,h⟩:=h
  cases hc:f b with
  | none=>simp only [V.rnm,hc,R]
  | some c=>
   simp only [V.rnm,hc,R]
   exact ⟨(hf b c hc hb).1,B,hx,by rw [(hf b c hc hb).2]; exact h⟩
 | osl st b es i k=>
  refine ⟨fun x h=>?_,fun xs h=>by simp only [RL] at h⟩
  simp only [R] at h
  obtain ⟨hb,a,cap,hx,hk,h⟩:=h
  cases hc:f b with
  | none=>simp only [V.rnm,hc,R]
  | some c=>
   simp only [V.rnm,hc,R]
   exact ⟨(hf b c hc hb).1,a,cap,hx,hk,h.imp id fun ⟨B,c',el,fr,ha,h,hr⟩=>⟨B,c',el,fr,ha,by rw [(hf b c hc hb).2]; exact h,hr⟩⟩
 | osp st b es i k c0=>
  refine ⟨fun x h=>?_,fun xs h=>by simp only [RL] at h⟩
  simp only [R] at h
  obtain ⟨hb,a,cap,hx,hk,hk2,h⟩:=h
  cases hc:f b with
  | none=>simp only [V.rnm,hc,R]
  | some c=>
   simp only [V.rnm,hc,R]
   exact ⟨(hf b c hc hb).1,a,cap,hx,hk,hk2,h.imp id fun ⟨B,c',el,fr,ha,h,hr⟩=>⟨B,c',el,fr,ha,by rw [(hf b c hc hb).2]; exact h,hr⟩⟩
 | mp b=>
  refine ⟨fun x h=>?_,fun xs h=>by simp only [RL] at h⟩
  simp only [R] at h
  obtain ⟨hb,B,hx,h⟩:=h
  cases hc:f b with
  | none=>simp only [V.rnm,hc,R]
  | some c=>
   simp only [V.rnm,hc,R]
   exact ⟨(hf b c hc hb).1,B,hx,by rw [(hf b c hc hb).2]; exact h⟩
 | yld b=>exact ⟨fun x h=>by simp only [V.rnm,R],fun xs h=>by simp only [RL] at h⟩
 | nil=>exact ⟨fun x h=>by simp only [R] at h,fun xs h=>by simp only [V.rnm,RL] at h ⊢; exact h⟩
 | junk=>exact ⟨fun x h=>by simp only [V.rnm,R],fun xs h=>by simp only [RL] at h⟩
 | _=>exact ⟨fun x h=>by simp only [V.rnm,R] at h ⊢; exact h,fun xs h=>by simp only [RL] at h⟩
theorem RB_rnm (hf:∀ b c,f b = some c->b < n->c < n'/\m' c = m b) {blk:Blk} {B:Option Nat} (hb:RB F w n m blk B):RB F w n' m' (blk.rnm f) B:=by
 cases blk with
 | none=>exact hb
 | var cs=>
  obtain ⟨b,xs,el,ys,zs,e,hc,hsp,hr⟩:=hb
  exact ⟨b,xs,el,ys,zs,e,hc,hsp,(R_rnm hf cs).2 _ hr⟩
 | arr es k get=>exact hb
 | Ze kd st g ks=>
  obtain ⟨b,es,clock,e,hc,hE,hg⟩:=hb
  exact ⟨b,es,clock,e,hc,hE,fun k hk=>⟨(hg k hk).1,fun v hv=>(R_rnm hf (g k).2).1 _ ((hg k hk).2 v hv)⟩⟩
 | any=>exact trivial
 | iter mb since seen last=>exact trivial
 | rng f ps asg bd row N st pend=>exact trivial
end
theorem bltT {a b:Nat}:Nat.blt a b = true↔a < b:=by rw [Nat.blt_eq]
theorem beqT {a b:Nat}:Nat.beq a b = true↔a = b:=⟨Nat.eq_of_beq_eq_true,fun h=>by subst h; exact Nat.beq_refl a⟩
theorem ZdH {b:Nat}:∀ {l:List Nat} {i j:Nat},idxOf b l i = some j->i<=j/\l[j - i]? = some b:=by
 intro l
 induction l with
 | nil=>intro i j h; cases h
 | cons c l ih=>
  intro i j h
  unfold idxOf at h
  cases hc:Nat.beq c b with
  | true=>rw [hc] at h; injection h with h; subst h; exact ⟨Nat.le_refl _,by rw [Nat.sub_self]; simp [beqT.1 hc]⟩
  | false=>
   rw [hc] at h
   obtain ⟨h1,h2⟩:=ih h
   refine ⟨by omega,?_⟩
   have e:j - i = (j - (i + 1)) + 1:=by omega
   rw [e,List.getElem?_cons_succ]; exact h2
theorem ZlY {b:Nat}:∀ {l:List Nat} {i:Nat},idxOf b l i = none->∀ j:Nat,l[j]? ≠ some b:=by
 intro l
 induction l with
 | nil=>intro i _ j h; simp at h
 | cons c l ih=>
  intro i h j hj
  unfold idxOf at h
  cases hc:Nat.beq c b with
  | true=>rw [hc] at h; cases h
  | false=>
   rw [hc] at h
   cases j with
   | zero=>simp at hj; subst hj; rw [Nat.beq_refl] at hc; cases hc
   | succ j=>rw [List.getElem?_cons_succ] at hj; exact ih h j hj
theorem Zh7 {b:Nat}:∀ {l:List Nat},hasN b l = false->∀ j:Nat,l[j]? ≠ some b:=by
 intro l
 induction l with
 | nil=>intro _ j h; simp at h
 | cons c l ih=>
  intro h j hj
  unfold hasN at h
  rw [Bool.or_eq_false_iff] at h
  cases j with
  | zero=>simp at hj; subst hj; rw [Nat.beq_refl] at h; cases h.1
  | succ j=>rw [List.getElem?_cons_succ] at hj; exact ih h.2 j hj
theorem ZcY:∀ {l:List Nat},KL l = true->∀ {i j b:Nat},l[i]? = some b->l[j]? = some b->i = j:=by
 intro l
 induction l with
 | nil=>intro _ i j b h; simp at h
 | cons c l ih=>
  intro h i j b hi hj
  unfold KL at h
  rw [Bool.and_eq_true,Bool.not_eq_true'] at h
  cases i with
  | zero=>
   cases j with
   | zero=>rfl
   | succ j=>
    rw [List.getElem?_cons_zero] at hi; injection hi with hi; subst hi
    rw [List.getElem?_cons_succ] at hj
    exact absurd hj (Zh7 h.1 j)
  | succ i=>
   cases j with
   | zero=>
    rw [List.getElem?_cons_zero] at hj; injection hj with hj; subst hj
    rw [List.getElem?_cons_succ] at hi
    exact absurd hi (Zh7 h.1 i)
   | succ j=>
    rw [List.getElem?_cons_succ] at hi hj
    rw [ih h.2 hi hj]
theorem idxOf_get {l:List Nat} (hn:KL l = true) {i b:Nat} (h:l[i]? = some b):idxOf b l 0 = some i:=by
 cases hx:idxOf b l 0 with
 | none=>exact absurd h (ZlY hx i)
 | some j=>
  have:=(ZdH hx).2
  rw [Nat.sub_zero] at this
  rw [ZcY hn this h]
theorem ZlW {hb:Nat->Blk} {f:Nat->Option Nat}:∀ (bl:List Blk) (i:Nat) (h:PT Blk),(∀ j c,i<=j->f j = some c->∀ j' ,i<=j'->f j' = some c->j' = j) ->
  (∀ j c,i<=j->j < i + bl.length->f j = some c->look hb (U1 f bl i h) c = (bl.getD (j - i) .none).rnm f) /\
  (∀ c,(∀ j,i<=j->j < i + bl.length->f j ≠ some c)->look hb (U1 f bl i h) c = look hb h c):=by
 intro bl
 induction bl with
 | nil=>intro i h _; exact ⟨fun j c h1 h2=>by simp at h2; omega,fun c _=>rfl⟩
 | cons b bl ih=>
  intro i h hinj
  obtain ⟨k1,k2⟩:=ih (i + 1) (setAt f i b h) (fun j c h1 h2 j' h3 h4=>hinj j c (by omega) h2 j' (by omega) h4)
  refine ⟨fun j c h1 h2 h3=>?_,fun c hc=>?_⟩
  ·show look hb (U1 f bl (i + 1) (setAt f i b h)) c = _
   rw [List.length_cons] at h2
   rcases Nat.eq_or_lt_of_le h1 with e | e
   ·subst e
    rw [k2 c fun j' h4 h5 h6=>?_]
    ·unfold setAt
     rw [h3]
     show look hb (h.set c (b.rnm f)) c = _
     rw [KF,Nat.sub_self]; rfl
    ·have:=hinj i c (Nat.le_refl _) h3 j' (by omega) h6
     omega
   ·rw [k1 j c e (by omega) h3]
    have e2:j - i = (j - (i + 1)) + 1:=by omega
    rw [e2,List.getD_cons_succ]
  ·show look hb (U1 f bl (i + 1) (setAt f i b h)) c = _
   rw [k2 c fun j h1 h2=>hc j (by omega) (by rw [List.length_cons]; omega)]
   unfold setAt
   cases hf:f i with
   | none=>rfl
   | some d=>
    show look hb (h.set d (b.rnm f)) c = _
    rw [Vo]
    intro e
    subst e
    exact hc i (Nat.le_refl _) (by rw [List.length_cons]; omega) hf
theorem evHeap_ok {P:Program} {g:FuncId} {K:HK} (hK:Xj P g K) {hb:Nat->Blk} {args:V} {h:PT Blk} {n:Nat} {l:List Nat} {T:Tree (V×PT Blk×Nat)} (ht:ZaW K hb args h n l = some T)
  {base:Nat} {m:Nat->Option Nat} {F:Nat->Prop} {w:World} {xs:Array Value} {Q:V×PT Blk×Nat->Prop} {KK:Ending->World->Prop}
  (hr:HR base m F (look hb h) n w) (ha:RL F w args n m xs.toList) (hq:T.holds P Q)
  (hk:∀ v h' n',Q (v,h',n')->∀ m' F' w' x,Ext base m F n w m' F' n' w'->HR base m' F' (look hb h') n' w'->R F' w' v n' m' x->KK (.returned x) w'):Has P g/\Calls P g xs w KK:=by
 unfold ZaW at ht
 cases hc:(l.all (fun b=>Nat.blt b n&&!(look hb h b).isAny)&&KL l) with
 | false=>rw [hc] at ht; cases ht
 | true=>
 rw [hc] at ht
 rw [Bool.and_eq_true,List.all_eq_true] at hc
 obtain ⟨hall,hnd⟩:=hc
 have hl:∀ i b,l[i]? = some b->b < n/\look hb h b ≠ .any:=fun i b hi=>by
  have hmem:b ∈ l:=List.mem_of_getElem? hi
  have:=hall b hmem
  rw [Bool.and_eq_true,Bool.not_eq_true'] at this
  refine ⟨bltT.1 this.1,fun e=>?_⟩
  rw [e] at this; cases this.2
 dsimp only [cond_true] at ht
 split at ht
 ·rename_i T0 hK0
  injection ht with ht
  subst ht
  rw [Tree.Ya] at hq
  let idx:Nat->Option Nat:=fun b=>idxOf b l 0
  have hidx:∀ b i,idx b = some i->l[i]? = some b:=fun b i e=>by have:=(ZdH e).2; rw [Nat.sub_zero] at this; exact this
  have hidx':∀ i b,l[i]? = some b->idx b = some i:=fun i b e=>idxOf_get hnd e
  have hlt:∀ i b,l[i]? = some b->i < l.length:=fun i b e=>(List.getElem?_eq_some_iff.1 e).1
  let m0:Nat->Option Nat:=fun i=>match l[i]? with | some b=>m b | none=>none
  have hm0:∀ i b,l[i]? = some b->m0 i = m b:=fun i b e=>by simp only [m0,e]
  have hm0s:∀ i B,m0 i = some B->∃ b,l[i]? = some b/\m b = some B:=fun i B e=>by
   cases hx:l[i]? with
   | none=>simp only [m0,hx] at e; cases e
   | some b=>exact ⟨b,rfl,by rw [<- hm0 i b hx]; exact e⟩
  have hfren:∀ b c,idx b = some c->b < n->c < (l.map fun b=>(look hb h b).rnm idx).length/\m0 c = m b:=fun b c e _=>⟨by rw [List.length_map]; exact hlt _ _ (hidx b c e),hm0 c b (hidx b c e)⟩
  have hbl:∀ i b,l[i]? = some b->(l.map fun b=>(look hb h b).rnm idx).getD i .none = (look hb h b).rnm idx:=fun i b e=>by
   rw [List.getD_eq_getElem?_getD,List.getElem?_map,e]; rfl
  have hr0:HR base m0 F (fun b=>(l.map fun b=>(look hb h b).rnm idx).getD b .none) (l.map fun b=>(look hb h b).rnm idx).length w:=by
   refine ⟨hr.low,hr.fdom,fun i hi=>?_,fun i B e=>?_,fun i hi=>?_,hr.gl,fun i B e=>?_,fun i j B e1 e2 hne=>?_⟩
   ·rw [List.length_map] at hi
    obtain ⟨b,hb'⟩:∃ b,l[i]? = some b:=⟨l[i],List.getElem?_eq_getElem hi⟩
    rw [hbl i b hb',hm0 i b hb']
    exact RB_rnm hfren (hr.blk b (hl i b hb').1)
   ·obtain ⟨b,_,e'⟩:=hm0s i B e; exact hr.dom b B e'
   ·rw [List.length_map] at hi
    simp only [m0,List.getElem?_eq_none hi]
   ·obtain ⟨b,_,e'⟩:=hm0s i B e; exact hr.own b B e'
   ·obtain ⟨b,h1,e1'⟩:=hm0s i B e1
    obtain ⟨c,h2,e2'⟩:=hm0s j B e2
    have hbc:b ≠ c:=fun e=>hne (ZcY hnd h1 (by rw [e]; exact h2))
    exact absurd (hr.inj b c B e1' e2' hbc) (fun h=>h.elim (hl i b h1).2 (hl j c h2).2)
  have ha0:RL F w (args.rnm idx) (l.map fun b=>(look hb h b).rnm idx).length m0 xs.toList:=(R_rnm hfren args).2 _ ha
  refine hK _ _ _ hK0 base m0 F w xs _ KK hr0 ha0 hq fun v bl' hQ m0' F' w' x he hr' hx=>?_
  have hk0:l.length<=bl'.length:=by have:=he.le; rwa [List.length_map] at this
  let back:Nat->Option Nat:=backOf l n
  have hback1:∀ j b,l[j]? = some b->back j = some b:=fun j b e=>by
   show (bif Nat.blt j l.length then l[j]? else _) = _
   rw [bltT.2 (hlt _ _ e)]; exact e
  have hback2:∀ j,l.length<=j->back j = some (n + (j - l.length)):=fun j e=>by
   show (bif Nat.blt j l.length then l[j]? else _) = _
   have:Nat.blt j l.length = false:=by
    cases hx:Nat.blt j l.length
    ·rfl
    ·have:=bltT.1 hx; omega
   rw [this]; rfl
  have hbackc:∀ j c,back j = some c->(l[j]? = some c/\c < n)\/(l.length<=j/\c = n + (j - l.length)):=fun j c e=>by
   rcases Nat.lt_or_ge j l.length with h' | h'
   ·obtain ⟨b,hb'⟩:∃ b,l[j]? = some b:=⟨l[j],List.getElem?_eq_getElem h'⟩
    rw [hback1 j b hb'] at e
    injection e with e
    subst e
    exact .inl ⟨hb',(hl j b hb').1⟩
   ·rw [hback2 j h'] at e
    injection e with e
    exact .inr ⟨h',e.symm⟩
  have hbinj:∀ j c,back j = some c->∀ j',back j' = some c->j' = j:=fun j c e j' e'=>by
   rcases hbackc j c e with ⟨h1,h2⟩ | ⟨h1,h2⟩
   ·rcases hbackc j' c e' with ⟨h3,h4⟩ | ⟨h3,h4⟩
    ·exact ZcY hnd h3 h1
    ·omega
   ·rcases hbackc j' c e' with ⟨h3,h4⟩ | ⟨h3,h4⟩ <;> omega
  obtain ⟨hput1,hput2⟩:=ZlW (hb:=hb) (f:=back) bl' 0 h (fun j c _ e j' _ e'=>hbinj j c e j' e')
  let m':Nat->Option Nat:=fun b=>match idx b with
   | some i=>m0' i
   | none=>if b < n then m b else m0' (l.length + (b - n))
  have hm1:∀ i b,l[i]? = some b->m' b = m0' i:=fun i b e=>by simp only [m',hidx' i b e]
  have hidxn:∀ b,n<=b->idx b = none:=fun b hb'=>by
   cases hx:idx b with
   | none=>rfl
   | some i=>have:=(hl i b (hidx b i hx)).1; omega
  have hm2:∀ j,l.length<=j->m' (n + (j - l.length)) = m0' j:=fun j hj=>by
   have e:l.length + (n + (j - l.length) - n) = j:=by omega
   simp only [m',hidxn (n + (j - l.length)) (by omega)]
   rw [if_neg (by omega),e]
  have hm3:∀ b,idx b = none->b < n->m' b = m b:=fun b e hb'=>by simp only [m',e,if_pos hb']
  have hmb:∀ j c,back j = some c->m' c = m0' j:=fun j c e=>by
   rcases hbackc j c e with ⟨h1,_⟩ | ⟨h1,rfl⟩
   ·exact hm1 j c h1
   ·exact hm2 j h1
  have hcase:∀ b,(∃ j,back j = some b/\m' b = m0' j)\/(idx b = none/\b < n/\m' b = m b/\∀ j,back j ≠ some b):=fun b=>by
   cases hx:idx b with
   | some i=>exact .inl ⟨i,hback1 i b (hidx b i hx),hm1 i b (hidx b i hx)⟩
   | none=>
    rcases Nat.lt_or_ge b n with h' | h'
    ·refine .inr ⟨rfl,h',hm3 b hx h',fun j e=>?_⟩
     rcases hbackc j b e with ⟨h1,_⟩ | ⟨h1,h2⟩
     ·rw [hidx' j b h1] at hx; cases hx
     ·omega
    ·refine .inl ⟨l.length + (b - n),?_,?_⟩
     ·rw [hback2 _ (by omega)]; congr 1; omega
     ·have:=hm2 (l.length + (b - n)) (by omega)
      have e:n + (l.length + (b - n) - l.length) = b:=by omega
      rw [e] at this; exact this
  have hn':∀ j c,back j = some c->(j < bl'.length↔c < n + (bl'.length - l.length)):=fun j c e=>by
   rcases hbackc j c e with ⟨h1,h2⟩ | ⟨h1,rfl⟩
   ·have:=hlt _ _ h1; constructor <;> intro _ <;> omega
   ·constructor <;> intro _ <;> omega
  have hren:∀ j c,back j = some c->j < bl'.length->c < n + (bl'.length - l.length)/\m' c = m0' j:=fun j c e hj=>⟨(hn' j c e).1 hj,hmb j c e⟩
  have hold:∀ b B,m b = some B->look hb h b ≠ .any->idx b = none->∀ i,m0 i ≠ some B:=fun b B e hna hx i e'=>by
   obtain ⟨c,h1,e2⟩:=hm0s i B e'
   have hne:b ≠ c:=fun e3=>by subst e3; rw [hidx' i b h1] at hx; cases hx
   exact (hr.inj b c B e e2 hne).elim hna (hl i c h1).2
  have hext:Ext base m F n w m' F' (n + (bl'.length - l.length)) w':=by
   refine ⟨he.f,he.back,he.keep,he.size,he.sz,⟨fun B hB hu=>?_,fun b B e hB=>?_⟩,by omega,fun b hbn B e=>?_,he.calm⟩
   ·refine he.ow.un B hB fun i e=>?_
    obtain ⟨b,_,e'⟩:=hm0s i B e
    exact hu b e'
   ·rcases hcase b with ⟨j,_,e1⟩ | ⟨_,_,e1,_⟩
    ·rw [e1] at e
     obtain ⟨i,e2⟩:=he.ow.old j B e hB
     obtain ⟨c,_,e3⟩:=hm0s i B e2
     exact ⟨c,e3⟩
    ·exact ⟨b,by rw [<- e1]; exact e⟩
   ·cases hx:idx b with
    | some i=>
     have hi:=hidx b i hx
     rw [hm1 i b hi]
     exact he.map i (by rw [List.length_map]; exact hlt _ _ hi) B (by rw [hm0 i b hi]; exact e)
    | none=>rw [hm3 b hx hbn]; exact e
  refine hk _ _ _ hQ m' F' w' x hext ?_ ((R_rnm (fun j c e hj=>hren j c e hj) v).1 x hx)
  refine ⟨hr'.low,hr'.fdom,fun b hbn=>?_,fun b B e=>?_,fun b hbn=>?_,hr'.gl,fun b B e=>?_,fun b c B e1 e2 hne=>?_⟩
  ·rcases hcase b with ⟨j,hj,e1⟩ | ⟨hx,hb1,e1,hb2⟩
   ·have hjl:j < bl'.length:=(hn' j b hj).2 hbn
    rw [e1,hput1 j b (Nat.zero_le _) (by omega) hj,Nat.sub_zero]
    exact RB_rnm (fun j c e hj=>hren j c e hj) (hr'.blk j hjl)
   ·rw [e1,hput2 b fun j _ _=>hb2 j]
    by_cases hany:look hb h b = .any
    ·rw [hany]; exact trivial
    ·exact JD hext (fun B e=>he.ow.un B (hr.dom b B e) (hold b B e hany hx)) (hr.blk b hb1)
  ·rcases hcase b with ⟨j,_,e1⟩ | ⟨_,_,e1,_⟩
   ·rw [e1] at e; exact hr'.dom j B e
   ·rw [e1] at e; exact Nat.lt_of_lt_of_le (hr.dom b B e) he.size
  ·rcases hcase b with ⟨j,hj,e1⟩ | ⟨_,hb1,_,_⟩
   ·rw [e1]
    have:¬ j < bl'.length:=fun h=>absurd ((hn' j b hj).1 h) (Nat.not_lt.2 hbn)
    exact hr'.new j (Nat.le_of_not_lt this)
   ·omega
  ·rcases hcase b with ⟨j,_,e1⟩ | ⟨_,_,e1,_⟩
   ·rw [e1] at e; exact hr'.own j B e
   ·rw [e1] at e
    exact ⟨(hr.own b B e).1,fun hF=>(he.back B hF).elim (hr.own b B e).2 fun h=>absurd (hr.dom b B e) (Nat.not_lt.2 h)⟩
  ·have hmix:∀ b c,b ≠ c->(∃ j,back j = some b/\m' b = m0' j)->(idx c = none/\c < n/\m' c = m c/\∀ j,back j ≠ some c)->m' b = some B->m' c = some B->look hb h c = .any:=by
    intro b c hne ⟨j,hj,ej⟩ ⟨hx,hc1,ec,hc2⟩ e1 e2
    rw [ej] at e1
    rw [ec] at e2
    obtain ⟨i,e3⟩:=he.ow.old j B e1 (hr.dom c B e2)
    exact Classical.byContradiction fun hna=>hold c B e2 hna hx i e3
   rcases hcase b with hb1 | hb1
   ·rcases hcase c with hc1 | hc1
    ·obtain ⟨j,hj,ej⟩:=hb1
     obtain ⟨j2,hj2,ej2⟩:=hc1
     have e1':=e1
     have e2':=e2
     rw [ej] at e1'
     rw [ej2] at e2'
     have hjj:j ≠ j2:=fun e=>by subst e; rw [hj] at hj2; injection hj2 with hj2; exact hne hj2
     have hjl:j < bl'.length:=by
      rcases Nat.lt_or_ge j bl'.length with h' | h'
      ·exact h'
      ·rw [hr'.new j h'] at e1'; cases e1'
     have hjl2:j2 < bl'.length:=by
      rcases Nat.lt_or_ge j2 bl'.length with h' | h'
      ·exact h'
      ·rw [hr'.new j2 h'] at e2'; cases e2'
     rw [hput1 j b (Nat.zero_le _) (by omega) hj,hput1 j2 c (Nat.zero_le _) (by omega) hj2,Nat.sub_zero,Nat.sub_zero]
     rcases hr'.inj j j2 B e1' e2' hjj with h' | h'
     ·left; rw [h']; rfl
     ·right; rw [h']; rfl
    ·right
     rw [hput2 c fun j _ _=>hc1.2.2.2 j]
     exact hmix b c hne hb1 hc1 e1 e2
   ·rcases hcase c with hc1 | hc1
    ·left
     rw [hput2 b fun j _ _=>hb1.2.2.2 j]
     exact hmix c b (Ne.symm hne) hc1 hb1 e2 e1
    ·rw [hput2 b fun j _ _=>hb1.2.2.2 j,hput2 c fun j _ _=>hc1.2.2.2 j]
     exact hr.inj b c B (by rw [<- hb1.2.2.1]; exact e1) (by rw [<- hc1.2.2.1]; exact e2) hne
 ·cases ht
end Go.Fw
end
