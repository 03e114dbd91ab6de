/- A region that draws its order: the proof that every order serves. -/
import Derived.Test.YtnjjailadijdlaaGreatDoorMAi
set_option maxRecDepth 100000
set_option linter.unusedVariables false
set_option linter.unusedSimpArgs false
noncomputable section
namespace Go.Fw
theorem stays {α:Type} {f:Nat->α} {W:Nat->Prop} {N:Nat} (h:∀ i,i < N->¬ W i->f (i + 1) = f i):∀ a c,a<=c->c<=N->(∀ d,a<=d->d < c->¬ W d)->f c = f a:=by
 intro a c
 induction c with
 | zero=>
  intro ha _ _
  have:a = 0:=by omega
  subst this; rfl
 | succ c ih=>
  intro ha hc hw
  by_cases e:a = c + 1
  ·subst e; rfl
  ·rw [h c (by omega) (hw c (by omega) (by omega)),ih (by omega) (by omega) (fun d h1 h2=>hw d h1 (by omega))]
theorem reads {α:Type} {f:Nat->α} {W:Nat->Prop} {N:Nat} {L:Nat->Prop} (h:∀ i,i < N->¬ W i->f (i + 1) = f i) {k i:Nat} (hk:k<=N) (hi:i < N)
  (hL:∀ d,d < N->W d->(L d↔d < k)) (hlow:∀ d,d < i->W d->L d) (hhigh:∀ d,i<=d->d < N->W d->¬ L d):f k = f i:=by
 rcases Nat.le_total k i with hki | hki
 ·exact (stays h k i hki (by omega) fun d h1 h2 hw=>by have:=(hL d (by omega) hw).1 (hlow d h2 hw); omega).symm
 ·exact stays h i k hki hk fun d h1 h2 hw=>hhigh d h1 (by omega) hw ((hL d (by omega) hw).2 h2)
theorem cnt_lt (p q:Nat->Bool) (i:Nat):∀ (l:List Nat),(∀ j,q j = true->p j = true)->i ∈ l->p i = true->q i = false->(l.filter q).length < (l.filter p).length:=by
 have le:∀ (l:List Nat),(∀ j,q j = true->p j = true)->(l.filter q).length<=(l.filter p).length:=by
  intro l h
  induction l with
  | nil=>simp
  | cons x l ih=>
   simp only [List.filter_cons]
   cases hq:q x
   ·cases hp:p x <;> simp <;> omega
   ·rw [h x hq]; simpa using ih
 intro l
 induction l with
 | nil=>intro _ h; cases h
 | cons x l ih=>
  intro h hi hp hq
  simp only [List.filter_cons]
  by_cases e:x = i
  ·subst e
   rw [hp,hq]
   have:=le l h
   simp; omega
  ·have hi':i ∈ l:=by
    cases hi with
    | head=>exact absurd rfl e
    | tail _ h=>exact h
   have:=ih h hi' hp hq
   cases hqx:q x
   ·cases hpx:p x <;> simp <;> omega
   ·rw [h x hqx]; simpa using this
section
variable {E:Env} {call:YL} {ops:Array Oper} {bf:List Nat} {nb:Nat} {Bs:Base} {S:Nat->St Bs} {fp:Nat->Ft}
def WrT (ops:Array Oper) (t d:Nat):Prop:=∃ o,ops[d]? = some o/\o.dst = some t
def WrB (fp:Nat->Ft) (b d:Nat):Prop:=(fp d).m = some (true,some b)\/((fp d).m = some (true,none)/\(fp d).w b = true)\/(fp d).l = some b
def Qz (fp:Nat->Ft) (d:Nat):Prop:=(fp d).m = some (true,none)
theorem foot_l {s:St Bs} {nm:Nat} {o:Op} {b:Nat} (h:(foot s nm o).l = some b):b = nm:=by
 cases o <;> simp only [foot] at h <;> try (cases h; done)
 all_goals first
  | (injection h with h; exact h.symm)
  | (split at h <;> first | (cases h; done) | (injection h with h; exact h.symm))
theorem foot_lays {s:St Bs} {nm:Nat} {o:Oper} {b:Nat} (h:(foot s nm o.op).l = some b):lays o = true:=by
 unfold lays
 cases hop:o.op <;> rw [hop] at h <;> simp only [foot] at h <;> try rfl
 all_goals try (cases h; done)
 all_goals try (split at h <;> cases h; done)
 rename_i c
 dsimp only
 cases hc:c.callee <;> rw [hc] at h <;> first | rfl | (cases h; done)
theorem Zhj {s:St Bs} {nm:Nat} {o:Op}:(foot s nm o).m ≠ some (true,none):=by
 intro h
 cases o <;> simp only [foot] at h <;> try (cases h; done)
 all_goals split at h <;> try (cases h; done)
 dsimp only at h
 split at h
 ·rename_i q _
  cases hq:q.clean <;> rw [hq] at h <;> cases h
 ·cases h
theorem J8 {s:St Bs} {dst:Option Tmp} {v:V} {t:Nat} (h:dst ≠ some t):(s.put dst v).tmp t = s.tmp t:=by
 unfold St.put
 cases dst with
 | none=>rfl
 | some d=>exact Vo _ _ _ (fun e=>h (by rw [e]))
theorem Zhl {s:St Bs} {x:Option (Nat×Blk)} {b:Nat} (h:∀ blk,x ≠ some (b,blk)):(s.wr x).blk b = s.blk b:=by
 cases x with
 | none=>rfl
 | some q=>obtain ⟨b',blk⟩:=q; exact Vo _ _ _ (fun e=>h blk (by rw [e]))
theorem Zig {s:St Bs} {nb sz nm:Nat} {kn:List (Nat×Bool)} {o:Op} {r:V×Option (Nat×Blk)} (hf:(evD E call s nb sz nm kn o).flat = true) (hr:(evD E call s nb sz nm kn o).holds E.P fun x=>x = r) {b:Nat} {blk:Blk} (h2:r.2 = some (b,blk)) :
  (foot s nm o).m = some (true,some b)\/(foot s nm o).l = some b:=by
 obtain ⟨r',hp',e⟩:=Tree.All_holds _ hf evD_All hr
 subst e
 rcases hp' with hp' | ⟨b2,blk2,h3,h4⟩
 ·rw [h2] at hp'; cases hp'
 ·rw [h2] at h3; injection h3 with h3; injection h3 with h3 _; subst h3; exact h4
theorem Zdc {α:Type} (d:Nat->α) (t u:PT α) (i:Nat):look d (t.over u) i = look (look d t) u i:=by
 unfold look
 rw [PT.get_over]
 cases u.get i <;> rfl
theorem ZgQ (s:St Bs) (o:PT Blk) (n' b:Nat):({ s with h:=s.h.over o,n:=n' }:St Bs).blk b = look s.blk o b:=Zdc _ _ _ _
theorem Path.tmp (hp:Path E call ops bf nb S fp) (t:Nat):∀ i,i < ops.size->¬ WrT ops t i->(S (i + 1)).tmp t = (S i).tmp t:=by
 intro i hi hw
 have ho:ops[i]? = some ops[i]:=Array.getElem?_eq_getElem hi
 have hne:ops[i].dst ≠ some t:=fun e=>hw ⟨ops[i],ho,e⟩
 rcases hp.step i _ ho with ⟨r,_,_,_,_,_,_,_,e,_⟩ | ⟨r,_,_,_,_,_,e,_⟩ | ⟨r,_,_,_,_,e,_⟩ | ⟨_,_,e,_⟩
 ·rw [e,J8 hne]; simp only [St.tmp,St.wr_t]
 ·rw [e,J8 hne]
 ·rw [e,J8 hne]
 ·rw [e,J8 hne]
theorem Path.blk (hp:Path E call ops bf nb S fp) (b:Nat):∀ i,i < ops.size->¬ WrB fp b i->(S (i + 1)).blk b = (S i).blk b:=by
 intro i hi hw
 have ho:ops[i]? = some ops[i]:=Array.getElem?_eq_getElem hi
 rcases hp.step i _ ho with ⟨r,_,_,_,_,hf,hr,_,e,hfp⟩ | ⟨r,_,_,_,_,_,e,hfp⟩ | ⟨r,_,_,_,_,e,hfp⟩ | ⟨_,_,e,_⟩
 ·rw [e]
  simp only [St.blk,St.KD]
  exact Zhl fun blk h2=>hw (by rw [WrB,hfp]; exact (Zig hf hr h2).imp id .inr)
 ·rw [e]; simp only [St.blk,St.KD]
 ·rw [e]
  have h1:(({ S i with h:=(S i).h.over r.2.1,n:=r.2.2 }:St Bs).put ops[i].dst r.1).blk b = look (S i).blk r.2.1 b:=by
   rw [show (({ S i with h:=(S i).h.over r.2.1,n:=r.2.2 }:St Bs).put ops[i].dst r.1).blk b = ({ S i with h:=(S i).h.over r.2.1,n:=r.2.2 }:St Bs).blk b by simp only [St.blk,St.KD]]
   exact ZgQ _ _ _ _
  rw [h1]
  unfold look
  cases hg:r.2.1.get b with
  | none=>rfl
  | some y=>exact absurd (show WrB fp b i by rw [WrB,hfp]; exact .inr (.inl ⟨rfl,by simp [Qv,hg]⟩)) hw
 ·rw [e]; simp only [St.blk,St.KD]
theorem Path.nn (hp:Path E call ops bf nb S fp):∀ i,i < ops.size->¬ Qz fp i->(S (i + 1)).n = (S i).n:=by
 intro i hi hw
 have ho:ops[i]? = some ops[i]:=Array.getElem?_eq_getElem hi
 rcases hp.step i _ ho with ⟨r,_,_,_,_,hf,hr,_,e,hfp⟩ | ⟨r,_,_,_,_,_,e,hfp⟩ | ⟨r,_,_,_,_,e,hfp⟩ | ⟨_,_,e,_⟩
 ·rw [e,St.QT,St.wr_n]
 ·rw [e,St.QT]
 ·exact absurd (show Qz fp i by rw [Qz,hfp]; rfl) hw
 ·rw [e,St.QT]
theorem Path.fixed (hp:Path E call ops bf nb S fp):∀ i,i<=ops.size->(S i).N = (S 0).N:=by
 intro i
 induction i with
 | zero=>exact fun _=>rfl
 | succ i ih=>
  intro hi
  have h2:=ih (by omega)
  have ho:ops[i]? = some ops[i]:=Array.getElem?_eq_getElem (by omega)
  rcases hp.step i _ ho with ⟨r,_,_,_,_,_,_,_,e,_⟩ | ⟨r,_,_,_,_,_,e,_⟩ | ⟨r,_,_,_,_,e,_⟩ | ⟨_,_,e,_⟩
  ·rw [e,St.Ky,St.wr_N,h2]
  ·rw [e,St.Ky]; exact h2
  ·rw [e,St.Ky]; exact h2
  ·rw [e,St.Ky,h2]
theorem Path.lay (hp:Path E call ops bf nb S fp) {i b:Nat} (hi:i < ops.size) (h:(fp i).l = some b):b = nb + i:=by
 have ho:ops[i]? = some ops[i]:=Array.getElem?_eq_getElem hi
 rcases hp.step i _ ho with ⟨r,_,_,_,_,_,_,_,_,hfp⟩ | ⟨r,_,_,_,_,_,_,hfp⟩ | ⟨r,_,_,_,_,_,hfp⟩ | ⟨_,_,_,hfp⟩
 ·rw [hfp] at h; exact foot_l h
 ·rw [hfp] at h; cases h
 ·rw [hfp] at h; cases h
 ·rw [hfp] at h; cases h
structure Inv (ops:Array Oper) (bf:List Nat) (nb:Nat) (S:Nat->St Bs) (fp:Nat->Ft) (L:Array Bool) (s:St Bs):Prop where
 size:L.size = ops.size
 closed:∀ d e,L.getD d false = true->(bf.getD d 0).testBit e = true->L.getD e false = true
 tmp:∀ t,∃ k,k<=ops.size/\s.tmp t = (S k).tmp t/\∀ d,d < ops.size->WrT ops t d->(L.getD d false = true↔d < k)
 blk:∀ b,∃ k,k<=ops.size/\s.blk b = (S k).blk b/\∀ d,d < ops.size->WrB fp b d->(L.getD d false = true↔d < k)
 n:∃ k,k<=ops.size/\s.n = (S k).n/\∀ d,d < ops.size->Qz fp d->(L.getD d false = true↔d < k)
 N:s.N = (S 0).N
 res:ops.toList.any lays = true->nb + ops.size<=s.n
 late:∀ i d,XG ops bf i d (fp i) = true->L.getD d false = true->L.getD i false = true
theorem getD_none (N d:Nat):(Array.replicate N false).getD d false = false:=by
 rw [Array.getD_eq_getD_getElem?,Array.getElem?_replicate]
 split <;> rfl
theorem Inv.start (hres:ops.toList.any lays = true->nb + ops.size<=(S 0).n):Inv ops bf nb S fp (Array.replicate ops.size false) (S 0) where
 size:=by simp
 closed d e h:=by rw [getD_none] at h; cases h
 tmp t:=⟨0,Nat.zero_le _,rfl,fun d hd _=>by rw [getD_none]; simp⟩
 blk b:=⟨0,Nat.zero_le _,rfl,fun d hd _=>by rw [getD_none]; simp⟩
 n:=⟨0,Nat.zero_le _,rfl,fun d hd _=>by rw [getD_none]; simp⟩
 N:=rfl
 res:=hres
 late i d _ h:=by rw [getD_none] at h; cases h
theorem VR {x y:Oper} (h:tied ops x y = false):(∀ d,x.dst = some d->d ∉ looks ops y/\y.dst ≠ some d)/\(∀ d,y.dst = some d->d ∉ looks ops x):=by
 unfold tied at h
 refine ⟨fun d hd=>?_,fun d hd=>?_⟩ <;> simp [hd] at h
 ·exact h.1
 ·exact h.2
structure Va (ops:Array Oper) (bf:List Nat):Prop where
 ties:∀ i j x y,i < j->ops[i]? = some x->ops[j]? = some y->tied ops x y = true->(bf.getD j 0).testBit i = true
 edge:∀ i o,ops[i]? = some o->∀ e,(bf.getD i 0).testBit e = true->∃ ed ∈ o.after.toList,Region.binds .any ed = true/\(e = ed.on\/(bf.getD ed.on 0).testBit e = true)
 back:∀ i o,ops[i]? = some o->∀ ed ∈ o.after.toList,Region.binds .any ed = true->ed.on < i
theorem Zmk:∀ (l:List Oper) (j:Nat),ZcT l j = true->∀ i o,l[i]? = some o->∀ ed ∈ o.after.toList,Region.binds .any ed = true->ed.on < j + i:=by
 intro l
 induction l with
 | nil=>intro j _ i o h; cases h
 | cons a l ih=>
  intro j h i o ho ed hed hb
  simp only [ZcT,Bool.and_eq_true] at h
  cases i with
  | zero=>
   simp only [List.getElem?_cons_zero,Option.some.injEq] at ho
   subst ho
   have:=List.all_eq_true.1 h.1 ed hed
   rw [hb] at this
   simpa [Nat.blt_eq] using this
  | succ i=>
   simp only [List.getElem?_cons_succ] at ho
   have:=ih (j + 1) h.2 i o ho ed hed hb
   omega
theorem edges_of (h:VW ops (bfs ops.toList []) = true):Va ops (bfs ops.toList []):=by
 simp only [VW,Bool.and_eq_true] at h
 refine ⟨fun i j x y hij hx hy ht=>?_,fun i o ho=>?_,fun i o ho ed hed hb=>?_⟩
 ·have hj:j < ops.size:=(Array.getElem?_eq_some_iff.1 hy).1
  have h1:=List.all_eq_true.1 h.2 j (List.mem_range.2 hj)
  have h2:=List.all_eq_true.1 h1 i (List.mem_range.2 hij)
  rw [hx,hy] at h2
  simpa [ht] using h2
 ·exact bfs_spec ops.toList ops.toList [] (by simp) (fun i=>by simp) (fun i hi=>absurd hi (Nat.not_lt_zero _)) i o (by simpa using ho)
 ·have:=Zmk ops.toList 0 h.1 i o (by simpa using ho) ed hed hb
  omega
section
variable {L:Array Bool} {s:St Bs} {i:Nat} {o:Oper}
theorem XD (hi:i < L.size) (d:Nat):(L.setIfInBounds i true).getD d false = true↔d = i\/L.getD d false = true:=by
 by_cases e:d = i
 ·subst e; simp [Array.getD_eq_getD_getElem?,hi]
 ·simp [Array.getD_eq_getD_getElem?,Array.getElem?_setIfInBounds_ne (Ne.symm e),e]
def Wr (f:Ft) (b:Nat):Prop:=f.m = some (true,some b)\/(f.m = some (true,none)/\f.w b = true)\/f.l = some b
theorem Zce {nb sz b:Nat} {f g:Ft} (hf:Wr f b) (hg:Wr g b):clash nb sz f g = true:=by
 unfold clash
 rcases hf with hf | ⟨hf,hf2⟩ | hf <;> rcases hg with hg | ⟨hg,hg2⟩ | hg <;> simp [Vb,Gi,ZbU,hf,hg]
theorem Zgm {nb sz:Nat} {f g:Ft} {w:Bool} (hf:f.m = some (true,none)) (hg:g.m = some (w,none)):clash nb sz f g = true/\clash nb sz g f = true:=by
 unfold clash; constructor <;> simp [Vb,hf,hg]
theorem clash_rd {nb sz b:Nat} {w:Bool} {f g:Ft} (hf:Wr f b) (hg:g.m = some (w,some b)):clash nb sz f g = true/\clash nb sz g f = true:=by
 unfold clash
 constructor <;> rcases hf with hf | ⟨hf,hf2⟩ | hf <;> simp [Vb,Gi,ZbU,hf,hg]
 ·simp [hf2]
 ·simp [hf2]
theorem clash_all {nb sz b:Nat} {w:Bool} {f g:Ft} (hf:Wr f b) (hl:f.l = some b->Qh nb sz b = true) (hb:w = true\/g.q = true\/Qh nb sz b = false) (hg:g.m = some (w,none)):clash nb sz f g = true/\clash nb sz g f = true:=by
 unfold clash
 rcases hf with hf | ⟨hf,hf2⟩ | hf
 ·cases w with
  | true=>constructor <;> simp [Vb,hf,hg]
  | false=>
   have:(g.q || !Qh nb sz b) = true:=by
    rcases hb with hb | hb | hb
    ·cases hb
    ·rw [hb]; rfl
    ·rw [hb]; simp
   constructor <;> simp only [Vb,hf,hg,cond_false,Bool.true_and,this,Bool.true_or]
 ·constructor <;> simp [Vb,hf,hg]
 ·have:(w || g.q) = true:=by
   rcases hb with hb | hb | hb
   ·rw [hb]; rfl
   ·rw [hb]; simp
   ·have:=hl hf; rw [hb] at this; cases this
  constructor <;> simp only [Gi,hf,hg,this,Bool.true_or,Bool.or_true]
theorem clash_lay {nb sz b:Nat} {f g:Ft} (hf:Wr f b) (hg:g.l = some b):clash nb sz f g = true/\clash nb sz g f = true:=by
 unfold clash
 constructor <;> rcases hf with hf | ⟨hf,hf2⟩ | hf <;> simp [Vb,Gi,ZbU,hf,hg]
section
variable (hp:Path E call ops bf nb S fp) (he:Va ops bf) (hv:Inv ops bf nb S fp L s) (hi:i < ops.size) (ho:ops[i]? = some o) (hn:L.getD i false = false)
  (hready:∀ e,(bf.getD i 0).testBit e = true->L.getD e false = true) (hlate:∀ i',XG ops bf i' i (fp i') = true->L.getD i' false = true)
include hp he hv hi ho hn hready hlate
theorem Inv.Zg5 {v:V} {s2 S2:St Bs} (h1:s2.t = s.t) (h2:S2.t = (S i).t) (hS:S (i + 1) = S2.put o.dst v) (t:Nat):∃ k,k<=ops.size/\(s2.put o.dst v).tmp t = (S k).tmp t/\∀ d,d < ops.size->WrT ops t d->((L.setIfInBounds i true).getD d false = true↔d < k):=by
 have _:=hp
 have hiL:i < L.size:=by rw [hv.size]; exact hi
 have high:∀ d,L.getD d false = true->(bf.getD d 0).testBit i = true->False:=fun d h1 h2=>by
  have:=hv.closed d i h1 h2; rw [hn] at this; cases this
 by_cases ht:o.dst = some t
 ·refine ⟨i + 1,by omega,?_,fun d hd hwr=>?_⟩
  ·rw [hS]
   unfold St.put
   rw [ht]
   show look _ (PT.set _ _ _) _ = look _ (PT.set _ _ _) _
   rw [KF,KF]
  ·rw [XD hiL]
   obtain ⟨o',ho',hd'⟩:=hwr
   constructor
   ·rintro (rfl | h)
    ·omega
    ·rcases Nat.lt_or_ge i d with hlt | hge
     ·exfalso
      refine high d h (he.ties i d o o' hlt ho ho' ?_)
      cases htt:tied ops o o' with
      | true=>rfl
      | false=>exact absurd hd' ((VR htt).1 t ht).2
     ·omega
   ·intro hlt
    by_cases e:d = i
    ·exact .inl e
    ·right
     refine hready d (he.ties d i o' o (by omega) ho' ho ?_)
     cases htt:tied ops o' o with
     | true=>rfl
     | false=>exact absurd ht ((VR htt).1 t hd').2
 ·obtain ⟨k,hk,h3,h4⟩:=hv.tmp t
  refine ⟨k,hk,by rw [J8 ht]; simp only [St.tmp,h1]; exact h3,fun d hd hwr=>?_⟩
  rw [XD hiL]
  have hne:d ≠ i:=by
   rintro rfl
   obtain ⟨o',ho',hd'⟩:=hwr
   rw [ho] at ho'; injection ho' with ho'; subst ho'
   exact ht hd'
  simp only [hne,false_or]
  exact h4 d hd hwr
theorem Inv.order {W:Nat->Prop} (hW:∀ d,W d->d ≠ i->clash nb ops.size (fp d) (fp i) = true/\clash nb ops.size (fp i) (fp d) = true) (d:Nat) (hd:d < ops.size) (hwr:W d):(L.setIfInBounds i true).getD d false = true↔d < i + 1:=by
 have _:=he
 have hiL:i < L.size:=by rw [hv.size]; exact hi
 have high:∀ d,L.getD d false = true->(bf.getD d 0).testBit i = true->False:=fun d h1 h2=>by
  have:=hv.closed d i h1 h2; rw [hn] at this; cases this
 rw [XD hiL]
 constructor
 ·rintro (rfl | h)
  ·omega
  ·rcases Nat.lt_or_ge i d with hlt | hge
   ·cases hlb:XG ops bf i d (fp i) with
    | true=>have:=hv.late i d hlb h; rw [hn] at this; cases this
    | false=>exact absurd (hp.cl i d hlt hd (by unfold JZ; rw [(hW d hwr (by omega)).2,hlb]; rfl)) (fun hbit=>high d h hbit)
   ·omega
 ·intro hlt
  by_cases e:d = i
  ·exact .inl e
  ·cases hlb:XG ops bf d i (fp d) with
   | true=>exact .inr (hlate d hlb)
   | false=>exact .inr (hready d (hp.cl d i (by omega) hi (by unfold JZ; rw [(hW d hwr e).1,hlb]; rfl)))
theorem Inv.next {v:V} {x:Option (Nat×Blk)} (hx:∀ b blk,x = some (b,blk)->WrB fp b i) (hnb:¬ Qz fp i)
  (hrd:∀ b,WrB fp b i->s.blk b = (S i).blk b) (hS:S (i + 1) = ((S i).wr x).put o.dst v):Inv ops bf nb S fp (L.setIfInBounds i true) ((s.wr x).put o.dst v):=by
 have hiL:i < L.size:=by rw [hv.size]; exact hi
 refine ⟨by simp [hv.size],fun d e hd hb=>?_,fun t=>hv.Zg5 hp he hi ho hn hready hlate (St.wr_t _ _) (St.wr_t _ _) hS t,fun b=>?_,?_,by rw [St.Ky,St.wr_N,hv.N],fun h=>by rw [St.QT,St.wr_n]; exact hv.res h,fun i' d hl hd=>by
  rw [XD hiL] at hd ⊢
  rcases hd with rfl | hd
  ·exact .inr (hlate i' hl)
  ·exact .inr (hv.late i' d hl hd)⟩
 ·rw [XD hiL] at hd ⊢
  rcases hd with rfl | hd
  ·exact .inr (hready e hb)
  ·exact .inr (hv.closed d e hd hb)
 ·by_cases hb:WrB fp b i
  ·refine ⟨i + 1,by omega,?_,hv.order hp he hi ho hn hready hlate (W:=WrB fp b) fun d hd _=>⟨Zce hd hb,Zce hb hd⟩⟩
   rw [hS]
   simp only [St.blk,St.KD]
   cases x with
   | none=>exact hrd b hb
   | some q=>
    obtain ⟨b',blk⟩:=q
    show look _ (PT.set _ _ _) _ = look _ (PT.set _ _ _) _
    rw [ZR,ZR]
    by_cases e:b = b'
    ·rw [if_pos e,if_pos e]
    ·rw [if_neg e,if_neg e]; exact hrd b hb
  ·obtain ⟨k,hk,h1,h2⟩:=hv.blk b
   refine ⟨k,hk,?_,fun d hd hwr=>?_⟩
   ·rw [<- h1]
    simp only [St.blk,St.KD]
    exact Zhl fun blk e=>hb (hx b blk e)
   ·rw [XD hiL]
    have hne:d ≠ i:=fun e=>by subst e; exact hb hwr
    simp only [hne,false_or]
    exact h2 d hd hwr
 ·obtain ⟨k,hk,h1,h2⟩:=hv.n
  refine ⟨k,hk,by rw [St.QT,St.wr_n,h1],fun d hd hwr=>?_⟩
  rw [XD hiL]
  have hne:d ≠ i:=fun e=>by subst e; exact hnb hwr
  simp only [hne,false_or]
  exact h2 d hd hwr
theorem Inv.nextBig {r:V×PT Blk×Nat} (hb:fp i = Qv r.2.1) (hle:s.n<=r.2.2) (hS:S (i + 1) = (({ S i with h:=(S i).h.over r.2.1,n:=r.2.2 }:St Bs)).put o.dst r.1):Inv ops bf nb S fp (L.setIfInBounds i true) ((({ s with h:=s.h.over r.2.1,n:=r.2.2 }:St Bs)).put o.dst r.1):=by
 have hiL:i < L.size:=by rw [hv.size]; exact hi
 have hbig:Qz fp i:=by rw [Qz,hb]; rfl
 have hblk:∀ (s:St Bs) b,((({ s with h:=s.h.over r.2.1,n:=r.2.2 }:St Bs)).put o.dst r.1).blk b = look s.blk r.2.1 b:=fun s b=>by
  rw [show (({ s with h:=s.h.over r.2.1,n:=r.2.2 }:St Bs).put o.dst r.1).blk b = ({ s with h:=s.h.over r.2.1,n:=r.2.2 }:St Bs).blk b by simp only [St.blk,St.KD]]
  exact ZgQ _ _ _ _
 refine ⟨by simp [hv.size],fun d e hd hbit=>?_,fun t=>hv.Zg5 hp he hi ho hn hready hlate (s2:={ s with h:=s.h.over r.2.1,n:=r.2.2 }) (S2:={ S i with h:=(S i).h.over r.2.1,n:=r.2.2 }) rfl rfl hS t,fun b=>?_,?_,by rw [St.Ky]; exact hv.N,fun h=>by rw [St.QT]; exact Nat.le_trans (hv.res h) hle,fun i' d hl hd=>by
  rw [XD hiL] at hd ⊢
  rcases hd with rfl | hd
  ·exact .inr (hlate i' hl)
  ·exact .inr (hv.late i' d hl hd)⟩
 ·rw [XD hiL] at hd ⊢
  rcases hd with rfl | hd
  ·exact .inr (hready e hbit)
  ·exact .inr (hv.closed d e hd hbit)
 ·rw [hblk]
  cases hg:r.2.1.get b with
  | some y=>
   have hB:WrB fp b i:=by rw [WrB,hb]; exact .inr (.inl ⟨rfl,by simp [Qv,hg]⟩)
   refine ⟨i + 1,by omega,?_,hv.order hp he hi ho hn hready hlate (W:=WrB fp b) fun d hd _=>⟨Zce hd hB,Zce hB hd⟩⟩
   rw [hS,hblk]
   unfold look
   rw [hg]
  | none=>
   have hB:¬ WrB fp b i:=fun h=>by
    rw [WrB,hb] at h
    rcases h with h | ⟨_,h⟩ | h
    ·cases h
    ·simp [Qv,hg] at h
    ·cases h
   obtain ⟨k,hk,h1,h2⟩:=hv.blk b
   refine ⟨k,hk,?_,fun d hd hwr=>?_⟩
   ·rw [<- h1]
    unfold look
    rw [hg]
   ·rw [XD hiL]
    have hne:d ≠ i:=fun e=>by subst e; exact hB hwr
    simp only [hne,false_or]
    exact h2 d hd hwr
 ·exact ⟨i + 1,by omega,by rw [hS]; simp only [St.QT],hv.order hp he hi ho hn hready hlate (W:=Qz fp) fun d hd _=>Zgm hd hbig⟩
theorem Inv.readsF {α:Type} {f:Nat->α} {W:Nat->Prop} (hst:∀ j,j < ops.size->¬ W j->f (j + 1) = f j) {k:Nat} (hk:k<=ops.size) (h2:∀ d,d < ops.size->W d->(L.getD d false = true↔d < k))
  (hW:∀ d,d < ops.size->W d->clash nb ops.size (fp d) (fp i) = true/\clash nb ops.size (fp i) (fp d) = true):f k = f i:=by
 have _:=he
 have high:∀ d,L.getD d false = true->(bf.getD d 0).testBit i = true->False:=fun d h1 h2=>by
  have:=hv.closed d i h1 h2; rw [hn] at this; cases this
 refine Fw.reads (f:=f) (W:=W) (L:=fun d=>L.getD d false = true) hst hk hi h2 (fun d hd hwr=>?_) (fun d h3 h4 hwr h5=>?_)
 ·cases hlb:XG ops bf d i (fp d) with
  | true=>exact hlate d hlb
  | false=>exact hready d (hp.cl d i hd hi (by unfold JZ; rw [(hW d (by omega) hwr).1,hlb]; rfl))
 ·by_cases e:d = i
  ·subst e; rw [hn] at h5; cases h5
  ·cases hlb:XG ops bf i d (fp i) with
   | true=>have:=hv.late i d hlb h5; rw [hn] at this; cases this
   | false=>exact high d h5 (hp.cl i d (by omega) h4 (by unfold JZ; rw [(hW d h4 hwr).2,hlb]; rfl))
theorem Inv.reads :
  (∀ t ∈ looks ops o,s.tmp t = (S i).tmp t)/\(∀ w c b,(fp i).m = some (w,c)->((c = none/\(w = true\/(fp i).q = true\/Qh nb ops.size b = false))\/c = some b)->s.blk b = (S i).blk b) /\
   (∀ b,(fp i).l = some b->s.blk b = (S i).blk b)/\((∃ w,(fp i).m = some (w,none))->s.n = (S i).n):=by
 have high:∀ d,L.getD d false = true->(bf.getD d 0).testBit i = true->False:=fun d h1 h2=>by
  have:=hv.closed d i h1 h2; rw [hn] at this; cases this
 refine ⟨fun t ht=>?_,fun w c b hf hcb=>?_,fun b hb=>?_,fun hb=>?_⟩
 ·obtain ⟨k,hk,h1,h2⟩:=hv.tmp t
  rw [h1]
  refine Fw.reads (f:=fun k=>(S k).tmp t) (W:=WrT ops t) (L:=fun d=>L.getD d false = true) (hp.tmp t) hk hi h2 (fun d hd hwr=>?_) (fun d h3 h4 hwr h5=>?_)
  ·obtain ⟨o',ho',hd'⟩:=hwr
   refine hready d (he.ties d i o' o hd ho' ho ?_)
   cases htt:tied ops o' o with
   | true=>rfl
   | false=>exact absurd ht ((VR htt).1 t hd').1
  ·obtain ⟨o',ho',hd'⟩:=hwr
   by_cases e:d = i
   ·subst e; rw [hn] at h5; cases h5
   ·refine high d h5 (he.ties i d o o' (by omega) ho ho' ?_)
    cases htt:tied ops o o' with
    | true=>rfl
    | false=>exact absurd ht ((VR htt).2 t hd')
 ·obtain ⟨k,hk,h1,h2⟩:=hv.blk b
  rw [h1]
  refine hv.readsF hp he hi ho hn hready hlate (f:=fun k=>(S k).blk b) (W:=WrB fp b) (hp.blk b) hk h2 fun d hd hwr=>?_
  rcases hcb with ⟨rfl,hw⟩ | rfl
  ·refine clash_all hwr (fun hl=>?_) hw hf
   have:=hp.lay hd hl
   unfold Qh
   simp only [Bool.and_eq_true,Nat.blt_eq,Nat.ble_eq]
   omega
  ·exact clash_rd hwr hf
 ·obtain ⟨k,hk,h1,h2⟩:=hv.blk b
  rw [h1]
  exact hv.readsF hp he hi ho hn hready hlate (f:=fun k=>(S k).blk b) (W:=WrB fp b) (hp.blk b) hk h2 fun d hd hwr=>clash_lay hwr hb
 ·obtain ⟨k,hk,h1,h2⟩:=hv.n
  rw [h1]
  obtain ⟨w,hb⟩:=hb
  exact hv.readsF hp he hi ho hn hready hlate (f:=fun k=>(S k).n) (W:=Qz fp) hp.nn hk h2 fun d hd hwr=>Zgm hwr hb
end
end
theorem HR.lay2 {base n:Nat} {m:Nat->Option Nat} {F F':Nat->Prop} {h h':Nat->Blk} {w w':World} (hr:HR base m F h n w) (hl:Later F w F' w') {nm B:Nat} {blk:Blk} (hnm:m nm = none) (hlt:nm < n) (hB1:w.heap.size<=B) (hB2:B < w'.heap.size) (hBF:¬ F' B)
  (hh:∀ b,h' b = if b = nm then blk else h b) (hblk:RB F' w' n (fun b=>if b = nm then some B else m b) blk (some B)) :
  HR base (fun b=>if b = nm then some B else m b) F' h' n w'/\Ext base m F n w (fun b=>if b = nm then some B else m b) F' n w':=by
 have hext:Ext base m F n w (fun b=>if b = nm then some B else m b) F' n w':=
  ⟨hl.f,hl.back,fun C hC=>hl.keep C (hC.elim (fun h=>Nat.lt_of_lt_of_le h hr.low) (hr.fdom C)),hl.size,Z4.Jo hl.keep,
   ⟨fun C hC _=>hl.keep C hC,fun b C hb hC=>by
    by_cases e:b = nm
    ·rw [if_pos e] at hb; injection hb with hb; omega
    ·rw [if_neg e] at hb; exact ⟨b,hb⟩⟩,Nat.le_refl _,
   fun b hb C hC=>by
    rw [if_neg (fun e=>by rw [e,hnm] at hC; cases hC)]
    exact hC,hl.calm⟩
 have hlater:=hr.later hl
 refine ⟨⟨hlater.low,hlater.fdom,fun b hb=>?_,fun b C hC=>?_,fun b hb=>?_,hlater.gl,fun b C hC=>?_,fun b b' C h1 h2 hne=>?_⟩,hext⟩
 ·rw [hh b]
  by_cases e:b = nm
  ·subst e
   rw [if_pos rfl,if_pos rfl]
   exact hblk
  ·rw [if_neg e,if_neg e]
   exact JD hext (fun C hC=>hl.keep C (hr.dom b C hC)) (hr.blk b hb)
 ·by_cases e:b = nm
  ·rw [if_pos e] at hC; injection hC with hC; subst hC; exact hB2
  ·rw [if_neg e] at hC; exact hlater.dom b C hC
 ·rw [if_neg (by omega)]
  exact hr.new b hb
 ·by_cases e:b = nm
  ·rw [if_pos e] at hC; injection hC with hC; subst hC
   exact ⟨Nat.le_trans hr.low hB1,hBF⟩
  ·rw [if_neg e] at hC; exact hlater.own b C hC
 ·by_cases e1:b = nm <;> by_cases e2:b' = nm
  ·exact absurd (e1.trans e2.symm) hne
  ·rw [if_pos e1] at h1; rw [if_neg e2] at h2
   injection h1 with h1; subst h1
   exact absurd (hr.dom _ _ h2) (Nat.not_lt.2 hB1)
  ·rw [if_neg e1] at h1; rw [if_pos e2] at h2
   injection h2 with h2; subst h2
   exact absurd (hr.dom _ _ h1) (Nat.not_lt.2 hB1)
  ·rw [if_neg e1] at h1; rw [if_neg e2] at h2
   rw [hh b,hh b',if_neg e1,if_neg e2]
   exact hr.inj b b' C h1 h2 hne
theorem R_zero {F:Nat->Prop} {w:World}:∀ (v:V) (m:Nat->Option Nat),(∀ x,R F w v 0 m x->v.clean = true)/\(∀ xs,RL F w v 0 m xs->v.clean = true):=by
 intro v
 induction v with
 | cons h t ih1 ih2=>
  intro m
  refine ⟨fun x h=>by simp only [R] at h,fun xs h=>?_⟩
  simp only [RL] at h
  obtain ⟨x,r,rfl,h1,h2⟩:=h
  simp only [V.clean,(ih1 m).1 _ h1,(ih2 m).2 _ h2,Bool.and_self]
 | agg cs ih=>
  intro m
  refine ⟨fun x h=>?_,fun xs h=>by simp only [RL] at h⟩
  simp only [R] at h
  obtain ⟨xs,rfl,h1⟩:=h
  simp only [V.clean,(ih m).2 _ h1]
 | tup cs ih=>
  intro m
  refine ⟨fun x h=>?_,fun xs h=>by simp only [RL] at h⟩
  simp only [R] at h
  obtain ⟨xs,rfl,h1⟩:=h
  simp only [V.clean,(ih m).2 _ h1]
 | fn f a b ih1 ih2=>
  intro m
  refine ⟨fun x h=>?_,fun xs h=>by simp only [RL] at h⟩
  simp only [R] at h
  obtain ⟨xs,ys,rfl,h1,h2⟩:=h
  simp only [V.clean,(ih1 m).2 _ h1,(ih2 m).2 _ h2,Bool.and_self]
 | ptr st b es i o=>intro m; exact ⟨fun x h=>by simp only [R] at h; exact absurd h.1 (Nat.not_lt_zero _),fun xs h=>by simp only [RL] at h⟩
 | osl st b es i k=>intro m; exact ⟨fun x h=>by simp only [R] at h; exact absurd h.1 (Nat.not_lt_zero _),fun xs h=>by simp only [RL] at h⟩
 | osp st b es i k c=>intro m; exact ⟨fun x h=>by simp only [R] at h; exact absurd h.1 (Nat.not_lt_zero _),fun xs h=>by simp only [RL] at h⟩
 | yld b=>intro m; exact ⟨fun x h=>by simp only [R] at h; exact absurd h.1 (Nat.not_lt_zero _),fun xs h=>by simp only [RL] at h⟩
 | mp b=>intro m; exact ⟨fun x h=>by simp only [R] at h; exact absurd h.1 (Nat.not_lt_zero _),fun xs h=>by simp only [RL] at h⟩
 | _=>intro m; exact ⟨fun x _=>rfl,fun xs _=>rfl⟩
theorem R_lt {F:Nat->Prop} {w:World} {n:Nat}:∀ (v:V) (m:Nat->Option Nat),(∀ x,R F w v n m x->v.YX n = true)/\(∀ xs,RL F w v n m xs->v.YX n = true):=by
 intro v
 induction v with
 | cons h t ih1 ih2=>
  intro m
  refine ⟨fun x h=>by simp only [R] at h,fun xs h=>?_⟩
  simp only [RL] at h
  obtain ⟨x,r,rfl,h1,h2⟩:=h
  simp only [V.YX,(ih1 m).1 _ h1,(ih2 m).2 _ h2,Bool.and_self]
 | agg cs ih=>
  intro m
  refine ⟨fun x h=>?_,fun xs h=>by simp only [RL] at h⟩
  simp only [R] at h
  obtain ⟨xs,rfl,h1⟩:=h
  simp only [V.YX,(ih m).2 _ h1]
 | tup cs ih=>
  intro m
  refine ⟨fun x h=>?_,fun xs h=>by simp only [RL] at h⟩
  simp only [R] at h
  obtain ⟨xs,rfl,h1⟩:=h
  simp only [V.YX,(ih m).2 _ h1]
 | fn f a b ih1 ih2=>
  intro m
  refine ⟨fun x h=>?_,fun xs h=>by simp only [RL] at h⟩
  simp only [R] at h
  obtain ⟨xs,ys,rfl,h1,h2⟩:=h
  simp only [V.YX,(ih1 m).2 _ h1,(ih2 m).2 _ h2,Bool.and_self]
 | ptr st b es i o=>intro m; exact ⟨fun x h=>by simp only [R] at h; simp only [V.YX,Nat.blt_eq]; exact h.1,fun xs h=>by simp only [RL] at h⟩
 | osl st b es i k=>intro m; exact ⟨fun x h=>by simp only [R] at h; simp only [V.YX,Nat.blt_eq]; exact h.1,fun xs h=>by simp only [RL] at h⟩
 | osp st b es i k c=>intro m; exact ⟨fun x h=>by simp only [R] at h; simp only [V.YX,Nat.blt_eq]; exact h.1,fun xs h=>by simp only [RL] at h⟩
 | yld b=>intro m; exact ⟨fun x h=>by simp only [R] at h; simp only [V.YX,Nat.blt_eq]; exact h.1,fun xs h=>by simp only [RL] at h⟩
 | mp b=>intro m; exact ⟨fun x h=>by simp only [R] at h; simp only [V.YX,Nat.blt_eq]; exact h.1,fun xs h=>by simp only [RL] at h⟩
 | _=>intro m; exact ⟨fun x _=>rfl,fun xs _=>rfl⟩
theorem RB_cut {F F':Nat->Prop} {w w':World} {n n':Nat} {m m':Nat->Option Nat} {blk:Blk} {B B':Option Nat} (h:RB F w n m blk B) (h':RB F' w' n' m' blk B'):RB F' w' n (XC m' n) blk B':=by
 cases blk with
 | none=>exact h'
 | any=>exact trivial
 | var cs=>
  obtain ⟨_,_,_,ys,_,_,_,_,h1⟩:=h
  obtain ⟨b,xs,el,ys',zs,e1,e2,e3,e4⟩:=h'
  exact ⟨b,xs,el,ys',zs,e1,e2,e3,(GL cs n' ((R_lt cs m).2 _ h1)).2 _ e4⟩
 | arr es k get=>exact h'
 | iter mb since seen last=>
  obtain ⟨_,_,_,_,k0⟩:=h
  obtain ⟨r,x,e,hc,h1⟩:=h'
  refine ⟨r,x,e,hc,?_⟩
  cases mb with
  | none=>exact h1
  | some b=>
   obtain ⟨_,k1,_,_⟩:=k0
   obtain ⟨y,h2,h3,h4⟩:=h1
   exact ⟨y,k1,h3,by unfold XC; rw [if_pos k1]; exact h4⟩
 | Ze kd st f ks=>
  obtain ⟨_,es0,_,_,_,_,k0⟩:=h
  obtain ⟨b',es,clock,k1,k2,k3,k4⟩:=h'
  refine ⟨b',es,clock,k1,k2,k3,fun k hk=>?_⟩
  obtain ⟨h1,h2⟩:=k4 k hk
  refine ⟨h1,fun v hv=>?_⟩
  have ht:(f k).1 = true:=by rw [h1,hv]; rfl
  obtain ⟨h5,h6⟩:=k0 k hk
  rw [ht] at h5
  obtain ⟨v0,hv0⟩:=Option.isSome_iff_exists.1 h5.symm
  exact (GL _ n' ((R_lt _ m).1 _ (h6 v0 hv0))).1 _ (h2 v hv)
 | rng f ps asg bd row N st pend=>
  obtain ⟨_,r0,_,_,_,_,_,_,_,_,k0⟩:=h
  obtain ⟨l,r,k1,k2,k3,k4,k5,k6,k7,k8,k9⟩:=h'
  exact ⟨l,r,k1,k2,k3,k4,k5,k6,k7,k8,fun i=>(GL _ n' ((R_lt _ m).1 _ (k0 i))).1 _ (k9 i)⟩
theorem HR.cut {base n n':Nat} {m m':Nat->Option Nat} {F F':Nat->Prop} {h h':Nat->Blk} {w w':World} (hr:HR base m F h n w) (he:Ext base m F n w m' F' n' w') (hh:HR base m' F' h' n' w') (hs:∀ b,b < n->h' b = h b) :
  HR base (XC m' n) F' h n w'/\Ext base m F n w (XC m' n) F' n w':=by
 have hc:∀ b B,XC m' n b = some B->b < n/\m' b = some B:=fun b B hb=>by
  unfold XC at hb
  by_cases e:b < n
  ·rw [if_pos e] at hb; exact ⟨e,hb⟩
  ·rw [if_neg e] at hb; cases hb
 refine ⟨⟨hh.low,hh.fdom,fun b hb=>?_,fun b B hb=>hh.dom b B (hc b B hb).2,fun b hb=>by unfold XC; rw [if_neg (by omega)],hh.gl,fun b B hb=>hh.own b B (hc b B hb).2,fun b b' B h1 h2 hne=>?_⟩,?_⟩
 ·have h1:=hh.blk b (Nat.lt_of_lt_of_le hb he.le)
  rw [hs b hb] at h1
  have e:XC m' n b = m' b:=by unfold XC; rw [if_pos hb]
  rw [e]
  exact RB_cut (hr.blk b hb) h1
 ·obtain ⟨l1,k1⟩:=hc b B h1
  obtain ⟨l2,k2⟩:=hc b' B h2
  rw [<- hs b l1,<- hs b' l2]
  exact hh.inj b b' B k1 k2 hne
 ·exact ⟨he.f,he.back,he.keep,he.size,he.sz,he.ow.sub fun b B hb=>⟨b,(hc b B hb).2⟩,Nat.le_refl _,fun b hb B hB=>by unfold XC; rw [if_pos hb]; exact he.map b hb B hB,he.calm⟩
theorem ZhR {s:St Bs} {lo base:Nat} {m:Nat->Option Nat} {F:Nat->Prop} {a:Act} {w:World} (hr:Rel lo base m F s a w):Rel lo base m F s.sub a w:=⟨hr.hr,hr.defers,hr.size,hr.tmp⟩
theorem ZhU {base:Nat} {m:Nat->Option Nat} {F:Nat->Prop} {s:St Bs} {w:World} (hr:HR base m F s.blk s.n w) {nm:Nat} (hnm:nm < s.n) {rl:Bool} {F0:Nat->Prop} (hF0:∀ B,F B->F0 B) (hrl:rl = false->∀ B,F0 B->F B)
  {v:V} {h':PT Blk} {n':Nat} {Q:V×Option (Nat×Blk)->Prop} (hq:(Ua s nm rl (v,h',n')).holds E.P Q) {m':Nat->Option Nat} {F':Nat->Prop} {w':World} {x:Value}
  (he:Ext w.heap.size (fun _=>none) F0 0 w m' F' n' w') (hh:HR w.heap.size m' F' (look (fun _=>.none) h') n' w') (hx:R F' w' v n' m' x) :
  ∃ v' wr m'' F'',Q (v',wr)/\Ext base m F s.n w m'' F'' s.n w'/\HR base m'' F'' (s.wr wr).blk s.n w'/\R F'' w' v' s.n m'' x:=by
 have hl0:Later F w F w':=⟨fun _ h=>h,fun _ h=>.inl h,fun B hB=>he.keep B (.inl hB),he.size,fun h B hB=>Nat.lt_of_lt_of_le (h B hB) he.size,he.calm⟩
 have hl1:rl = false->Later F w F' w':=fun e=>⟨fun B hB=>he.f B (hF0 B hB),fun B hB=>(he.back B hB).imp (hrl e B) id,fun B hB=>he.keep B (.inl hB),he.size,fun _=>hh.fdom,he.calm⟩
 obtain ⟨F2,hF2⟩:∃ F2:Nat->Prop,(Later F w F2 w')/\(∀ B,F2 B->F B\/F' B)/\(rl = false->F2 = F'):=by
  cases rl with
  | false=>exact ⟨F',hl1 rfl,fun B h=>.inr h,fun _=>rfl⟩
  | true=>exact ⟨F,hl0,fun B h=>.inl h,fun h=>by cases h⟩
 obtain ⟨hl,hF2',hF2e⟩:=hF2
 have val:∀ (u:V),u.clean = true->(!rl || u.YG) = true->∀ (k:Nat) (mm:Nat->Option Nat) (k':Nat) (mm':Nat->Option Nat),(∀ y,R F' w' u k mm y->R F2 w' u k' mm' y)/\(∀ ys,RL F' w' u k mm ys->RL F2 w' u k' mm' ys):=by
  intro u hc hrow k mm k' mm'
  cases rl with
  | false=>rw [hF2e rfl]; exact WU u hc k k' mm mm'
  | true=>exact ZfX u hc (by simpa using hrow) k k' mm mm'
 unfold Ua at hq
 dsimp only at hq
 cases hc:(v.clean&&(!rl || v.YG))
 ·rw [hc] at hq
  simp only [cond_false] at hq
  cases v <;> try exact hq.elim
  rename_i st b es i k
  dsimp only at hq
  rw [Yb] at hx
  obtain ⟨hb,a,cap,rfl,hk,hcap⟩:=hx
  have main:∀ blk,(∀ B,m' b = some B->RB F2 w' s.n (fun c=>if c = nm then some B else m c) blk (some B))->(m' b = none->RB F2 w' s.n m blk none)->(Xq s nm blk (.osl st nm es i k)).holds E.P Q ->
    ∃ v' wr m'' F'',Q (v',wr)/\Ext base m F s.n w m'' F'' s.n w'/\HR base m'' F'' (s.wr wr).blk s.n w'/\R F'' w' v' s.n m'' (.slice a k cap):=by
   intro blk hrb hrb0 hq
   unfold Xq at hq
   have hbn:=hr.blk nm hnm
   cases hnb:s.blk nm <;> rw [hnb] at hq <;> try exact hq.elim
   rw [hnb] at hbn
   have hm0:m nm = none:=hbn
   cases hmb:m' b with
   | none=>
    have hcap0:cap = 0:=by
     rcases hcap with h | ⟨B,_,_,_,_,h,_⟩
     ·exact h
     ·rw [hmb] at h; cases h
    have hlat:=hr.later hl
    refine ⟨_,_,m,F2,hq,hr.ext hl,⟨hlat.low,hlat.fdom,fun c hc=>?_,hlat.dom,hlat.new,hlat.gl,hlat.own,fun c c' C h1 h2 hne=>?_⟩,?_⟩
    ·show RB F2 w' s.n m (look _ (PT.set _ _ _) c) (m c)
     rw [ZR]
     by_cases e:c = nm
     ·subst e; rw [if_pos rfl,hm0]; exact hrb0 hmb
     ·rw [if_neg e]; exact hlat.blk c hc
    ·have e1:c ≠ nm:=fun e=>by rw [e,hm0] at h1; cases h1
     have e2:c' ≠ nm:=fun e=>by rw [e,hm0] at h2; cases h2
     show look _ (PT.set _ _ _) c = Blk.any\/look _ (PT.set _ _ _) c' = Blk.any
     rw [ZR,ZR,if_neg e1,if_neg e2]
     exact hlat.inj c c' C h1 h2 hne
    ·rw [Yb]
     exact ⟨hnm,a,cap,rfl,hk,.inl hcap0⟩
   | some B=>
    have hown:=hh.own b B hmb
    have hBF:¬ F2 B:=fun h=>(hF2' B h).elim (fun h=>absurd (hr.fdom B h) (Nat.not_lt.2 hown.1)) hown.2
    obtain ⟨k1,k2⟩:=hr.lay2 (h':=(s.wr (some (nm,blk))).blk) hl hm0 hnm hown.1 (hh.dom b B hmb) hBF (fun c=>ZR _ _ _ _ _) (hrb B hmb)
    refine ⟨_,_,_,F2,hq,k2,k1,?_⟩
    rw [Yb]
    refine ⟨hnm,a,cap,rfl,hk,hcap.imp id fun ⟨B',c,el,fr,h1,h2,h3,h4⟩=>⟨B',c,el,fr,h1,?_,h3,h4⟩⟩
    rw [hmb] at h2
    simpa using h2
  have hbb:=hh.blk b hb
  cases hblk:look (fun _=>Blk.none) h' b <;> rw [hblk] at hq hbb <;> try exact hq.elim
  ·rename_i cs
   dsimp only at hq
   cases hcc:(cs.clean&&(!rl || cs.YG))
   ·rw [hcc] at hq; exact hq.elim
   ·rw [hcc] at hq
    simp only [Bool.and_eq_true] at hcc
    obtain ⟨B,xs,el,ys,zs,h1,h2,h3,h4⟩:=hbb
    refine main (.var cs) (fun B' hB'=>?_) (fun h=>by rw [h] at h1; cases h1) hq
    rw [h1] at hB'
    injection hB' with hB'
    subst hB'
    exact ⟨B,xs,el,ys,zs,rfl,h2,h3,(val cs hcc.1 hcc.2 _ _ _ _).2 _ h4⟩
  ·rename_i es' k' get
   dsimp only at hq
   have go:(∀ j,j < k'->(!rl || (get j).YG) = true)->(Xq s nm (.arr es' k' get) (.osl st nm es i k)).holds E.P Q->∃ v' wr m'' F'',Q (v',wr)/\Ext base m F s.n w m'' F'' s.n w'/\HR base m'' F'' (s.wr wr).blk s.n w'/\R F'' w' v' s.n m'' (.slice a k cap):=by
    intro hrow hq
    refine main (.arr es' k' get) (fun B' hB'=>?_) (fun h=>?_) hq
    ·rcases hbb with ⟨_,h1⟩ | ⟨B,c,el,h1,h2,h3,h4⟩
     ·rw [hB'] at h1; cases h1
     ·rw [hB'] at h1
      injection h1 with h1
      subst h1
      refine .inr ⟨B',c,el,rfl,h2,h3,fun j hj=>?_⟩
      obtain ⟨xs,h5,h6,h7⟩:=h4 j hj
      exact ⟨xs,(val (get j) ((R_zero _ _).2 _ h5) (hrow j hj) _ _ _ _).2 _ h5,h6,h7⟩
    ·rcases hbb with ⟨h1,_⟩ | ⟨B,c,el,h1,_⟩
     ·exact .inl ⟨h1,rfl⟩
     ·rw [h] at h1; cases h1
   cases rl with
   | false=>exact go (fun _ _=>rfl) hq
   | true=>
    dsimp only at hq
    cases st with
    | true=>
     dsimp only at hq
     cases hall:XB k' (fun j=>(get j).YG)
     ·rw [hall] at hq; exact hq.elim
     ·rw [hall] at hq
      exact go (fun j hj=>by simpa using Zbl hall j hj) hq
    | false=>exact go (fun j hj=>by simpa using hq.1 j hj) hq.2
 ·rw [hc] at hq
  simp only [Bool.and_eq_true] at hc
  exact ⟨v,none,m,F2,hq,hr.ext hl,hr.later hl,(val v hc.1 hc.2 n' m' s.n m).1 _ hx⟩
theorem layR_ok {base:Nat} {m:Nat->Option Nat} {F:Nat->Prop} {s:St Bs} {w:World} (hr:HR base m F s.blk s.n w) {nm:Nat} (hnm:nm < s.n) {rl:Bool} {F0:Nat->Prop} (hF0:∀ B,F B->F0 B) (hrl:rl = false->∀ B,F0 B->F B)
  {v:V} {h':PT Blk} {n':Nat} {Q:V×Option (Nat×Blk)->Prop} (hq:(layR s nm rl (v,h',n')).holds E.P Q) {m':Nat->Option Nat} {F':Nat->Prop} {w':World} {x:Value}
  (he:Ext w.heap.size (fun _=>none) F0 0 w m' F' n' w') (hh:HR w.heap.size m' F' (look (fun _=>.none) h') n' w') (hx:R F' w' v n' m' x) :
  ∃ v' wr m'' F'',Q (v',wr)/\Ext base m F s.n w m'' F'' s.n w'/\HR base m'' F'' (s.wr wr).blk s.n w'/\R F'' w' v' s.n m'' x:=by
 unfold layR at hq
 dsimp only at hq
 split at hq
 ·rename_i u
  rw [Tree.Ya] at hq
  rw [Ja] at hx
  obtain ⟨xs,rfl,hxs⟩:=hx
  simp only [RL] at hxs
  obtain ⟨y,l,hl,hy,hnil⟩:=hxs
  ·subst hnil
   obtain ⟨v',wr,m2,F2,k1,k2,k3,k4⟩:=ZhU hr hnm hF0 hrl hq he hh hy
   refine ⟨_,wr,m2,F2,k1,k2,k3,?_⟩
   rw [Ja]
   refine ⟨xs,rfl,?_⟩
   simp only [RL]
   exact ⟨y,[],hl,k4,rfl⟩
 ·exact ZhU hr hnm hF0 hrl hq he hh hx
theorem HR.weak {base n:Nat} {m:Nat->Option Nat} {F:Nat->Prop} {h h':Nat->Blk} {w:World} (hr:HR base m F h n w) (hh:∀ b,h' b = h b\/h' b = .any):HR base m F h' n w:=
 ⟨hr.low,hr.fdom,fun b hb=>(hh b).elim (fun e=>e ▸ hr.blk b hb) (fun e=>by rw [e]; simp only [RB]),hr.dom,hr.new,hr.gl,hr.own,fun b b' B h1 h2 hne=>by
  rcases hh b with e | e
  ·rcases hh b' with e' | e'
   ·rw [e,e']; exact hr.inj b b' B h1 h2 hne
   ·exact .inr e'
  ·exact .inl e⟩
theorem evD_wp (hE:E.Ok) (hcall:V7 E call) {lo base:Nat} {m:Nat->Option Nat} {F:Nat->Prop} {s:St Bs} {a:Act} {w:World} (hr:Rel lo base m F s a w) {o:Oper} {sz nm:Nat} (hnm:∀ b,(foot s nm o.op).l = some b->nm < s.n) {kn:List (Nat×Bool)} (hkn:Wi s kn) {Q:V×Option (Nat×Blk)->Prop}
  {K:Act->World->Prop} {Qx:Exit->Act->World->Prop} (hq:(evD E call s nb sz nm kn o.op).holds E.P Q)
  (hK:∀ v wr,Q (v,wr)->∀ m' F' w' x,Ext base m F s.n w m' F' s.n w'->HR base m' F' (s.wr wr).blk s.n w'->R F' w' v s.n m' x->K (a.put o.dst x) w'):o.wp E.P a w K Qx:=by
 have hopndK:∀ x,R F w (Zx s kn x) s.n m (a.eval x):=by
  intro x
  cases x with
  | tmp t=>
   have:=hr.tmp t
   simp only [Zx,Act.eval]
   rcases Zeo hkn t with h | ⟨c,h1,h2⟩
   ·rw [h]; exact this
   ·rw [h2] at this; simp only [R] at this; rw [h1]; simp only [R]; exact this
  | const v=>exact hr.Zg (.const v)
  | global g=>exact hr.Zg (.global g)
  | func f=>exact hr.Zg (.func f)
 have quiet:(evDQ E call s nb sz nm kn o.op).holds E.P Q->o.wp E.P a w K Qx:=by
  intro hq
  unfold evDQ at hq
  cases hT:evQ E (Zx s kn) s.blk o.op with
  | none=>
   rw [hT] at hq
   dsimp only at hq
   unfold evVal at hq
   cases ho:o.op <;> rw [ho] at hq <;> try exact hq.elim
   rename_i c
   dsimp only at hq
   cases hcal:c.callee <;> rw [hcal] at hq <;> try exact hq.elim
   rename_i f
   dsimp only at hq
   have hnm':nm < s.n:=hnm nm (by rw [ho]; simp only [foot,hcal])
   have hone:HR base m F (Vs (foot s nm (.call c)).m (seen nb sz s.blk)) s.n w:=hr.hr.weak fun b=>by
    unfold Vs seen
    cases (foot s nm (.call c)).m with
    | none=>exact .inr rfl
    | some r=>cases hi:Qh nb sz b <;> simp [hi]
   generalize (Vs (foot s nm (.call c)).m (seen nb sz s.blk)) = hh at hq hone
   cases hc:callee (Zx s kn f) (.ofList (c.args.toList.map (Zx s kn))) with
   | none=>rw [hc] at hq; exact hq.elim
   | some r=>
    obtain ⟨g,args⟩:=r
    rw [hc] at hq
    dsimp only at hq
    have hargs:RL F w (.ofList (c.args.toList.map (Zx s kn))) s.n m (c.args.map a.eval).toList:=by
     simpa using Vw (a:=a) hopndK c.args.toList
    obtain ⟨ys,hy,hy2⟩:=Zfo (P:=E.P) hc (hopndK f) hargs
    obtain ⟨hrun,hys⟩:=hy2 w
    have fin:∀ {K':Ending->World->Prop},Has E.P g->(∀ e w'',K' e w''->match e with | .returned v=>K (a.put o.dst v) w'' | _=>False)->Calls E.P g ys w K'->o.wp E.P a w K Qx:=by
     intro K' hhas hK' hcalls
     have hexec:(execOp a.eval o).run E.P w = .ok (.enter g ys) w:=by
      simp only [execOp,ho,resolve,hcal,Sem.run_bind,hrun,Result.andThen_ok,invoke,ZdR hhas,hys]
     unfold Oper.wp
     rw [hexec]
     simp only [Oper.upon]
     refine hcalls.mono fun e w' he=>?_
     have he:=hK' e w' he
     cases e with
     | returned v=>exact he
     | panicked c=>exact he.elim
     | outgrown=>exact he.elim
    cases hcl:args.clean
    ·rw [hcl] at hq
     simp only [cond_false] at hq
     have hfd:∀ B,(F B\/∃ b,m b = some B)->B < w.heap.size:=fun B hB=>hB.elim (hr.hr.fdom B) fun ⟨b,hb⟩=>hr.hr.dom b B hb
     have hgl:GOk (fun B=>F B\/∃ b,m b = some B) w:=hr.hr.gl.mono (Z4.refl w) (fun B h=>.inl h) (fun _ _=>rfl)
     have hr0:HR w.heap.size (fun _=>none) (fun B=>F B\/∃ b,m b = some B) (look (fun _=>.none) .nil) 0 w:=
      ⟨Nat.le_refl _,hfd,fun b hb=>absurd hb (Nat.not_lt_zero _),fun b B hB=>(by cases hB),fun _ _=>rfl,hgl,fun b B hB=>(by cases hB),fun b b' B hB=>(by cases hB)⟩
     have frz:∀ fv:V,fv.clean = true->(∀ ys,RL F w args s.n m ys->RL (fun B=>F B\/∃ b,m b = some B) w fv s.n m ys)->(Kj E call s nm g fv).holds E.P Q->o.wp E.P a w K Qx:=by
      intro fv hfc hfv hq
      have hfy:RL (fun B=>F B\/∃ b,m b = some B) w fv 0 (fun _=>none) ys.toList:=(WU _ hfc s.n 0 m _).2 _ (hfv _ hy)
      have told:∀ v,Zi E.P g fv v->(bif v.clean&&v.YG then Tree.leaf (v,(none:Option (Nat×Blk))) else .stuck).holds E.P Q->o.wp E.P a w K Qx:=by
       intro v hm hq
       cases hcv:v.clean
       ·rw [hcv] at hq; exact hq.elim
       cases hrv:v.YG
       ·rw [hcv,hrv] at hq; exact hq.elim
       rw [hcv,hrv] at hq
       refine fin hm.1 (fun e w'' h=>?_) (hm.2 _ w ys hfd hgl hfy)
       obtain ⟨x,F',rfl,h1,h2⟩:=h
       have hl:Later F w F w'':=⟨fun _ h=>h,fun _ h=>.inl h,fun B hB=>h1.keep B hB,h1.size,fun h B hB=>Nat.lt_of_lt_of_le (h B hB) h1.size,h1.calm⟩
       exact hK v none hq m F w'' x (hr.hr.ext hl) (hr.hr.later hl) ((ZfX v hcv hrv 0 s.n _ m).1 _ h2)
      unfold Kj at hq
      cases hΓ:E.Γ g fv with
      | none=>
       rw [hΓ] at hq
       dsimp only at hq
       rw [Tree.Ya] at hq
       obtain ⟨hhas,hcalls⟩:=hcall (fun _=>.none) (.inl g) fv .nil 0 w.heap.size (fun _=>none) (fun B=>F B\/∃ b,m b = some B) w ys _
        (fun e w''=>match e with | .returned v=>K (a.put o.dst v) w'' | _=>False) hr0 hfy hq
        (fun v h' n' hQ m' F' w' x h1 h2 h3=>by
         obtain ⟨v',wr,m2,F2,k1,k2,k3,k4⟩:=layR_ok hr.hr hnm' (fun B h=>.inl h) (fun h=>by cases h) hQ h1 h2 h3
         exact hK v' wr k1 m2 F2 w' x k2 k3 k4)
       exact fin hhas (fun e w'' h=>h) hcalls
      | some an=>
       rw [hΓ] at hq
       cases an with
       | sure v=>exact told v (hE.sure g fv v hΓ) hq
       | where_ p v=>
        dsimp only at hq
        cases hcv:(v.clean&&v.YG)
        ·rw [hcv] at hq; exact hq.elim
        ·rw [hcv] at hq
         refine told v (hE.where_ g fv p v hΓ hq.1) ?_
         rw [hcv]; exact hq.2
       | fork b v v'=>exact hq.elim
     cases hfc:(freeze hh args).clean
     ·rw [hfc] at hq
      simp only [cond_false] at hq
      cases hfd2:(fz hh 6 args).clean
      ·rw [hfd2] at hq; exact hq.elim
      rw [hfd2] at hq
      exact frz _ hfd2 (fz_R hone 6 args).2 hq
     rw [hfc] at hq
     simp only [cond_true] at hq
     obtain ⟨hfn,hq⟩:=Zcs hq
     exact frz _ hfc (Zhc hone _ hfn).2 hq
    ·rw [hcl] at hq
     simp only [cond_true] at hq
     rw [Tree.Ya] at hq
     have hr0:HR w.heap.size (fun _=>none) F (look (fun _=>.none) .nil) 0 w:=
      ⟨Nat.le_refl _,hr.hr.fdom,fun b hb=>absurd hb (Nat.not_lt_zero _),fun b B hB=>(by cases hB),fun _ _=>rfl,hr.hr.gl,fun b B hB=>(by cases hB),fun b b' B hB=>(by cases hB)⟩
     obtain ⟨hhas,hcalls⟩:=hcall (fun _=>.none) (.inl g) args .nil 0 w.heap.size (fun _=>none) F w ys _
      (fun e w''=>match e with | .returned v=>K (a.put o.dst v) w'' | _=>False) hr0 ((WU args hcl s.n 0 m _).2 _ hy) hq
      (fun v h' n' hQ m' F' w' x h1 h2 h3=>by
       obtain ⟨v',wr,m2,F2,k1,k2,k3,k4⟩:=layR_ok hr.hr hnm' (fun B h=>h) (fun _ B h=>h) hQ h1 h2 h3
       exact hK v' wr k1 m2 F2 w' x k2 k3 k4)
     exact fin hhas (fun e w'' h=>h) hcalls
  | some T=>
   rw [hT] at hq
   dsimp only at hq
   rw [Tree.Ya] at hq
   exact evQ_wp hE hr.hr hopndK hT hq fun v x w' F' h1 h2 h3=>hK v none h1 m F' w' x (hr.hr.ext h2) (hr.hr.later h2) h3
 have newO:nm < s.n->∀ (blk:Blk) (v:V) (X:Value) (ob:Obj),(∀ m',(∀ b,b < s.n->∀ B,m b = some B->m' b = some B)->Ext base m F s.n w m' F s.n (w.alloc ob)->RB F (w.alloc ob) s.n m' blk (some w.heap.size))->(execOp a.eval o).run E.P w = .ok (.value X) (w.alloc ob) ->
   (nm < s.n->∀ m',m' nm = some w.heap.size->R F (w.alloc ob) v s.n m' X)->(Xq s nm blk v).holds E.P Q->o.wp E.P a w K Qx:=by
  intro hlt' blk v X ob hrb hrun hX hq
  unfold Xq at hq
  ·have hb:=hr.hr.blk nm hlt'
   cases hbl:s.blk nm <;> rw [hbl] at hq <;> try exact hq.elim
   rw [hbl] at hb
   have h0:m nm = none:=hb
   obtain ⟨h1,h2⟩:=hr.hr.layO (h':=(s.wr (some (nm,blk))).blk) (nm:=nm) (n':=s.n) (o:=ob) h0 (Nat.le_refl _) hlt' (fun b h3 h4=>by omega) (fun b=>ZR _ _ _ _ _) (fun he=>hrb _ he.map he)
   unfold Oper.wp
   rw [hrun]
   simp only [Oper.upon]
   exact hK _ _ hq _ F _ _ h2 h1 (hX hlt' _ (by simp))
 have new:nm < s.n->∀ (cs v:V) (X:Value) (xs:Array Value) (el:TypeId),RL F w cs s.n m xs.toList->(execOp a.eval o).run E.P w = .ok (.value X) (w.alloc (.cells xs el)) ->
   (nm < s.n->∀ m',m' nm = some w.heap.size->R F (w.alloc (.cells xs el)) v s.n m' X)->(Xq s nm (.var cs) v).holds E.P Q->o.wp E.P a w K Qx:=fun hlt' cs v X xs el hrow hrun hX hq=>
  newO hlt' (.var cs) v X (.cells xs el) (fun m' hm he=>⟨_,xs,el,xs.toList,[],rfl,heap_alloc_new w _,by simp,he.row hrow⟩) hrun hX hq
 have ptr:nm < s.n->∀ (w':World) (m':Nat->Option Nat),m' nm = some w.heap.size->R F w' (.ptr true nm 0 0 0) s.n m' (.pointer (some ⟨w.heap.size,0,none⟩)):=fun hlt w' m' hm=>by
  rw [Xi]; exact ⟨hlt,w.heap.size,by simp,hm⟩
 cases ho:o.op <;> rw [ho] at hq <;> try (exact quiet (by rw [ho]; exact hq))
 case alloc t=>
  simp only [evD] at hq
  cases hz:Xc E.P t with
  | none=>rw [hz] at hq; exact hq.elim
  | some cs=>
   rw [hz] at hq
   obtain ⟨z,hz1,hz2⟩:=JN (F:=F) (w:=w) (n:=s.n) (m:=m) hz
   exact new (hnm nm (by rw [ho]; rfl)) cs _ _ z.cells t hz2 (by simp only [execOp,ho,Instr.alloc,Sem.run_bind,hz1,Result.andThen_ok]; rfl) (fun hlt m' hm=>ptr hlt _ m' hm) hq
 case box t x=>
  simp only [evD] at hq
  cases hs:(Zx s kn x).solid
  ·rw [hs] at hq; exact hq.elim
  ·rw [hs] at hq
   exact new (hnm nm (by rw [ho]; rfl)) _ _ _ (a.eval x).cells t (Ud _ _ (hopndK x) hs) (by simp only [execOp,ho]; rfl) (fun hlt m' hm=>ptr hlt _ m' hm) hq
 case buildSlice t len parts=>
  simp only [evD] at hq
  cases hz:KN E.P t len (parts.toList.map fun p=>(p.1,Zx s kn p.2)) with
  | none=>rw [hz] at hq; exact hq.elim
  | some zc=>
   obtain ⟨z,cs⟩:=zc
   rw [hz] at hq
   obtain ⟨outc,e,hrun,hrow,hsz⟩:=run_buildSlice (E:=E) ho hopndK hz
   exact new (hnm nm (by rw [ho]; rfl)) _ _ _ outc e hrow hrun (fun hlt m' hm=>by
    rcases ZbT nm z len with h | ⟨rfl,h⟩
    ·rw [h,Yb]; exact ⟨hlt,_,len,rfl,Nat.le_refl _,.inr ⟨w.heap.size,outc,e,(0,0),by rw [Nat.zero_mul],hm,heap_alloc_new w _,by rw [Nat.zero_add,hsz]; exact Nat.le_refl _⟩⟩
    ·rw [h]; simp only [R]; exact ⟨_,rfl,fun _ h=>by cases h⟩) hq
 case makeSlice t len cap=>
  simp only [evD] at hq
  cases hz:UW E.P t (Zx s kn len) (Zx s kn cap) with
  | none=>rw [hz] at hq; exact hq.elim
  | some zc=>
   obtain ⟨z,k,cs⟩:=zc
   rw [hz] at hq
   obtain ⟨outc,e,hrun0,hrow,hsz⟩:=ZiW (w:=w) (F:=F) (n:=s.n) (m:=m) (hopndK len) (hopndK cap) hz
   exact new (hnm nm (by rw [ho]; rfl)) _ _ _ outc e hrow (by simp only [execOp,ho,Sem.run_bind,hrun0,Result.andThen_ok]; rfl) (fun hlt m' hm=>by
    rcases ZbT nm z k with h | ⟨rfl,h⟩
    ·rw [h,Yb]; exact ⟨hlt,_,k,rfl,Nat.le_refl _,.inr ⟨w.heap.size,outc,e,(0,0),by rw [Nat.zero_mul],hm,heap_alloc_new w _,by rw [Nat.zero_add,hsz]; exact Nat.le_refl _⟩⟩
    ·rw [h]; simp only [R]; exact ⟨_,rfl,fun _ h=>by cases h⟩) hq
 case makeMap t r=>
  simp only [evD] at hq
  cases hz:Vk E.P t (r.map (Zx s kn)) with
  | none=>rw [hz] at hq; exact hq.elim
  | some blk=>
   rw [hz] at hq
   obtain ⟨hrun0,kd,z,rfl⟩:=ZgL (F:=F) (w:=w) (n:=s.n) (m:=m) (X:=r.map a.eval) hz (fun v hv=>by
    cases r with
    | none=>cases hv
    | some y=>injection hv with hv; subst hv; exact ⟨_,rfl,hopndK y⟩) (fun hv=>by cases r with | none=>rfl | some y=>cases hv)
   exact newO (hnm nm (by rw [ho]; rfl)) _ _ _ (.map #[] 0) (fun m' _ _=>Zgr (heap_alloc_new w _)) (by simp only [execOp,ho,Sem.run_bind,hrun0,Result.andThen_ok]; rfl) (fun hlt m' hm=>by simp only [R]; exact ⟨hlt,_,rfl,hm⟩) hq
 case mapUpdate t mx k x=>
  simp only [evD] at hq
  cases hz:XM E.P s.blk t (Zg s mx) (Zx s kn k) (true,Zx s kn x) with
  | none=>rw [hz] at hq; exact hq.elim
  | some bb=>
   obtain ⟨b,blk⟩:=bb
   rw [hz] at hq
   obtain ⟨w',hrun0,k1,k2⟩:=(ZaL hr.hr (hr.Zg mx) (hopndK k) hz).1 _ rfl (hopndK x)
   have hrun:(execOp a.eval o).run E.P w = .ok .skip w':=by
    simp only [execOp,ho,Sem.run_bind,hrun0,Result.andThen_ok,Sem.run_pure]
   unfold Oper.wp
   rw [hrun]
   simp only [Oper.upon]
   exact hK _ _ hq m F w' _ k2 (k1 _ (fun c=>ZR _ _ _ _ _)) (by simp only [R])
 case insert t mx k x=>
  simp only [evD] at hq
  cases hz:XM E.P s.blk t (Zg s mx) (Zx s kn k) (true,Zx s kn x) with
  | none=>rw [hz] at hq; exact hq.elim
  | some bb=>
   obtain ⟨b,blk⟩:=bb
   rw [hz] at hq
   obtain ⟨w',hrun0,k1,k2⟩:=(ZaL hr.hr (hr.Zg mx) (hopndK k) hz).1 _ rfl (hopndK x)
   have hrun:(execOp a.eval o).run E.P w = .ok .skip w':=by
    simp only [execOp,ho,Sem.run_bind,hrun0,Result.andThen_ok,Sem.run_pure]
   unfold Oper.wp
   rw [hrun]
   simp only [Oper.upon]
   exact hK _ _ hq m F w' _ k2 (k1 _ (fun c=>ZR _ _ _ _ _)) (by simp only [R])
 case load t ax=>
  simp only [evD] at hq
  rw [Tree.Ya] at hq
  exact XE (by simp only [execOp,ho]) (Zfg hr.hr (hr.Zg ax)) hq fun v x w' F' h1 h2 h3=>hK v none h1 m F' w' x (hr.hr.ext h2) (hr.hr.later h2) h3
 rename_i t ax xx
 simp only [evD,Zb6] at hq
 cases hz:ZB E.P t with
 | none=>rw [hz] at hq; exact hq.elim
 | some z=>
  rw [hz] at hq
  dsimp only at hq
  cases h1:Nat.beq (Zx s kn xx).cells.len z
  ·rw [h1] at hq; exact hq.elim
  ·cases h2:(Zx s kn xx).cells.Xp
   ·rw [h1,h2] at hq; exact hq.elim
   ·cases h3:(Zx s kn xx).solid
    ·rw [h1,h2,h3] at hq; exact hq.elim
    ·rw [h1,h2,h3] at hq
     simp only [Bool.and_self,cond_true] at hq
     have hax:=hr.Zg ax
     have hxx:=hopndK xx
     cases hva:Zg s ax <;> rw [hva] at hq <;> try exact hq.elim
     rename_i st b es i' o'
     have hlen:(a.eval xx).cells.size = z:=by
      have:=Y5 _ _ (Ud _ _ hxx h3)
      rw [Nat.eq_of_beq_eq_true h1] at this
      simpa using this.symm
     rw [hva,Xi] at hax
     obtain ⟨hb,B,hae,hB⟩:=hax
     dsimp only at hq
     rw [Tree.Ya] at hq
     obtain ⟨blk,w',k1,k2,k3,k4⟩:=ZgN hr.hr hb hB hxx h3 hlen h2 hq
     have hrun:(execOp a.eval o).run E.P w = .ok .skip w':=by
      simp only [execOp,ho,Sem.run_bind,Instr.storeAt,hae,Instr.sureAddr,pure_bind,storeVar,Y9 hz,Result.andThen_ok]
      rw [if_neg (by simp [hlen])]
      simp only [k2,Result.andThen_ok,Sem.run_pure]
     unfold Oper.wp
     rw [hrun]
     simp only [Oper.upon]
     exact hK _ _ k1 m F w' _ k4 (k3 _ (fun c=>ZR _ _ _ _ _)) (by simp only [R])
theorem ZjW {E:Env} {call:YL} {Bs:Base} {s:St Bs} {nb sz nm:Nat} {kn:List (Nat×Bool)} {o:Op} {Q:V×Option (Nat×Blk)->Prop} (hq:(evD E call s nb sz nm kn o).holds E.P Q):∀ c,o ≠ .defer c:=by
 intro c e
 subst e
 exact hq
theorem Zlf {B B':Base} {s:St B} {s':St B'} {c:Call} (hx:∀ x ∈ (Op.call c).operands,Zg s x = Zg s' x) (hB:B.h = B'.h) (hh:s.h = s'.h) (hn:s.n = s'.n):YR E call s (.call c) = YR E call s' (.call c):=by
 have hb:s.blk = s'.blk:=by unfold St.blk; rw [hh,hB]
 simp only [Op.operands] at hx
 have hargs:c.args.toList.map (Zg s) = c.args.toList.map (Zg s'):=List.map_congr_left fun x h=>hx x (by simp [Call.operands]; right; simpa using h)
 simp only [YR,evQ]
 rw [hargs,hb,hh,hn,hB]
 cases hcal:c.callee with
 | value f=>
  have hf:Zg s f = Zg s' f:=hx f (by simp [Call.operands,hcal])
  simp only [Ub,hf,hargs]
 | builtin b=>
  dsimp only
  cases b <;> try rfl
  dsimp only
  cases c.argTypes.toList with
  | nil=>rfl
  | cons t ts=>
   dsimp only
   cases hl:c.args.toList with
   | nil=>rfl
   | cons m l=>
    cases l with
    | nil=>rfl
    | cons k l=>
     cases l with
     | cons _ _=>rfl
     | nil=>
      dsimp only
      have hm:Zg s m = Zg s' m:=hx m (by simp [Call.operands]; right; have:m ∈ c.args.toList:=(by rw [hl]; simp); simpa using this)
      have hk:Zg s k = Zg s' k:=hx k (by simp [Call.operands]; right; have:k ∈ c.args.toList:=(by rw [hl]; simp); simpa using this)
      rw [hm,hk]
 | invoke r m=>rfl
theorem Zgp {P:Program} {t:TypeId} {i:TypeInfo} {z:Value} (hi:P.info? t = some i) (hz:i.zero = some z) (w:World):(zeroValue t).run P w = .ok z w:=by
 simp only [zeroValue,Sem.run_bind,run_typeInfo w hi,Result.andThen_ok,hz,Sem.run_pure]
theorem Zla {P:Program} {t:TypeId} {cs:V} (h:Xc P t = some cs):∃ z,∀ (F:Nat->Prop) (w:World) (n:Nat) (m:Nat->Option Nat),(zeroValue t).run P w = .ok z w/\RL F w cs n m z.cells.toList:=by
 have h0:=h
 unfold Xc at h0
 cases hi:P.info? t with
 | none=>rw [hi] at h0; cases h0
 | some i=>
  rw [hi] at h0
  dsimp only at h0
  cases hz:i.zero with
  | none=>rw [hz] at h0; cases h0
  | some z=>
   refine ⟨z,fun F w n m=>⟨Zgp hi hz w,?_⟩⟩
   obtain ⟨z2,h1,h2⟩:=JN (F:=F) (w:=w) (n:=n) (m:=m) h
   rw [Zgp hi hz w] at h1
   injection h1 with h1
   subst h1
   exact h2
theorem Zlz {L:Array Bool} (he:Va ops bf) (hsz:L.size = ops.size) (hcl:∀ d e,L.getD d false = true->(bf.getD d 0).testBit e = true->L.getD e false = true) {i:Nat} (hmem:i ∈ Region.ready .any ops L) :
  i < ops.size/\L.getD i false = false/\∀ e,(bf.getD i 0).testBit e = true->L.getD e false = true:=by
 unfold Region.ready at hmem
 rw [List.mem_filter] at hmem
 obtain ⟨hi,hcond⟩:=hmem
 have hi:=List.mem_range.1 hi
 have hlt:i < L.size:=by rw [hsz]; exact hi
 have ho:ops[i]? = some ops[i]:=Array.getElem?_eq_getElem hi
 simp only [ho,Option.map_some,Option.getD_some,Bool.and_eq_true,Bool.not_eq_true'] at hcond
 obtain ⟨hL,hedges⟩:=hcond
 refine ⟨hi,by simp [Array.getD_eq_getD_getElem?,hlt] at hL ⊢; exact hL,fun e hbit=>?_⟩
 obtain ⟨ed,h1,h2,h3⟩:=he.edge i _ ho e hbit
 rw [<- Array.all_toList,List.all_eq_true] at hedges
 have:=hedges ed h1
 rw [h2] at this
 have hon:L.getD ed.on false = true:=by simpa using this
 rcases h3 with rfl | h3
 ·exact hon
 ·exact hcl _ _ hon h3
theorem ready_of {L:Array Bool} (he:Va ops bf) (hsz:L.size = ops.size) {i:Nat} (hi:i < ops.size) (hn:L.getD i false = false) (hb:∀ j,j < i->L.getD j false = true):i ∈ Region.ready .any ops L:=by
 unfold Region.ready
 rw [List.mem_filter]
 refine ⟨List.mem_range.2 hi,?_⟩
 have ho:ops[i]? = some ops[i]:=Array.getElem?_eq_getElem hi
 have hL':L.getD i true = false:=by
  have hlt:i < L.size:=by rw [hsz]; exact hi
  simp [Array.getD_eq_getD_getElem?,hlt] at hn ⊢; exact hn
 simp only [hL',Bool.not_false,Bool.true_and,ho,Option.map_some,Option.getD_some]
 rw [<- Array.all_toList,List.all_eq_true]
 intro ed hed
 cases hbd:Region.binds .any ed with
 | false=>rfl
 | true=>
  have hlt:=he.back i _ ho ed hed hbd
  simp [hb ed.on hlt]
theorem any_end {ro:Option Nat} {L:Array Bool} {fuel:Nat} {a:Act} {w:World} {Qx:Exit->Act->World->Prop} (hsz:L.size = ops.size) (hall:∀ i,i < ops.size->L.getD i false = true) (h:Qx .normal a w):wpAnyIn (fen ro) 0 E.P .any ops Qx fuel L a w:=by
 have hnil:Region.ready .any ops L = []:=by
  unfold Region.ready
  rw [List.filter_eq_nil_iff]
  intro i hi
  have hi':=List.mem_range.1 hi
  have hlt:i < L.size:=by rw [hsz]; exact hi'
  have h1:=hall i hi'
  have hL':L.getD i true = true:=by simp [Array.getD_eq_getD_getElem?,hlt] at h1 ⊢; exact h1
  simp [hL']
 cases fuel with
 | zero=>exact ⟨hnil,h⟩
 | succ n=>exact ⟨fun _=>h,fun i hi=>by rw [hnil] at hi; cases hi⟩
theorem Rel.congr {lo base:Nat} {m:Nat->Option Nat} {F:Nat->Prop} {s s':St Bs} {a:Act} {w:World} (hr:Rel lo base m F s a w) (hb:∀ b,s'.blk b = s.blk b) (hn:s'.n = s.n) (hN:s'.N = s.N) (ht:∀ t,s'.tmp t = s.tmp t\/s'.tmp t = .junk):Rel lo base m F s' a w:=by
 refine ⟨by rw [hn,funext hb]; exact hr.hr,hr.defers,by rw [hr.size,hN],fun t=>?_⟩
 rw [hn]
 rcases ht t with h | h
 ·rw [h]; exact hr.tmp t
 ·rw [h]; simp only [R]
def St.Yy (s:St Bs) (ts:List Nat):St Bs:={ s with t:=ts.foldr (fun d t=>t.set d .junk) s.t }
theorem KU (s:St Bs) (ts:List Nat) (t:Nat):(s.Yy ts).tmp t = if t ∈ ts then .junk else s.tmp t:=by
 unfold St.Yy St.tmp
 dsimp only
 induction ts with
 | nil=>simp
 | cons d ts ih=>
  simp only [List.foldr_cons]
  rw [ZR]
  by_cases e:t = d
  ·rw [if_pos e,if_pos (by simp [e])]
  ·rw [if_neg e,ih]
   simp [e]
structure Pend (P:Program) (ops:Array Oper) (bf:List Nat) (fp:Nat->Ft) (base:Nat) (w0:World) (L':Array Bool) (m:Nat->Option Nat) (F:Nat->Prop) (a:Act) (w:World) (e:Nat×Nat×Nat):Prop where
 lt:e.1 < ops.size
 op:∃ o t cs xs,ops[e.1]? = some o/\o.op = .alloc t/\o.dst = some e.2.1/\o.guard = none/\Xc P t = some cs/\w.heap[e.2.2]? = some (.cells xs t)/\∀ (F:Nat->Prop) (w:World) (n:Nat) (m:Nat->Option Nat),RL F w cs n m xs.toList
 tmp:e.2.1 < a.tmps.size/\a.tmps.getD e.2.1 Go.undef = .pointer (some ⟨e.2.2,0,none⟩)
 base:base<=e.2.2
 new:w0.heap.size<=e.2.2
 fr:¬ F e.2.2
 un:∀ b,m b ≠ some e.2.2
 rdy:∀ x,(bf.getD e.1 0).testBit x = true->L'.getD x false = true
 not:L'.getD e.1 false = false
theorem Pend.lt' {P:Program} {ops:Array Oper} {bf:List Nat} {fp:Nat->Ft} {base:Nat} {w0:World} {L':Array Bool} {m:Nat->Option Nat} {F:Nat->Prop} {a:Act} {w:World} {e:Nat×Nat×Nat} (h:Pend P ops bf fp base w0 L' m F a w e):e.2.2 < w.heap.size:=by
 obtain ⟨o,t,cs,xs,_,_,_,_,_,h2,_⟩:=h.op
 rcases Nat.lt_or_ge e.2.2 w.heap.size with h' | h'
 ·exact h'
 ·rw [Array.getElem?_eq_none h'] at h2; cases h2
theorem Pend.next {P:Program} {ops:Array Oper} {bf:List Nat} {fp:Nat->Ft} {base:Nat} {w0:World} {L':Array Bool} {m m':Nat->Option Nat} {F F':Nat->Prop} {n n':Nat} {a:Act} {w w':World} {e:Nat×Nat×Nat} (h:Pend P ops bf fp base w0 L' m F a w e) (hx:Ext base m F n w m' F' n' w')
  {i:Nat} (hi:i < L'.size) (hne:i ≠ e.1) {dst:Option Tmp} {v:Value} (hd:dst ≠ some e.2.1):Pend P ops bf fp base w0 (L'.setIfInBounds i true) m' F' (a.put dst v) w' e:=by
 have hlt:=h.lt'
 obtain ⟨o,t,cs,xs,h1,h2,h3,h4,h5,h6,h7⟩:=h.op
 refine ⟨h.lt,⟨o,t,cs,xs,h1,h2,h3,h4,h5,by rw [hx.ow.un _ hlt h.un]; exact h6,h7⟩,?_,h.base,h.new,fun hF=>(hx.back _ hF).elim h.fr (fun hge=>absurd hlt (Nat.not_lt.2 hge)),fun b hb=>?_,fun x hb=>(XD hi x).2 (.inr (h.rdy x hb)),?_⟩
 ·cases dst with
  | none=>exact h.tmp
  | some d=>
   have hne':d ≠ e.2.1:=fun e'=>hd (by rw [e'])
   refine ⟨by simp [Act.put,h.tmp.1],?_⟩
   have:=h.tmp.2
   simp only [Act.put,Array.getD_eq_getD_getElem?] at this ⊢
   rw [Array.getElem?_setIfInBounds_ne hne']
   exact this
 ·obtain ⟨c,hc⟩:=hx.ow.old b _ hb hlt
  exact h.un c hc
 ·cases hg:(L'.setIfInBounds i true).getD e.1 false with
  | false=>rfl
  | true=>
   rcases (XD hi e.1).1 hg with h' | h'
   ·exact absurd h'.symm hne
   ·rw [h.not] at h'; cases h'
structure Held (P:Program) (ops:Array Oper) (bf:List Nat) (nb:Nat) (S:Nat->St Bs) (fp:Nat->Ft) (lo base:Nat) (m0:Nat->Option Nat) (F0:Nat->Prop) (n0:Nat) (w0:World) (L L':Array Bool) (PL:List (Nat×Nat×Nat)) (s:St Bs) (a:Act) (w:World) (m:Nat->Option Nat) (F:Nat->Prop):Prop where
 inv:Inv ops bf nb S fp L' s
 rel:Rel lo base m F (s.Yy (PL.map (·.2.1))) a w
 ext:Ext base m0 F0 n0 w0 m F s.n w
 size:L.size = ops.size
 mem:∀ d,L.getD d false = true↔L'.getD d false = true\/∃ e ∈ PL,e.1 = d
 nod:PL.Pairwise fun e e'=>e.1 ≠ e'.1/\e.2.2 ≠ e'.2.2
 each:∀ e ∈ PL,Pend P ops bf fp base w0 L' m F a w e
theorem lateB_lt {ops:Array Oper} {bf:List Nat} {i j:Nat} {f:Ft} (h:XG ops bf i j f = true):i < j:=by
 unfold XG at h
 simp only [Bool.and_eq_true,Nat.blt_eq] at h
 exact h.1
theorem ZfO {ops:Array Oper} {bf:List Nat} {i j:Nat} {f:Ft} (h:XG ops bf i j f = true):(∃ w,f.m = some (w,none))/\(∃ o,ops[j]? = some o/\ZcW o = true)/\∀ e,e < ops.size->(bf.getD e 0).testBit j = true->(bf.getD e 0).testBit i = true:=by
 unfold XG at h
 simp only [Bool.and_eq_true] at h
 obtain ⟨_,h1,h2⟩:=h
 refine ⟨?_,?_⟩
 ·unfold isBigF at h1
  split at h1
  ·rename_i w hm; exact ⟨w,hm⟩
  ·cases h1
 ·cases ho:ops[j]? with
  | none=>rw [ho] at h2; cases h2
  | some o=>
   rw [ho] at h2
   simp only [Bool.and_eq_true] at h2
   refine ⟨⟨o,rfl,h2.1⟩,fun e he hb=>?_⟩
   have:=List.all_eq_true.1 h2.2 e (List.mem_range.2 he)
   rw [hb] at this
   simpa using this
section
variable {lo base:Nat} {m0:Nat->Option Nat} {F0:Nat->Prop} {n0:Nat} {w0:World} {L L':Array Bool} {PL:List (Nat×Nat×Nat)} {s:St Bs} {a:Act} {w:World} {m:Nat->Option Nat} {F:Nat->Prop}
theorem Pend.small (hp:Path E call ops bf nb S fp) {e:Nat×Nat×Nat} (h:Pend E.P ops bf fp base w0 L' m F a w e):(fp e.1).m = none/\∃ cs,(∃ xs t,w.heap[e.2.2]? = some (.cells xs t)/\∀ (F:Nat->Prop) (w:World) (n:Nat) (m:Nat->Option Nat),RL F w cs n m xs.toList)/\S (e.1 + 1) = ((S e.1).wr (some (nb + e.1,.var cs))).put (some e.2.1) (.ptr true (nb + e.1) 0 0 0)/\(S e.1).blk (nb + e.1) = .none/\fp e.1 = { m:=none,l:=some (nb + e.1) }/\e.2.1 < (S e.1).N:=by
 obtain ⟨o,t,cs,xs,h1,h2,h3,h4,h5,h6,h7⟩:=h.op
 rcases hp.step e.1 o h1 with ⟨r,kn,hw,hkn,hknl,hf,hh,hd,hS,hfp⟩ | ⟨r,hw,hbg,_⟩ | ⟨r,hw,hbg,_⟩ | ⟨hw,_⟩
 ·rw [h2] at hfp hh
  refine ⟨by rw [hfp]; rfl,cs,⟨xs,t,h6,h7⟩,?_⟩
  simp only [evD,h5] at hh
  unfold Xq at hh
  cases hb:(S e.1).blk (nb + e.1) <;> rw [hb] at hh <;> try exact hh.elim
  have hh':(V.ptr true (nb + e.1) 0 0 0,some (nb + e.1,Blk.var cs)) = r:=hh
  subst hh'
  rw [h3] at hS
  exact ⟨hS,rfl,hfp,VF (o:=o) hd _ h3⟩
 ·rw [h2] at hbg; cases hbg
 ·rw [h2] at hbg; cases hbg
 ·unfold truth at hw; rw [h4] at hw; cases hw
theorem Held.ready (hp:Path E call ops bf nb S fp) (hh:Held E.P ops bf nb S fp lo base m0 F0 n0 w0 L L' PL s a w m F) (hwait:∀ e ∈ PL,∃ i,XG ops bf i e.1 (fp i) = true/\L'.getD i false = false)
  {i:Nat} (hi:i < ops.size) (hready:∀ e,(bf.getD i 0).testBit e = true->L.getD e false = true):∀ e,(bf.getD i 0).testBit e = true->L'.getD e false = true:=by
 intro x hx
 rcases (hh.mem x).1 (hready x hx) with h | ⟨e,he,rfl⟩
 ·exact h
 ·obtain ⟨i1,h1,h2⟩:=hwait e he
  obtain ⟨k1,_,k3⟩:=ZfO h1
  have hL1:=hready i1 (k3 i hi hx)
  rcases (hh.mem i1).1 hL1 with h | ⟨e',he',rfl⟩
  ·rw [h2] at h; cases h
  ·have:=((hh.each e' he').small hp).1
   obtain ⟨_,k1⟩:=k1
   rw [k1] at this; cases this
theorem Held.realize (hp:Path E call ops bf nb S fp) (he:Va ops bf) {l1 l2:List (Nat×Nat×Nat)} {e:Nat×Nat×Nat} (hh:Held E.P ops bf nb S fp lo base m0 F0 n0 w0 L L' (l1 ++ e :: l2) s a w m F)
  (hlate:∀ i',XG ops bf i' e.1 (fp i') = true->L'.getD i' false = true):∃ L'' s'' m'',Held E.P ops bf nb S fp lo base m0 F0 n0 w0 L L'' (l1 ++ l2) s'' a w m'' F:=by
 have hmem:e ∈ l1 ++ e :: l2:=by simp
 have hpe:=hh.each e hmem
 obtain ⟨hm,cs,⟨xs,t,h6,h7⟩,hS,hbS,hfp,hdN⟩:=hpe.small hp
 obtain ⟨o,t',cs',xs',g1,g2,g3,g4,_⟩:=hpe.op
 obtain ⟨_,_,hrl,_⟩:=hh.inv.reads hp he hpe.lt g1 hpe.not hpe.rdy hlate
 have hbs:s.blk (nb + e.1) = .none:=by rw [hrl _ (by rw [hfp]),hbS]
 have hlt:nb + e.1 < s.n:=by
  have hl:ops.toList.any lays = true:=List.any_eq_true.2 ⟨o,Array.mem_toList_iff.2 (Array.mem_of_getElem? g1),by unfold lays; rw [g2]⟩
  have h1:=hh.inv.res hl
  have h2:=hpe.lt
  omega
 have hjb:∀ (s:St Bs) ts b,(s.Yy ts).blk b = s.blk b:=fun _ _ _=>rfl
 have hm0:m (nb + e.1) = none:=by
  have:=hh.rel.hr.blk (nb + e.1) hlt
  rw [show (s.Yy ((l1 ++ e :: l2).map (·.2.1))).blk (nb + e.1) = .none from hbs] at this
  exact this
 have hdiff:∀ e' ∈ l1 ++ l2,e'.1 ≠ e.1/\e'.2.2 ≠ e.2.2:=by
  intro e' he'
  have hpw:=List.pairwise_append.1 hh.nod
  rcases List.mem_append.1 he' with h | h
  ·exact hpw.2.2 e' h e (by simp)
  ·have:=(List.pairwise_cons.1 hpw.2.1).1 e' h
   exact ⟨fun h=>this.1 h.symm,fun h=>this.2 h.symm⟩
 have hLs:L'.size = ops.size:=hh.inv.size
 have hiL:e.1 < L'.size:=by rw [hLs]; exact hpe.lt
 have hinv:=hh.inv.next hp he hpe.lt g1 hpe.not hpe.rdy hlate (v:=.ptr true (nb + e.1) 0 0 0) (x:=some (nb + e.1,.var cs))
  (fun b blk hx=>by injection hx with hx; injection hx with hx _; subst hx; rw [WrB,hfp]; exact .inr (.inr rfl)) (fun h=>by rw [Qz,hm] at h; cases h)
  (fun b hb=>by
   rw [WrB,hfp] at hb
   rcases hb with hb | ⟨hb,_⟩ | hb
   ·cases hb
   ·cases hb
   ·injection hb with hb; subst hb; rw [hbs,hbS]) (by rw [g3]; exact hS)
 rw [g3] at hinv
 have hext:Ext base m0 F0 n0 w0 (fun b=>if b = nb + e.1 then some e.2.2 else m b) F s.n w:=by
  have h:=hh.ext
  refine ⟨h.f,h.back,h.keep,h.size,h.sz,⟨h.ow.un,fun b C hb hC=>?_⟩,h.le,fun b hb C hC=>?_,h.calm⟩
  ·by_cases e1:b = nb + e.1
   ·rw [if_pos e1] at hb; injection hb with hb; have:=hpe.new; omega
   ·rw [if_neg e1] at hb; exact h.ow.old b C hb hC
  ·have:=h.map b hb C hC
   rw [if_neg (fun e1=>by rw [e1,hm0] at this; cases this)]
   exact this
 have mono:∀ (v:V) (x:Value),R F w v s.n m x->R F w v s.n (fun b=>if b = nb + e.1 then some e.2.2 else m b) x:=fun v x h=>
  (YK (Z4.refl w) (fun _ h=>h) (fun _ _=>rfl) v s.n s.n m _ (Nat.le_refl _) (fun b _ B hb=>by rw [if_neg (fun e1=>by rw [e1,hm0] at hb; cases hb)]; exact hb)).1 x h
 have hr:=hh.rel.hr
 have hHR:HR base (fun b=>if b = nb + e.1 then some e.2.2 else m b) F (s.wr (some (nb + e.1,.var cs))).blk s.n w:=by
  refine ⟨hr.low,hr.fdom,fun b hb=>?_,fun b C hC=>?_,fun b hb=>?_,hr.gl,fun b C hC=>?_,fun b b' C h1 h2 hne=>?_⟩
  ·show RB F w s.n _ (look _ (PT.set _ _ _) b) _
   rw [ZR]
   by_cases e1:b = nb + e.1
   ·rw [if_pos e1,if_pos e1]
    exact ⟨e.2.2,xs,t,xs.toList,[],rfl,h6,by simp,h7 _ _ _ _⟩
   ·rw [if_neg e1,if_neg e1]
    exact RB_more (Nat.le_refl _) (fun c _ C hc=>by rw [if_neg (fun e1=>by rw [e1,hm0] at hc; cases hc)]; exact hc) (hr.blk b hb)
  ·by_cases e1:b = nb + e.1
   ·rw [if_pos e1] at hC; injection hC with hC; subst hC; exact hpe.lt'
   ·rw [if_neg e1] at hC; exact hr.dom b C hC
  ·rw [if_neg (by have hb':s.n<=b:=hb; omega)]; exact hr.new b hb
  ·by_cases e1:b = nb + e.1
   ·rw [if_pos e1] at hC; injection hC with hC; subst hC; exact ⟨hpe.base,hpe.fr⟩
   ·rw [if_neg e1] at hC; exact hr.own b C hC
  ·by_cases e1:b = nb + e.1 <;> by_cases e2:b' = nb + e.1
   ·exact absurd (e1.trans e2.symm) hne
   ·rw [if_pos e1] at h1; rw [if_neg e2] at h2; injection h1 with h1; subst h1; exact absurd h2 (hpe.un b')
   ·rw [if_neg e1] at h1; rw [if_pos e2] at h2; injection h2 with h2; subst h2; exact absurd h1 (hpe.un b)
   ·rw [if_neg e1] at h1; rw [if_neg e2] at h2
    show look _ (PT.set _ _ _) b = Blk.any\/look _ (PT.set _ _ _) b' = Blk.any
    rw [ZR,ZR,if_neg e1,if_neg e2]
    exact hr.inj b b' C h1 h2 hne
 refine ⟨L'.setIfInBounds e.1 true,(s.wr (some (nb + e.1,.var cs))).put (some e.2.1) (.ptr true (nb + e.1) 0 0 0),fun b=>if b = nb + e.1 then some e.2.2 else m b,hinv,?_,by rw [St.QT,St.wr_n]; exact hext,hh.size,fun d=>?_,?_,fun e' he'=>?_⟩
 ·refine ⟨?_,?_,?_,fun t=>?_⟩
  ·show HR base _ F (s.wr (some (nb + e.1,.var cs))).blk s.n w
   exact hHR
  ·obtain ⟨rs,hk⟩:=hh.rel.defers
   refine ⟨rs,hk.eq,hk.nodup,hk.le,hk.lo,hk.obj,fun r hr'=>⟨(hk.un r hr').1,fun b hb=>?_⟩⟩
   by_cases e1:b = nb + e.1
   ·rw [if_pos e1] at hb
    injection hb with hb
    have:=hk.obj r hr'
    rw [<- hb,h6] at this
    cases this
   ·rw [if_neg e1] at hb; exact (hk.un r hr').2 b hb
  ·exact hh.rel.size
  ·rw [KU]
   have hn':(((s.wr (some (nb + e.1,.var cs))).put (some e.2.1) (.ptr true (nb + e.1) 0 0 0)).Yy ((l1 ++ l2).map (·.2.1))).n = s.n:=rfl
   rw [hn']
   by_cases ht:t ∈ (l1 ++ l2).map (·.2.1)
   ·rw [if_pos ht]; simp only [R]
   ·rw [if_neg ht]
    by_cases e1:t = e.2.1
    ·subst e1
     have:((s.wr (some (nb + e.1,.var cs))).put (some e.2.1) (.ptr true (nb + e.1) 0 0 0)).tmp e.2.1 = .ptr true (nb + e.1) 0 0 0:=by show look _ (PT.set _ _ _) _ = _; rw [KF]
     rw [this,hpe.tmp.2,Xi]
     exact ⟨hlt,e.2.2,by simp,by simp⟩
    ·rw [J8 (fun h=>e1 (by injection h with h; exact h.symm))]
     have h1:=hh.rel.tmp t
     rw [KU,if_neg (fun h=>by
      simp only [List.map_append,List.map_cons,List.mem_append,List.mem_cons] at h ht
      rcases h with h | h | h
      ·exact ht (.inl h)
      ·exact e1 h
      ·exact ht (.inr h))] at h1
     exact mono _ _ h1
 ·rw [hh.mem,XD hiL]
  constructor
  ·rintro (h | ⟨x,hx,rfl⟩)
   ·exact .inl (.inr h)
   ·rcases List.mem_append.1 hx with h | h
    ·exact .inr ⟨x,by simp [h],rfl⟩
    ·rcases List.mem_cons.1 h with rfl | h
     ·exact .inl (.inl rfl)
     ·exact .inr ⟨x,by simp [h],rfl⟩
  ·rintro ((rfl | h) | ⟨x,hx,rfl⟩)
   ·exact .inr ⟨e,hmem,rfl⟩
   ·exact .inl h
   ·refine .inr ⟨x,?_,rfl⟩
    rcases List.mem_append.1 hx with h | h <;> simp [h]
 ·have hpw:=List.pairwise_append.1 hh.nod
  exact List.pairwise_append.2 ⟨hpw.1,(List.pairwise_cons.1 hpw.2.1).2,fun x hx y hy=>hpw.2.2 x hx y (by simp [hy])⟩
 ·have h':=hh.each e' (by rcases List.mem_append.1 he' with h | h <;> simp [h])
  obtain ⟨k1,k2⟩:=hdiff e' he'
  refine ⟨h'.lt,h'.op,h'.tmp,h'.base,h'.new,h'.fr,fun b hb=>?_,fun x hx=>(XD hiL x).2 (.inr (h'.rdy x hx)),?_⟩
  ·by_cases e1:b = nb + e.1
   ·rw [if_pos e1] at hb; injection hb with hb; exact k2 hb.symm
   ·rw [if_neg e1] at hb; exact h'.un b hb
  ·cases hg:(L'.setIfInBounds e.1 true).getD e'.1 false with
   | false=>rfl
   | true=>
    rcases (XD hiL e'.1).1 hg with h | h
    ·exact absurd h k1
    ·rw [h'.not] at h; cases h
theorem Held.all (hp:Path E call ops bf nb S fp) (he:Va ops bf):∀ (k:Nat) (L':Array Bool) (PL:List (Nat×Nat×Nat)) (s:St Bs) (m:Nat->Option Nat),PL.length<=k->Held E.P ops bf nb S fp lo base m0 F0 n0 w0 L L' PL s a w m F ->
  ∃ L'' PL'' s'' m'',Held E.P ops bf nb S fp lo base m0 F0 n0 w0 L L'' PL'' s'' a w m'' F/\∀ e ∈ PL'',∃ i,XG ops bf i e.1 (fp i) = true/\L''.getD i false = false:=by
 intro k
 induction k with
 | zero=>
  intro L' PL s m hk hh
  have:PL = []:=List.eq_nil_of_length_eq_zero (by omega)
  subst this
  exact ⟨L',[],s,m,hh,fun e he=>by cases he⟩
 | succ k ih=>
  intro L' PL s m hk hh
  by_cases hall:∀ e ∈ PL,∃ i,XG ops bf i e.1 (fp i) = true/\L'.getD i false = false
  ·exact ⟨L',PL,s,m,hh,hall⟩
  ·have:∃ e ∈ PL,∀ i,XG ops bf i e.1 (fp i) = true->L'.getD i false = true:=by
    refine Classical.byContradiction fun hno=>hall fun e he=>Classical.byContradiction fun hno2=>hno ⟨e,he,fun i hi=>?_⟩
    cases hL:L'.getD i false with
    | true=>rfl
    | false=>exact absurd ⟨i,hi,hL⟩ hno2
   obtain ⟨e,hmem,hl⟩:=this
   obtain ⟨l1,l2,rfl⟩:=List.append_of_mem hmem
   obtain ⟨L2,s2,m2,hh2⟩:=hh.realize hp he hl
   exact ih L2 (l1 ++ l2) s2 m2 (by simp at hk ⊢; omega) hh2
end
theorem any_wp {ro:Option Nat} (hE:E.Ok) (hcall:V7 E call) (hp:Path E call ops bf nb S fp) (he:Va ops bf) {lo base:Nat} {Qx:Exit->Act->World->Prop} {m0:Nat->Option Nat} {F0:Nat->Prop} {n0:Nat} {w0:World}
  (hK:∀ m' F' a' w',Ext base m0 F0 n0 w0 m' F' (S ops.size).n w'->Rel lo base m' F' (S ops.size) a' w'->Qx .normal a' w') :
  ∀ (fuel:Nat) (L L':Array Bool) (PL:List (Nat×Nat×Nat)) (s:St Bs) (a:Act) (w:World) (m:Nat->Option Nat) (F:Nat->Prop),Held E.P ops bf nb S fp lo base m0 F0 n0 w0 L L' PL s a w m F ->
  (∀ e ∈ PL,∃ i,XG ops bf i e.1 (fp i) = true/\L'.getD i false = false) ->
  ((List.range ops.size).filter fun i=>!L.getD i false).length<=fuel->wpAnyIn (fen ro) 0 E.P .any ops Qx fuel L a w:=by
 have done:∀ (L L':Array Bool) PL s a w m F,Held E.P ops bf nb S fp lo base m0 F0 n0 w0 L L' PL s a w m F->Region.ready .any ops L = []->∀ i,i < ops.size->L.getD i false = true:=by
  intro L L' PL s a w m F hv hnil i
  induction i using Nat.strongRecOn with
  | _ i ih=>
   intro hi
   cases hL:L.getD i false with
   | true=>rfl
   | false=>
    have:=ready_of he hv.size hi hL fun j hj=>ih j hj (by omega)
    rw [hnil] at this
    cases this
 have final:∀ (L L':Array Bool) PL s a w m F,Held E.P ops bf nb S fp lo base m0 F0 n0 w0 L L' PL s a w m F->(∀ e ∈ PL,∃ i,XG ops bf i e.1 (fp i) = true/\L'.getD i false = false) ->
   (∀ i,i < ops.size->L.getD i false = true)->Qx .normal a w:=by
  intro L L' PL s a w m F hh hwait hall
  have hPL:PL = []:=by
   cases PL with
   | nil=>rfl
   | cons e PL=>
    exfalso
    obtain ⟨i,h1,h2⟩:=hwait e (by simp)
    obtain ⟨k1,_,_⟩:=ZfO h1
    have hi:i < ops.size:=Nat.lt_trans (lateB_lt h1) (hh.each e (by simp)).lt
    rcases (hh.mem i).1 (hall i hi) with h | ⟨e',he',rfl⟩
    ·rw [h2] at h; cases h
    ·have:=((hh.each e' he').small hp).1
     obtain ⟨_,k1⟩:=k1
     rw [k1] at this; cases this
  subst hPL
  have hv:=hh.inv
  have hr:Rel lo base m F s a w:=hh.rel
  have hall':∀ i,i < ops.size->L'.getD i false = true:=fun i hi=>by
   rcases (hh.mem i).1 (hall i hi) with h | ⟨e,he,_⟩
   ·exact h
   ·cases he
  have hfix:=hp.fixed ops.size (Nat.le_refl _)
  have ht:∀ t,s.tmp t = (S ops.size).tmp t:=by
   intro t
   obtain ⟨k,hk,h1,h2⟩:=hv.tmp t
   rw [h1]
   exact (stays (f:=fun k=>(S k).tmp t) (hp.tmp t) k ops.size hk (Nat.le_refl _) fun d h3 h4 hw=>by have:=(h2 d h4 hw).1 (hall' d h4); omega).symm
  have hb:∀ b,s.blk b = (S ops.size).blk b:=by
   intro b
   obtain ⟨k,hk,h1,h2⟩:=hv.blk b
   rw [h1]
   exact (stays (f:=fun k=>(S k).blk b) (hp.blk b) k ops.size hk (Nat.le_refl _) fun d h3 h4 hw=>by have:=(h2 d h4 hw).1 (hall' d h4); omega).symm
  have hn:(S ops.size).n = s.n:=by
   obtain ⟨k,hk,h1,h2⟩:=hv.n
   rw [h1]
   exact stays (f:=fun k=>(S k).n) hp.nn k ops.size hk (Nat.le_refl _) fun d h3 h4 hw=>by have:=(h2 d h4 hw).1 (hall' d h4); omega
  exact hK m F a w (by rw [hn]; exact hh.ext) (hr.congr (fun b=>(hb b).symm) hn (by rw [hfix,hv.N]) fun t=>.inl (ht t).symm)
 intro fuel
 induction fuel with
 | zero=>
  intro L L' PL s a w m F hh hwait hcnt
  have hall:∀ i,i < ops.size->L.getD i false = true:=by
   intro i hi
   cases hL:L.getD i false with
   | true=>rfl
   | false=>
    exfalso
    have hnil:((List.range ops.size).filter fun i=>!L.getD i false) = []:=List.eq_nil_of_length_eq_zero (by omega)
    have:i ∈ ((List.range ops.size).filter fun i=>!L.getD i false):=by
     rw [List.mem_filter]; exact ⟨List.mem_range.2 hi,by simp only [hL,Bool.not_false]⟩
    rw [hnil] at this
    cases this
  exact any_end (ro:=ro) (fuel:=0) hh.size hall (final L L' PL s a w m F hh hwait hall)
 | succ fuel ih=>
  intro L L' PL s a w m F hh hwait hcnt
  refine ⟨fun hnil=>final L L' PL s a w m F hh hwait (done L L' PL s a w m F hh hnil),fun i hmem=>?_⟩
  have hclL:∀ d e,L.getD d false = true->(bf.getD d 0).testBit e = true->L.getD e false = true:=by
   intro d e hd hb
   rcases (hh.mem d).1 hd with h | ⟨x,hx,rfl⟩
   ·exact (hh.mem e).2 (.inl (hh.inv.closed d e h hb))
   ·exact (hh.mem e).2 (.inl ((hh.each x hx).rdy e hb))
  obtain ⟨hi,hn,hready⟩:=Zlz he hh.size hclL hmem
  have hlt:i < L.size:=by rw [hh.size]; exact hi
  have hv:=hh.inv
  have hlt':i < L'.size:=by rw [hv.size]; exact hi
  have ho:ops[i]? = some ops[i]:=Array.getElem?_eq_getElem hi
  have hcnt':((List.range ops.size).filter fun j=>!(L.setIfInBounds i true).getD j false).length<=fuel:=by
   have:=cnt_lt (fun j=>!L.getD j false) (fun j=>!(L.setIfInBounds i true).getD j false) i (List.range ops.size) (fun j hj=>by
    by_cases e:L.getD j false = true
    ·have:=(XD hlt j).2 (.inr e); simp only [this,Bool.not_true] at hj; cases hj
    ·simp at e; simp [e]) (List.mem_range.2 hi) (by simp only [hn,Bool.not_false]) (by have:=(XD hlt i).2 (.inl rfl); simp only [this,Bool.not_true])
   omega
  have hready':=hh.ready hp hwait hi hready
  have hn':L'.getD i false = false:=by
   cases h:L'.getD i false with
   | false=>rfl
   | true=>rw [(hh.mem i).2 (.inl h)] at hn; cases hn
  have hneP:∀ e ∈ PL,i ≠ e.1:=fun e he' h=>by rw [(hh.mem i).2 (.inr ⟨e,he',h.symm⟩)] at hn; cases hn
  have hfree:∀ e ∈ PL,e.2.1 ∉ looks ops ops[i]/\ops[i].dst ≠ some e.2.1:=by
   intro e hemem
   have hpe:=hh.each e hemem
   obtain ⟨o',t',_,_,g1,g2,g3,_⟩:=hpe.op
   rcases Nat.lt_or_gt_of_ne (hneP e hemem) with hlt2 | hlt2
   ·have hno:tied ops ops[i] o' = false:=by
     cases htt:tied ops ops[i] o' with
     | false=>rfl
     | true=>
      have:=hpe.rdy i (he.ties i e.1 _ _ hlt2 ho g1 htt)
      rw [hn'] at this; cases this
    exact ⟨(VR hno).2 _ g3,fun h=>((VR hno).1 _ h).2 g3⟩
   ·have hno:tied ops o' ops[i] = false:=by
     cases htt:tied ops o' ops[i] with
     | false=>rfl
     | true=>
      have:=hready' e.1 (he.ties e.1 i _ _ hlt2 g1 ho htt)
      rw [hpe.not] at this; cases this
    exact (VR hno).1 _ g3
  have hN:s.N = (S i).N:=by rw [hv.N,hp.fixed i (by omega)]
  have htsl:∀ t ∈ looks ops ops[i],t ∉ PL.map (·.2.1):=fun t ht h=>by
   obtain ⟨e,he',rfl⟩:=List.mem_map.1 h
   exact (hfree e he').1 ht
  have htsd:∀ t,ops[i].dst = some t->t ∉ PL.map (·.2.1):=fun t ht h=>by
   obtain ⟨e,he',rfl⟩:=List.mem_map.1 h
   exact (hfree e he').2 ht
  generalize hts:PL.map (·.2.1) = ts at htsl htsd
  have hr:Rel lo base m F (s.Yy ts) a w:=by rw [<- hts]; exact hh.rel
  have hjl:∀ t ∈ looks ops ops[i],(s.Yy ts).tmp t = s.tmp t:=fun t ht=>by rw [KU,if_neg (htsl t ht)]
  have glue:∀ {s2:St Bs} {v:V} {x:Value} {a2:Act} {w2:World} {m2:Nat->Option Nat} {F2:Nat->Prop},a2 = a.put ops[i].dst x->Inv ops bf nb S fp (L'.setIfInBounds i true) (s2.put ops[i].dst v)->Ext base m F s.n w m2 F2 s2.n w2 ->
    Rel lo base m2 F2 ((s2.Yy ts).put ops[i].dst v) a2 w2->wpAnyIn (fen ro) 0 E.P .any ops Qx fuel (L.setIfInBounds i true) a2 w2:=by
   intro s2 v x a2 w2 m2 F2 ha hinv hx hrel
   subst ha
   have hh2:Held E.P ops bf nb S fp lo base m0 F0 n0 w0 (L.setIfInBounds i true) (L'.setIfInBounds i true) PL (s2.put ops[i].dst v) (a.put ops[i].dst x) w2 m2 F2:=by
    refine ⟨hinv,?_,by rw [St.QT]; exact hh.ext.trans hx,by simp [hh.size],fun d=>?_,hh.nod,fun e he'=>(hh.each e he').next hx hlt' (hneP e he') (hfree e he').2⟩
    ·rw [hts]
     refine hrel.congr (fun b=>?_) ?_ ?_ fun t=>?_
     ·show (s2.put ops[i].dst v).blk b = ((s2.Yy ts).put ops[i].dst v).blk b
      simp only [St.blk,St.KD]; rfl
     ·show (s2.put ops[i].dst v).n = ((s2.Yy ts).put ops[i].dst v).n
      rw [St.QT,St.QT]; rfl
     ·show (s2.put ops[i].dst v).N = ((s2.Yy ts).put ops[i].dst v).N
      rw [St.Ky,St.Ky]; rfl
     ·rw [KU]
      by_cases h1:t ∈ ts
      ·rw [if_pos h1]; exact .inr rfl
      ·rw [if_neg h1]
       left
       by_cases h2:ops[i].dst = some t
       ·unfold St.put
        rw [h2]
        show look _ (PT.set _ _ _) _ = look _ (PT.set _ _ _) _
        rw [KF,KF]
       ·rw [J8 h2,J8 h2,KU,if_neg h1]
    ·rw [XD hlt,XD hlt',hh.mem]
     constructor
     ·rintro (h | h | h)
      ·exact .inl (.inl h)
      ·exact .inl (.inr h)
      ·exact .inr h
     ·rintro ((h | h) | h)
      ·exact .inl h
      ·exact .inr (.inl h)
      ·exact .inr (.inr h)
   obtain ⟨L3,PL3,s3,m3,hh3,hw3⟩:=Held.all hp he PL.length _ PL _ _ (Nat.le_refl _) hh2
   exact ih _ L3 PL3 s3 _ _ m3 F2 hh3 hw3 hcnt'
  unfold wpOpIn
  rw [ho]
  dsimp only
  by_cases hdel:∃ i0,XG ops bf i0 i (fp i0) = true/\L'.getD i0 false = false
  ·
   obtain ⟨i0,hl0,hl1⟩:=hdel
   obtain ⟨_,⟨o',ho',hal⟩,_⟩:=ZfO hl0
   rw [ho] at ho'
   injection ho' with ho'
   subst ho'
   unfold ZcW at hal
   cases hop:ops[i].op <;> rw [hop] at hal <;> try (cases hal; done)
   rename_i t
   simp only [Bool.and_eq_true] at hal
   have hg:ops[i].guard = none:=by simpa using hal.1
   obtain ⟨td,htd⟩:=Option.isSome_iff_exists.1 hal.2
   have htr:truth ops s.tmp ops[i] = some true:=by unfold truth; rw [hg]
   have htr':truth ops (s.Yy ts).tmp ops[i] = some true:=by unfold truth; rw [hg]
   rw [if_pos (K5 hr htr')]
   rcases hp.step i _ ho with ⟨r,kn,_,_,_,hf,hhd,hd,hS,hfp⟩ | ⟨r,_,hbg,_⟩ | ⟨r,_,hbg,_⟩ | ⟨hw,_⟩
   ·rw [hop] at hhd
    simp only [evD] at hhd
    cases hz:Xc E.P t with
    | none=>rw [hz] at hhd; exact hhd.elim
    | some cs=>
     obtain ⟨z,hz0⟩:=Zla hz
     have hz1:=(hz0 F w s.n m).1
     have hz3:∀ (F:Nat->Prop) (w:World) (n:Nat) (m:Nat->Option Nat),RL F w cs n m z.cells.toList:=fun F w' n m=>(hz0 F w' n m).2
     have hrun:(execOp a.eval ops[i]).run E.P w = .ok (.value (.pointer (some ⟨w.heap.size,0,none⟩))) (w.alloc (.cells z.cells t)):=by
      simp only [execOp,hop,Instr.alloc,Sem.run_bind,hz1,Result.andThen_ok]
      rfl
     refine XH ?_ (by rw [hop]; intro c h; cases h)
     unfold Oper.wp
     rw [hrun]
     simp only [Oper.upon]
     have keep:∀ B,B < w.heap.size->(w.alloc (.cells z.cells t)).heap[B]? = w.heap[B]?:=fun B hB=>heap_alloc_old w _ B hB
     have hl:Later F w F (w.alloc (.cells z.cells t)):=⟨fun _ h=>h,fun _ h=>.inl h,keep,by simp,fun h B hB=>by have:=h B hB; simp; omega,⟨rfl,rfl,rfl⟩⟩
     have hxx:=hr.hr.ext hl
     have hdN:td < (s.Yy ts).N:=by show td < s.N; rw [hN]; exact VF hd _ htd
     have hr2:Rel lo base m F (s.Yy ts) a (w.alloc (.cells z.cells t)):=⟨hr.hr.later hl,Marks.ext hr.defers hxx,hr.size,fun t=>hxx.val (hr.tmp t)⟩
     have hr3:Rel lo base m F ((s.Yy ts).put (some td) .junk) (a.put (some td) (.pointer (some ⟨w.heap.size,0,none⟩))) (w.alloc (.cells z.cells t)):=hr2.put (by simp only [R]) (fun d h=>by injection h with h; subst h; exact hdN)
     have hhe:∀ e ∈ PL,Pend E.P ops bf fp base w0 L' m F (a.put (some td) (.pointer (some ⟨w.heap.size,0,none⟩))) (w.alloc (.cells z.cells t)) e:=by
      intro e hemem
      have hpe:=hh.each e hemem
      have hlte:=hpe.lt'
      obtain ⟨o,t1,cs1,xs1,h1,h2,h3,h4,h5,h6,h7⟩:=hpe.op
      refine ⟨hpe.lt,⟨o,t1,cs1,xs1,h1,h2,h3,h4,h5,by rw [keep _ hlte]; exact h6,h7⟩,?_,hpe.base,hpe.new,hpe.fr,hpe.un,hpe.rdy,hpe.not⟩
      have hne':td ≠ e.2.1:=fun h=>(hfree e hemem).2 (by rw [htd,h])
      refine ⟨by simp [Act.put,hpe.tmp.1],?_⟩
      have:=hpe.tmp.2
      simp only [Act.put,Array.getD_eq_getD_getElem?] at this ⊢
      rw [Array.getElem?_setIfInBounds_ne hne']
      exact this
     rw [htd]
     refine ih _ L' ((i,td,w.heap.size) :: PL) s _ _ m F ⟨hv,?_,hh.ext.trans hxx,by simp [hh.size],fun d=>?_,?_,fun e he'=>?_⟩ (fun e he'=>?_) hcnt'
     ·refine hr3.congr (fun b=>?_) ?_ ?_ fun t=>?_
      ·show s.blk b = ((s.Yy ts).put (some td) .junk).blk b
       simp only [St.blk,St.KD]; rfl
      ·show s.n = ((s.Yy ts).put (some td) .junk).n
       rw [St.QT]; rfl
      ·show s.N = ((s.Yy ts).put (some td) .junk).N
       rw [St.Ky]; rfl
      ·rw [KU]
       by_cases h1:t ∈ List.map (·.2.1) ((i,td,w.heap.size) :: PL)
       ·rw [if_pos h1]; exact .inr rfl
       ·rw [if_neg h1]
        simp only [List.map_cons,List.mem_cons,not_or] at h1
        left
        rw [J8 (fun h=>h1.1 (by injection h with h; exact h.symm)),KU,if_neg (by rw [<- hts]; exact h1.2)]
     ·rw [XD hlt,hh.mem]
      constructor
      ·rintro (e0 | h | ⟨x,hx,rfl⟩)
       ·exact .inr ⟨(i,td,w.heap.size),by simp,e0.symm⟩
       ·exact .inl h
       ·exact .inr ⟨x,by simp [hx],rfl⟩
      ·rintro (h | ⟨x,hx,rfl⟩)
       ·exact .inr (.inl h)
       ·rcases List.mem_cons.1 hx with rfl | hx
        ·exact .inl rfl
        ·exact .inr (.inr ⟨x,hx,rfl⟩)
     ·refine List.pairwise_cons.2 ⟨fun e he'=>⟨hneP e he',?_⟩,hh.nod⟩
      have:=(hh.each e he').lt'
      show w.heap.size ≠ e.2.2
      omega
     ·rcases List.mem_cons.1 he' with rfl | he'
      ·refine ⟨hi,⟨_,t,cs,z.cells,ho,hop,htd,hg,hz,heap_alloc_new w _,hz3⟩,?_,hr.hr.low,hh.ext.size,fun h=>absurd (hr.hr.fdom _ h) (Nat.lt_irrefl _),fun b hb=>absurd (hr.hr.dom b _ hb) (Nat.lt_irrefl _),hready',hn'⟩
       have hlt3:td < a.tmps.size:=by rw [hr.size]; exact hdN
       exact ⟨by simp [Act.put,hlt3],by simp [Act.put,Array.getD_eq_getD_getElem?,hlt3]⟩
      ·exact hhe e he'
     ·rcases List.mem_cons.1 he' with rfl | he'
      ·exact ⟨i0,hl0,hl1⟩
      ·exact hwait e he'
   ·rw [hop] at hbg; cases hbg
   ·rw [hop] at hbg; cases hbg
   ·unfold truth at hw; rw [hg] at hw; cases hw
  have hlate:∀ i',XG ops bf i' i (fp i') = true->L'.getD i' false = true:=fun i' h=>by
   cases hL:L'.getD i' false with
   | true=>rfl
   | false=>exact absurd ⟨i',h,hL⟩ hdel
  obtain ⟨hrt0,hrb,hrl,hrn⟩:=hv.reads hp he hi ho hn' hready' hlate
  have hrt:∀ t ∈ looks ops ops[i],(s.Yy ts).tmp t = (S i).tmp t:=fun t ht=>by rw [hjl t ht]; exact hrt0 t ht
  have whole:∀ {f:Ft} {w0:Bool},fp i = f->f.m = some (w0,none)->(w0 = true\/f.q = true)->J6 ops[i].op = true->s.n = (S i).n/\(∀ b,s.blk b = (S i).blk b) /\
    Rel lo base m F ({ S i with t:=(s.Yy ts).t }:St Bs) a w/\YR E call ({ S i with t:=(s.Yy ts).t }:St Bs).sub ops[i].op = YR E call (S i).sub ops[i].op:=by
   intro f w0 hf hm hq hbg
   have hnn:=hrn ⟨w0,by rw [hf]; exact hm⟩
   have hblk:∀ b,s.blk b = (S i).blk b:=fun b=>hrb w0 none b (by rw [hf]; exact hm) (.inl ⟨rfl,by rw [hf]; exact hq.imp id .inl⟩)
   have hopnd:∀ x ∈ ops[i].op.operands,Zg (s.Yy ts) x = Zg (S i) x:=fun x hx=>Zgw fun t e=>hrt t (by
    subst e
    simp only [looks,List.mem_append,List.mem_filterMap]
    exact .inl ⟨.tmp t,by simpa using hx,rfl⟩)
   refine ⟨hnn,hblk,hr.congr (fun b=>(hblk b).symm) hnn.symm (by rw [show (s.Yy ts).N = s.N from rfl,hN]) fun t=>.inl rfl,?_⟩
   cases hop:ops[i].op <;> rw [hop] at hbg <;> try (cases hbg; done)
   rename_i c
   have h1:∀ x ∈ (Op.call c).operands,Zg ({ S i with t:=(s.Yy ts).t }:St Bs).sub x = Zg (S i).sub x:=fun x hx=>by
    have:=hopnd x (by rw [hop]; exact hx)
    cases x <;> first | exact this | rfl
   exact Zlf h1 rfl rfl rfl
  rcases hp.step i _ ho with ⟨r,kn,hw,hkn,hknl,hf,hhd,hd,hS,hfp⟩ | ⟨r,hw,hbg,hhd,hd,hqr,hS,hfp⟩ | ⟨r,hw,hbg,hhd,hd,hS,hfp⟩ | ⟨hw,hd,hS,hfp⟩
  ·rw [<- Zdh hrt] at hw
   rw [if_pos (K5 hr hw)]
   have hkn':Wi (s.Yy ts) kn:=fun p hp=>by rw [hrt p.1 (hknl p hp)]; exact hkn p hp
   have hopnd:∀ x ∈ ops[i].op.operands,Zg (s.Yy ts) x = Zg (S i) x:=fun x hx=>Zgw fun t e=>hrt t (by
    subst e
    simp only [looks,List.mem_append,List.mem_filterMap]
    exact .inl ⟨.tmp t,by simpa using hx,rfl⟩)
   have hev:evD E call (s.Yy ts) nb ops.size (nb + i) kn ops[i].op = evD E call (S i) nb ops.size (nb + i) kn ops[i].op:=evD_congr hopnd (fun w c b hfo hcb=>hrb w c b (by rw [hfp,hfo]) (hcb.imp (fun h=>⟨h.1,.inr (.inr h.2)⟩) id)) (fun b hfo=>hrl b (by rw [hfp,hfo]))
   rw [<- hev] at hhd hf
   have hfoot:foot (s.Yy ts) (nb + i) ops[i].op = foot (S i) (nb + i) ops[i].op:=by
    unfold foot
    cases hop:ops[i].op <;> try rfl
    case call c=>
     dsimp only
     cases hcal:c.callee <;> dsimp only
     rename_i f
     rw [hopnd f (by rw [hop]; simp [Op.operands,Call.operands,hcal]),List.map_congr_left (l:=c.args.toList) fun x h=>hopnd x (by rw [hop]; simp [Op.operands,Call.operands]; right; simpa using h)]
    case slice t ax lo hi mx=>dsimp only; rw [hopnd ax (by rw [hop]; simp [Op.operands])]
    case lookup t ax ix ok=>dsimp only; rw [hopnd ax (by rw [hop]; simp [Op.operands])]
    case mapUpdate t ax k x=>dsimp only; rw [hopnd ax (by rw [hop]; simp [Op.operands])]
    case insert t ax k x=>dsimp only; rw [hopnd ax (by rw [hop]; simp [Op.operands])]
    ·rename_i t ax; dsimp only; rw [hopnd ax (by rw [hop]; simp [Op.operands])]
    ·rename_i t ax xx; dsimp only; rw [hopnd ax (by rw [hop]; simp [Op.operands])]
    ·rename_i t t' ax; dsimp only; rw [hopnd ax (by rw [hop]; simp [Op.operands])]
   have hres:∀ b,(foot (s.Yy ts) (nb + i) ops[i].op).l = some b->nb + i < (s.Yy ts).n:=fun b hb=>by
    have:=hv.res (List.any_eq_true.2 ⟨ops[i],by simp,foot_lays hb⟩)
    show nb + i < s.n
    omega
   refine XH (evD_wp hE hcall hr hres hkn' hhd fun v wr hvr m' F' w' x h1 h2 h3=>?_) (ZjW hhd)
   subst hvr
   have hinv:=hv.next hp he hi ho hn' hready' hlate (v:=v) (x:=wr) (fun b blk e=>by rw [WrB,hfp,<- hfoot]; exact (Zig hf hhd e).imp id .inr) (fun h=>by rw [Qz,hfp] at h; exact Zhj h) (fun b hb=>by
    rw [WrB] at hb
    rcases hb with hb | ⟨hb,_⟩ | hb
    ·exact hrb _ _ b hb (.inr rfl)
    ·rw [hfp] at hb; exact absurd hb Zhj
    ·exact hrl b hb) hS
   refine glue (s2:=s.wr wr) rfl hinv (by rw [St.wr_n]; exact h1) ?_
   have hr':Rel lo base m' F' ((s.wr wr).Yy ts) a w':=by
    refine ⟨?_,Marks.ext hr.defers h1,by show a.tmps.size = (s.wr wr).N; rw [St.wr_N]; exact hr.size,fun i=>?_⟩
    ·show HR base m' F' (s.wr wr).blk (s.wr wr).n w'
     rw [St.wr_n]
     have h2':HR base m' F' ((s.Yy ts).wr wr).blk s.n w':=h2
     have e:((s.Yy ts).wr wr).blk = (s.wr wr).blk:=by cases wr <;> rfl
     rw [e] at h2'
     exact h2'
    ·have h4:=h1.val (hr.tmp i)
     rw [KU] at h4 ⊢
     show R F' w' _ (s.wr wr).n m' _
     rw [St.wr_n]
     by_cases h5:i ∈ ts
     ·rw [if_pos h5]; simp only [R]
     ·rw [if_neg h5] at h4 ⊢
      simp only [St.tmp,St.wr_t]
      exact h4
   exact hr'.put (dst:=ops[i].dst) (v:=v) (x:=x) (by show R F' w' v (s.wr wr).n m' x; rw [St.wr_n]; exact h3) (by show ∀ d,ops[i].dst = some d->d < (s.wr wr).N; rw [St.wr_N,hN]; exact VF hd)
  ·rw [<- Zdh hrt] at hw
   rw [if_pos (K5 hr hw)]
   obtain ⟨hnn,hblk,hr1,hev⟩:=whole hfp rfl (.inr rfl) hbg
   rw [<- hev] at hhd
   refine Zff hE hcall (ZhR hr1) hhd fun v h' n' hQ m' F' w' x h1 h2 h3=>?_
   subst hQ
   have h1':Ext base m F s.n w m' F' n' w':=by rw [hnn]; exact h1
   simp only [UL,Bool.and_eq_true] at hqr
   have hsame:∀ b,b < s.n->look (S i).blk h' b = (S i).blk b:=fun b hb=>by
    unfold look
    cases hg:h'.get b with
    | none=>rfl
    | some y=>
     have:=PT.allK_get _ _ 1 0 hqr.1 b y hg
     simp only [Nat.one_mul,Nat.add_zero,Nat.ble_eq] at this
     omega
   have hHR:HR base m F (S i).blk s.n w:=by rw [<- funext hblk]; exact hr.hr
   obtain ⟨k1,k2⟩:=hHR.cut h1' h2 hsame
   have hbel:v.YX s.n = true:=by rw [hnn]; exact hqr.2
   have h3':=(GL v n' hbel).1 x h3
   have hinv:=hv.next hp he hi ho hn' hready' hlate (v:=v) (x:=none) (fun b blk e=>by cases e) (fun h=>by rw [Qz,hfp] at h; cases h) (fun b hb=>by rw [WrB,hfp] at hb; rcases hb with h | ⟨h,_⟩ | h <;> cases h) hS
   refine glue (s2:=s) rfl hinv k2 ?_
   have hr':Rel lo base (XC m' s.n) F' (s.Yy ts) a w':=by
    refine ⟨?_,Marks.ext hr.defers k2,hr.size,fun t=>k2.val (hr.tmp t)⟩
    show HR base (XC m' s.n) F' s.blk s.n w'
    rw [funext hblk]; exact k1
   exact hr'.put (dst:=ops[i].dst) (v:=v) (x:=x) h3' (by show ∀ d,ops[i].dst = some d->d < s.N; rw [hN]; exact VF hd)
  ·rw [<- Zdh hrt] at hw
   rw [if_pos (K5 hr hw)]
   obtain ⟨hnn,hblk,hr1,hev⟩:=whole hfp rfl (.inl rfl) hbg
   rw [<- hev] at hhd
   refine Zff hE hcall (ZhR hr1) hhd fun v h' n' hQ m' F' w' x h1 h2 h3=>?_
   subst hQ
   have h1':Ext base m F s.n w m' F' n' w':=by rw [hnn]; exact h1
   have hinv:=hv.nextBig hp he hi ho hn' hready' hlate hfp (by rw [hnn]; exact h1.le) hS
   refine glue (s2:={ s with h:=s.h.over h',n:=n' }) rfl hinv h1' ?_
   have h2':HR base m' F' (look Bs.h (s.h.over h')) n' w':=by
    have e:look Bs.h (s.h.over h') = look (S i).blk h':=funext fun b=>by
     rw [Zdc]
     show look s.blk h' b = _
     rw [funext hblk]
    rw [e]; exact h2
   have hr':Rel lo base m' F' (({ s with h:=s.h.over h',n:=n' }:St Bs).Yy ts) a w':=hr.move (h':=s.h.over h') (n':=n') h1' h2'
   exact hr'.put (dst:=ops[i].dst) (v:=v) (x:=x) h3 (by show ∀ d,ops[i].dst = some d->d < s.N; rw [hN]; exact VF hd)
  ·rw [<- Zdh hrt] at hw
   rw [if_neg (by rw [K5 hr hw]; simp)]
   refine ⟨fun _ _=>trivial,?_⟩
   have hr'':=hr.put (dst:=ops[i].dst) (v:=.undef) (x:=Go.undef) (by simp only [R]) (by show ∀ d,ops[i].dst = some d->d < s.N; rw [hN]; exact VF hd)
   have hinv:=hv.next hp he hi ho hn' hready' hlate (v:=.undef) (x:=none) (fun b blk e=>by cases e) (fun h=>by rw [Qz,hfp] at h; cases h) (fun b hb=>by rw [WrB,hfp] at hb; rcases hb with h | ⟨h,_⟩ | h <;> cases h) hS
   exact glue (s2:=s) rfl hinv (Ext.refl _ _ _ _ _) hr''
theorem any_start {ro:Option Nat} (hE:E.Ok) (hcall:V7 E call) (hp:Path E call ops bf nb S fp) (he:Va ops bf) {lo base:Nat} {Qx:Exit->Act->World->Prop} (hres:ops.toList.any lays = true->nb + ops.size<=(S 0).n)
  {a:Act} {w:World} {m:Nat->Option Nat} {F:Nat->Prop} (hr:Rel lo base m F (S 0) a w) (hK:∀ m' F' a' w',Ext base m F (S 0).n w m' F' (S ops.size).n w'->Rel lo base m' F' (S ops.size) a' w'->Qx .normal a' w') :
  wpAnyIn (fen ro) 0 E.P .any ops Qx ops.size (Array.replicate ops.size false) a w:=by
 refine any_wp hE hcall hp he hK ops.size _ _ [] (S 0) a w m F ⟨Inv.start hres,hr,Ext.refl _ _ _ _ _,by simp,fun d=>by simp,List.Pairwise.nil,fun e he=>by cases he⟩ (fun e he=>by cases he) ?_
 exact Nat.le_trans (List.length_filter_le _ _) (by simp)
theorem ZeC (g:Nat->Blk) (h:PT Blk) (n k j:Nat):look g (ZeZ h n k) j = if n<=j/\j < n + k then .none else look g h j:=by
 induction k with
 | zero=>rw [if_neg (by omega)]; rfl
 | succ k ih=>
  show look g ((ZeZ h n k).set (n + k) .none) j = _
  rw [ZR,ih]
  by_cases e:j = n + k
  ·rw [if_pos e,if_pos (by omega)]
  ·rw [if_neg e]
   by_cases e2:n<=j/\j < n + k
   ·rw [if_pos e2,if_pos (by omega)]
   ·rw [if_neg e2,if_neg (by omega)]
theorem keep_rel {lo base:Nat} {m:Nat->Option Nat} {F:Nat->Prop} {s:St Bs} {a:Act} {w:World} (hr:Rel lo base m F s a w):Rel lo base m F (s.Kk ops) a w/\s.n<=(s.Kk ops).n:=by
 unfold St.Kk
 cases ops.toList.any lays
 ·exact ⟨hr,Nat.le_refl _⟩
 ·simp only [cond_true]
  have hext:Ext base m F s.n w m F (s.n + ops.size) w:=⟨fun _ h=>h,fun _ h=>.inl h,fun _ _=>rfl,Nat.le_refl _,Z4.refl w,Own.refl m w,by omega,fun _ _ _ h=>h,Calm.refl w⟩
  refine ⟨⟨⟨hr.hr.low,hr.hr.fdom,fun b hb=>?_,hr.hr.dom,fun b hb=>hr.hr.new b (Nat.le_trans (Nat.le_add_right _ _) hb),hr.hr.gl,hr.hr.own,fun b b' C h1 h2 hne=>?_⟩,hr.defers,hr.size,fun i=>hext.val (hr.tmp i)⟩,by omega⟩
  ·simp only [St.blk]
   rw [ZeC]
   by_cases e:s.n<=b/\b < s.n + ops.size
   ·rw [if_pos e]
    exact hr.hr.new b e.1
   rw [if_neg e]
   have hbn:b < s.n:=by
    have hb':b < s.n + ops.size:=hb
    omega
   exact JD hext (fun _ _=>rfl) (hr.hr.blk b hbn)
  ·simp only [St.blk]
   have hb1:=hr.hr.lt (b:=b) (by rw [h1]; simp)
   have hb2:=hr.hr.lt (b:=b') (by rw [h2]; simp)
   rw [ZeC,ZeC,if_neg (by omega),if_neg (by omega)]
   exact hr.hr.inj b b' C h1 h2 hne
theorem evOpsD_wp {ro:Option Nat} (hE:E.Ok) (hcall:V7 E call) {lo base:Nat} {m:Nat->Option Nat} {F:Nat->Prop} {s:St Bs} {a:Act} {w:World} (hr:Rel lo base m F s a w) (hok:VW ops (bfs ops.toList []) = true)
  {id:Nat} {Q:St Bs->Prop} {Qx:Exit->Act->World->Prop} (hq:(Xe E call ops (bfs ops.toList []) s.n ops.toList 0 [] [] (s.Kk ops)).holds E.P Q)
  (hK:∀ s',Q s'->∀ m' F' a' w',Ext base m F s.n w m' F' s'.n w'->Rel lo base m' F' s' a' w'->Qx .normal a' w'):(Code.region id ops true).wpIn (fen ro) 0 E.P Qx a w:=by
 obtain ⟨S,fp,h0,h1,h2,h3,h4⟩:=path_of _ _ _ _ _ _ (fun p hp=>by cases hp) hq
 obtain ⟨hkr,hkn⟩:=keep_rel (ops:=ops) hr
 have hlen:ops.toList.length = ops.size:=by simp
 simp only [Nat.zero_add,hlen] at h1 h2 h3 h4
 have hp:Path E call ops (bfs ops.toList []) s.n S fp:=⟨fun i o ho=>h2 i o (by simpa using ho),fun i j hij hj hc=>h4 i j hij hj hc⟩
 have hr':Rel lo base m F (S 0) a { w with drawn:=w.drawn + 1 }:=by
  rw [h0]
  have hext:Ext base m F (s.Kk ops).n w m F (s.Kk ops).n { w with drawn:=w.drawn + 1 }:=⟨fun _ h=>h,fun _ h=>.inl h,fun _ _=>rfl,Nat.le_refl _,Z4.Jo (fun _ _=>rfl),Own.Jo (fun _ _=>rfl),Nat.le_refl _,fun _ _ _ h=>h,⟨rfl,rfl,rfl⟩⟩
  refine ⟨⟨hkr.hr.low,hkr.hr.fdom,fun b hb=>JD hext (fun _ _=>rfl) (hkr.hr.blk b hb),hkr.hr.dom,hkr.hr.new,hkr.hr.gl.mono hext.sz (fun _ h=>h) (fun _ _=>rfl),hkr.hr.own,hkr.hr.inj⟩,Marks.ext hkr.defers hext,hkr.size,fun i=>hext.val (hkr.tmp i)⟩
 refine wpIn_region_any hE.mixed ?_
 refine any_start hE hcall hp (edges_of hok) (fun h=>by rw [h0]; unfold St.Kk; rw [h]; exact Nat.le_refl _) hr' fun m' F' a' w' hx hrel=>?_
 ·refine hK (S ops.size) h1 m' F' a' w' ?_ hrel
  rw [h0] at hx
  exact ⟨hx.f,hx.back,hx.keep,hx.size,Z4.trans (Z4.Jo (fun _ _=>rfl)) hx.sz,Own.trans (w1:={ w with drawn:=w.drawn + 1 }) (Own.Jo (fun _ _=>rfl)) hx.ow (Nat.le_refl _),Nat.le_trans hkn hx.le,fun b hb=>hx.map b (Nat.lt_of_lt_of_le hb hkn),⟨hx.calm.os,hx.calm.tape,hx.calm.output⟩⟩
end
end Go.Fw
end
