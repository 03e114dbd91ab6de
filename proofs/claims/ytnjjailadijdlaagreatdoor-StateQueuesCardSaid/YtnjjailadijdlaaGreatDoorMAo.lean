/- Contracts of functions of rows, number of rows by number of rows: what is answered, read off by its shape. -/
import Derived.Test.YtnjjailadijdlaaGreatDoorMAn
import Derived.Test.YtnjjailadijdlaaGreatDoorMAm
set_option maxRecDepth 100000
set_option linter.unusedVariables false
set_option linter.unusedSimpArgs false
noncomputable section
namespace Go.Fw
def V.ZC:V->Nat
 | .rsl _ _ n _=>n
 | _=>0
def V.ZH:V->Nat->V
 | .rsl _ _ _ g=>g
 | _=>fun _=>.junk
def V.Zdj:V->List UInt8
 | .str _ s=>s
 | _=>[]
def V.inner:V->V
 | .agg cs=>cs
 | .tup vs=>vs
 | _=>.nil
def V.hd:V->V
 | .cons a _=>a
 | _=>.junk
def V.tl:V->V
 | .cons _ b=>b
 | _=>.nil
def Y3:V->V->Bool
 | .int _ k _,v=>match v with | .int _ k' _=>decide (k = k') | _=>false
 | .bool _ _,v=>match v with | .bool _ _=>true | _=>false
 | .str _ _,v=>match v with | .str _ _=>true | _=>false
 | .agg p,v=>match v with | .agg cs=>Y3 p cs | _=>false
 | .tup p,v=>match v with | .tup cs=>Y3 p cs | _=>false
 | .cons p q,v=>match v with | .cons a b=>Y3 p a&&Y3 q b | _=>false
 | .nil,v=>match v with | .nil=>true | _=>false
 | .rsl _ es _ _,v=>match v with | .rsl _ es' _ _=>Nat.beq es es' | .Zz=>true | _=>false
 | _,_=>false
def Ye:V->V->V
 | .int _ k _,v=>.int false k v.toInt
 | .bool _ _,v=>.bool false v.toBool
 | .str _ _,v=>.str false v.Zdj
 | .agg p,v=>.agg (Ye p v.inner)
 | .tup p,v=>.tup (Ye p v.inner)
 | .cons p q,v=>.cons (Ye p v.hd) (Ye q v.tl)
 | .rsl _ es _ _,v=>.rsl false es v.ZC v.ZH
 | _,_=>.nil
theorem read_R {F:Nat->Prop} {w:World} {n:Nat} {m:Nat->Option Nat}:∀ (p v:V),Y3 p v = true->(∀ x,R F w v n m x->R F w (Ye p v) n m x)/\(∀ xs,RL F w v n m xs->RL F w (Ye p v) n m xs):=by
 intro p
 induction p with
 | int st k z=>
  intro v h
  cases v <;> simp only [Y3] at h <;> try (cases h; done)
  rename_i st' k' z'
  obtain rfl:=of_decide_eq_true h
  exact ⟨fun x hx=>by simp only [Ye,V.toInt,R] at hx ⊢; exact hx,fun xs hx=>by simp only [RL] at hx⟩
 | bool st z=>
  intro v h
  cases v <;> simp only [Y3] at h <;> try (cases h; done)
  exact ⟨fun x hx=>by simp only [Ye,V.toBool,R] at hx ⊢; exact hx,fun xs hx=>by simp only [RL] at hx⟩
 | str st z=>
  intro v h
  cases v <;> simp only [Y3] at h <;> try (cases h; done)
  exact ⟨fun x hx=>by simp only [Ye,V.Zdj,R] at hx ⊢; exact hx,fun xs hx=>by simp only [RL] at hx⟩
 | agg p ih=>
  intro v h
  cases v <;> simp only [Y3] at h <;> try (cases h; done)
  rename_i cs
  refine ⟨fun x hx=>?_,fun xs hx=>by simp only [RL] at hx⟩
  simp only [Ye,V.inner,R] at hx ⊢
  obtain ⟨xs,e,h1⟩:=hx
  exact ⟨xs,e,(ih cs h).2 _ h1⟩
 | tup p ih=>
  intro v h
  cases v <;> simp only [Y3] at h <;> try (cases h; done)
  rename_i cs
  refine ⟨fun x hx=>?_,fun xs hx=>by simp only [RL] at hx⟩
  simp only [Ye,V.inner,R] at hx ⊢
  obtain ⟨xs,e,h1⟩:=hx
  exact ⟨xs,e,(ih cs h).2 _ h1⟩
 | cons p q ih1 ih2=>
  intro v h
  cases v <;> simp only [Y3] at h <;> try (cases h; done)
  rename_i a b
  rw [Bool.and_eq_true] at h
  refine ⟨fun x hx=>by simp only [R] at hx,fun xs hx=>?_⟩
  simp only [Ye,V.hd,V.tl,RL] at hx ⊢
  obtain ⟨x,r,e,h1,h2⟩:=hx
  exact ⟨x,r,e,(ih1 a h.1).1 _ h1,(ih2 b h.2).2 _ h2⟩
 | nil=>
  intro v h
  cases v <;> simp only [Y3] at h <;> try (cases h; done)
  exact ⟨fun x hx=>by simp only [R] at hx,fun xs hx=>by simp only [Ye,RL] at hx ⊢; exact hx⟩
 | rsl st es k g ih=>
  intro v h
  cases v <;> simp only [Y3] at h <;> try (cases h; done)
  ·rename_i st' es' k' g'
   obtain rfl:=Nat.eq_of_beq_eq_true h
   refine ⟨fun x hx=>?_,fun xs hx=>by simp only [RL] at hx⟩
   simp only [Ye,V.ZC,V.ZH]
   rw [Xk] at hx ⊢
   exact hx
  ·exact ⟨fun x hx=>Zd2 hx,fun xs hx=>by simp only [RL] at hx⟩
 | _=>intro v h; cases h
theorem Zi.read {P:Program} {g:FuncId} {args v:V} (p:V) (h:Zi P g args v) (hf:Y3 p v = true):Zi P g args (Ye p v):=
 ⟨h.1,fun F w xs hF hg ha=>(h.2 F w xs hF hg ha).mono fun _ _ ⟨x,F',he,hl,hx⟩=>⟨x,F',he,hl,(read_R p v hf).1 x hx⟩⟩
def WZ:V->V->Bool
 | .int _ k _,v=>match v with | .int _ k' _=>decide (k = k') | _=>false
 | .bool _ _,v=>match v with | .bool _ _=>true | _=>false
 | .str _ _,v=>match v with | .str _ _=>true | _=>false
 | .agg p,v=>match v with | .agg cs=>WZ p cs | _=>false
 | .cons p q,v=>match v with | .cons a b=>WZ p a&&WZ q b | _=>false
 | .nil,v=>match v with | .nil=>true | _=>false
 | .rsl _ es _ pg,v=>match v with | .rsl st es' n g=>st&&(Nat.beq es es'&&allB n fun j=>WZ (pg 0) (g j)) | .Zz=>true | _=>false
 | _,_=>false
def Qj:V->V->V
 | .int _ k _,v=>.int false k v.toInt
 | .bool _ _,v=>.bool false v.toBool
 | .str _ _,v=>.str false v.Zdj
 | .agg p,v=>.agg (Qj p v.inner)
 | .cons p q,v=>.cons (Qj p v.hd) (Qj q v.tl)
 | .rsl _ es _ pg,v=>.rsl true es v.ZC fun j=>Qj (pg 0) (v.ZH j)
 | _,_=>.nil
theorem allB_get {n:Nat} {f:Nat->Bool}:allB n f = true->∀ k,k < n->f k = true:=by
 induction n with
 | zero=>intro _ k h; omega
 | succ n ih=>
  intro h k hk
  have h:(allB n f&&f n) = true:=h
  rw [Bool.and_eq_true] at h
  rcases Nat.eq_or_lt_of_le (Nat.le_of_lt_succ hk) with e | e
  ·rw [e]; exact h.2
  ·exact ih h.1 k e
theorem readA_R {F:Nat->Prop} {w:World}:∀ (p v:V),WZ p v = true->∀ (n:Nat) (m:Nat->Option Nat),(∀ x,R F w v n m x->R F w (Qj p v) n m x)/\(∀ xs,RL F w v n m xs->RL F w (Qj p v) n m xs):=by
 intro p
 induction p with
 | int st k z=>
  intro v h n m
  cases v <;> simp only [WZ] at h <;> try (cases h; done)
  rename_i st' k' z'
  obtain rfl:=of_decide_eq_true h
  exact ⟨fun x hx=>by simp only [Qj,V.toInt,R] at hx ⊢; exact hx,fun xs hx=>by simp only [RL] at hx⟩
 | bool st z=>
  intro v h n m
  cases v <;> simp only [WZ] at h <;> try (cases h; done)
  exact ⟨fun x hx=>by simp only [Qj,V.toBool,R] at hx ⊢; exact hx,fun xs hx=>by simp only [RL] at hx⟩
 | str st z=>
  intro v h n m
  cases v <;> simp only [WZ] at h <;> try (cases h; done)
  exact ⟨fun x hx=>by simp only [Qj,V.Zdj,R] at hx ⊢; exact hx,fun xs hx=>by simp only [RL] at hx⟩
 | agg p ih=>
  intro v h n m
  cases v <;> simp only [WZ] at h <;> try (cases h; done)
  rename_i cs
  refine ⟨fun x hx=>?_,fun xs hx=>by simp only [RL] at hx⟩
  simp only [Qj,V.inner,R] at hx ⊢
  obtain ⟨xs,e,h1⟩:=hx
  exact ⟨xs,e,(ih cs h n m).2 _ h1⟩
 | cons p q ih1 ih2=>
  intro v h n m
  cases v <;> simp only [WZ] at h <;> try (cases h; done)
  rename_i a b
  rw [Bool.and_eq_true] at h
  refine ⟨fun x hx=>by simp only [R] at hx,fun xs hx=>?_⟩
  simp only [Qj,V.hd,V.tl,RL] at hx ⊢
  obtain ⟨x,r,e,h1,h2⟩:=hx
  exact ⟨x,r,e,(ih1 a h.1 n m).1 _ h1,(ih2 b h.2 n m).2 _ h2⟩
 | nil=>
  intro v h n m
  cases v <;> simp only [WZ] at h <;> try (cases h; done)
  exact ⟨fun x hx=>by simp only [R] at hx,fun xs hx=>by simp only [Qj,RL] at hx ⊢; exact hx⟩
 | rsl st es k g ih=>
  intro v h n m
  cases v <;> simp only [WZ] at h <;> try (cases h; done)
  ·rename_i st' es' k' g'
   rw [Bool.and_eq_true,Bool.and_eq_true] at h
   obtain ⟨_,he,hall⟩:=h
   obtain rfl:=Nat.eq_of_beq_eq_true he
   refine ⟨fun x hx=>?_,fun xs hx=>by simp only [RL] at hx⟩
   simp only [Qj,V.ZC,V.ZH]
   rw [Xk] at hx ⊢
   obtain ⟨a,cap,h1,h2,h3⟩:=hx
   refine ⟨a,cap,h1,h2,h3.imp id fun ⟨B,off,k1,k2,c,el,fr,k3,k4⟩=>⟨B,off,k1,k2,c,el,fr,k3,fun j hj=>?_⟩⟩
   obtain ⟨xs,q1,q2,q3⟩:=k4 j hj
   exact ⟨xs,(ih 0 (g' j) (allB_get hall j hj) 0 _).2 xs q1,q2,q3⟩
  ·exact ⟨fun x hx=>Zd2 hx,fun xs hx=>by simp only [RL] at hx⟩
 | _=>intro v h; cases h
theorem Zi.args {P:Program} {g:FuncId} {a b v:V} (h:Zi P g b v) (ha:∀ (F:Nat->Prop) (w:World) (n:Nat) (m:Nat->Option Nat) (xs:List Value),RL F w a n m xs->RL F w b n m xs):Zi P g a v:=
 ⟨h.1,fun F w xs hF hg hx=>h.2 F w xs hF hg (ha F w 0 _ _ hx)⟩
def AnsOk (P:Program) (g:FuncId) (x:V):Option Ans->Prop
 | some (.sure v)=>Zi P g x v
 | some (.where_ p v)=>p->Zi P g x v
 | some (.fork b v v')=>(b = true->Zi P g x v)/\(b = false->Zi P g x v')
 | none=>True
def XT (g:FuncId) (pat:V) (chk:V->Bool) (res:V->V) (arg:V->V) (pre:V->Prop):Con:=
 { g,al:=true,ans:=fun x=>bif x.known then none else bif WZ pat x&&chk x then some (.sure (res x)) else some (.where_ (x.soft = (arg x.soft).soft/\pre x.soft) (res x.soft)) }
theorem WQ {P:Program} {g:FuncId} {pat:V} {chk:V->Bool} {res arg:V->V} {pre:V->Prop} (hrd:∀ x,Qj pat x = arg x) (hchk:∀ x,chk x = true->pre x) (h:∀ x,pre x->Zi P g (arg x) (res x)):(XT g pat chk res arg pre).Ok P:=by
 intro x
 show AnsOk P g x (bif x.known then none else bif WZ pat x&&chk x then some (.sure (res x)) else some (.where_ (x.soft = (arg x.soft).soft/\pre x.soft) (res x.soft)))
 cases x.known with
 | true=>trivial
 | false=>
  cases hc:WZ pat x&&chk x with
  | true=>
   rw [Bool.and_eq_true] at hc
   exact Zi.args (h x (hchk x hc.2)) fun F w n m xs hx=>by rw [<- hrd]; exact (readA_R pat x hc.1 n m).2 xs hx
  | false=>
   intro ⟨q,hp⟩
   exact Zi.args (h x.soft hp) fun F w n m xs hx=>by
    have e:=((Y7 x n m).2 xs).2 hx
    rw [q] at e
    exact ((Y7 _ n m).2 xs).1 e
abbrev Zo (P:Program) (l:List Con) (nm:List FuncId):Env:={ P,Γ:=QE l,lp:=K9 [],mg:=true,nm:=fun g=>hasN g nm }
theorem Y1 {P:Program} {l:List Con} {nm:List FuncId}:Among (Zo P l nm) (ZL l):=fun g args h=>Ziq l g args h
theorem Yh {P:Program} (hm:P.follows .mixedOrders = true) (hn:ZbR P = true) {l:List Con} (h:Wy P l) {nm:List FuncId}:(Zo P l nm).Ok:=
 let e:=Zu hm hn h (ls:=[]) trivial true
 ⟨e.mixed,e.named,e.sure,e.where_,e.fork,e.lp,e.hk⟩
theorem Je {P:Program} (o N:Nat) {E:Env} {gs:List FuncId} (hΓ:Among E gs) (hE:E.Ok) (hP:E.P = P) (k:Nat) {g:FuncId} (p:V) {args:Nat->V} (hhas:Has P g)
  (h:(YH N fun c=>(ZJ E gs k g (args (o + c))).total&&((ZJ E gs k g (args (o + c))).Yu&&Y3 p (ZJ E gs k g (args (o + c))).join)) = true) {c:Nat} (ho:o<=c) (hc:c < o + N):Zi P g (args c) (Ye p (ZJ E gs k g (args c)).join):=by
 obtain ⟨d,rfl⟩:∃ d,c = o + d:=⟨c - o,by omega⟩
 have h:=Zhp h d (by omega)
 simp only [Bool.and_eq_true] at h
 have hf:=h.2.2
 rw [Zcu hΓ] at h hf ⊢
 have:=ZeR (v:=(ZQ E k g (args (o + d))).join) hE k (by rw [hP]; exact hhas) (Tree.ZgV _ h.1) h.2.1 rfl
 rw [hP] at this
 exact this.read p hf
end Go.Fw
namespace Go.Fw
def Zp (f:Nat->Bool) (n:Nat):Bool:=Nat.rec false (fun k r=>r || f k) n
theorem Zcx {f:Nat->Bool}:∀ {n k:Nat},k < n->f k = true->Zp f n = true:=by
 intro n
 induction n with
 | zero=>intro k h; omega
 | succ n ih=>
  intro k h hf
  show (Zp f n || f n) = true
  rw [Bool.or_eq_true]
  rcases Nat.eq_or_lt_of_le (Nat.le_of_lt_succ h) with e | e
  ·right; rw [<- e]; exact hf
  ·left; exact ih e hf
theorem VP {f:Nat->Bool}:∀ {n:Nat},(∀ k,k < n->f k = false)->Zp f n = false:=by
 intro n
 induction n with
 | zero=>intro _; rfl
 | succ n ih=>
  intro h
  show (Zp f n || f n) = false
  rw [ih fun k hk=>h k (by omega),h n (by omega)]; rfl
theorem Kw {f:Nat->Bool} {n:Nat} (h:Zp f n = false):∀ k,k < n->f k = false:=fun k hk=>by
 cases hf:f k with
 | false=>rfl
 | true=>rw [Zcx hk hf] at h; cases h
def Yn (f:Nat->Bool):Nat->Nat->Nat
 | 0,k=>k
 | m + 1,k=>bif f k then k else Yn f m (k + 1)
theorem fstTo_eq {f:Nat->Bool}:∀ {m k i:Nat},k<=i->i < k + m->(∀ j,k<=j->j < i->f j = false)->f i = true->Yn f m k = i:=by
 intro m
 induction m with
 | zero=>intro k i h1 h2; omega
 | succ m ih=>
  intro k i h1 h2 h3 h4
  unfold Yn
  rcases Nat.eq_or_lt_of_le h1 with e | e
  ·subst e; rw [h4]; rfl
  ·rw [h3 k (Nat.le_refl _) e]
   exact ih e (by omega) (fun j hj=>h3 j (by omega)) h4
theorem Zfn {f:Nat->Bool} {n i:Nat} (hi:i < n) (hg:∀ j,j < i->f j = false) (h:f i = true):Yn f n 0 = i:=fstTo_eq (Nat.zero_le _) (by omega) (fun j _ hj=>hg j hj) h
theorem Zfr {f:Nat->Bool} {i:Nat} (hg:∀ j,j < i->f j = false) (h:f i = false):∀ j,j < i + 1->f j = false:=fun j hj=>by
 rcases Nat.eq_or_lt_of_le (Nat.le_of_lt_succ hj) with e | e
 ·rw [e]; exact h
 ·exact hg j e
def ZI {A:Type} (a0:A) (f:Nat->A->A) (n:Nat):A:=Nat.rec a0 f n
theorem ZeO {A:Type} (a0:A) (f:Nat->A->A) (n:Nat):ZI a0 f (n + 1) = f n (ZI a0 f n):=rfl
theorem nf {x:Bool} (h:(bif !x then true else false) = false):x = true:=by cases x; cases h; rfl
theorem cT {α:Type} {c:Bool} {a b v:α} (h:c = true) (e:a = v):(bif c then a else b) = v:=by rw [h]; exact e
theorem cF {α:Type} {c:Bool} {a b v:α} (h:c = false) (e:b = v):(bif c then a else b) = v:=by rw [h]; exact e
theorem ZfQ {B:Base} {P:Program} {E:Env} (hE:E.Ok) (hP:E.P = P) {k:Nat} {f:FuncId} {b:Code} (hin:∀ b' ∈ Yr b,XI P f b') {n1 n0 N0:Nat} {KT:List Nat} {KH:List (Nat×Src)} (N:Nat) (ts:Nat->V) (ys:Nat->List Blk) (Good:Nat->Prop) (Φ:Ex×St B->Prop)
  {T:Nat->Tree (Ex×Bool×V×List Blk)} (hT:∀ i,((ev E k f b B (Yg n0 N0 KT KH (ts i) (ys i))).bind fun x=>Tree.leaf (x.1,vwN n1 n0 N0 KT KH x.2)) = T i)
  (step:∀ i,i<=N->Good i->(T i).holds P fun y=>match y.1 with
   | .normal=>y.2.1 = true/\i < N/\Good (i + 1)/\Le n0 y.2.2.1 (ts (i + 1))/\Xm n0 y.2.2.2 (ys (i + 1))
   | e=>y.2.1 = true/\∃ ts' ys',Le n0 y.2.2.1 ts'/\Xm n0 y.2.2.2 ys'/\Φ (e,Yg n0 N0 KT KH ts' ys'))
  {s:St B} (hn:s.n = n1) (h0:Good 0) (hs:WE n1 n0 N0 KT KH s (ts 0) (ys 0)):VH P b s Φ:=by
 refine ZhS (ι:=Nat) (E:=fun _=>E) (fun _=>hE) (fun _=>hP) (k:=k) hin ts ys (fun i=>i<=N/\Good i) (fun i=>N - i) Φ (T:=T) (fun i _=>hT i) (fun i hi=>?_) hn (i0:=0) ⟨Nat.zero_le _,h0⟩ hs
 refine Tree.Xh _ (fun y hy=>?_) (step i hi.1 hi.2)
 obtain ⟨e,y⟩:=y
 cases e with
 | normal=>
  obtain ⟨h1,h2,h3,h4,h5⟩:=hy
  exact ⟨h1,i + 1,⟨by omega,h3⟩,by show N - (i + 1) < N - i; omega,h4,h5⟩
 | exit id=>exact hy
 | ret=>exact hy
def Yf (g:FuncId) (arg res:V->V) (pre:V->Prop):Con:=
 { g,al:=true,ans:=fun x=>bif x.known then none else some (.where_ (x.soft = arg x/\pre x) (res x)) }
theorem Yt {P:Program} {g:FuncId} {arg res:V->V} {pre:V->Prop} (h:∀ x,pre x->Zi P g (arg x) (res x)):(Yf g arg res pre).Ok P:=by
 intro x
 show AnsOk P g x (bif x.known then none else some (.where_ (x.soft = arg x/\pre x) (res x)))
 cases x.known with
 | true=>trivial
 | false=>
  intro ⟨q,hp⟩
  exact Zi.args (h x hp) fun F w n m xs hx=>by
   have e:=((Y7 x n m).2 xs).2 hx
   rw [q] at e
   exact e
def half (i j:Int):Int:=IntKind.wrap .i64 (Int.fdiv (IntKind.wrap .u64 (IntKind.wrap .i64 (i + j))) ((2:Int) ^ min 1 (IntKind.bits .u64)))
theorem ZbH {i j:Nat} (h:i + j<=4000):half i j = (((i + j) / 2:Nat):Int):=by
 unfold half
 have e1:IntKind.wrap .i64 ((i:Int) + (j:Int)) = (i:Int) + (j:Int):=IntWalk.i64_in _ ⟨by omega,by omega⟩
 have e2:IntKind.wrap .u64 ((i:Int) + (j:Int)) = (i:Int) + (j:Int):=IntWalk.u64_in _ ⟨by omega,by omega⟩
 have e3:(2:Int) ^ min 1 (IntKind.bits .u64) = 2:=rfl
 rw [e1,e2,e3]
 have e4:Int.fdiv ((i:Int) + (j:Int)) 2 = (((i + j) / 2:Nat):Int):=by
  rw [Int.fdiv_eq_ediv_of_nonneg _ (by omega)]; omega
 rw [e4]
 exact IntWalk.i64_in _ ⟨by omega,by omega⟩
def Xt (lt:Nat->Bool):Nat->Nat->Nat->Nat
 | 0,i,_=>i
 | q + 1,i,j=>bif decide (i < j) then (bif lt ((i + j) / 2) then Xt lt q ((i + j) / 2 + 1) j else Xt lt q i ((i + j) / 2)) else i
theorem ZiI {lt:Nat->Bool} (q i j:Nat):Xt lt (q + 1) i j = bif decide (i < j) then (bif lt ((i + j) / 2) then Xt lt q ((i + j) / 2 + 1) j else Xt lt q i ((i + j) / 2)) else i:=rfl
theorem bisTo_end {lt:Nat->Bool}:∀ q i,Xt lt q i i = i:=by
 intro q i
 cases q with
 | zero=>rfl
 | succ q=>unfold Xt; rw [decide_eq_false (Nat.lt_irrefl i)]; rfl
theorem Zdi {lt:Nat->Bool}:∀ q i j,i<=j->Xt lt q i j<=j:=by
 intro q
 induction q with
 | zero=>intro i j h; exact h
 | succ q ih=>
  intro i j h
  unfold Xt
  cases hc:decide (i < j) with
  | false=>exact h
  | true=>
   have hc:=of_decide_eq_true hc
   simp only [cond_true]
   cases lt ((i + j) / 2) with
   | true=>exact ih _ _ (by omega)
   | false=>exact Nat.le_trans (ih _ _ (by omega)) (by omega)
theorem Za5 {B:Base} {P:Program} {E:Env} (hE:E.Ok) (hP:E.P = P) {k:Nat} {f:FuncId} {b:Code} (hin:∀ b' ∈ Yr b,XI P f b') {n1 n0 N0:Nat} {KT:List Nat} {KH:List (Nat×Src)} (lt:Nat->Bool) (N:Nat) (ts:Nat->Nat->V) (ys:List Blk) (Φ:Ex×St B->Prop)
  {T:Nat->Nat->Tree (Ex×Bool×V×List Blk)} (hT:∀ i j,((ev E k f b B (Yg n0 N0 KT KH (ts i j) ys)).bind fun x=>Tree.leaf (x.1,vwN n1 n0 N0 KT KH x.2)) = T i j)
  (step:∀ i j,i<=j->j<=N->(T i j).holds P fun y=>match y.1 with
   | .normal=>y.2.1 = true/\i < j/\Xm n0 y.2.2.2 ys/\(lt ((i + j) / 2) = true->Le n0 y.2.2.1 (ts ((i + j) / 2 + 1) j))/\(lt ((i + j) / 2) = false->Le n0 y.2.2.1 (ts i ((i + j) / 2)))
   | e=>y.2.1 = true/\i = j/\Xm n0 y.2.2.2 ys/\Le n0 y.2.2.1 (ts i i)/\e = .exit 0)
  (hΦ:Φ (.exit 0,Yg n0 N0 KT KH (ts (Xt lt N 0 N) (Xt lt N 0 N)) ys))
  {s:St B} (hn:s.n = n1) (hs:WE n1 n0 N0 KT KH s (ts 0 N) ys):VH P b s Φ:=by
 refine ZhS (ι:=Nat×Nat×Nat) (E:=fun _=>E) (fun _=>hE) (fun _=>hP) (k:=k) hin (fun p=>ts p.2.1 p.2.2) (fun _=>ys) (fun p=>p.2.1<=p.2.2/\p.2.2<=N/\p.2.2 - p.2.1<=p.1/\Xt lt p.1 p.2.1 p.2.2 = Xt lt N 0 N) (fun p=>p.1) Φ (T:=fun p=>T p.2.1 p.2.2) (fun p _=>hT p.2.1 p.2.2) (fun p hp=>?_) hn (i0:=(N,0,N)) ⟨Nat.zero_le _,Nat.le_refl _,Nat.sub_le _ _,rfl⟩ hs
 obtain ⟨q,i,j⟩:=p
 obtain ⟨h1,h2,h3,h4⟩:=hp
 refine Tree.Xh _ (fun y hy=>?_) (step i j h1 h2)
 obtain ⟨e,y⟩:=y
 have other:e = .exit 0->i = j->Xm n0 y.2.2 ys->Le n0 y.2.1 (ts i i)->y.1 = true->y.1 = true/\∃ ts' ys',Le n0 y.2.1 ts'/\Xm n0 y.2.2 ys'/\Φ (e,Yg n0 N0 KT KH ts' ys'):=fun he hij h5 h6 h7=>by
  subst hij
  subst he
  have h4:Xt lt q i i = Xt lt N 0 N:=h4
  rw [bisTo_end] at h4
  exact ⟨h7,ts i i,ys,h6,h5,by rw [h4]; exact hΦ⟩
 cases e with
 | normal=>
  obtain ⟨k1,k2,k3,k4,k5⟩:=hy
  have h3:j - i<=q:=h3
  cases q with
  | zero=>omega
  | succ q=>
   have h4:Xt lt (q + 1) i j = Xt lt N 0 N:=h4
   rw [ZiI,decide_eq_true k2] at h4
   simp only [cond_true] at h4
   cases hl:lt ((i + j) / 2) with
   | true=>
    rw [hl] at h4
    exact ⟨k1,(q,(i + j) / 2 + 1,j),⟨by show (i + j) / 2 + 1<=j; omega,h2,by show j - ((i + j) / 2 + 1)<=q; omega,h4⟩,Nat.lt_succ_self q,k4 hl,k3⟩
   | false=>
    rw [hl] at h4
    exact ⟨k1,(q,i,(i + j) / 2),⟨by show i<=(i + j) / 2; omega,by show (i + j) / 2<=N; have h2:j<=N:=h2; omega,by show (i + j) / 2 - i<=q; omega,h4⟩,Nat.lt_succ_self q,k5 hl,k3⟩
 | exit id=>obtain ⟨k1,k2,k3,k4,k5⟩:=hy; exact other k5 k2 k3 k4 k1
 | ret=>obtain ⟨k1,k2,k3,k4,k5⟩:=hy; exact other k5 k2 k3 k4 k1
end Go.Fw
namespace Go.Fw
def Za (v:Value):Int:=match v with
 | .int _ a=>a
 | _=>0
def Blk.hasK (b:Blk) (kd:IntKind) (j:Int):Bool:=match b with
 | .Ze _ _ f _=>(f (.int kd j)).1
 | _=>false
def Blk.getB (b:Blk) (kd:IntKind) (j:Int):Bool:=match b with
 | .Ze _ _ f _=>(f (.int kd j)).2.toBool
 | _=>false
def Blk.getI (b:Blk) (kd:IntKind) (j:Int):Int:=match b with
 | .Ze _ _ f _=>(f (.int kd j)).2.toInt
 | _=>0
def Blk.cells (b:Blk):V:=match b with
 | .var c=>c
 | _=>.nil
def ZX (k:IntKind) (f g:Value->Bool×V):Prop:=∀ a,(f (.int k a)).1 = (g (.int k a)).1/\(f (.int k a)).2.soft = (g (.int k a)).2.soft
def V.UJ {β:Type 1} (v:V) (d:β) (k:Nat->(Nat->V)->β):β:=match v with
 | .rsl _ _ n f=>k n f
 | _=>d
def V.QF {β:Type 1} (v:V) (d:β) (k:Int->β):β:=match v with
 | .int _ _ x=>k x
 | _=>d
def Blk.onMap {β:Type 1} (b:Blk) (d:β) (k:(Value->Bool×V)->β):β:=match b with
 | .Ze _ _ f _=>k f
 | _=>d
def Blk.onVar {β:Type 1} (b:Blk) (d:β) (k:V->β):β:=match b with
 | .var c=>k c
 | _=>d
section
variable {P:Program} {α:Type} {Q:α->Prop}
theorem G9 {v:V} {k:Nat->(Nat->V)->Tree α} (h:(v.UJ .stuck k).holds P Q):∃ n f,(k n f).holds P Q:=by
 cases v <;> first | exact h.elim | exact ⟨_,_,h⟩
theorem Ji {v:V} {k:Int->Tree α} (h:(v.QF .stuck k).holds P Q):∃ x,(k x).holds P Q:=by
 cases v <;> first | exact h.elim | exact ⟨_,h⟩
theorem Ze8 {b:Blk} {k:(Value->Bool×V)->Tree α} (h:(b.onMap .stuck k).holds P Q):∃ f,(k f).holds P Q:=by
 cases b <;> first | exact h.elim | exact ⟨_,h⟩
theorem onVar_h {b:Blk} {k:V->Tree α} (h:(b.onVar .stuck k).holds P Q):∃ c,(k c).holds P Q:=by
 cases b <;> first | exact h.elim | exact ⟨_,h⟩
end
def Xb (P:Program) (g:FuncId) (args:V) (bl:List Blk) (T:Tree (V×List Blk)):Prop:=
 ∀ (base:Nat) (m:Nat->Option Nat) (F:Nat->Prop) (w:World) (xs:Array Value) (Q:V×List Blk->Prop) (KK:Ending->World->Prop),
  HR base m F (fun b=>bl.getD b .none) bl.length w->RL F w args bl.length m xs.toList->T.holds P Q ->
  (∀ v bl',Q (v,bl')->∀ m' F' w' x,Ext base m F bl.length w m' F' bl'.length w'->HR base m' F' (fun b=>bl'.getD b .none) bl'.length w'->R F' w' v bl'.length m' x->KK (.returned x) w') ->
  Has P g/\Calls P g xs w KK
open Classical in
theorem hk_at {E:Env} (hE:E.Ok) (k:Nat) {g:FuncId} {args:V} {bl:List Blk} {T:Tree (V×List Blk)}
  (h:∀ Q:V×List Blk->Prop,T.holds E.P Q->(evH E k g args bl).holds E.P fun r=>∃ r',Q r'/\r.1.sof = r'.1.sof/\r.2.map Blk.sof = r'.2.map Blk.sof):Xb E.P g args bl T:=by
 have H:=hk_of hE k (g:=g) (K:=fun a b=>if a = args/\b = bl then some T else none) (fun a b T' hT Q hq=>by
  by_cases e:a = args/\b = bl
  ·obtain ⟨rfl,rfl⟩:=e
   rw [if_pos ⟨rfl,rfl⟩] at hT
   injection hT with hT
   subst hT
   exact h Q hq
  ·rw [if_neg e] at hT; cases hT)
 exact H args bl T (if_pos ⟨rfl,rfl⟩)
theorem Xb.le {P:Program} {g:FuncId} {args:V} {bl bl0:List Blk} {T:Tree (V×List Blk)} (H:Xb P g args bl0 T) (hn:bl.length = bl0.length) (hle:∀ b,LeK bl0.length (bl.getD b .none) (bl0.getD b .none)):Xb P g args bl T:=by
 intro base m F w xs Q KK hr ha hq hk
 rw [hn] at hr ha hk
 exact H base m F w xs Q KK ⟨hr.low,hr.fdom,fun i hi=>(hle i).2 _ _ _ _ (hr.blk i hi),hr.dom,hr.new,hr.gl,hr.own,fun i j B e1 e2 hne=>(hr.inj i j B e1 e2 hne).imp (hle i).1 (hle j).1⟩ ha hq hk
def WC (p:Prop) (l:Lp):Lp:=⟨l.f,l.id,fun B s=>.need p (l.g B s)⟩
theorem Zan {P:Program} {p:Prop} {l:Lp} (h:p->l.Ok P):(WC p l).Ok P:=fun body hin hfr B s Q hq=>h hq.1 body hin hfr B s Q hq.2
theorem WB {α:Type} {p:α->Prop} {c:Bool} {a b:α} (ha:p a) (hb:p b):p (bif c then a else b):=by cases c <;> assumption
theorem ZaI {A:Type} {m:A->Nat} {a0:A} {f:Nat->A->A} (h0:m a0<=0) (h:∀ k z,m (f k z)<=m z + 1):∀ k,m (ZI a0 f k)<=k:=by
 intro k
 induction k with
 | zero=>exact h0
 | succ k ih=>rw [ZeO]; have:=h k (ZI a0 f k); omega
theorem Zbs {c:Bool} {a b:V} {g:V->V} (ha:a.soft = g a) (hb:b.soft = g b):(bif c then a else b).soft = g (bif c then a else b):=by cases c <;> assumption
theorem LeK.arrS {n es k k':Nat} {g g':Nat->V} (hn:k = k') (h:∀ j,j < k->(g j).soft = (g' j).soft):LeK n (.arr es k g) (.arr es k' g'):=⟨fun e=>(by cases e),fun F w m B hb=>by
 subst hn
 rcases hb with h0 | ⟨b,c,el,k1,k2,k3,k4⟩
 ·exact .inl h0
 ·exact .inr ⟨b,c,el,k1,k2,k3,fun j hj=>by obtain ⟨xs,hx,hr⟩:=k4 j hj; have e:=((Y7 (g j) _ _).2 _).2 hx; rw [h j hj] at e; exact ⟨xs,((Y7 (g' j) _ _).2 _).1 e,hr⟩⟩⟩
def V.WT {β:Type 1} (c:V) (k:V->β):β:=match c with
 | .cons h t=>match h with
  | .int s kd n=>t.WT fun t'=>k (.cons (.int s kd n) t')
  | .bool s b=>t.WT fun t'=>k (.cons (.bool s b) t')
  | .rsl s e n g=>t.WT fun t'=>k (.cons (.rsl s e n g) t')
  | .mp b=>Kh b fun b=>t.WT fun t'=>k (.cons (.mp b) t')
  | h=>t.WT fun t'=>k (.cons h t')
 | c=>k c
theorem V.Qw {β:Type 1}:∀ (c:V) (k:V->β),c.WT k = k c:=by
 intro c
 induction c with
 | cons h t _ ih=>intro k; unfold V.WT; cases h <;> first | exact ih _ | (show Kh _ _ = _; rw [Gy]; exact ih _)
 | _=>intro k; rfl
theorem WO {c:Bool} {x n:Int} (hb:(bif !c then true else false) = false) (h:c = true->0<=x/\x < n):0<=(bif c then x else 0)/\(bif c then x else 0) < n:=by
 cases c
 ·cases hb
 ·exact h rfl
theorem nf5 {a b:Int} (h:(bif a != b then true else false) = false):a = b:=by
 have h':(a != b) = false:=by cases e:(a != b) <;> rw [e] at h <;> first | rfl | cases h
 simpa using h'
theorem nf4 {x:Bool} (h:(bif x then true else false) = false):x = false:=by cases x; rfl; cases h
theorem nf3 {p:Bool} {a b:Int} (h:(bif (bif p then true else a != b) then true else false) = false):a = b:=by
 cases p
 ·have h':(a != b) = false:=by cases e:(a != b) <;> rw [e] at h <;> first | rfl | cases h
  simpa using h'
 ·cases h
theorem Y6 {n:Nat} {k:IntKind} {st st':Bool} {ks:Ks} {f f':Value->Bool×V} (h:∀ a,(f (.int k a)).1 = (f' (.int k a)).1/\Le n (f (.int k a)).2 (f' (.int k a)).2):LeK n (.Ze (.int k) st f ks) (.Ze (.int k) st' f' Option.none):=LeK.Ze fun v hv=>by
 cases v with
 | int k' a=>have e:k = k':=of_decide_eq_true hv; subst e; exact h a
 | _=>cases hv
end Go.Fw
end
