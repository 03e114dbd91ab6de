/- A view of a state: the state and three maps. -/
import Derived.Test.YtnjjailadijdlaaGreatDoorMAo
import Derived.Test.YtnjjailadijdlaaGreatDoorMAr
set_option maxRecDepth 100000
set_option linter.unusedVariables false
set_option linter.unusedSimpArgs false
noncomputable section
namespace Go.Proofs.YtnjjailadijdlaaGreatDoor
open Go.Fw
structure Zc where mk ::
 (a:Zb) (oh:Int->Bool) (og:Int->Int) (nh:Int->Bool) (ng:Int->Int) (hh:Int->Bool) (hg:Int->Int)
abbrev mapI (h:Int->Bool) (g:Int->Int):Blk:=.Ze (.int .i64) false (fun x=>(h (Za x),.int false .i64 (g (Za x)))) none
abbrev ZM (a:Zb):V:=V.app (Zt false a) (.cons (.mp 1) (.cons (.mp 2) (.cons (.mp 3) .nil)))
abbrev ZV (d:Zc):List Blk:=[.var (ZM d.a),mapI d.oh d.og,mapI d.nh d.ng,mapI d.hh d.hg]
abbrev ZF (c:V) (fo fn fh:Value->Bool×V):Zc:=⟨Qm c,fun j=>(fo (.int .i64 j)).1,fun j=>(fo (.int .i64 j)).2.toInt,fun j=>(fn (.int .i64 j)).1,fun j=>(fn (.int .i64 j)).2.toInt,fun j=>(fh (.int .i64 j)).1,fun j=>(fh (.int .i64 j)).2.toInt⟩
abbrev mapFit (f:Value->Bool×V):Prop:=ZX .i64 (fun x=>((f (.int .i64 (Za x))).1,.int false .i64 (f (.int .i64 (Za x))).2.toInt)) f
def KP (c:V) (fo fn fh:Value->Bool×V):Prop:=c.soft = ZM (Qm c)/\mapFit fo/\mapFit fn/\mapFit fh
theorem RLsoft {F:Nat->Prop} {w:World} {n:Nat} {m:Nat->Option Nat} {a b:V} {xs:List Value} (h:a.soft = b.soft) (hx:RL F w a n m xs):RL F w b n m xs:=by
 have h1:=((Y7 a n m).2 xs).2 hx
 rw [h] at h1
 exact ((Y7 b n m).2 xs).1 h1
abbrev mO (d:Zc):Blk:=.Ze (.int .i64) false (fun (x:Value)=>(d.oh (Za x),V.int false .i64 (d.og (Za x)))) none
abbrev mN (d:Zc):Blk:=.Ze (.int .i64) false (fun (x:Value)=>(d.nh (Za x),V.int false .i64 (d.ng (Za x)))) none
abbrev mH (d:Zc):Blk:=.Ze (.int .i64) false (fun (x:Value)=>(d.hh (Za x),V.int false .i64 (d.hg (Za x)))) none
theorem Vr {c:V} {fo fn fh:Value->Bool×V} {q1 q3 q5:Bool} {q2 q4 q6:Ks} (h:KP c fo fn fh) (b:Nat) :
  LeK (ZV (ZF c fo fn fh)).length ([Blk.var c,.Ze (.int .i64) q1 fo q2,.Ze (.int .i64) q3 fn q4,.Ze (.int .i64) q5 fh q6].getD b .none) ((ZV (ZF c fo fn fh)).getD b .none):=by
 match b with
 | 0=>exact LeK.var (Le.soft (h.1.trans (show ZM (Qm c) = (ZM (Qm c)).soft by kernel_rfl)))
 | 1=>exact Y6 fun a=>⟨rfl,Le.soft (h.2.1 a).2.symm⟩
 | 2=>exact Y6 fun a=>⟨rfl,Le.soft (h.2.2.1 a).2.symm⟩
 | 3=>exact Y6 fun a=>⟨rfl,Le.soft (h.2.2.2 a).2.symm⟩
 | _ + 4=>exact LeK.refl _
end Go.Proofs.YtnjjailadijdlaaGreatDoor
namespace Go.Fw
@[reducible] def vi (x:Int):V:=.int false .i64 x
@[reducible] def ci (x:Int) (t:V):V:=.cons (.int false .i64 x) t
@[reducible] def pt (b:Nat):V:=.ptr true b 0 0 0
def WI (b:Bool):Option Ex:=bif b then some .normal else none
theorem pdB (b:Bool):(WI b).isSome = b:=by cases b <;> rfl
theorem pd3 {A B:Type} {a:A} {b:B} {c:Bool}:(a,b,(WI c).isSome) = (a,b,c):=by rw [pdB]
theorem flag3 {A B:Type} (z:A×B×Bool) {b:Bool} (h:z.2.2 = b):(z.1,z.2.1,b) = z:=by rw [<- h]
def Qa (KR:List Nat) (rs:V):Nat->V:=look (fun _=>.junk) (putT KR rs .nil)
def nfR (KR:List Nat):Blk->Blk
 | .rng f ps asg bd row N st pd=>.rng f ps asg bd (Qa KR (rowOf (KR.map row))) N st pd
 | b=>b
theorem putT_get (row:Nat->V):∀ (KR:List Nat) (t:PT V),(∀ j,look (fun _=>V.junk) t j = row j\/look (fun _=>V.junk) t j = .junk)->∀ j,look (fun _=>V.junk) (putT KR (rowOf (KR.map row)) t) j = row j\/look (fun _=>V.junk) (putT KR (rowOf (KR.map row)) t) j = .junk:=by
 intro KR
 induction KR with
 | nil=>intro t h; exact h
 | cons k ks ih=>
  intro t h
  refine ih (t.set k (row k)) fun j=>?_
  rw [ZR]
  by_cases e:j = k
  ·rw [if_pos e,e]; exact .inl rfl
  ·rw [if_neg e]; exact h j
theorem LeK.nfR {n:Nat} (KR:List Nat) (b:Blk):LeK n b (nfR KR b):=by
 cases b with
 | rng f ps asg bd row N st pd=>
  refine ⟨fun e=>(by cases e),fun F w m B hb=>?_⟩
  obtain ⟨l,r,e,hc,h1,h2,h3,h4,h5,h6,h7⟩:=hb
  refine ⟨l,r,e,hc,h1,h2,h3,h4,h5,h6,fun i=>?_⟩
  rcases putT_get row KR .nil (fun j=>.inr rfl) i with h | h
  ·show R F w (Qa KR (rowOf (KR.map row)) i) _ _ _
   unfold Qa; rw [h]; exact h7 i
  ·show R F w (Qa KR (rowOf (KR.map row)) i) _ _ _
   unfold Qa; rw [h]; simp only [R]
 | _=>exact LeK.refl _
theorem LeK.trans {n:Nat} {x y z:Blk} (h1:LeK n x y) (h2:LeK n y z):LeK n x z:=⟨fun e=>h2.1 (h1.1 e),fun F w m B h=>h2.2 F w m B (h1.2 F w m B h)⟩
theorem Xm.nfR {n:Nat} {KR:List Nat}:∀ {xs ys:List Blk},Xm n (xs.map (Go.Fw.nfR KR)) ys->Xm n xs ys:=by
 intro xs
 induction xs with
 | nil=>intro ys h; exact h
 | cons x xs ih=>
  intro ys h
  cases ys with
  | nil=>exact h.elim
  | cons y ys=>exact ⟨(LeK.nfR KR x).trans h.1,ih h.2⟩
def vwR (n1 n0 N0:Nat) (KT:List Nat) (KH:List (Nat×Src)) (KR:List Nat) {B:Base} (x:St B):Bool×V×List Blk:=let v:=vwN n1 n0 N0 KT KH x; (v.1,v.2.1,v.2.2.map (nfR KR))
theorem LeK.rngS {n:Nat} {KR:List Nat} {f:FuncId} {ps:List Nat} {asg bd:Code} {row:Nat->V} {rs:V} {N st:Nat} {pd:Option Ex} (h:(rowOf (KR.map row)).soft = rs.soft):LeK n (.rng f ps asg bd row N st pd) (.rng f ps asg bd (Qa KR rs) N st pd):=⟨fun e=>(by cases e),fun F w m B hb=>by
 obtain ⟨l,r,e,hc,h1,h2,h3,h4,h5,h6,h7⟩:=hb
 refine ⟨l,r,e,hc,h1,h2,h3,h4,h5,h6,ZgE (g:=fun j=>r.tmps.getD j Go.undef) KR rs .nil (fun j=>by show R F w .junk n _ _; simp only [R]) ?_⟩
 refine (Le.soft h F w m).2 _ (Zg2 (F:=F) (w:=w) (n:=n) (m:=m) (g:=fun j=>r.tmps.getD j Go.undef) KR (by simp) fun i k v hk hv=>?_)
 rw [List.getElem?_map,hk] at hv
 injection hv with hv
 rw [<- hv]
 exact h7 k⟩
theorem Zly {B:Base} {P:Program} {E:Env} (hE:E.Ok) (hP:E.P = P) {k:Nat} {f:FuncId} {b:Code} (hin:∀ b' ∈ Yr b,XI P f b') {n1 n0 N0:Nat} {KT:List Nat} {KH:List (Nat×Src)} {KR:List Nat} (N:Nat) (ts:Nat->V) (ys:Nat->List Blk) (Good:Nat->Prop) (Φ:Ex×St B->Prop)
  {T:Nat->Tree (Ex×Bool×V×List Blk)} (hT:∀ i,((ev E k f b B (Yg n0 N0 KT KH (ts i) (ys i))).bind fun x=>Tree.leaf (x.1,vwR n1 n0 N0 KT KH KR x.2)) = T i)
  (step:∀ i,i<=N->Good i->(T i).holds P fun y=>match y.1 with
   | .normal=>y.2.1 = true/\i < N/\Good (i + 1)/\Le n0 y.2.2.1 (ts (i + 1))/\Xm n0 y.2.2.2 (ys (i + 1))
   | e=>y.2.1 = true/\∃ ts' ys',Le n0 y.2.2.1 ts'/\Xm n0 y.2.2.2 ys'/\Φ (e,Yg n0 N0 KT KH ts' ys'))
  {s:St B} (hn:s.n = n1) (h0:Good 0) (hs:WE n1 n0 N0 KT KH s (ts 0) (ys 0)):VH P b s Φ:=by
 refine ZfQ hE hP hin N ts ys Good Φ (T:=fun i=>(ev E k f b B (Yg n0 N0 KT KH (ts i) (ys i))).bind fun x=>Tree.leaf (x.1,vwN n1 n0 N0 KT KH x.2)) (fun i=>rfl) (fun i hi hg=>?_) hn h0 hs
 have h:=step i hi hg
 rw [<- hT i,Tree.Ya] at h
 rw [Tree.Ya]
 refine Tree.Xh _ (fun x hx=>?_) h
 obtain ⟨e,x⟩:=x
 cases e with
 | normal=>exact ⟨hx.1,hx.2.1,hx.2.2.1,hx.2.2.2.1,hx.2.2.2.2.nfR⟩
 | exit id=>obtain ⟨h1,ts',ys',h2,h3,h4⟩:=hx; exact ⟨h1,ts',ys',h2,h3.nfR,h4⟩
 | ret=>obtain ⟨h1,ts',ys',h2,h3,h4⟩:=hx; exact ⟨h1,ts',ys',h2,h3.nfR,h4⟩
def Kc:Code->Option (Code×Code)
 | .rangeFunc _ _ a b=>some (a,b)
 | .seq a b=>match Kc a with
  | some x=>some x
  | none=>Kc b
 | .block _ b=>Kc b
 | .cond _ a b=>match Kc a with
  | some x=>some x
  | none=>Kc b
 | .loop b=>Kc b
 | .scope b=>Kc b
 | _=>none
def bodyAt (P:Program) (g:Nat):Code:=match P.funcs[g]? with
 | some f=>match f.body with
  | some c=>c
  | none=>.skip
 | none=>.skip
def QL (P:Program) (g:Nat):Code:=match Kc (bodyAt P g) with | some x=>x.1 | none=>.skip
def Jd (P:Program) (g:Nat):Code:=match Kc (bodyAt P g) with | some x=>x.2 | none=>.skip
end Go.Fw
namespace Go.Fw
abbrev Rd:Type:=Ex×Bool×V×List Blk
def Tree.early:Tree Rd->Bool
 | .leaf y=>match y.1 with
  | .normal=>false
  | _=>true
 | .node b t f=>bif b then t.early else f.early
 | .need _ t=>t.early
 | _=>true
def Tree.carry {A:Type} (rd:V->List Blk->A) (z:A):Tree Rd->A
 | .leaf y=>match y.1 with
  | .normal=>rd y.2.2.1 y.2.2.2
  | _=>z
 | .node b t f=>bif b then t.carry rd z else f.carry rd z
 | .need _ t=>t.carry rd z
 | _=>z
def Tree.leaves {α:Type} (p:α->Prop):Tree α->Prop
 | .leaf y=>p y
 | .node _ t f=>t.leaves p/\f.leaves p
 | .need _ t=>t.leaves p
 | _=>True
theorem Tree.ZiT {P:Program} {A:Type} {rd:V->List Blk->A} {z:A} {p:Rd->Prop}:∀ T:Tree Rd,T.pre->T.leaves p->T.holds P fun y=>p y/\(match y.1 with
  | .normal=>T.early = false/\T.carry rd z = rd y.2.2.1 y.2.2.2
  | _=>T.early = true):=by
 intro T
 induction T with
 | leaf y=>
  intro _ h
  refine ⟨h,?_⟩
  obtain ⟨e,y⟩:=y
  cases e <;> first | exact ⟨rfl,rfl⟩ | rfl
 | node b t f iht ihf=>
  intro h hl
  refine ⟨fun hb=>Tree.Xh t (fun y hy=>⟨hy.1,?_⟩) (iht (h.1 hb) hl.1),fun hb=>Tree.Xh f (fun y hy=>⟨hy.1,?_⟩) (ihf (h.2 hb) hl.2)⟩
  all_goals
   subst hb
   obtain ⟨e,y⟩:=y
   have h2:=hy.2
   cases e <;> exact h2
 | need p t ih=>
  intro h hl
  refine ⟨h.1,Tree.Xh t (fun y hy=>⟨hy.1,?_⟩) (ih h.2 hl)⟩
  obtain ⟨e,y⟩:=y
  have h2:=hy.2
  cases e <;> exact h2
 | _=>intro h; exact h.elim
theorem cS {α:Type} {c:Bool} {x y v:α} (h1:x = v) (h2:y = v):(bif c then x else y) = v:=by cases c; exact h2; exact h1
theorem cC {α:Type} {c:Bool} {x y x' y':α} (h1:x = x') (h2:y = y'):(bif c then x else y) = bif c then x' else y':=by cases c; exact h2; exact h1
def Za6 {A:Type} (n0:Nat) (t1:A->V) (y1:A->List Blk) (rd:V->List Blk->A) (eex:Ex) (ets:V) (eys:List Blk) (y:Rd):Prop:=match y.1 with
 | .normal=>y.2.1 = true/\Le n0 y.2.2.1 (t1 (rd y.2.2.1 y.2.2.2))/\Xm n0 y.2.2.2 (y1 (rd y.2.2.1 y.2.2.2))
 | e=>y.2.1 = true/\e = eex/\Le n0 y.2.2.1 ets/\Xm n0 y.2.2.2 eys
theorem Z7 {n:Nat}:∀ ys:List Blk,Xm n ys ys:=by
 intro ys
 induction ys with
 | nil=>trivial
 | cons y ys ih=>exact ⟨LeK.refl _,ih⟩
theorem loop_gen {B:Base} {P:Program} {E:Env} (hE:E.Ok) (hP:E.P = P) {k:Nat} {f:FuncId} {b:Code} (hin:∀ b' ∈ Yr b,XI P f b') {n1 n0 N0:Nat} {KT:List Nat} {KH:List (Nat×Src)} {KR:List Nat} {A:Type} (N:Nat) (ts:Int->A->V) (ys:Int->A->List Blk) (ex eex:Ex) (hex:ex ≠ .normal)
  {c:Int->Bool} {R:Int->A->Tree Rd} (hT:∀ (B:Base) i z,((ev E k f b B (Yg n0 N0 KT KH (ts i z) (ys i z))).bind fun x=>Tree.leaf (x.1,vwR n1 n0 N0 KT KH KR x.2)) = .node (c i) (.leaf (ex,true,ts i z,ys i z)) (R i z))
  (hc:∀ i:Nat,i<=N->(c i = true↔i = N)) {a0:A} {step:Nat->A->A} {bad:Nat->Bool} {rd:Nat->A->V->List Blk->A} {ets:Int->A->V} {eys:Int->A->List Blk}
  (hstep:∀ (i:Nat) z,(R i z).carry (rd i z) z = step i z) (hbad:∀ i:Nat,(R i (ZI a0 step i)).early = bad i)
  (hpre:∀ i:Nat,i < N->(∀ j,j < i->bad j = false)->(R i (ZI a0 step i)).pre)
  (hlv:∀ (i:Nat) (z:A),i < N->(R i z).leaves (Za6 n0 (ts ((i + 1:Nat):Int)) (ys ((i + 1:Nat):Int)) (rd i z) eex (ets i z) (eys i z)))
  {Q:Ex×St B->Prop} (he:Zp bad N = true->Q (eex,Yg n0 N0 KT KH (ets (Yn bad N 0:Nat) (ZI a0 step (Yn bad N 0))) (eys (Yn bad N 0:Nat) (ZI a0 step (Yn bad N 0)))))
  (hq:Zp bad N = false->Q (ex,Yg n0 N0 KT KH (ts (N:Nat) (ZI a0 step N)) (ys (N:Nat) (ZI a0 step N))))
  {s:St B} (hn:s.n = n1) (hs:WE n1 n0 N0 KT KH s (ts (0:Nat) a0) (ys (0:Nat) a0)):VH P b s Q:=by
 refine Zly hE hP hin N (fun i=>ts i (ZI a0 step i)) (fun i=>ys i (ZI a0 step i)) (fun i=>∀ j,j < i->bad j = false) Q (fun i=>hT B i _) (fun i hi hg=>?_) hn (fun j hj=>absurd hj (Nat.not_lt_zero j)) hs
 refine ⟨fun h=>?_,fun h=>?_⟩
 ·have e:=(hc i hi).1 h
  subst e
  have h1:=hq (VP hg)
  cases ex with
  | normal=>exact absurd rfl hex
  | exit id=>exact ⟨rfl,_,_,Le.refl _,Z7 _,h1⟩
  | ret=>exact ⟨rfl,_,_,Le.refl _,Z7 _,h1⟩
 ·have hlt:i < N:=by
   rcases Nat.eq_or_lt_of_le hi with e | e
   ·rw [(hc i hi).2 e] at h; cases h
   ·exact e
  refine Tree.Xh _ (fun y hy=>?_) (Tree.ZiT (rd:=rd i (ZI a0 step i)) (z:=ZI a0 step i) _ (hpre i hlt hg) (hlv i _ hlt))
  obtain ⟨e,y⟩:=y
  obtain ⟨h1,h2⟩:=hy
  have early:e = eex->(R i (ZI a0 step i)).early = true->y.1 = true->Le n0 y.2.1 (ets i (ZI a0 step i))->Xm n0 y.2.2 (eys i (ZI a0 step i))->y.1 = true/\∃ ts' ys',Le n0 y.2.1 ts'/\Xm n0 y.2.2 ys'/\Q (e,Yg n0 N0 KT KH ts' ys'):=fun h3 h4 h5 h6 h7=>by
   rw [hbad] at h4
   have hf:=Zfn (f:=bad) hlt hg h4
   have h8:=he (Zcx hlt h4)
   rw [hf] at h8
   subst h3
   exact ⟨h5,_,_,h6,h7,h8⟩
  cases e with
  | normal=>
   obtain ⟨h3,h4,h5⟩:=h1
   obtain ⟨k1,k2⟩:=h2
   rw [hbad] at k1
   rw [hstep] at k2
   have e2:ZI a0 step (i + 1) = rd i (ZI a0 step i) y.2.1 y.2.2:=k2
   rw [<- e2] at h4 h5
   exact ⟨h3,hlt,Zfr hg k1,h4,h5⟩
  | exit id=>exact early h1.2.1 h2 h1.1 h1.2.2.1 h1.2.2.2
  | ret=>exact early h1.2.1 h2 h1.1 h1.2.2.1 h1.2.2.2
end Go.Fw
namespace Go.Fw
def sEq (n0:Nat):V->V->Prop
 | .cons h t,.cons h' t'=>sEq n0 h h'/\sEq n0 t t'
 | .Zz,.osl _ b _ _ n=>n = 0/\b < n0
 | v,v'=>v.soft = v'.soft
theorem sEq_le {n0:Nat}:∀ v v':V,sEq n0 v v'->Le n0 v v':=by
 intro v
 induction v with
 | cons h t ih1 ih2=>
  intro v' e
  cases v' <;> first | exact Le.soft e | exact Le.cons (ih1 _ e.1) (ih2 _ e.2)
 | Zz=>
  intro v' e
  cases v' <;> first | exact Le.soft e | (obtain ⟨rfl,h⟩:=e; exact Le.Zz h)
 | _=>intro v' e; cases v' <;> exact Le.soft e
def V.hasOsl:V->Bool
 | .cons h t=>h.hasOsl || t.hasOsl
 | .osl ..=>true
 | _=>false
def vEq (n0:Nat) (v v':V):Prop:=match v'.hasOsl with
 | true=>sEq n0 v v'
 | false=>v.soft = v'.soft
theorem vEq_le {n0:Nat} {v v':V} (h:vEq n0 v v'):Le n0 v v':=by
 unfold vEq at h
 split at h
 ·exact sEq_le _ _ h
 ·exact Le.soft h
def blkEq (n0:Nat) (KR:List Nat):Blk->Blk->Prop
 | .var c,.var c'=>vEq n0 c c'
 | .Ze (.int k) _ f _,.Ze (.int k') _ f' none=>k = k'/\ZX k f' f
 | .none,.arr _ n _=>n = 0
 | .arr es n g,.arr es' n' g'=>es = es'/\n = n'/\∀ j,(g j).soft = (g' j).soft
 | .rng f ps asg bd row N st pd,.rng f' ps' asg' bd' row' N' st' pd'=>f = f'/\ps = ps'/\asg = asg'/\bd = bd'/\N = N'/\st = st'/\pd = pd'/\(rowOf (KR.map row)).soft = (rowOf (KR.map row')).soft
 | _,_=>False
theorem blkEq_le {n0:Nat} {KR:List Nat} {b b':Blk} (h:blkEq n0 KR b b'):LeK n0 b (nfR KR b'):=by
 unfold blkEq at h
 split at h
 ·exact LeK.var (vEq_le h)
 ·obtain ⟨rfl,hm⟩:=h
  exact Y6 fun a=>⟨(hm a).1.symm,Le.soft (hm a).2.symm⟩
 ·subst h; exact LeK.none
 ·obtain ⟨rfl,rfl,hg⟩:=h
  exact LeK.arrS rfl fun j _=>hg j
 ·obtain ⟨rfl,rfl,rfl,rfl,rfl,rfl,rfl,hr⟩:=h
  exact LeK.rngS hr
 ·exact h.elim
def Zaj (n0:Nat) (KR:List Nat):List Blk->List Blk->Prop
 | [],[]=>True
 | b :: l,b' :: l'=>blkEq n0 KR b b'/\Zaj n0 KR l l'
 | _,_=>False
theorem blksEq_le {n0:Nat} {KR:List Nat}:∀ {l l':List Blk},Zaj n0 KR l l'->Xm n0 l (l'.map (nfR KR)):=by
 intro l
 induction l with
 | nil=>intro l' h; cases l' with | nil=>trivial | cons=>exact h.elim
 | cons b l ih=>intro l' h; cases l' with | nil=>exact h.elim | cons b' l'=>exact ⟨blkEq_le h.1,ih h.2⟩
def lpG (f:FuncId) (id n1 n0 N0:Nat) (KT:List Nat) (KH:List (Nat×Src)) (KR:List Nat) (t0:V) (y0:List Blk) (R:(B:Base)->Tree (Ex×St B)):Lp:=⟨f,id,fun B s=>match vwN n1 n0 N0 KT KH s with
 | (true,t,bl)=>bif Nat.beq s.n n1 then .need (vEq n0 t t0/\Zaj n0 KR bl y0) (R B) else .stuck
 | _=>.stuck⟩
def V.oslN:V->Nat
 | .osl _ _ _ _ n=>n
 | _=>0
def Blk.arrG:Blk->Nat->V
 | .arr _ _ g=>g
 | _=>fun _=>.nil
def Blk.pendB:Blk->Bool
 | .rng _ _ _ _ _ _ _ pd=>pd.isSome
 | _=>false
theorem LeK.WI {n:Nat} {f f':FuncId} {ps:List Nat} {asg bd:Code} {row:Nat->V} {N st:Nat} {pd:Option Ex} (h:Go.Fw.WI pd.isSome = pd:=by first | rfl | exact congrArg Go.Fw.WI (pdB _)):LeK n (.rng f ps asg bd row N st pd) (.rng f' ps asg bd row N st (Go.Fw.WI pd.isSome)):=by
 rw [h]
 exact LeK.rng fun _=>Le.refl _
theorem Zef {P:Program} {E:Env} (hE:E.Ok) (hP:E.P = P) {k:Nat} {f:FuncId} {id n1 n0 N0:Nat} {KT:List Nat} {KH:List (Nat×Src)} {KR:List Nat} (h1:U0 P f id = true) {A:Type} (N:Nat) (ts:Int->A->V) (ys:Int->A->List Blk) (ex eex:Ex) (hex:ex ≠ .normal)
  {c:Int->Bool} {R:Int->A->Tree Rd} (hT:∀ (B:Base) i z,((ev E k f (Qu P f id) B (Yg n0 N0 KT KH (ts i z) (ys i z))).bind fun x=>Tree.leaf (x.1,vwR n1 n0 N0 KT KH KR x.2)) = .node (c i) (.leaf (ex,true,ts i z,ys i z)) (R i z))
  (hc:∀ i:Nat,i<=N->(c i = true↔i = N)) {a0:A} {step:Nat->A->A} {bad:Nat->Bool} {rd:Nat->A->V->List Blk->A} {ets:Int->A->V} {eys:Int->A->List Blk}
  (hstep:∀ (i:Nat) z,(R i z).carry (rd i z) z = step i z) (hbad:∀ i:Nat,(R i (ZI a0 step i)).early = bad i)
  (hpre:∀ i:Nat,i < N->(∀ j,j < i->bad j = false)->(R i (ZI a0 step i)).pre)
  (hlv:∀ (i:Nat) (z:A),i < N->(R i z).leaves (Za6 n0 (ts ((i + 1:Nat):Int)) (ys ((i + 1:Nat):Int)) (rd i z) eex (ets i z) (eys i z)))
  {Rs:(B:Base)->Tree (Ex×St B)} (hR:∀ B (Q:Ex×St B->Prop),(Rs B).holds P Q->(Zp bad N = true->Q (eex,Yg n0 N0 KT KH (ets (Yn bad N 0:Nat) (ZI a0 step (Yn bad N 0))) (eys (Yn bad N 0:Nat) (ZI a0 step (Yn bad N 0)))))/\(Zp bad N = false->Q (ex,Yg n0 N0 KT KH (ts (N:Nat) (ZI a0 step N)) (ys (N:Nat) (ZI a0 step N)))))
  (hy:(ys (0:Nat) a0).map (nfR KR) = ys (0:Nat) a0):(lpG f id n1 n0 N0 KT KH KR (ts (0:Nat) a0) (ys (0:Nat) a0) Rs).Ok P:=by
 refine KM h1 fun hin B s Q hq=>?_
 dsimp only [lpG] at hq hin ⊢
 split at hq
 ·rename_i t bl heq
  cases hsn:Nat.beq s.n n1
  ·rw [hsn] at hq; exact hq.elim
  ·rw [hsn] at hq
   obtain ⟨⟨h2,h3⟩,hq⟩:=hq
   have hr:=hR B Q hq
   exact loop_gen hE hP hin N ts ys ex eex hex hT hc hstep hbad hpre hlv hr.1 hr.2 (Nat.eq_of_beq_eq_true hsn) ⟨by rw [heq],by rw [heq]; exact vEq_le h2,by rw [heq,<- hy]; exact blksEq_le h3⟩
 ·exact hq.elim
theorem YD {n0:Nat} {A:Type} {ts:Int->A->V} {x y:Int} (h:x = y) {v:V} {a:A} (hv:v.soft = (ts x a).soft):Le n0 v (ts y a):=by subst h; exact Le.soft hv
theorem YB {N:Nat} (i:Nat) (h:i<=N):(bif decide ((i:Int) < ((N:Nat):Int)) then false else true) = true↔i = N:=by
 by_cases e:(i:Int) < ((N:Nat):Int)
 ·rw [decide_eq_true e]; exact ⟨fun h=>(by cases h),fun h=>by omega⟩
 ·rw [decide_eq_false e]; exact ⟨fun _=>by omega,fun _=>rfl⟩
section
variable {A:Type} (P:Program) (E:Env) (f:FuncId) (id n1 n0 N0:Nat) (KT:List Nat) (KH:List (Nat×Src)) (KR:List Nat) (ts:Int->A->V) (ys:Int->A->List Blk)
def Yp (c:Int->Bool) (ex:Ex) (R:Int->A->Tree Rd):Prop:=∀ (B:Base) i z,((ev E 400 f (Qu P f id) B (Yg n0 N0 KT KH (ts i z) (ys i z))).bind fun x=>Tree.leaf (x.1,vwR n1 n0 N0 KT KH KR x.2)) = .node (c i) (.leaf (ex,true,ts i z,ys i z)) (R i z)
def lpL (ex eex:Ex) (a0:A) (acc:Nat->A) (bad:Nat->Bool) (N:Nat) (ets:Int->A->V) (eys:Int->A->List Blk):Lp:=lpG f id n1 n0 N0 KT KH KR (ts (0:Nat) a0) (ys (0:Nat) a0) fun _=>
 .node (Zp bad N) (.leaf (eex,Yg n0 N0 KT KH (ets (Yn bad N 0:Nat) (acc (Yn bad N 0))) (eys (Yn bad N 0:Nat) (acc (Yn bad N 0))))) (.leaf (ex,Yg n0 N0 KT KH (ts (N:Nat) (acc N)) (ys (N:Nat) (acc N))))
def lpL0 (ex:Ex) (a0:A) (acc:Nat->A) (N:Nat):Lp:=lpG f id n1 n0 N0 KT KH KR (ts (0:Nat) a0) (ys (0:Nat) a0) fun _=>.leaf (ex,Yg n0 N0 KT KH (ts (N:Nat) (acc N)) (ys (N:Nat) (acc N)))
def lpLR {A B:Type} (ts:Int->A×B×Bool->V) (ys:Int->A×B×Bool->List Blk) (ex:Ex) (a0:A×B×Bool) (acc:Nat->A×B×Bool) (N:Nat):Lp:=lpG f id n1 n0 N0 KT KH KR (ts (0:Nat) a0) (ys (0:Nat) a0) fun _=>
 .node (acc N).2.2 (.leaf (ex,Yg n0 N0 KT KH (ts (N:Nat) (acc N)) (ys (N:Nat) ((acc N).1,(acc N).2.1,true)))) (.leaf (ex,Yg n0 N0 KT KH (ts (N:Nat) (acc N)) (ys (N:Nat) ((acc N).1,(acc N).2.1,false))))
def YP (a0:A) (t:V) (bl:List Blk):Prop:=vEq n0 t (ts (0:Nat) a0)/\Zaj n0 KR bl (ys (0:Nat) a0)
end
section
variable {P:Program} {E:Env} {f:FuncId} {id n1 n0 N0:Nat} {KT:List Nat} {KH:List (Nat×Src)} {KR:List Nat}
theorem Y4 {A:Type} {ts:Int->A->V} {ys:Int->A->List Blk} {ex eex:Ex} {a0:A} {acc:Nat->A} {bad:Nat->Bool} {N:Nat} {ets:Int->A->V} {eys:Int->A->List Blk} (hE:E.Ok) (hP:E.P = P) (h1:U0 P f id = true) {c:Int->Bool} {R:Int->A->Tree Rd} (hT:Yp P E f id n1 n0 N0 KT KH KR ts ys c ex R) (hex:ex ≠ .normal) (hc:∀ i:Nat,i<=N->(c i = true↔i = N))
  {step:Nat->A->A} (hacc:∀ n,acc n = ZI a0 step n) {rd:A->V->List Blk->A} (hstep:∀ (i:Nat) z,(R i z).carry (rd z) z = step i z) (hbad:∀ i:Nat,(R i (ZI a0 step i)).early = bad i) (hy:(ys (0:Nat) a0).map (nfR KR) = ys (0:Nat) a0)
  (hpre:∀ i:Nat,i < N->(∀ j,j < i->bad j = false)->(R i (acc i)).pre) (hlv:∀ (i:Nat) (z:A),i < N->(R i z).leaves (Za6 n0 (ts ((i + 1:Nat):Int)) (ys ((i + 1:Nat):Int)) (rd z) eex (ets i z) (eys i z))):(lpL f id n1 n0 N0 KT KH KR ts ys ex eex a0 acc bad N ets eys).Ok P:=by
 obtain rfl:acc = ZI a0 step:=funext hacc
 exact Zef hE hP h1 N ts ys ex eex hex hT hc (rd:=fun _=>rd) hstep hbad hpre hlv (fun B Q h=>h) hy
theorem Vm {A:Type} {ts:Int->A->V} {ys:Int->A->List Blk} {ex:Ex} {a0:A} {acc:Nat->A} {N:Nat} (hE:E.Ok) (hP:E.P = P) (h1:U0 P f id = true) {c:Int->Bool} {R:Int->A->Tree Rd} (hT:Yp P E f id n1 n0 N0 KT KH KR ts ys c ex R) (hex:ex ≠ .normal) (hc:∀ i:Nat,i<=N->(c i = true↔i = N))
  {step:Nat->A->A} (hacc:∀ n,acc n = ZI a0 step n) {rd:A->V->List Blk->A} (hstep:∀ (i:Nat) z,(R i z).carry (rd z) z = step i z) (hbad:∀ i:Nat,(R i (ZI a0 step i)).early = false) (hy:(ys (0:Nat) a0).map (nfR KR) = ys (0:Nat) a0)
  (hpre:∀ i:Nat,i < N->True->(R i (acc i)).pre) (hlv:∀ (i:Nat) (z:A),i < N->(R i z).leaves (Za6 n0 (ts ((i + 1:Nat):Int)) (ys ((i + 1:Nat):Int)) (rd z) .ret .nil [])):(lpL0 f id n1 n0 N0 KT KH KR ts ys ex a0 acc N).Ok P:=by
 obtain rfl:acc = ZI a0 step:=funext hacc
 exact Zef hE hP h1 N ts ys ex .ret hex hT hc (rd:=fun _=>rd) (ets:=fun _ _=>.nil) (eys:=fun _ _=>[]) (bad:=fun _=>false) hstep hbad (fun i hi _=>hpre i hi trivial) hlv (fun B Q h=>⟨fun h2=>(by rw [VP fun _ _=>rfl] at h2; cases h2),fun _=>h⟩) hy
theorem Zea {A B:Type} {ts:Int->A×B×Bool->V} {ys:Int->A×B×Bool->List Blk} {ex:Ex} {a0:A×B×Bool} {acc:Nat->A×B×Bool} {N:Nat} (hE:E.Ok) (hP:E.P = P) (h1:U0 P f id = true) {c:Int->Bool} {R:Int->A×B×Bool->Tree Rd} (hT:Yp P E f id n1 n0 N0 KT KH KR ts ys c ex R) (hex:ex ≠ .normal) (hc:∀ i:Nat,i<=N->(c i = true↔i = N))
  {step:Nat->A×B×Bool->A×B×Bool} (hacc:∀ n,acc n = ZI a0 step n) {rd:A×B×Bool->V->List Blk->A×B×Bool} (hstep:∀ (i:Nat) z,(R i z).carry (rd z) z = step i z) (hbad:∀ i:Nat,(R i (ZI a0 step i)).early = false) (hy:(ys (0:Nat) a0).map (nfR KR) = ys (0:Nat) a0)
  (hpre:∀ i:Nat,i < N->True->(R i (acc i)).pre) (hlv:∀ (i:Nat) z,i < N->(R i z).leaves (Za6 n0 (ts ((i + 1:Nat):Int)) (ys ((i + 1:Nat):Int)) (rd z) .ret .nil [])):(lpLR f id n1 n0 N0 KT KH KR ts ys ex a0 acc N).Ok P:=by
 obtain rfl:acc = ZI a0 step:=funext hacc
 exact Zef hE hP h1 N ts ys ex .ret hex hT hc (rd:=fun _=>rd) (ets:=fun _ _=>.nil) (eys:=fun _ _=>[]) (bad:=fun _=>false) hstep hbad (fun i hi _=>hpre i hi trivial) hlv (fun B Q h=>⟨fun h2=>(by rw [VP fun _ _=>rfl] at h2; cases h2),fun _=>(by
  cases hfl:(ZI a0 step N).2.2
  ·have h2:=h.2 hfl
   rw [flag3 _ hfl] at h2; exact h2
  ·have h2:=h.1 hfl
   rw [flag3 _ hfl] at h2; exact h2)⟩) hy
theorem exN {i:Nat}:Ex.exit i ≠ .normal:=fun h=>by cases h
theorem hcBy {N:Nat} {q:Int->Prop} [∀ i,Decidable (q i)] (h:∀ i:Nat,i<=N->(q i↔i < N)) (i:Nat) (hi:i<=N):(bif decide (q i) then false else true) = true↔i = N:=by
 by_cases hx:q i
 ·rw [decide_eq_true hx]
  exact ⟨fun h=>(by cases h),fun e=>absurd ((h i hi).1 hx) (by omega)⟩
 ·rw [decide_eq_false hx]
  exact ⟨fun _=>(by
   have h2:¬ i < N:=fun h3=>hx ((h i hi).2 h3)
   omega),fun _=>rfl⟩
end
end Go.Fw
namespace Go.Proofs.YtnjjailadijdlaaGreatDoor
open Go.Fw
abbrev Zae (a:Zb) (i:Int) (z:(Int->Bool)×(Int->Int)):V:=(.cons (.ptr true 0 0 0 0) (.cons .nilptr (.cons (.ptr true 4 0 0 0) (.cons (.rsl false 11 (Zb.n6 a) (fun j=>ZT false (a.r6 j))) (.cons (.int false .i64 (((Zb.n6 a):Nat):Int)) (.cons (.int false .i64 i) .nil))))))
abbrev Zcj (a:Zb) (i:Int) (z:(Int->Bool)×(Int->Int)):List Blk:=[.var (.cons (.int false .i64 (Zb.f0 a)) (.cons (.rsl false 2 (Zb.n1 a) (fun j=>Yk false (a.r1 j))) (.cons (.rsl false 1 (Zb.n2 a) (fun j=>ZW false (a.r2 j))) (.cons (.rsl false 4 (Zb.n3 a) (fun j=>Zm false (a.r3 j))) (.cons (.rsl false 4 (Zb.n4 a) (fun j=>Zk false (a.r4 j))) (.cons (.rsl false 2 (Zb.n5 a) (fun j=>ZE false (a.r5 j))) (.cons (.rsl false 11 (Zb.n6 a) (fun j=>ZT false (a.r6 j))) (.cons (.rsl false 2 (Zb.n7 a) (fun j=>ZN false (a.r7 j))) (.cons (.rsl false 5 (Zb.n8 a) (fun j=>ZG false (a.r8 j))) (.cons (.int false .i64 (Zb.f9 a)) (.cons (.rsl false 2 (Zb.n10 a) (fun j=>Zr false (a.r10 j))) (.cons (.rsl false 3 (Zb.n11 a) (fun j=>Zl false (a.r11 j))) (.cons (.rsl false 2 (Zb.n12 a) (fun j=>Yq false (a.r12 j))) (.cons (.int false .u64 (Zb.f13 a)) .nil)))))))))))))),.Ze (.int .i64) false (fun x=>(z.1 (Za x),.int false .i64 (z.2 (Za x)))) none,.Ze (.int .i64) false (fun (x:Value)=>(false,V.int true IntKind.i64 (0:Int))) none,.Ze (.int .i64) false (fun (x:Value)=>(false,V.int true IntKind.i64 (0:Int))) none,.var (.cons (.int false .i64 (Zb.f0 a)) (.cons (.rsl false 2 (Zb.n1 a) (fun j=>Yk false (a.r1 j))) (.cons (.rsl false 1 (Zb.n2 a) (fun j=>ZW false (a.r2 j))) (.cons (.rsl false 4 (Zb.n3 a) (fun j=>Zm false (a.r3 j))) (.cons (.rsl false 4 (Zb.n4 a) (fun j=>Zk false (a.r4 j))) (.cons (.rsl false 2 (Zb.n5 a) (fun j=>ZE false (a.r5 j))) (.cons (.rsl false 11 (Zb.n6 a) (fun j=>ZT false (a.r6 j))) (.cons (.rsl false 2 (Zb.n7 a) (fun j=>ZN false (a.r7 j))) (.cons (.rsl false 5 (Zb.n8 a) (fun j=>ZG false (a.r8 j))) (.cons (.int false .i64 (Zb.f9 a)) (.cons (.rsl false 2 (Zb.n10 a) (fun j=>Zr false (a.r10 j))) (.cons (.rsl false 3 (Zb.n11 a) (fun j=>Zl false (a.r11 j))) (.cons (.rsl false 2 (Zb.n12 a) (fun j=>Yq false (a.r12 j))) (.cons (.int false .u64 (Zb.f13 a)) (.cons (.mp 1) (.cons (.mp 2) (.cons (.mp 3) .nil)))))))))))))))))]
def lk1_R (a:Zb) (i:Int) (z:(Int->Bool)×(Int->Int)):Tree Rd:=
 let q0:=(V.rsl false 11 a.n6 fun jj=>ZT false (a.13 jj))
 let q1:=(V.rsl false 1 a.n2 fun jj=>V.cons (V.int false .u32 (a.5 jj).f0) V.nil)
 let q2:=(V.rsl false 2 a.n7 fun jj=>ZN false (a.15 jj))
 let q3:=(V.rsl false 2 a.n10 fun jj=>Zr false (a.20 jj))
 let q4:=(V.rsl false 3 a.n11 fun jj=>Zl false (a.22 jj))
 let q5:=(V.rsl false 4 a.n3 fun jj=>Zm false (a.7 jj))
 let q6:=(V.rsl false 2 a.n5 fun jj=>ZE false (a.11 jj))
 let q7:=(V.rsl false 5 a.n8 fun jj=>ZG false (a.17 jj))
 let q8:=(V.rsl false 2 a.n12 fun jj=>Yq false (a.24 jj))
 let q9:=(V.rsl false 2 a.n1 fun jj=>Yk false (a.3 jj))
 let q10:=(V.rsl false 4 a.n4 fun jj=>Zk false (a.9 jj))
 Tree.need ((0:Int)<=i/\i < ((a.n6:Nat):Int)) (Tree.leaf (Ex.normal,true,V.cons (pt 0) (V.cons V.nilptr (V.cons (pt 4) (V.cons q0 (ci ((a.n6:Nat):Int) (ci (IntKind.wrap .i64 (i + (1:Int))) V.nil))))),[Blk.var (ci a.f0 (V.cons q9 (V.cons q1 (V.cons q5 (V.cons q10 (V.cons q6 (V.cons q0 (V.cons q2 (V.cons q7 (ci a.f9 (V.cons q3 (V.cons q4 (V.cons q8 (V.cons (V.int false .u64 a.f13) V.nil)))))))))))))),Blk.Ze (MK.int .i64) false (fun k=>(bif Zj k (Value.int .i64 (a.13 (Int.toNat i)).f0) then true else z.1 (Za k),vi (bif Zj k (Value.int .i64 (a.13 (Int.toNat i)).f0) then i else z.2 (Za k)))) none,Blk.Ze (MK.int .i64) false (fun k=>(false,V.int true .i64 (0:Int))) none,Blk.Ze (MK.int .i64) false (fun k=>(false,V.int true .i64 (0:Int))) none,Blk.var (ci a.f0 (V.cons q9 (V.cons q1 (V.cons q5 (V.cons q10 (V.cons q6 (V.cons q0 (V.cons q2 (V.cons q7 (ci a.f9 (V.cons q3 (V.cons q4 (V.cons q8 (V.cons (V.int false .u64 a.f13) (V.cons (V.mp 1) (V.cons (V.mp 2) (V.cons (V.mp 3) V.nil)))))))))))))))))]))
theorem lk1_round (a:Zb):Yp P (Zn P [] [] true) 61 3 5 5 86 [1,2,3,20,21,22] [(0,.own),(1,.own),(2,.own),(3,.own),(4,.own)] [] (Zae a) (Zcj a) (fun i=>(bif decide (i < ((a.n6:Nat):Int)) then false else true)) (.exit 0) (lk1_R a):=fun B i z=>by kernel_rfl
def ZbD (a:Zb) (k:Nat) (z:(Int->Bool)×(Int->Int)):(Int->Bool)×(Int->Int):=(fun (i:Int) (z:(Int->Bool)×(Int->Int))=>(((fun (j_:Int)=>bif j_==(a.13 (Int.toNat i)).f0 then true else z.1 (j_)),(fun (j_:Int)=>bif j_==(a.13 (Int.toNat i)).f0 then i else z.2 (j_))))) k z
def Xu (a:Zb) (k:Nat):(Int->Bool)×(Int->Int):=ZI ((fun (j_:Int)=>(false)),(fun (j_:Int)=>(0:Int))) (ZbD a) k
def lk1_lp (a:Zb):Lp:=lpL0 61 3 5 5 86 [1,2,3,20,21,22] [(0,.own),(1,.own),(2,.own),(3,.own),(4,.own)] [] (Zae a) (Zcj a) (.exit 0) ((fun (j_:Int)=>(false)),(fun (j_:Int)=>(0:Int))) (Xu a) (Zb.n6 a)
def Zgl (a:Zb):Prop:=YP 5 [] (Zae a) (Zcj a) ((fun (j_:Int)=>(false)),(fun (j_:Int)=>(0:Int))) (Zae a (0:Nat) ((fun (j_:Int)=>(false)),(fun (j_:Int)=>(0:Int)))) (Zcj a (0:Nat) ((fun (j_:Int)=>(false)),(fun (j_:Int)=>(0:Int))))
theorem lk1_fit (a:Zb):Zgl a:=⟨rfl,⟨rfl,⟨rfl,fun _=>⟨rfl,rfl⟩⟩,⟨rfl,fun _=>⟨rfl,rfl⟩⟩,⟨rfl,fun _=>⟨rfl,rfl⟩⟩,rfl,trivial⟩⟩
theorem lk1_lp_ok (a:Zb) (hl:(Zb.n6 a)<=1000):(lk1_lp a).Ok P:=by
 refine Vm (Zu hm hn (l:=[]) trivial (ls:=[]) trivial true) rfl (by kernel_rfl) (lk1_round a) exN YB (fun _=>rfl) (rd:=(fun _ t y=>((fun j=>(y.getD 1 .none).hasK .i64 j),(fun j=>(y.getD 1 .none).getI .i64 j)))) (fun i z=>rfl) (fun i=>rfl) rfl (fun i hlt hg=>?_) (fun i z hi=>?_)
 ·have hltI:(i:Int) < (((Zb.n6 a):Nat):Int):=by omega
  refine ⟨?_,trivial⟩
  all_goals (repeat' (first | exact rfl | exact fun _=>⟨rfl,rfl⟩ | apply And.intro | intro _))
  all_goals (try simp only [decide_eq_true_eq,decide_eq_false_iff_not,Bool.not_eq_true',Bool.not_eq_false'] at *)
  all_goals (try simp (disch:=omega) only [IntWalk.i64_in])
  all_goals (first | omega)
 ·have hw:=(IntWalk.i64_in ((i:Int) + 1) ⟨by omega,by omega⟩)
  all_goals exact ⟨rfl,YD (ts:=Zae a) hw rfl,⟨LeK.refl _,Y6 fun a=>⟨rfl,Le.soft rfl⟩,LeK.refl _,LeK.refl _,LeK.refl _,trivial⟩⟩
abbrev ZaE (a:Zb) (i:Int) (z:(Int->Bool)×(Int->Int)):V:=(.cons (.ptr true 0 0 0 0) (.cons .nilptr (.cons (.ptr true 4 0 0 0) (.cons (.rsl false 2 (Zb.n12 a) (fun j=>Yq false (a.r12 j))) (.cons (.int false .i64 (((Zb.n12 a):Nat):Int)) (.cons (.int false .i64 i) .nil))))))
abbrev Zc3 (a:Zb) (i:Int) (z:(Int->Bool)×(Int->Int)):List Blk:=[.var (.cons (.int false .i64 (Zb.f0 a)) (.cons (.rsl false 2 (Zb.n1 a) (fun j=>Yk false (a.r1 j))) (.cons (.rsl false 1 (Zb.n2 a) (fun j=>ZW false (a.r2 j))) (.cons (.rsl false 4 (Zb.n3 a) (fun j=>Zm false (a.r3 j))) (.cons (.rsl false 4 (Zb.n4 a) (fun j=>Zk false (a.r4 j))) (.cons (.rsl false 2 (Zb.n5 a) (fun j=>ZE false (a.r5 j))) (.cons (.rsl false 11 (Zb.n6 a) (fun j=>ZT false (a.r6 j))) (.cons (.rsl false 2 (Zb.n7 a) (fun j=>ZN false (a.r7 j))) (.cons (.rsl false 5 (Zb.n8 a) (fun j=>ZG false (a.r8 j))) (.cons (.int false .i64 (Zb.f9 a)) (.cons (.rsl false 2 (Zb.n10 a) (fun j=>Zr false (a.r10 j))) (.cons (.rsl false 3 (Zb.n11 a) (fun j=>Zl false (a.r11 j))) (.cons (.rsl false 2 (Zb.n12 a) (fun j=>Yq false (a.r12 j))) (.cons (.int false .u64 (Zb.f13 a)) .nil)))))))))))))),.Ze (.int .i64) false (fun (x:Value)=>((Xu a (Zb.n6 a)).1 (Za x),V.int false IntKind.i64 ((Xu a (Zb.n6 a)).2 (Za x)))) none,.Ze (.int .i64) false (fun x=>(z.1 (Za x),.int false .i64 (z.2 (Za x)))) none,.Ze (.int .i64) false (fun (x:Value)=>(false,V.int true IntKind.i64 (0:Int))) none,.var (.cons (.int false .i64 (Zb.f0 a)) (.cons (.rsl false 2 (Zb.n1 a) (fun j=>Yk false (a.r1 j))) (.cons (.rsl false 1 (Zb.n2 a) (fun j=>ZW false (a.r2 j))) (.cons (.rsl false 4 (Zb.n3 a) (fun j=>Zm false (a.r3 j))) (.cons (.rsl false 4 (Zb.n4 a) (fun j=>Zk false (a.r4 j))) (.cons (.rsl false 2 (Zb.n5 a) (fun j=>ZE false (a.r5 j))) (.cons (.rsl false 11 (Zb.n6 a) (fun j=>ZT false (a.r6 j))) (.cons (.rsl false 2 (Zb.n7 a) (fun j=>ZN false (a.r7 j))) (.cons (.rsl false 5 (Zb.n8 a) (fun j=>ZG false (a.r8 j))) (.cons (.int false .i64 (Zb.f9 a)) (.cons (.rsl false 2 (Zb.n10 a) (fun j=>Zr false (a.r10 j))) (.cons (.rsl false 3 (Zb.n11 a) (fun j=>Zl false (a.r11 j))) (.cons (.rsl false 2 (Zb.n12 a) (fun j=>Yq false (a.r12 j))) (.cons (.int false .u64 (Zb.f13 a)) (.cons (.mp 1) (.cons (.mp 2) (.cons (.mp 3) .nil)))))))))))))))))]
def lk2_R (a:Zb) (i:Int) (z:(Int->Bool)×(Int->Int)):Tree Rd:=
 let q0:=(V.rsl false 2 a.n12 fun jj=>Yq false (a.24 jj))
 let q1:=(V.rsl false 1 a.n2 fun jj=>V.cons (V.int false .u32 (a.5 jj).f0) V.nil)
 let q2:=(V.rsl false 2 a.n7 fun jj=>ZN false (a.15 jj))
 let q3:=(V.rsl false 2 a.n10 fun jj=>Zr false (a.20 jj))
 let q4:=(V.rsl false 3 a.n11 fun jj=>Zl false (a.22 jj))
 let q5:=(V.rsl false 4 a.n3 fun jj=>Zm false (a.7 jj))
 let q6:=(V.rsl false 2 a.n5 fun jj=>ZE false (a.11 jj))
 let q7:=(V.rsl false 11 a.n6 fun jj=>ZT false (a.13 jj))
 let q8:=(V.rsl false 5 a.n8 fun jj=>ZG false (a.17 jj))
 let q9:=(V.rsl false 2 a.n1 fun jj=>Yk false (a.3 jj))
 let q10:=(V.rsl false 4 a.n4 fun jj=>Zk false (a.9 jj))
 Tree.need ((0:Int)<=i/\i < ((a.n12:Nat):Int)) (Tree.leaf (Ex.normal,true,V.cons (pt 0) (V.cons V.nilptr (V.cons (pt 4) (V.cons q0 (ci ((a.n12:Nat):Int) (ci (IntKind.wrap .i64 (i + (1:Int))) V.nil))))),[Blk.var (ci a.f0 (V.cons q9 (V.cons q1 (V.cons q5 (V.cons q10 (V.cons q6 (V.cons q7 (V.cons q2 (V.cons q8 (ci a.f9 (V.cons q3 (V.cons q4 (V.cons q0 (V.cons (V.int false .u64 a.f13) V.nil)))))))))))))),Blk.Ze (MK.int .i64) false (fun k=>((Xu a a.n6).1 (Za k),vi ((Xu a a.n6).2 (Za k)))) none,Blk.Ze (MK.int .i64) false (fun k=>(bif Zj k (Value.int .i64 (a.24 (Int.toNat i)).f0) then true else z.1 (Za k),vi (bif Zj k (Value.int .i64 (a.24 (Int.toNat i)).f0) then (a.24 (Int.toNat i)).f1 else z.2 (Za k)))) none,Blk.Ze (MK.int .i64) false (fun k=>(false,V.int true .i64 (0:Int))) none,Blk.var (ci a.f0 (V.cons q9 (V.cons q1 (V.cons q5 (V.cons q10 (V.cons q6 (V.cons q7 (V.cons q2 (V.cons q8 (ci a.f9 (V.cons q3 (V.cons q4 (V.cons q0 (V.cons (V.int false .u64 a.f13) (V.cons (V.mp 1) (V.cons (V.mp 2) (V.cons (V.mp 3) V.nil)))))))))))))))))]))
theorem lk2_round (a:Zb):Yp P (Zn P [] [] true) 61 8 5 5 86 [1,2,3,36,37,38] [(0,.own),(1,.own),(2,.own),(3,.own),(4,.own)] [] (ZaE a) (Zc3 a) (fun i=>(bif decide (i < ((a.n12:Nat):Int)) then false else true)) (.exit 2) (lk2_R a):=fun B i z=>by kernel_rfl
def ZhV (a:Zb) (k:Nat) (z:(Int->Bool)×(Int->Int)):(Int->Bool)×(Int->Int):=(fun (i:Int) (z:(Int->Bool)×(Int->Int))=>(((fun (j_:Int)=>bif j_==(a.24 (Int.toNat i)).f0 then true else z.1 (j_)),(fun (j_:Int)=>bif j_==(a.24 (Int.toNat i)).f0 then (a.24 (Int.toNat i)).f1 else z.2 (j_))))) k z
def JF (a:Zb) (k:Nat):(Int->Bool)×(Int->Int):=ZI ((fun (j_:Int)=>(false)),(fun (j_:Int)=>(0:Int))) (ZhV a) k
def lk2_lp (a:Zb):Lp:=lpL0 61 8 5 5 86 [1,2,3,36,37,38] [(0,.own),(1,.own),(2,.own),(3,.own),(4,.own)] [] (ZaE a) (Zc3 a) (.exit 2) ((fun (j_:Int)=>(false)),(fun (j_:Int)=>(0:Int))) (JF a) (Zb.n12 a)
def ZhP (a:Zb):Prop:=YP 5 [] (ZaE a) (Zc3 a) ((fun (j_:Int)=>(false)),(fun (j_:Int)=>(0:Int))) (ZaE a (0:Nat) ((fun (j_:Int)=>(false)),(fun (j_:Int)=>(0:Int)))) (Zc3 a (0:Nat) ((fun (j_:Int)=>(false)),(fun (j_:Int)=>(0:Int))))
theorem lk2_fit (a:Zb):ZhP a:=⟨rfl,⟨rfl,⟨rfl,fun _=>⟨rfl,rfl⟩⟩,⟨rfl,fun _=>⟨rfl,rfl⟩⟩,⟨rfl,fun _=>⟨rfl,rfl⟩⟩,rfl,trivial⟩⟩
theorem lk2_lp_ok (a:Zb) (hl:(Zb.n12 a)<=1000):(lk2_lp a).Ok P:=by
 refine Vm (Zu hm hn (l:=[]) trivial (ls:=[]) trivial true) rfl (by kernel_rfl) (lk2_round a) exN YB (fun _=>rfl) (rd:=(fun _ t y=>((fun j=>(y.getD 2 .none).hasK .i64 j),(fun j=>(y.getD 2 .none).getI .i64 j)))) (fun i z=>rfl) (fun i=>rfl) rfl (fun i hlt hg=>?_) (fun i z hi=>?_)
 ·have hltI:(i:Int) < (((Zb.n12 a):Nat):Int):=by omega
  refine ⟨?_,trivial⟩
  all_goals (repeat' (first | exact rfl | exact fun _=>⟨rfl,rfl⟩ | apply And.intro | intro _))
  all_goals (try simp only [decide_eq_true_eq,decide_eq_false_iff_not,Bool.not_eq_true',Bool.not_eq_false'] at *)
  all_goals (try simp (disch:=omega) only [IntWalk.i64_in])
  all_goals (first | omega)
 ·have hw:=(IntWalk.i64_in ((i:Int) + 1) ⟨by omega,by omega⟩)
  all_goals exact ⟨rfl,YD (ts:=ZaE a) hw rfl,⟨LeK.refl _,LeK.refl _,Y6 fun a=>⟨rfl,Le.soft rfl⟩,LeK.refl _,LeK.refl _,trivial⟩⟩
abbrev ZaH (a:Zb) (i:Int) (z:(Int->Bool)×(Int->Int)):V:=(.cons (.ptr true 0 0 0 0) (.cons .nilptr (.cons (.ptr true 4 0 0 0) (.cons (.mp 5) (.cons (.rsl false 4 (Zb.n3 a) (fun j=>Zm false (a.r3 j))) (.cons (.int false .i64 (((Zb.n3 a):Nat):Int)) (.cons (.int false .i64 i) .nil)))))))
abbrev ZdX (a:Zb) (i:Int) (z:(Int->Bool)×(Int->Int)):List Blk:=[.var (.cons (.int false .i64 (Zb.f0 a)) (.cons (.rsl false 2 (Zb.n1 a) (fun j=>Yk false (a.r1 j))) (.cons (.rsl false 1 (Zb.n2 a) (fun j=>ZW false (a.r2 j))) (.cons (.rsl false 4 (Zb.n3 a) (fun j=>Zm false (a.r3 j))) (.cons (.rsl false 4 (Zb.n4 a) (fun j=>Zk false (a.r4 j))) (.cons (.rsl false 2 (Zb.n5 a) (fun j=>ZE false (a.r5 j))) (.cons (.rsl false 11 (Zb.n6 a) (fun j=>ZT false (a.r6 j))) (.cons (.rsl false 2 (Zb.n7 a) (fun j=>ZN false (a.r7 j))) (.cons (.rsl false 5 (Zb.n8 a) (fun j=>ZG false (a.r8 j))) (.cons (.int false .i64 (Zb.f9 a)) (.cons (.rsl false 2 (Zb.n10 a) (fun j=>Zr false (a.r10 j))) (.cons (.rsl false 3 (Zb.n11 a) (fun j=>Zl false (a.r11 j))) (.cons (.rsl false 2 (Zb.n12 a) (fun j=>Yq false (a.r12 j))) (.cons (.int false .u64 (Zb.f13 a)) .nil)))))))))))))),.Ze (.int .i64) false (fun (x:Value)=>((Xu a (Zb.n6 a)).1 (Za x),V.int false IntKind.i64 ((Xu a (Zb.n6 a)).2 (Za x)))) none,.Ze (.int .i64) false (fun (x:Value)=>((JF a (Zb.n12 a)).1 (Za x),V.int false IntKind.i64 ((JF a (Zb.n12 a)).2 (Za x)))) none,.Ze (.int .i64) false (fun (x:Value)=>(false,V.int true IntKind.i64 (0:Int))) none,.var (.cons (.int false .i64 (Zb.f0 a)) (.cons (.rsl false 2 (Zb.n1 a) (fun j=>Yk false (a.r1 j))) (.cons (.rsl false 1 (Zb.n2 a) (fun j=>ZW false (a.r2 j))) (.cons (.rsl false 4 (Zb.n3 a) (fun j=>Zm false (a.r3 j))) (.cons (.rsl false 4 (Zb.n4 a) (fun j=>Zk false (a.r4 j))) (.cons (.rsl false 2 (Zb.n5 a) (fun j=>ZE false (a.r5 j))) (.cons (.rsl false 11 (Zb.n6 a) (fun j=>ZT false (a.r6 j))) (.cons (.rsl false 2 (Zb.n7 a) (fun j=>ZN false (a.r7 j))) (.cons (.rsl false 5 (Zb.n8 a) (fun j=>ZG false (a.r8 j))) (.cons (.int false .i64 (Zb.f9 a)) (.cons (.rsl false 2 (Zb.n10 a) (fun j=>Zr false (a.r10 j))) (.cons (.rsl false 3 (Zb.n11 a) (fun j=>Zl false (a.r11 j))) (.cons (.rsl false 2 (Zb.n12 a) (fun j=>Yq false (a.r12 j))) (.cons (.int false .u64 (Zb.f13 a)) (.cons (.mp 1) (.cons (.mp 2) (.cons (.mp 3) .nil))))))))))))))))),.Ze (.int .i64) false (fun x=>(z.1 (Za x),.int false .i64 (z.2 (Za x)))) none]
def lk3_R (a:Zb) (i:Int) (z:(Int->Bool)×(Int->Int)):Tree Rd:=
 let q0:=(V.rsl false 4 a.n3 fun jj=>Zm false (a.7 jj))
 let q1:=(V.rsl false 1 a.n2 fun jj=>V.cons (V.int false .u32 (a.5 jj).f0) V.nil)
 let q2:=(V.rsl false 2 a.n7 fun jj=>ZN false (a.15 jj))
 let q3:=(V.rsl false 2 a.n10 fun jj=>Zr false (a.20 jj))
 let q4:=(V.rsl false 3 a.n11 fun jj=>Zl false (a.22 jj))
 let q5:=(V.rsl false 2 a.n5 fun jj=>ZE false (a.11 jj))
 let q6:=(V.rsl false 11 a.n6 fun jj=>ZT false (a.13 jj))
 let q7:=(V.rsl false 5 a.n8 fun jj=>ZG false (a.17 jj))
 let q8:=(V.rsl false 2 a.n12 fun jj=>Yq false (a.24 jj))
 let q9:=(V.rsl false 2 a.n1 fun jj=>Yk false (a.3 jj))
 let q10:=(V.rsl false 4 a.n4 fun jj=>Zk false (a.9 jj))
 Tree.need ((0:Int)<=i/\i < ((a.n3:Nat):Int)) (Tree.leaf (Ex.normal,true,V.cons (pt 0) (V.cons V.nilptr (V.cons (pt 4) (V.cons (V.mp 5) (V.cons q0 (ci ((a.n3:Nat):Int) (ci (IntKind.wrap .i64 (i + (1:Int))) V.nil)))))),[Blk.var (ci a.f0 (V.cons q9 (V.cons q1 (V.cons q0 (V.cons q10 (V.cons q5 (V.cons q6 (V.cons q2 (V.cons q7 (ci a.f9 (V.cons q3 (V.cons q4 (V.cons q8 (V.cons (V.int false .u64 a.f13) V.nil)))))))))))))),Blk.Ze (MK.int .i64) false (fun k=>((Xu a a.n6).1 (Za k),vi ((Xu a a.n6).2 (Za k)))) none,Blk.Ze (MK.int .i64) false (fun k=>((JF a a.n12).1 (Za k),vi ((JF a a.n12).2 (Za k)))) none,Blk.Ze (MK.int .i64) false (fun k=>(false,V.int true .i64 (0:Int))) none,Blk.var (ci a.f0 (V.cons q9 (V.cons q1 (V.cons q0 (V.cons q10 (V.cons q5 (V.cons q6 (V.cons q2 (V.cons q7 (ci a.f9 (V.cons q3 (V.cons q4 (V.cons q8 (V.cons (V.int false .u64 a.f13) (V.cons (V.mp 1) (V.cons (V.mp 2) (V.cons (V.mp 3) V.nil))))))))))))))))),Blk.Ze (MK.int .i64) false (fun k=>(bif Zj k (Value.int .i64 (a.7 (Int.toNat i)).f0) then true else z.1 (Za k),vi (bif Zj k (Value.int .i64 (a.7 (Int.toNat i)).f0) then i else z.2 (Za k)))) none]))
theorem lk3_round (a:Zb):Yp P (Zn P [] [] true) 61 14 6 6 86 [1,2,3,8,54,55,56] [(0,.own),(1,.own),(2,.own),(3,.own),(4,.own),(5,.own)] [] (ZaH a) (ZdX a) (fun i=>(bif decide (i < ((a.n3:Nat):Int)) then false else true)) (.exit 4) (lk3_R a):=fun B i z=>by kernel_rfl
def Zb7 (a:Zb) (k:Nat) (z:(Int->Bool)×(Int->Int)):(Int->Bool)×(Int->Int):=(fun (i:Int) (z:(Int->Bool)×(Int->Int))=>(((fun (j_:Int)=>bif j_==(a.7 (Int.toNat i)).f0 then true else z.1 (j_)),(fun (j_:Int)=>bif j_==(a.7 (Int.toNat i)).f0 then i else z.2 (j_))))) k z
def Xg (a:Zb) (k:Nat):(Int->Bool)×(Int->Int):=ZI ((fun (j_:Int)=>(false)),(fun (j_:Int)=>(0:Int))) (Zb7 a) k
def lk3_lp (a:Zb):Lp:=lpL0 61 14 6 6 86 [1,2,3,8,54,55,56] [(0,.own),(1,.own),(2,.own),(3,.own),(4,.own),(5,.own)] [] (ZaH a) (ZdX a) (.exit 4) ((fun (j_:Int)=>(false)),(fun (j_:Int)=>(0:Int))) (Xg a) (Zb.n3 a)
def Zf9 (a:Zb):Prop:=YP 6 [] (ZaH a) (ZdX a) ((fun (j_:Int)=>(false)),(fun (j_:Int)=>(0:Int))) (ZaH a (0:Nat) ((fun (j_:Int)=>(false)),(fun (j_:Int)=>(0:Int)))) (ZdX a (0:Nat) ((fun (j_:Int)=>(false)),(fun (j_:Int)=>(0:Int))))
theorem lk3_fit (a:Zb):Zf9 a:=⟨rfl,⟨rfl,⟨rfl,fun _=>⟨rfl,rfl⟩⟩,⟨rfl,fun _=>⟨rfl,rfl⟩⟩,⟨rfl,fun _=>⟨rfl,rfl⟩⟩,rfl,⟨rfl,fun _=>⟨rfl,rfl⟩⟩,trivial⟩⟩
theorem lk3_lp_ok (a:Zb) (hl:(Zb.n3 a)<=1000):(lk3_lp a).Ok P:=by
 refine Vm (Zu hm hn (l:=[]) trivial (ls:=[]) trivial true) rfl (by kernel_rfl) (lk3_round a) exN YB (fun _=>rfl) (rd:=(fun _ t y=>((fun j=>(y.getD 5 .none).hasK .i64 j),(fun j=>(y.getD 5 .none).getI .i64 j)))) (fun i z=>rfl) (fun i=>rfl) rfl (fun i hlt hg=>?_) (fun i z hi=>?_)
 ·have hltI:(i:Int) < (((Zb.n3 a):Nat):Int):=by omega
  refine ⟨?_,trivial⟩
  all_goals (repeat' (first | exact rfl | exact fun _=>⟨rfl,rfl⟩ | apply And.intro | intro _))
  all_goals (try simp only [decide_eq_true_eq,decide_eq_false_iff_not,Bool.not_eq_true',Bool.not_eq_false'] at *)
  all_goals (try simp (disch:=omega) only [IntWalk.i64_in])
  all_goals (first | omega)
 ·have hw:=(IntWalk.i64_in ((i:Int) + 1) ⟨by omega,by omega⟩)
  all_goals exact ⟨rfl,YD (ts:=ZaH a) hw rfl,⟨LeK.refl _,LeK.refl _,LeK.refl _,LeK.refl _,LeK.refl _,Y6 fun a=>⟨rfl,Le.soft rfl⟩,trivial⟩⟩
abbrev ZbF (a:Zb) (i:Int) (z:(Int->Bool)×(Int->Int)):V:=(.cons .nilptr (.cons (.ptr true 4 0 0 0) (.cons (.mp 5) (.cons (.rsl false 4 (Zb.n4 a) (fun j=>Zk false (a.r4 j))) (.cons (.int false .i64 (((Zb.n4 a):Nat):Int)) (.cons (.int false .i64 i) .nil))))))
abbrev Zdd (a:Zb) (i:Int) (z:(Int->Bool)×(Int->Int)):List Blk:=[.var (.cons (.int false .i64 (Zb.f0 a)) (.cons (.rsl false 2 (Zb.n1 a) (fun j=>Yk false (a.r1 j))) (.cons (.rsl false 1 (Zb.n2 a) (fun j=>ZW false (a.r2 j))) (.cons (.rsl false 4 (Zb.n3 a) (fun j=>Zm false (a.r3 j))) (.cons (.rsl false 4 (Zb.n4 a) (fun j=>Zk false (a.r4 j))) (.cons (.rsl false 2 (Zb.n5 a) (fun j=>ZE false (a.r5 j))) (.cons (.rsl false 11 (Zb.n6 a) (fun j=>ZT false (a.r6 j))) (.cons (.rsl false 2 (Zb.n7 a) (fun j=>ZN false (a.r7 j))) (.cons (.rsl false 5 (Zb.n8 a) (fun j=>ZG false (a.r8 j))) (.cons (.int false .i64 (Zb.f9 a)) (.cons (.rsl false 2 (Zb.n10 a) (fun j=>Zr false (a.r10 j))) (.cons (.rsl false 3 (Zb.n11 a) (fun j=>Zl false (a.r11 j))) (.cons (.rsl false 2 (Zb.n12 a) (fun j=>Yq false (a.r12 j))) (.cons (.int false .u64 (Zb.f13 a)) .nil)))))))))))))),.Ze (.int .i64) false (fun (x:Value)=>((Xu a (Zb.n6 a)).1 (Za x),V.int false IntKind.i64 ((Xu a (Zb.n6 a)).2 (Za x)))) none,.Ze (.int .i64) false (fun (x:Value)=>((JF a (Zb.n12 a)).1 (Za x),V.int false IntKind.i64 ((JF a (Zb.n12 a)).2 (Za x)))) none,.Ze (.int .i64) false (fun x=>(z.1 (Za x),.int false .i64 (z.2 (Za x)))) none,.var (.cons (.int false .i64 (Zb.f0 a)) (.cons (.rsl false 2 (Zb.n1 a) (fun j=>Yk false (a.r1 j))) (.cons (.rsl false 1 (Zb.n2 a) (fun j=>ZW false (a.r2 j))) (.cons (.rsl false 4 (Zb.n3 a) (fun j=>Zm false (a.r3 j))) (.cons (.rsl false 4 (Zb.n4 a) (fun j=>Zk false (a.r4 j))) (.cons (.rsl false 2 (Zb.n5 a) (fun j=>ZE false (a.r5 j))) (.cons (.rsl false 11 (Zb.n6 a) (fun j=>ZT false (a.r6 j))) (.cons (.rsl false 2 (Zb.n7 a) (fun j=>ZN false (a.r7 j))) (.cons (.rsl false 5 (Zb.n8 a) (fun j=>ZG false (a.r8 j))) (.cons (.int false .i64 (Zb.f9 a)) (.cons (.rsl false 2 (Zb.n10 a) (fun j=>Zr false (a.r10 j))) (.cons (.rsl false 3 (Zb.n11 a) (fun j=>Zl false (a.r11 j))) (.cons (.rsl false 2 (Zb.n12 a) (fun j=>Yq false (a.r12 j))) (.cons (.int false .u64 (Zb.f13 a)) (.cons (.mp 1) (.cons (.mp 2) (.cons (.mp 3) .nil))))))))))))))))),.Ze (.int .i64) false (fun (x:Value)=>((Xg a (Zb.n3 a)).1 (Za x),V.int false IntKind.i64 ((Xg a (Zb.n3 a)).2 (Za x)))) none]
def lk4_R (a:Zb) (i:Int) (z:(Int->Bool)×(Int->Int)):Tree Rd:=
 let q0:=(V.rsl false 4 a.n4 fun jj=>Zk false (a.9 jj))
 let q1:=(V.rsl false 1 a.n2 fun jj=>V.cons (V.int false .u32 (a.5 jj).f0) V.nil)
 let q2:=(V.rsl false 2 a.n7 fun jj=>ZN false (a.15 jj))
 let q3:=(V.rsl false 2 a.n10 fun jj=>Zr false (a.20 jj))
 let q4:=(V.rsl false 3 a.n11 fun jj=>Zl false (a.22 jj))
 let q5:=(V.rsl false 4 a.n3 fun jj=>Zm false (a.7 jj))
 let q6:=(V.rsl false 2 a.n5 fun jj=>ZE false (a.11 jj))
 let q7:=(V.rsl false 11 a.n6 fun jj=>ZT false (a.13 jj))
 let q8:=(V.rsl false 5 a.n8 fun jj=>ZG false (a.17 jj))
 let q9:=(V.rsl false 2 a.n12 fun jj=>Yq false (a.24 jj))
 let q10:=(V.rsl false 2 a.n1 fun jj=>Yk false (a.3 jj))
 Tree.need ((0:Int)<=i/\i < ((a.n4:Nat):Int)) (Tree.leaf (Ex.normal,true,V.cons V.nilptr (V.cons (pt 4) (V.cons (V.mp 5) (V.cons q0 (ci ((a.n4:Nat):Int) (ci (IntKind.wrap .i64 (i + (1:Int))) V.nil))))),[Blk.var (ci a.f0 (V.cons q10 (V.cons q1 (V.cons q5 (V.cons q0 (V.cons q6 (V.cons q7 (V.cons q2 (V.cons q8 (ci a.f9 (V.cons q3 (V.cons q4 (V.cons q9 (V.cons (V.int false .u64 a.f13) V.nil)))))))))))))),Blk.Ze (MK.int .i64) false (fun k=>((Xu a a.n6).1 (Za k),vi ((Xu a a.n6).2 (Za k)))) none,Blk.Ze (MK.int .i64) false (fun k=>((JF a a.n12).1 (Za k),vi ((JF a a.n12).2 (Za k)))) none,Blk.Ze (MK.int .i64) false (fun k=>(bif Zj k (Value.int .i64 (a.9 (Int.toNat i)).f0) then true else z.1 (Za k),vi (bif Zj k (Value.int .i64 (a.9 (Int.toNat i)).f0) then bif (Xg a a.n3).1 (a.9 (Int.toNat i)).f1 then (Xg a a.n3).2 (a.9 (Int.toNat i)).f1 else (0:Int) else z.2 (Za k)))) none,Blk.var (ci a.f0 (V.cons q10 (V.cons q1 (V.cons q5 (V.cons q0 (V.cons q6 (V.cons q7 (V.cons q2 (V.cons q8 (ci a.f9 (V.cons q3 (V.cons q4 (V.cons q9 (V.cons (V.int false .u64 a.f13) (V.cons (V.mp 1) (V.cons (V.mp 2) (V.cons (V.mp 3) V.nil))))))))))))))))),Blk.Ze (MK.int .i64) false (fun k=>((Xg a a.n3).1 (Za k),vi ((Xg a a.n3).2 (Za k)))) none]))
theorem lk4_round (a:Zb):Yp P (Zn P [] [] true) 61 19 6 6 86 [2,3,8,68,69,70] [(0,.own),(1,.own),(2,.own),(3,.own),(4,.own),(5,.own)] [] (ZbF a) (Zdd a) (fun i=>(bif decide (i < ((a.n4:Nat):Int)) then false else true)) (.exit 6) (lk4_R a):=fun B i z=>by kernel_rfl
def Zcl (a:Zb) (k:Nat) (z:(Int->Bool)×(Int->Int)):(Int->Bool)×(Int->Int):=(fun (i:Int) (z:(Int->Bool)×(Int->Int))=>(((fun (j_:Int)=>bif j_==(a.9 (Int.toNat i)).f0 then true else z.1 (j_)),(fun (j_:Int)=>bif j_==(a.9 (Int.toNat i)).f0 then bif (Xg a a.n3).1 (a.9 (Int.toNat i)).f1 then (Xg a a.n3).2 (a.9 (Int.toNat i)).f1 else (0:Int) else z.2 (j_))))) k z
def WV (a:Zb) (k:Nat):(Int->Bool)×(Int->Int):=ZI ((fun (j_:Int)=>(false)),(fun (j_:Int)=>(0:Int))) (Zcl a) k
def lk4_lp (a:Zb):Lp:=lpL0 61 19 6 6 86 [2,3,8,68,69,70] [(0,.own),(1,.own),(2,.own),(3,.own),(4,.own),(5,.own)] [] (ZbF a) (Zdd a) (.exit 6) ((fun (j_:Int)=>(false)),(fun (j_:Int)=>(0:Int))) (WV a) (Zb.n4 a)
def Zhy (a:Zb):Prop:=YP 6 [] (ZbF a) (Zdd a) ((fun (j_:Int)=>(false)),(fun (j_:Int)=>(0:Int))) (ZbF a (0:Nat) ((fun (j_:Int)=>(false)),(fun (j_:Int)=>(0:Int)))) (Zdd a (0:Nat) ((fun (j_:Int)=>(false)),(fun (j_:Int)=>(0:Int))))
theorem lk4_fit (a:Zb):Zhy a:=⟨rfl,⟨rfl,⟨rfl,fun _=>⟨rfl,rfl⟩⟩,⟨rfl,fun _=>⟨rfl,rfl⟩⟩,⟨rfl,fun _=>⟨rfl,rfl⟩⟩,rfl,⟨rfl,fun _=>⟨rfl,rfl⟩⟩,trivial⟩⟩
theorem lk4_lp_ok (a:Zb) (hl:(Zb.n4 a)<=1000):(lk4_lp a).Ok P:=by
 refine Vm (Zu hm hn (l:=[]) trivial (ls:=[]) trivial true) rfl (by kernel_rfl) (lk4_round a) exN YB (fun _=>rfl) (rd:=(fun _ t y=>((fun j=>(y.getD 3 .none).hasK .i64 j),(fun j=>(y.getD 3 .none).getI .i64 j)))) (fun i z=>rfl) (fun i=>rfl) rfl (fun i hlt hg=>?_) (fun i z hi=>?_)
 ·have hltI:(i:Int) < (((Zb.n4 a):Nat):Int):=by omega
  refine ⟨?_,trivial⟩
  all_goals (repeat' (first | exact rfl | exact fun _=>⟨rfl,rfl⟩ | apply And.intro | intro _))
  all_goals (try simp only [decide_eq_true_eq,decide_eq_false_iff_not,Bool.not_eq_true',Bool.not_eq_false'] at *)
  all_goals (try simp (disch:=omega) only [IntWalk.i64_in])
  all_goals (first | omega)
 ·have hw:=(IntWalk.i64_in ((i:Int) + 1) ⟨by omega,by omega⟩)
  all_goals exact ⟨rfl,YD (ts:=ZbF a) hw rfl,⟨LeK.refl _,LeK.refl _,LeK.refl _,Y6 fun a=>⟨rfl,Le.soft rfl⟩,LeK.refl _,LeK.refl _,trivial⟩⟩
def Zh (a:Zb):Zc:=⟨a,(Xu a a.n6).1,(Xu a a.n6).2,(JF a a.n12).1,(JF a a.n12).2,(WV a a.n4).1,(WV a a.n4).2⟩
theorem look_tree (a:Zb):evH (Zn P [] [lk1_lp a,lk2_lp a,lk3_lp a,lk4_lp a] true) 400 61 (.cons (.agg (Zt false a)) .nil) [] =
  .need (Zgl a) (.need (ZhP a) (.need (Zf9 a) (.need (Zhy a) (.leaf (.ptr true 0 0 0 0,ZV (Zh a)))))):=by kernel_rfl
theorem look_at (a:Zb) (h3:a.n3<=1000) (h4:a.n4<=1000) (h6:a.n6<=1000) (h12:a.n12<=1000):Xb P 61 (.cons (.agg (Zt false a)) .nil) [] (.leaf (.ptr true 0 0 0 0,ZV (Zh a))):=by
 refine hk_at (Zu hm hn (l:=[]) trivial (ls:=[lk1_lp a,lk2_lp a,lk3_lp a,lk4_lp a]) ⟨lk1_lp_ok a h6,lk2_lp_ok a h12,lk3_lp_ok a h3,lk4_lp_ok a h4,trivial⟩ true) 400 fun Q hQ=>?_
 rw [look_tree]
 exact ⟨lk1_fit a,lk2_fit a,lk3_fit a,lk4_fit a,_,hQ,rfl,rfl⟩
def Ux:HK:=fun args bl=>match args,bl with
 | .cons (.agg c) .nil,[]=>some (.need (c.soft = Zt false (Qm c)/\(Qm c).n3<=1000/\(Qm c).n4<=1000/\(Qm c).n6<=1000/\(Qm c).n12<=1000) (.leaf (.ptr true 0 0 0 0,ZV (Zh (Qm c)))))
 | _,_=>none
theorem look_ok:Xj P 61 Ux:=by
 intro args bl T hT
 unfold Ux at hT
 split at hT
 ·rename_i c
  injection hT with hT
  subst hT
  intro base mm F w xs Q KK h1 h2 hq hk
  obtain ⟨⟨hc,h3,h4,h6,h12⟩,hq⟩:=hq
  have h2':=((Y7 (.cons (.agg c) .nil) 0 mm).2 xs.toList).2 h2
  rw [show V.soft (.cons (.agg c) .nil) = .cons (.agg c.soft) .nil from rfl,hc] at h2'
  exact look_at _ h3 h4 h6 h12 base mm F w xs Q KK h1 h2' hq hk
 ·cases hT
abbrev rd_ts (an:Nat) (a:Nat->Yo) (i:Int) (z:Unit):V:=(.cons (.rsl false 4 an (fun jj=>V.cons (V.int false IntKind.i64 (Yo.f0 (a jj))) (V.cons (V.int false IntKind.i64 (Yo.f1 (a jj))) (V.cons (V.int false IntKind.i64 (Yo.f2 (a jj))) (V.cons (V.int false IntKind.i64 (Yo.f3 (a jj))) V.nil))))) (.cons (.fn (Fn.func (240:FuncId)) .nil .nil) (.cons (.bool true false) (.cons (.int false .i64 (i + 1)) .nil))))
abbrev rd_ys (an:Nat) (a:Nat->Yo) (i:Int) (z:Unit):List Blk:=[]
def rd_R (an:Nat) (a:Nat->Yo) (i:Int) (z:Unit):Tree Rd:=
 let q0:=(V.rsl false 4 an fun jj=>Zm false (a jj))
 let q1:=(i + (1:Int) - (1:Int))
 Tree.need (((0:Int)<=IntKind.wrap .i64 q1/\IntKind.wrap .i64 q1 < (an:Int))/\(0:Int)<=i + (1:Int)/\i + (1:Int) < (an:Int)) (Tree.node (bif bif decide ((a (Int.toNat (IntKind.wrap .i64 q1))).f0 >= (a (Int.toNat (i + (1:Int)))).f0) then true else false then true else false) (Tree.leaf (Ex.ret,true,V.cons q0 (V.cons (V.fn (Fn.func (240:FuncId)) V.nil V.nil) (V.cons (V.bool true false) (ci (i + (1:Int)) V.nil))),[])) (Tree.leaf (Ex.normal,true,V.cons q0 (V.cons (V.fn (Fn.func (240:FuncId)) V.nil V.nil) (V.cons (V.bool true false) (ci (IntKind.wrap .i64 (i + (1:Int) + (1:Int))) V.nil))),[])))
theorem rd_round (an:Nat) (a:Nat->Yo):Yp P (Zn P [] [] true) 239 2 0 0 26 [0,1,4,5] [] [] (rd_ts an a) (rd_ys an a) (fun i=>(bif decide (i + (1:Int) < (an:Int)) then false else true)) (.exit 0) (rd_R an a):=fun B i z=>by kernel_rfl
def rd_bad (an:Nat) (a:Nat->Yo) (k:Nat):Bool:=(rd_R an a k ()).early
abbrev rd_ets (an:Nat) (a:Nat->Yo) (i:Int) (z:Unit):V:=(.cons (V.rsl false 4 an fun jj=>Zm false (a jj)) (.cons (V.fn (Fn.func (240:FuncId)) V.nil V.nil) (.cons (V.bool true false) (.cons .junk .nil))))
def rd_lp (an:Nat) (a:Nat->Yo):Lp:=lpL 239 2 0 0 26 [0,1,4,5] [] [] (rd_ts an a) (rd_ys an a) (.exit 0) .ret () (fun _=>()) (rd_bad an a) (an - 1) (rd_ets an a) (rd_ys an a)
def rd_need (an:Nat) (a:Nat->Yo):Prop:=YP 0 [] (rd_ts an a) (rd_ys an a) () (rd_ts an a (0:Nat) ()) (rd_ys an a (0:Nat) ())
theorem rd_fit (an:Nat) (a:Nat->Yo):rd_need an a:=⟨rfl,trivial⟩
theorem rd_lp_ok (an:Nat) (a:Nat->Yo) (hl:an<=1000):(rd_lp an a).Ok P:=by
 refine Y4 (Zu hm hn (l:=[]) trivial (ls:=[]) trivial true) rfl (by kernel_rfl) (rd_round an a) exN (hcBy (q:=fun i:Int=>(i:Int) + 1 < ((an:Nat):Int)) fun i hi=>⟨fun h=>(by have h2:(i:Int) + 1 < ((an:Nat):Int):=h; omega),fun _=>(by show (i:Int) + 1 < ((an:Nat):Int); omega)⟩) (fun _=>rfl) (step:=fun _ z=>z) (rd:=(fun _ t y=>())) (fun i z=>rfl) (fun i=>rfl) rfl (fun i hlt hg=>?_) (fun i z hi=>?_)
 ·have hltI:(i:Int) + 1 < ((an:Nat):Int):=by omega
  refine ⟨?_,⟨fun hb0=>trivial,fun hb0=>trivial⟩⟩
  all_goals (repeat' (first | exact rfl | exact fun _=>⟨rfl,rfl⟩ | apply And.intro | intro _))
  all_goals (try simp only [decide_eq_true_eq,decide_eq_false_iff_not,Bool.not_eq_true',Bool.not_eq_false'] at *)
  all_goals (try simp (disch:=omega) only [IntWalk.i64_in])
  all_goals (first | omega)
 ·have hw:=(IntWalk.i64_in (((i:Int) + 1) + 1) ⟨by omega,by omega⟩)
  refine ⟨?_,?_⟩
  all_goals (first | (rw [hw]; exact ⟨rfl,Le.soft rfl,Z7 _⟩) | exact ⟨rfl,rfl,(by repeat' (first | exact Le.refl _ | exact Le.junk _ rfl | apply Le.cons)),Z7 _⟩)
def dRisD_T (an:Nat) (a:Nat->Yo):Tree V:=
 Tree.need (rd_need an a) (Tree.node (bif Zp (rd_bad an a) (an - (1:Nat)) then true else false) (Tree.leaf (V.bool true false)) (Tree.leaf (V.bool true true)))
theorem Zkt (an:Nat) (a:Nat->Yo):ZQ (Zn P [] [rd_lp an a] true) 400 239 (.cons (.rsl false 4 an fun j=>Zm false (a j)) (.cons (.fn (.func 240) .nil .nil) .nil)) = dRisD_T an a:=by kernel_rfl
def G6 (an:Nat) (a:Nat->Yo):Bool:=
  (bif bif Zp (rd_bad an a) (an - (1:Nat)) then true else false then false else true)
theorem Zi0 (an:Nat) (a:Nat->Yo) (h0:an<=1000):Zi P 239 (.cons (.rsl false 4 an fun j=>Zm false (a j)) (.cons (.fn (.func 240) .nil .nil) .nil)) (.bool false (G6 an a)):=
 YI (Zu hm hn (l:=[]) trivial (ls:=[rd_lp an a]) ⟨rd_lp_ok an a h0,trivial⟩ true) 400 (Has.of hn Tryz.func239 rfl) (Zkt an a) (Tree.Pre.mk (by refine ⟨?_,⟨fun _=>trivial,fun _=>trivial⟩⟩; all_goals (first | exact rd_fit an a | (repeat' (first | exact rfl | apply And.intro))))) (by kernel_rfl) (by kernel_rfl)
def Un:Con:=Yf 239 (fun x=>(.cons (.rsl false 4 x.hd.ZC fun j=>Zm false ((fun j=>Wd (x.hd.ZH j)) j)) (.cons (.fn (.func 240) .nil .nil) .nil))) (fun x=>(.bool false (G6 x.hd.ZC (fun j=>Wd (x.hd.ZH j))))) (fun x=>x.hd.ZC<=1000)
theorem ZeD:Un.Ok P:=Yt (fun x h=>Zi0 _ _ h)
abbrev rv_ts (an:Nat) (a:Nat->ZP) (i:Int) (z:Unit):V:=(.cons (.rsl false 4 an (fun jj=>V.cons (V.int false IntKind.i64 (ZP.f0 (a jj))) (V.cons (V.int false IntKind.i64 (ZP.f1 (a jj))) (V.cons (V.int false IntKind.u32 (ZP.f2 (a jj))) (V.cons (V.int false IntKind.u32 (ZP.f3 (a jj))) V.nil))))) (.cons (.fn (Fn.func (207:FuncId)) .nil .nil) (.cons (.bool true false) (.cons (.int false .i64 (i + 1)) .nil))))
abbrev rv_ys (an:Nat) (a:Nat->ZP) (i:Int) (z:Unit):List Blk:=[]
def rv_R (an:Nat) (a:Nat->ZP) (i:Int) (z:Unit):Tree Rd:=
 let q0:=(V.rsl false 4 an fun jj=>Zk false (a jj))
 let q1:=(i + (1:Int) - (1:Int))
 Tree.need (((0:Int)<=IntKind.wrap .i64 q1/\IntKind.wrap .i64 q1 < (an:Int))/\(0:Int)<=i + (1:Int)/\i + (1:Int) < (an:Int)) (Tree.node (bif bif decide ((a (Int.toNat (IntKind.wrap .i64 q1))).f0 >= (a (Int.toNat (i + (1:Int)))).f0) then true else false then true else false) (Tree.leaf (Ex.ret,true,V.cons q0 (V.cons (V.fn (Fn.func (207:FuncId)) V.nil V.nil) (V.cons (V.bool true false) (ci (i + (1:Int)) V.nil))),[])) (Tree.leaf (Ex.normal,true,V.cons q0 (V.cons (V.fn (Fn.func (207:FuncId)) V.nil V.nil) (V.cons (V.bool true false) (ci (IntKind.wrap .i64 (i + (1:Int) + (1:Int))) V.nil))),[])))
theorem rv_round (an:Nat) (a:Nat->ZP):Yp P (Zn P [] [] true) 241 2 0 0 26 [0,1,4,5] [] [] (rv_ts an a) (rv_ys an a) (fun i=>(bif decide (i + (1:Int) < (an:Int)) then false else true)) (.exit 0) (rv_R an a):=fun B i z=>by kernel_rfl
def ZcS (an:Nat) (a:Nat->ZP) (k:Nat):Bool:=(fun (i:Int) (z:Unit)=>(bif bif bif decide ((a (Int.toNat (IntKind.wrap .i64 (i + (1:Int) - (1:Int))))).f0 >= (a (Int.toNat (i + (1:Int)))).f0) then true else false then true else false then true else false)) k ()
abbrev rv_ets (an:Nat) (a:Nat->ZP) (i:Int) (z:Unit):V:=(.cons (V.rsl false 4 an fun jj=>Zk false (a jj)) (.cons (V.fn (Fn.func (207:FuncId)) V.nil V.nil) (.cons (V.bool true false) (.cons .junk .nil))))
def rv_lp (an:Nat) (a:Nat->ZP):Lp:=lpL 241 2 0 0 26 [0,1,4,5] [] [] (rv_ts an a) (rv_ys an a) (.exit 0) .ret () (fun _=>()) (ZcS an a) (an - 1) (rv_ets an a) (rv_ys an a)
def rv_need (an:Nat) (a:Nat->ZP):Prop:=YP 0 [] (rv_ts an a) (rv_ys an a) () (rv_ts an a (0:Nat) ()) (rv_ys an a (0:Nat) ())
theorem rv_fit (an:Nat) (a:Nat->ZP):rv_need an a:=⟨rfl,trivial⟩
theorem rv_lp_ok (an:Nat) (a:Nat->ZP) (hl:an<=1000):(rv_lp an a).Ok P:=by
 refine Y4 (Zu hm hn (l:=[]) trivial (ls:=[]) trivial true) rfl (by kernel_rfl) (rv_round an a) exN (hcBy (q:=fun i:Int=>(i:Int) + 1 < ((an:Nat):Int)) fun i hi=>⟨fun h=>(by have h2:(i:Int) + 1 < ((an:Nat):Int):=h; omega),fun _=>(by show (i:Int) + 1 < ((an:Nat):Int); omega)⟩) (fun _=>rfl) (step:=fun _ z=>z) (rd:=(fun _ t y=>())) (fun i z=>rfl) (fun i=>(cC rfl rfl)) rfl (fun i hlt hg=>?_) (fun i z hi=>?_)
 ·have hltI:(i:Int) + 1 < ((an:Nat):Int):=by omega
  refine ⟨?_,⟨fun hb0=>trivial,fun hb0=>trivial⟩⟩
  all_goals (repeat' (first | exact rfl | exact fun _=>⟨rfl,rfl⟩ | apply And.intro | intro _))
  all_goals (try simp only [decide_eq_true_eq,decide_eq_false_iff_not,Bool.not_eq_true',Bool.not_eq_false'] at *)
  all_goals (try simp (disch:=omega) only [IntWalk.i64_in])
  all_goals (first | omega)
 ·have hw:=(IntWalk.i64_in (((i:Int) + 1) + 1) ⟨by omega,by omega⟩)
  refine ⟨?_,?_⟩
  all_goals (first | (rw [hw]; exact ⟨rfl,Le.soft rfl,Z7 _⟩) | exact ⟨rfl,rfl,(by repeat' (first | exact Le.refl _ | exact Le.junk _ rfl | apply Le.cons)),Z7 _⟩)
def dRisV_T (an:Nat) (a:Nat->ZP):Tree V:=
 Tree.need (rv_need an a) (Tree.node (bif Zp (ZcS an a) (an - (1:Nat)) then true else false) (Tree.leaf (V.bool true false)) (Tree.leaf (V.bool true true)))
theorem Zjq (an:Nat) (a:Nat->ZP):ZQ (Zn P [] [rv_lp an a] true) 400 241 (.cons (.rsl false 4 an fun j=>Zk false (a j)) (.cons (.fn (.func 207) .nil .nil) .nil)) = dRisV_T an a:=by kernel_rfl
def Zbv (an:Nat) (a:Nat->ZP):Bool:=
  (bif bif Zp (ZcS an a) (an - (1:Nat)) then true else false then false else true)
theorem Zjo (an:Nat) (a:Nat->ZP) (h0:an<=1000):Zi P 241 (.cons (.rsl false 4 an fun j=>Zk false (a j)) (.cons (.fn (.func 207) .nil .nil) .nil)) (.bool false (Zbv an a)):=
 YI (Zu hm hn (l:=[]) trivial (ls:=[rv_lp an a]) ⟨rv_lp_ok an a h0,trivial⟩ true) 400 (Has.of hn Tryz.func241 rfl) (Zjq an a) (Tree.Pre.mk (by refine ⟨?_,⟨fun _=>trivial,fun _=>trivial⟩⟩; all_goals (first | exact rv_fit an a | (repeat' (first | exact rfl | apply And.intro))))) (by kernel_rfl) (by kernel_rfl)
def V4:Con:=Yf 241 (fun x=>(.cons (.rsl false 4 x.hd.ZC fun j=>Zk false ((fun j=>Y8 (x.hd.ZH j)) j)) (.cons (.fn (.func 207) .nil .nil) .nil))) (fun x=>(.bool false (Zbv x.hd.ZC (fun j=>Y8 (x.hd.ZH j))))) (fun x=>x.hd.ZC<=1000)
theorem ZfE:V4.Ok P:=Yt (fun x h=>Zjo _ _ h)
end Go.Proofs.YtnjjailadijdlaaGreatDoor
end
