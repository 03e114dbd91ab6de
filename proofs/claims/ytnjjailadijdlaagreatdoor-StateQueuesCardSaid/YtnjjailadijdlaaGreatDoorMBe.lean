/- From a row's listed table to what the evaluator knows of it. -/
import Derived.Test.YtnjjailadijdlaaGreatDoorMAp
import Derived.Test.YtnjjailadijdlaaGreatDoorRows
import Derived.Lib.LaidTab
import Derived.LaidSub
import Derived.FnData
import Derived.LaidLaws
import Derived.Test.YtnjjailadijdlaaGreatDoorMBb
import Derived.Test.YtnjjailadijdlaaGreatDoorMBc
import Derived.Test.YtnjjailadijdlaaGreatDoorMAn
set_option maxRecDepth 100000
set_option linter.unusedVariables false
set_option linter.unusedSimpArgs false
noncomputable section
namespace Go.Proofs.YtnjjailadijdlaaGreatDoor
open Go.Fw
theorem tabRow_RL {F:Nat->Prop} {w:World} {n:Nat} {m:Nat->Option Nat} (k:IntKind):∀ zs:List Int,RL F w (Ug k zs) n m (zs.map (Value.int k)):=by
 intro zs
 induction zs with
 | nil=>simp only [Ug,List.map_nil,RL]
 | cons z zs ih=>simp only [Ug,List.map_cons,RL,R]; exact ⟨_,_,rfl,rfl,ih⟩
theorem tab_R {W:World} {g n:Nat} {k:IntKind} {zs:List Int} {name:String} (hg:P.globalNamed name = some g) (hn:zs.length = n) (h:Lib.TabIs P W name k zs) :
  R (fun B=>B < W.heap.size) W (.rptr true n 1 (fun _=>Ug k zs) 0 0) 0 (fun _=>none) (.pointer (some ⟨g,0,none⟩))/\exactAt (fun B=>B < W.heap.size) W g (.rptr true n 1 (fun _=>Ug k zs) 0 0):=by
 unfold Lib.TabIs World.var? at h
 rw [hg] at h
 simp only [Option.bind_some] at h
 split at h
 ·rename_i cs el fr hc
  injection h with h
  refine ⟨?_,ZaG hc,cs,el,fr,hc,by rw [h]; simpa using hn⟩
  rw [WW]
  refine ⟨by decide,g,0,by simp,ZaG hc,cs,el,fr,hc,fun j hj=>⟨zs.map (Value.int k),tabRow_RL k zs,by simpa using hn,fun q _=>?_⟩⟩
  have:j = 0:=by omega
  subst this
  rw [h]
  simp
 ·cases h
theorem gok_of {laid:List (String×DataW Unit)} {W:World} (hL:laidMetH P laid W)
  (h0 : (laid.filter fun x => x.1 == "math/bits.deBruijn32tab") = [("math/bits.deBruijn32tab", Lib.tabData .u8 tab0)]) : GOk (fun B => B < W.heap.size) W := by
 have a0 := laidMetH.filter (fun x => x.1 == "math/bits.deBruijn32tab") hL
 rw [h0] at a0
 have a0 : laidMet P [("math/bits.deBruijn32tab", Lib.tabData .u8 tab0)] W := a0
 intro g v hg
 unfold glob at hg
 split at hg
 ·injection hg with hg; subst hg
  exact ⟨rfl, tab_R (name := "math/bits.deBruijn32tab") (by kernel_rfl) (by kernel_rfl) (Lib.tabIs_of_head (g := 0) (t := 439) (e := 5) (n := 32) (by kernel_rfl) (by kernel_rfl) (by kernel_rfl) (by kernel_rfl) (by kernel_rfl) (by kernel_rfl) a0)⟩
 ·cases hg
def cnt (F:Nat->Bool) (n:Nat):Nat:=Nat.rec 0 (fun k c=>bif F k then c + 1 else c) n
theorem KS (F:Nat->Bool) (n:Nat):cnt F (n + 1) = bif F n then cnt F n + 1 else cnt F n:=rfl
theorem cnt_le (F:Nat->Bool):∀ n,cnt F n<=n:=by
 intro n
 induction n with
 | zero=>exact Nat.le_refl _
 | succ n ih=>
  rw [KS]
  cases F n
  ·exact Nat.le_succ_of_le ih
  ·exact Nat.succ_le_succ ih
theorem cnt_mono {F G:Nat->Bool} {n:Nat} (h:∀ k,k < n->F k = true->G k = true):cnt F n<=cnt G n:=by
 induction n with
 | zero=>exact Nat.le_refl _
 | succ n ih=>
  have ih:=ih fun k hk=>h k (by omega)
  rw [KS,KS]
  cases hF:F n with
  | false=>cases G n <;> simp only [cond_true,cond_false] <;> omega
  | true=>rw [h n (by omega) hF]; simp only [cond_true]; omega
theorem ZkX {F:Nat->Bool}:∀ (n m:Nat) (f:Nat->Nat),(∀ k,k < m->f k < n/\F (f k) = true)->(∀ k l,k < m->l < m->f k = f l->k = l)->m<=cnt F n:=by
 intro n
 induction n with
 | zero=>
  intro m f h _
  cases m with
  | zero=>exact Nat.le_refl _
  | succ m=>exact absurd (h 0 (by omega)).1 (Nat.not_lt_zero _)
 | succ n ih=>
  intro m f h hi
  rw [KS]
  by_cases hx:∃ k,k < m/\f k = n
  ·obtain ⟨k0,hk0,he⟩:=hx
   have hF:F n = true:=by rw [<- he]; exact (h k0 hk0).2
   rw [hF,cond_true]
   obtain ⟨m',rfl⟩:∃ m',m = m' + 1:=⟨m - 1,by omega⟩
   have:=ih m' (fun k=>if k = k0 then f m' else f k) (fun k hk=>by
    by_cases e:k = k0
    ·rw [if_pos e]
     have h1:=h m' (by omega)
     refine ⟨?_,h1.2⟩
     rcases Nat.lt_or_ge (f m') n with h2 | h2
     ·exact h2
     ·have:f m' = n:=by have:=h1.1; omega
      have:=hi m' k0 (by omega) hk0 (by rw [this,he])
      omega
    ·rw [if_neg e]
     have h1:=h k (by omega)
     refine ⟨?_,h1.2⟩
     rcases Nat.lt_or_ge (f k) n with h2 | h2
     ·exact h2
     ·have h3:f k = n:=by have:=h1.1; omega
      exact absurd (hi k k0 (by omega) hk0 (by rw [h3,he])) e) (fun k l hk hl hkl=>by
    by_cases e:k = k0
    ·by_cases e2:l = k0
     ·omega
     ·rw [if_pos e,if_neg e2] at hkl
      have:=hi m' l (by omega) (by omega) hkl
      omega
    ·by_cases e2:l = k0
     ·rw [if_neg e,if_pos e2] at hkl
      have:=hi k m' (by omega) (by omega) hkl
      omega
     ·rw [if_neg e,if_neg e2] at hkl
      exact hi k l (by omega) (by omega) hkl)
   omega
  ·have:=ih m f (fun k hk=>by
    have h1:=h k hk
    refine ⟨?_,h1.2⟩
    rcases Nat.lt_or_ge (f k) n with h2 | h2
    ·exact h2
    ·exact absurd ⟨k,hk,by have:=h1.1; omega⟩ hx) hi
   cases F n <;> simp only [cond_true,cond_false] <;> omega
def sumTo (g:Nat->Nat) (n:Nat):Nat:=Nat.rec 0 (fun k s=>s + g k) n
theorem KG (g:Nat->Nat) (n:Nat):sumTo g (n + 1) = sumTo g n + g n:=rfl
theorem sumTo_add {g h:Nat->Nat} {n:Nat}:sumTo (fun p=>g p + h p) n = sumTo g n + sumTo h n:=by
 induction n with
 | zero=>rfl
 | succ n ih=>rw [KG,KG,KG,ih]; omega
theorem Zhh {g h:Nat->Nat} {n:Nat} (e:∀ k,k < n->g k = h k):sumTo g n = sumTo h n:=by
 induction n with
 | zero=>rfl
 | succ n ih=>rw [KG,KG,ih fun k hk=>e k (by omega),e n (by omega)]
theorem Zfs {g:Nat->Nat} {n:Nat} (e:∀ k,k < n->g k = 0):sumTo g n = 0:=by
 induction n with
 | zero=>rfl
 | succ n ih=>rw [KG,ih fun k hk=>e k (by omega),e n (by omega)]
theorem sumTo_one {m x:Nat} (h:x < m):sumTo (fun p=>bif decide (x = p) then 1 else 0) m = 1:=by
 induction m with
 | zero=>omega
 | succ m ih=>
  rw [KG]
  rcases Nat.lt_or_ge x m with h1 | h1
  ·rw [ih h1,decide_eq_false (show ¬ x = m by omega)]; rfl
  ·have e:x = m:=by omega
   subst e
   rw [decide_eq_true rfl,Zfs (fun k hk=>by rw [decide_eq_false (show ¬ x = k by omega)]; rfl)]; rfl
theorem sumTo_cnt {R:Nat->Bool} {x:Nat->Nat} {m:Nat}:∀ n,(∀ j,j < n->x j < m)->sumTo (fun p=>cnt (fun j=>decide (x j = p)&&R j) n) m = cnt R n:=by
 intro n
 induction n with
 | zero=>intro _; exact Zfs fun k _=>rfl
 | succ n ih=>
  intro h
  rw [KS,<- ih fun j hj=>h j (by omega)]
  have e:∀ p,p < m->cnt (fun j=>decide (x j = p)&&R j) (n + 1) = cnt (fun j=>decide (x j = p)&&R j) n + (bif R n then (bif decide (x n = p) then 1 else 0) else 0):=fun p _=>by
   rw [KS]
   cases R n <;> cases decide (x n = p) <;> rfl
  rw [Zhh e,sumTo_add]
  cases R n with
  | false=>simp only [cond_false]; rw [Zfs (fun _ _=>rfl)]; rfl
  | true=>simp only [cond_true]; rw [sumTo_one (h n (by omega))]
def ZaZ {D:Type} (F:Nat->Bool) (R:Nat->D) (k:Nat) (z:Nat×(Nat->D)×Bool):Nat×(Nat->D)×Bool:=bif F k then (z.1 + 1,(fun jj=>bif Nat.beq jj z.1 then R k else z.2.1 jj),true) else z
theorem Zbr {D:Type} {F:Nat->Bool} {R:Nat->D} {r0:Nat->D} {step:Nat->Nat×(Nat->D)×Bool->Nat×(Nat->D)×Bool} (hs:∀ k z,step k z = ZaZ F R k z):∀ n,(ZI (0,r0,false) step n).1 = cnt F n/\∀ i,i < cnt F n->∃ j,j < n/\F j = true/\(ZI (0,r0,false) step n).2.1 i = R j:=by
 intro n
 induction n with
 | zero=>exact ⟨rfl,fun i hi=>absurd hi (Nat.not_lt_zero _)⟩
 | succ n ih=>
  rw [ZeO,hs,KS]
  generalize ZI (0,r0,false) step n = z at ih ⊢
  unfold ZaZ
  cases hF:F n with
  | false=>exact ⟨ih.1,fun i hi=>by obtain ⟨j,h1,h2⟩:=ih.2 i hi; exact ⟨j,by omega,h2⟩⟩
  | true=>
   refine ⟨by show z.1 + 1 = cnt F n + 1; rw [ih.1],fun i hi=>?_⟩
   have hi:i < cnt F n + 1:=hi
   show ∃ j,j < n + 1/\F j = true/\(bif Nat.beq i z.1 then R n else z.2.1 i) = R j
   by_cases e:i = z.1
   ·subst e; rw [Nat.beq_refl]; exact ⟨n,by omega,hF,rfl⟩
   ·have hb:Nat.beq i z.1 = false:=by
     cases hb:Nat.beq i z.1
     ·rfl
     ·exact absurd (Nat.eq_of_beq_eq_true hb) e
    rw [hb]
    obtain ⟨j,h1,h2⟩:=ih.2 i (by have:=ih.1; omega)
    exact ⟨j,by omega,h2⟩
def stO (o:DOwn):Zq:=⟨o.f1,o.f2,o.f3,o.f4⟩
def JY (d:Zc) (k:Nat):Int:=(d.a.r3 (XF d (d.a.r6 k).f0).toNat).f3
def inQ (wr:Zq->Bool) (bd:ZK->Bool) (d:Zc) (b:Int) (c:Bool) (k:Nat):Bool:=(JY d k==b)&&(wr (stO (d.a.r6 k))&&(c || !bd (d.a.r7 (XF d (d.a.r6 k).f0).toNat)))
theorem key4 {T:Type} (p w c b:Bool) (A B:T):(bif p then (bif w then (bif c then A else (bif !b then A else B)) else B) else B) = bif p&&(w&&(c || !b)) then A else B:=by cases p <;> cases w <;> cases c <;> cases b <;> rfl
theorem key3 {T:Type} (p w b:Bool) (A B:T):(bif p then (bif w then (bif !b then A else B) else B) else B) = bif p&&(w&&(false || !b)) then A else B:=by cases p <;> cases w <;> cases b <;> rfl
theorem condAB {T:Type} {c:Bool} {A A' B B':T} (ha:A = A') (hb:B = B'):(bif c then A else B) = bif c then A' else B':=by rw [ha,hb]
def Zeu (oN:Zf->Int->Nat) (d:Zc) (k:Nat):Xv:=⟨(d.a.r6 k).f0,((oN (Qk d.a) (d.a.r3 (XF d (d.a.r6 k).f0).toNat).f0:Nat):Int),(d.a.r6 k).f5,(d.a.r6 k).f6,(d.a.r6 k).f7⟩
theorem qr_sel (wr:Zq->Bool) (bd:ZK->Bool) (oN:Zf->Int->Nat) (oR:Zf->Int->Nat->DT3) (d:Zc) (b:Int) (c:Bool) (k:Nat) (z:Nat×(Nat->Xv)×Bool):Zd8 wr bd oN oR d b c k z = ZaZ (inQ wr bd d b c) (Zeu oN d) k z:=
 (key4 (JY d k==b) (wr (stO (d.a.r6 k))) c (bd (d.a.r7 (XF d (d.a.r6 k).f0).toNat)) _ _).trans (condAB (by
  refine Prod.ext rfl (Prod.ext (funext fun jj=>?_) rfl)
  show QK (bif Nat.beq jj z.1 then _ else _) = bif Nat.beq jj z.1 then _ else _
  cases Nat.beq jj z.1 <;> rfl) rfl)
def waitAt (a:Zb) (d:Zc) (k:Nat):XR:=⟨(d.a.r6 k).f0,(d.a.r6 k).f8,decide ((d.a.r6 k).f9 > a.f0)⟩
theorem wq_sel (wr:Zq->Bool) (bd:ZK->Bool) (a:Zb) (d:Zc) (b:Int) (k:Nat) (z:Nat×(Nat->XR)×Bool):Zfu wr bd a d b k z = ZaZ (inQ wr bd d b false) (waitAt a d) k z:=
 (key3 (JY d k==b) (wr (stO (d.a.r6 k))) (bd (d.a.r7 (XF d (d.a.r6 k).f0).toNat)) _ _).trans (condAB (by
  refine Prod.ext rfl (Prod.ext (funext fun jj=>?_) rfl)
  show Js (bif Nat.beq jj z.1 then _ else _) = bif Nat.beq jj z.1 then _ else _
  cases Nat.beq jj z.1 <;> rfl) rfl)
def mAnd (x y:Int):Int:=IntKind.wrap .u32 ((BitVec.toNat (BitVec.ofInt (IntKind.bits .u32) x &&& BitVec.ofInt (IntKind.bits .u32) y):Nat):Int)
def setAt (d:Zc) (k:Nat):Int:=(d.a.r2 (JY d k).toNat).f0
def wishAt (dv:Zf->Int->ZP) (a:Zb) (d:Zc) (k:Nat):XW:=
 ⟨bif d.nh (d.a.r6 k).f0 then (d.a.r6 k).f0 else (d.a.r6 k).f0,bif d.nh (d.a.r6 k).f0 then (bif d.nh (d.a.r6 k).f0 then d.ng (d.a.r6 k).f0 else 0) else -1,
  bif d.nh (d.a.r6 k).f0 then mAnd (dv (Qk d.a) (d.a.r6 k).f0).f2 (setAt d k) else mAnd (dv (Qk d.a) (d.a.r6 k).f0).f2 (setAt d k),bif d.nh (d.a.r6 k).f0 then mAnd (dv (Qk a) (d.a.r6 k).f0).f3 (setAt d k) else mAnd (dv (Qk a) (d.a.r6 k).f0).f3 (setAt d k)⟩
theorem xq_sel (wr:Zq->Bool) (bd:ZK->Bool) (dv:Zf->Int->ZP) (dq:Zf->Int->Bool) (a:Zb) (d:Zc) (b:Int) (k:Nat) (z:Nat×(Nat->XW)×Bool):ZeE wr bd dv dq a d b k z = ZaZ (inQ wr bd d b false) (wishAt dv a d) k z:=
 (key3 (JY d k==b) (wr (stO (d.a.r6 k))) (bd (d.a.r7 (XF d (d.a.r6 k).f0).toNat)) _ _).trans (condAB (by
  refine Prod.ext rfl (Prod.ext (funext fun jj=>?_) rfl)
  show Q0 (bif Nat.beq jj z.1 then _ else _) = bif Nat.beq jj z.1 then _ else _
  cases Nat.beq jj z.1 <;> rfl) rfl)
theorem ZfM (wr:Zq->Bool) (bd:ZK->Bool) (oN:Zf->Int->Nat) (oR:Zf->Int->Nat->DT3) (d:Zc) (b:Int) (c:Bool):VU wr bd oN oR d b c = cnt (inQ wr bd d b c) d.a.n6/\∀ i,i < cnt (inQ wr bd d b c) d.a.n6->∃ j,j < d.a.n6/\inQ wr bd d b c j = true/\ZcQ wr bd oN oR d b c i = Zeu oN d j:=Zbr (qr_sel wr bd oN oR d b c) d.a.n6
theorem elseT {c x y:Bool} (hy:y = true) (h:(bif c then x else y) = false):c = true/\x = false:=by
 cases c
 ·rw [hy] at h; cases h
 ·exact ⟨rfl,h⟩
theorem map_acc {step:Nat->(Int->Bool)×(Int->Int)->(Int->Bool)×(Int->Int)} {ids vals:Nat->Int} (hs:∀ k z,step k z = ((fun j=>bif j==ids k then true else z.1 j),(fun j=>bif j==ids k then vals k else z.2 j))) {z0:(Int->Bool)×(Int->Int)} (h0:∀ x,z0.1 x = false) :
  ∀ n,(∀ x,(ZI z0 step n).1 x = true->∃ k,k < n/\ids k = x/\(ZI z0 step n).2 x = vals k)/\∀ k,k < n->(ZI z0 step n).1 (ids k) = true:=by
 intro n
 induction n with
 | zero=>exact ⟨fun x hx=>(by rw [show ZI z0 step 0 = z0 from rfl,h0] at hx; cases hx),fun k hk=>absurd hk (Nat.not_lt_zero _)⟩
 | succ n ih=>
  rw [ZeO,hs]
  generalize ZI z0 step n = z at ih ⊢
  refine ⟨fun x hx=>?_,fun k hk=>?_⟩
  ·have hx:(bif x==ids n then true else z.1 x) = true:=hx
   show ∃ k,k < n + 1/\ids k = x/\(bif x==ids n then vals n else z.2 x) = vals k
   cases e:(x==ids n) with
   | true=>exact ⟨n,by omega,(eqT e).symm,rfl⟩
   | false=>
    rw [e] at hx
    obtain ⟨k,h1,h2,h3⟩:=ih.1 x hx
    exact ⟨k,by omega,h2,h3⟩
  ·show (bif ids k==ids n then true else z.1 (ids k)) = true
   cases e:(ids k==ids n) with
   | true=>rfl
   | false=>
    rcases Nat.eq_or_lt_of_le (Nat.le_of_lt_succ hk) with h | h
    ·subst h; simp at e
    ·exact ih.2 k h
theorem ow1_id (d:Zc) (k:Nat) (h:ZcE d k = false):(d.a.r6 k).f0 = (d.a.r4 k).f0:=eqT (elseT rfl h).1
theorem Zgb {a:Zb} (h:Zv a = 0):∀ j,j < a.n6->(a.r6 j).f0 = (a.r4 j).f0:=fun j hj=>
 ow1_id (Zh a) j (Kw (nf4 (fT (fT (Ga h).2.2.1).2).1) j hj)
theorem rv_step {n:Nat} {r:Nat->ZP} {k:Nat} (hk:k<=100000) (h:ZcS n r k = false):(r k).f0 < (r (k + 1)).f0:=by
 have h1:=of_decide_eq_false (nf4 (nf4 (nf4 h)))
 have e1:Int.toNat (IntKind.wrap IntKind.i64 ((k:Int) + (1:Int) - (1:Int))) = k:=by
  rw [IntWalk.i64_in _ ⟨by omega,by omega⟩]; omega
 have e2:Int.toNat ((k:Int) + (1:Int)) = k + 1:=by omega
 rw [e1,e2] at h1
 omega
theorem ZgS {a:Zb} (h:Zv a = 0) (hs:a.n4<=1000):∀ i j,i < j->j < a.n6->(a.r6 i).f0 < (a.r6 j).f0:=by
 have h1:=(Ga h).1
 have h2:Wm ⟨a.n3,a.r3,a.n4,a.r4⟩ = 0:=(Zdp h1).1
 have h3:Zbv a.n4 (fun j=>Y8 (Zk false (a.r4 j))) = true:=nT (orF (nf4 (zF (by decide) h2).1)).2
 have h4:=Kw (nf4 (fT h3).1)
 have h64:=(Ue h).1
 have st:∀ k,k + 1 < a.n4->(a.r4 k).f0 < (a.r4 (k + 1)).f0:=fun k hk=>rv_step (n:=a.n4) (r:=fun j=>Y8 (Zk false (a.r4 j))) (by omega) (h4 k (by omega))
 intro i j hij hj
 rw [Zgb h i (by omega),Zgb h j hj]
 rw [h64] at hj
 induction j with
 | zero=>omega
 | succ j ih=>
  have hs:=st j hj
  rcases Nat.eq_or_lt_of_le (Nat.le_of_lt_succ hij) with e | e
  ·rw [e]; exact hs
  ·have:=ih e (by omega); omega
theorem fine_inj {a:Zb} (h:Zv a = 0) (hs:a.n4<=1000) {i j:Nat} (hi:i < a.n6) (hj:j < a.n6) (e:(a.r6 i).f0 = (a.r6 j).f0):i = j:=by
 rcases Nat.lt_trichotomy i j with h1 | h1 | h1
 ·have:=ZgS h hs i j h1 hj; omega
 ·exact h1
 ·have:=ZgS h hs j i h1 hi; omega
theorem Zbz (a:Zb):(∀ x,(Zh a).oh x = true->∃ k,k < a.n6/\(a.r6 k).f0 = x/\(Zh a).og x = ((k:Nat):Int))/\∀ k,k < a.n6->(Zh a).oh (a.r6 k).f0 = true:=
 map_acc (step:=ZbD a) (ids:=fun k=>(a.r6 k).f0) (vals:=fun k=>((k:Nat):Int)) (fun k z=>rfl) (fun x=>rfl) a.n6
theorem look_on (a:Zb):(∀ x,(Zh a).nh x = true->∃ k,k < a.n12/\(a.r12 k).f0 = x/\(Zh a).ng x = (a.r12 k).f1)/\∀ k,k < a.n12->(Zh a).nh (a.r12 k).f0 = true:=
 map_acc (step:=ZhV a) (ids:=fun k=>(a.r12 k).f0) (vals:=fun k=>(a.r12 k).f1) (fun k z=>rfl) (fun x=>rfl) a.n12
theorem fine_og {a:Zb} (h:Zv a = 0) (hs:a.n4<=1000) {j:Nat} (hj:j < a.n6):(Zh a).og (a.r6 j).f0 = ((j:Nat):Int):=by
 obtain ⟨k,h1,h2,h3⟩:=(Zbz a).1 _ ((Zbz a).2 j hj)
 rw [h3,fine_inj h hs h1 hj h2]
theorem ZhE {a:Zb} (h:Zv a = 0) (hs:a.n4<=1000) {j:Nat} (hj:j < a.n6):Qg a (a.r6 j).f0 = true/\V9 a (a.r6 j).f0 = a.r6 j:=by
 have h1:=q_yes ((Zbz a).2 j hj) h
 refine ⟨h1,?_⟩
 unfold V9 X5
 rw [h1,(Zbz a).2 j hj,fine_og h hs hj]
 rfl
theorem stepE {T:Type} {c x y:Bool} {z w:T} (h:(bif c then (bif x then true else false) else (bif y then true else false)) = false):(bif c then (bif x then z else w) else (bif y then z else w)) = w:=by
 cases c <;> cases x <;> cases y <;> first | rfl | cases h
theorem ZaP (d:Zc) (k:Nat) (h:Za2 d k = false):QC d k < (d.a.r12 k).f1/\QC d (k + 1) = (d.a.r12 k).f1/\(bif d.nh (d.a.r12 k).f0 then d.ng (d.a.r12 k).f0 else 0) = (d.a.r12 k).f1/\d.oh (d.a.r12 k).f0 = true/\YJ (stO (d.a.r6 (X5 d (d.a.r12 k).f0).toNat)) = true:=by
 have c0:=(orF h).1
 have h1:=(orF h).2
 have c1:=(orF h1).1
 have h2:=(orF h1).2
 have c2:=(orF h2).1
 have h3:=(orF h2).2
 have c3:=(orF h3).1
 have h4:=(orF h3).2
 have c4:=(orF h4).1
 have h5:=(orF h4).2
 refine ⟨?_,?_,?_,nT (nf4 c2),?_⟩
 ·have h6:¬ (d.a.r12 k).f1<=QC d k:=of_decide_eq_false c0
  omega
 ·exact cF c0 (cF c1 (cF c2 (cF c3 (cF c4 (stepE h5)))))
 ·rw [bne] at c1
  exact eqT (nT c1)
 ·refine Eq.trans ?_ (nT c3)
  kernel_rfl
theorem ZbG {a:Zb} (h:Zv a = 0):∀ k,k < a.n12->Za2 (Zh a) k = false:=Kw (nf4 (fT (Ga h).2.2.2.2.2).1)
theorem ZgR {a:Zb} (h:Zv a = 0):∀ k,k<=a.n12->-1<=QC (Zh a) k/\∀ i,i < k->(a.r12 i).f1<=QC (Zh a) k/\0<=(a.r12 i).f1:=by
 intro k
 induction k with
 | zero=>intro _; exact ⟨Int.le_refl _,fun i hi=>absurd hi (Nat.not_lt_zero _)⟩
 | succ k ih=>
  intro hk
  have ih:=ih (by omega)
  have hp:=ZaP (Zh a) k (ZbG h k (by omega))
  have e:QC (Zh a) (k + 1) = (a.r12 k).f1:=hp.2.1
  have hl:QC (Zh a) k < (a.r12 k).f1:=hp.1
  rw [e]
  refine ⟨by omega,fun i hi=>?_⟩
  rcases Nat.eq_or_lt_of_le (Nat.le_of_lt_succ hi) with e2 | e2
  ·subst e2; exact ⟨Int.le_refl _,by omega⟩
  ·have:=ih.2 i e2; exact ⟨by omega,this.2⟩
theorem put_lt {a:Zb} (h:Zv a = 0) {i j:Nat} (hij:i < j) (hj:j < a.n12):(a.r12 i).f1 < (a.r12 j).f1:=by
 have h1:=((ZgR h j (by omega)).2 i hij).1
 have h2:QC (Zh a) j < (a.r12 j).f1:=(ZaP (Zh a) j (ZbG h j hj)).1
 omega
theorem on_ge {a:Zb} (h:Zv a = 0) {x:Int} (hx:(Zh a).nh x = true):0<=(Zh a).ng x:=by
 obtain ⟨k,h1,h2,h3⟩:=(look_on a).1 x hx
 rw [h3]
 exact ((ZgR h a.n12 (Nat.le_refl _)).2 k h1).2
theorem puts_le {a:Zb} (h:Zv a = 0) (hs:a.n4<=1000):a.n12<=cnt (fun j=>YJ (stO (a.r6 j))) a.n6:=by
 have at_:∀ k,k < a.n12->∃ j,j < a.n6/\(a.r6 j).f0 = (a.r12 k).f0/\(X5 (Zh a) (a.r12 k).f0).toNat = j/\YJ (stO (a.r6 j)) = true:=fun k hk=>by
  have hp:=ZaP (Zh a) k (ZbG h k hk)
  have ho:(Zh a).oh (a.r12 k).f0 = true:=hp.2.2.2.1
  obtain ⟨j,h1,h2,h3⟩:=(Zbz a).1 _ ho
  have e:(X5 (Zh a) (a.r12 k).f0).toNat = j:=by unfold X5; rw [ho,h3]; rfl
  have hr:YJ (stO (a.r6 (X5 (Zh a) (a.r12 k).f0).toNat)) = true:=hp.2.2.2.2
  rw [e] at hr
  exact ⟨j,h1,h2,e,hr⟩
 refine ZkX a.n6 a.n12 (fun k=>(X5 (Zh a) (a.r12 k).f0).toNat) (fun k hk=>?_) (fun k l hk hl e=>?_)
 ·obtain ⟨j,h1,h2,h3,h4⟩:=at_ k hk
  rw [h3]; exact ⟨h1,h4⟩
 ·obtain ⟨j,h1,h2,h3,h4⟩:=at_ k hk
  obtain ⟨i,k1,k2,k3,k4⟩:=at_ l hl
  rw [h3,k3] at e
  subst e
  have ev:(a.r12 k).f0 = (a.r12 l).f0:=by rw [<- h2,<- k2]
  have p1:(bif (Zh a).nh (a.r12 k).f0 then (Zh a).ng (a.r12 k).f0 else 0) = (a.r12 k).f1:=(ZaP (Zh a) k (ZbG h k hk)).2.2.1
  have p2:(bif (Zh a).nh (a.r12 l).f0 then (Zh a).ng (a.r12 l).f0 else 0) = (a.r12 l).f1:=(ZaP (Zh a) l (ZbG h l hl)).2.2.1
  have ec:(a.r12 k).f1 = (a.r12 l).f1:=by rw [<- p1,<- p2,ev]
  rcases Nat.lt_trichotomy k l with hlt | hlt | hlt
  ·have:=put_lt h hlt hl; omega
  ·exact hlt
  ·have:=put_lt h hlt hk; omega
theorem qb_no {ak:ZU} {p:Int} {i:Nat} {o:DOwn} {n:Int} (hr:ak.qr p true i = ⟨o.f0,n,o.f5,o.f6,o.f7⟩) (h1:ak.is o.f0 = true) (h2:ak.pool o.f0 = p) (h3:ak.own o.f0 = o) (h4:ak.runs (stO o) = true):Kq ak p i = false:=by
 have h4':ak.runs ⟨o.f1,o.f2,o.f3,o.f4⟩ = true:=h4
 simp only [Kq,Int.toNat_natCast,hr,h1,h2,h3,Y0,V.hd,V.tl,V.toInt,h4']
 simp
theorem qc_no {ak:ZU} {p:Int} {i:Nat} {x w:Int} (hr:(ak.hr p i).f0 = x) (hw:(ak.hr p i).f1 = w) (h1:ak.on x = decide (w >= 0)) (h2:ak.on x = true->ak.cpu x = w) (h3:ak.park x = false):Kl ak p i = false:=by
 simp only [Kl,Int.toNat_natCast,hr,hw,h3]
 cases hb:ak.on x with
 | false=>rw [hb] at h1; rw [<- h1]; rfl
 | true=>rw [hb] at h1; rw [<- h1,h2 hb]; simp
section
variable {e:Zb}
theorem ZfI (h:Zv e = 0) {p:Nat} (hp:p < e.n2):QB (Zv e) (p:Int) e.n2 = false:=by
 rw [h]
 unfold QB
 rw [decide_eq_false (show ¬ (p:Int) < 0 by omega),decide_eq_false (show ¬ (p:Int) >= (e.n2:Int) by omega)]
 rfl
abbrev inE (e:Zb) (p:Int) (c:Bool):Nat->Bool:=inQ YJ YN (Zh e) p c
theorem qn_eq (h:Zv e = 0) {p:Nat} (hp:p < e.n2) (c:Bool):Wl e p c = cnt (inE e p c) e.n6:=by
 unfold Wl
 rw [ZfI h hp]
 exact (ZfM _ _ _ _ _ _ _).1
theorem qn_le (p:Int) (c:Bool):Wl e p c<=e.n6:=by
 unfold Wl
 cases QB (Zv e) p e.n2 with
 | true=>exact Nat.zero_le _
 | false=>rw [cond_false,(ZfM _ _ _ _ _ _ _).1]; exact cnt_le _ _
theorem wn_eq (h:Zv e = 0) {p:Nat} (hp:p < e.n2):ZaR e p = cnt (inE e p false) e.n6:=by
 unfold ZaR
 rw [ZfI h hp]
 exact (Zbr (wq_sel _ _ _ _ _) _).1
theorem hn_eq (h:Zv e = 0) {p:Nat} (hp:p < e.n2):Vg e p = cnt (inE e p false) e.n6:=by
 unfold Vg
 rw [ZfI h hp]
 exact (Zbr (xq_sel _ _ _ _ _ _ _) _).1
theorem hn_le (p:Int):Vg e p<=e.n6:=by
 unfold Vg
 cases QB (Zv e) p e.n2 with
 | true=>exact Nat.zero_le _
 | false=>rw [cond_false]; exact Nat.le_trans (Nat.le_of_eq (Zbr (xq_sel _ _ _ _ _ _ _) _).1) (cnt_le _ _)
theorem inQ_of {wr:Zq->Bool} {bd:ZK->Bool} {d:Zc} {b:Int} {c:Bool} {k:Nat} (h:inQ wr bd d b c k = true):JY d k = b/\wr (stO (d.a.r6 k)) = true/\(c = false->bd (d.a.r7 (XF d (d.a.r6 k).f0).toNat) = false):=by
 unfold inQ at h
 rw [Bool.and_eq_true,Bool.and_eq_true] at h
 refine ⟨eqT h.1,h.2.1,fun hc=>?_⟩
 subst hc
 have h2:=h.2.2
 rw [Bool.false_or] at h2
 cases hb:bd (d.a.r7 (XF d (d.a.r6 k).f0).toNat) with
 | false=>rfl
 | true=>rw [hb] at h2; cases h2
theorem qb_all (h:Zv e = 0) (hs:e.n4<=1000) {p:Nat} (hp:p < e.n2):Zp (Kq (Yj e) p) (Wl e p true) = false:=by
 refine VP fun i hi=>?_
 rw [qn_eq h hp] at hi
 obtain ⟨j,h1,h2,h3⟩:=(ZfM YJ YN JW J9 (Zh e) p true).2 i hi
 obtain ⟨k1,k2,_⟩:=inQ_of h2
 have hq:=ZhE h hs h1
 refine qb_no (o:=e.r6 j) (n:=(Zeu JW (Zh e) j).f1) (?_:Zdx e p true i = _) hq.1 ?_ hq.2 k2
 ·unfold Zdx
  rw [Nat.zero_add,h3]
  rfl
 ·show VJ e (e.r6 j).f0 = p
  unfold VJ
  rw [hq.1]
  exact k1
theorem qc_all (h:Zv e = 0) (hs:e.n4<=1000) {p:Nat} (hp:p < e.n2):Zp (Kl (Yj e) p) (Vg e p) = false:=by
 refine VP fun i hi=>?_
 rw [hn_eq h hp] at hi
 obtain ⟨j,h1,h2,h3⟩:=(Zbr (r0:=fun _=>Q0 .nil) (xq_sel YJ YN QU QD e (Zh e) p) e.n6).2 i hi
 obtain ⟨k1,k2,k3⟩:=inQ_of h2
 have hw:UU e p i = wishAt QU e (Zh e) j:=by
  unfold UU
  rw [Nat.zero_add]
  exact h3
 have hon:Jz e (e.r6 j).f0 = (Zh e).nh (e.r6 j).f0:=by unfold Jz; rw [h]; cases (Zh e).nh (e.r6 j).f0 <;> rfl
 have hq:=ZhE h hs h1
 refine qc_no (x:=(e.r6 j).f0) (w:=bif (Zh e).nh (e.r6 j).f0 then (Zh e).ng (e.r6 j).f0 else -1) (?_:(UU e p i).f0 = _) (?_:(UU e p i).f1 = _) (?_:Jz e _ = _) (fun hb=>(?_:Gl e _ = _)) (?_:K3 e _ = false)
 ·rw [hw]
  show (bif (Zh e).nh (e.r6 j).f0 then (e.r6 j).f0 else (e.r6 j).f0) = _
  cases (Zh e).nh (e.r6 j).f0 <;> rfl
 ·rw [hw]
  show (bif (Zh e).nh (e.r6 j).f0 then (bif (Zh e).nh (e.r6 j).f0 then (Zh e).ng (e.r6 j).f0 else 0) else -1) = _
  cases (Zh e).nh (e.r6 j).f0 <;> rfl
 ·rw [hon]
  cases hb:(Zh e).nh (e.r6 j).f0 with
  | false=>rfl
  | true=>exact (decide_eq_true (on_ge h hb)).symm
 ·have hb:Jz e (e.r6 j).f0 = true:=hb
  unfold Gl
  rw [hb]
  rw [hon] at hb
  rw [hb]
  rfl
 ·unfold K3
  rw [hq.1]
  exact k3 rfl
theorem qa_one (h:Zv e = 0) (hs:e.n4<=1000) {p:Nat} (hp:p < e.n2) (z:Int):Zec e (Yj e) p z = IntKind.wrap .i64 (z + ((Wl e p true:Nat):Int))/\qa_bad e (Yj e) p = false:=by
 have c0:Zp (Kq (Yj e) p) ((Yj e).qn p true) = false:=qb_all h hs hp
 have c2:Zp (Kl (Yj e) p) ((Yj e).hn p) = false:=qc_all h hs hp
 have hle:Wl e p false<=Wl e p true:=by
  rw [qn_eq h hp,qn_eq h hp]
  refine cnt_mono fun k _ hk=>?_
  unfold inE inQ at hk ⊢
  rw [Bool.and_eq_true,Bool.and_eq_true] at hk ⊢
  exact ⟨hk.1,hk.2.1,rfl⟩
 have c1:(bif decide ((((Yj e).qn p false:Nat):Int) > (((Yj e).qn p true:Nat):Int)) then true else bif (((Yj e).wn p:Nat):Int) != (((Yj e).qn p false:Nat):Int) then true else (((Yj e).hn p:Nat):Int) != (((Yj e).qn p false:Nat):Int)) = false:=by
  show (bif decide (((Wl e p false:Nat):Int) > ((Wl e p true:Nat):Int)) then true else bif ((ZaR e p:Nat):Int) != ((Wl e p false:Nat):Int) then true else ((Vg e p:Nat):Int) != ((Wl e p false:Nat):Int)) = false
  rw [decide_eq_false (by omega),wn_eq h hp,hn_eq h hp,qn_eq h hp]
  simp
 have t0:(bif Zp (Kq (Yj e) p) ((Yj e).qn p true) then true else false) = false:=by rw [c0]; rfl
 have t1:(bif (bif decide ((((Yj e).qn p false:Nat):Int) > (((Yj e).qn p true:Nat):Int)) then true else bif (((Yj e).wn p:Nat):Int) != (((Yj e).qn p false:Nat):Int) then true else (((Yj e).hn p:Nat):Int) != (((Yj e).qn p false:Nat):Int)) then true else false) = false:=by rw [c1]; rfl
 have t2:(bif Zp (Kl (Yj e) p) ((Yj e).hn p) then true else false) = false:=by rw [c2]; rfl
 exact ⟨cF t0 (cF t1 (cF t2 rfl)),cF t0 (cF t1 (cF t2 rfl))⟩
theorem qa_sum (h:Zv e = 0) (hs:e.n4<=1000) (h2:e.n2<=1000):∀ k,k<=e.n2->JM e (Yj e) k = ((sumTo (fun p=>Wl e p true) k:Nat):Int)/\sumTo (fun p=>Wl e p true) k<=k * 1000:=by
 have h64:=(Ue h).1
 intro k
 induction k with
 | zero=>intro _; exact ⟨rfl,Nat.le_refl _⟩
 | succ k ih=>
  intro hk
  obtain ⟨i1,i2⟩:=ih (by omega)
  have hq:Wl e k true<=1000:=Nat.le_trans (qn_le _ _) (by omega)
  rw [KG]
  refine ⟨?_,by omega⟩
  show Zec e (Yj e) k (JM e (Yj e) k) = _
  rw [(qa_one h hs (by omega) _).1,i1,IntWalk.i64_in _ ⟨by omega,by omega⟩]
  omega
theorem qd_eq {ak:ZU} (hs:e.n6<=1000):∀ k,k<=e.n6->Vv e ak k = ((cnt (fun j=>ak.runs (stO (e.r6 j))) k:Nat):Int):=by
 intro k
 induction k with
 | zero=>intro _; rfl
 | succ k ih=>
  intro hk
  have ih:=ih (by omega)
  have hl:=cnt_le (fun j=>ak.runs (stO (e.r6 j))) k
  show qd_step e ak k (Vv e ak k) = _
  rw [ih,KS]
  show (bif ak.runs (stO (e.r6 k)) then IntKind.wrap .i64 (((cnt (fun j=>ak.runs (stO (e.r6 j))) k:Nat):Int) + (1:Int)) else ((cnt (fun j=>ak.runs (stO (e.r6 j))) k:Nat):Int)) = _
  cases ak.runs (stO (e.r6 k)) with
  | false=>rfl
  | true=>simp only [cond_true]; rw [IntWalk.i64_in _ ⟨by omega,by omega⟩]; omega
theorem qa_qd (h:Zv e = 0) (hs:e.n4<=1000) (h2:e.n2<=1000):JM e (Yj e) e.n2 = Vv e (Yj e) e.n6:=by
 have h64:=(Ue h).1
 rw [(qa_sum h hs h2 e.n2 (Nat.le_refl _)).1,qd_eq (by omega) e.n6 (Nat.le_refl _)]
 congr 1
 have hx:∀ j,j < e.n6->0<=JY (Zh e) j/\JY (Zh e) j < e.n2:=fun j hj=>Zg3 h (by omega) (e.r6 j).f0
 rw [<- sumTo_cnt (R:=fun j=>(Yj e).runs (stO (e.r6 j))) (x:=fun j=>(JY (Zh e) j).toNat) (m:=e.n2) e.n6 (fun j hj=>by have:=hx j hj; omega)]
 refine Zhh fun p hp=>?_
 rw [qn_eq h hp]
 refine Nat.le_antisymm (cnt_mono fun k hk hf=>?_) (cnt_mono fun k hk hf=>?_)
 ·obtain ⟨k1,k2,_⟩:=inQ_of hf
  rw [Bool.and_eq_true]
  exact ⟨decide_eq_true (by omega),k2⟩
 ·rw [Bool.and_eq_true] at hf
  have h1:=of_decide_eq_true hf.1
  have:=hx k hk
  unfold inE inQ
  rw [Bool.and_eq_true,Bool.and_eq_true]
  refine ⟨?_,hf.2,rfl⟩
  have e1:JY (Zh e) k = (p:Int):=by omega
  rw [e1]
  simp
end
theorem vcheck0:ZQ (Zn P [] [] true) 400 139 (.cons (.agg (.cons (.int true .i64 0) (.cons .Zz (.cons .Zz .nil)))) .nil) = .leaf (.int true .i64 0):=by
 rw [<- Zcu Zht]
 kernel_rfl
theorem Zj3:Zi P 139 (.cons (.agg (.cons (.int true .i64 0) (.cons .Zz (.cons .Zz .nil)))) .nil) (.int true .i64 0):=
 meets (E:=en []) (en_ok (l:=[]) trivial) 400 (Has.of hn Tryz.func139 rfl) vcheck0 ⟨rfl,rfl⟩
def VD:Con:={ g:=139,al:=true,ans:=fun x=>match x with
 | .cons (.agg (.cons (.int _ .i64 (.ofNat 0)) (.cons .Zz (.cons .Zz .nil)))) .nil=>some (.sure (.int true .i64 0))
 | _=>none }
theorem Zjg:VD.Ok P:=by
 intro x
 dsimp only [VD]
 split
 ·rename_i h
  split at h
  ·injection h with h; injection h with h; subst h
   exact Zj3
  ·cases h
 ·rename_i h
  split at h <;> cases h
 ·rename_i h
  split at h <;> cases h
 ·trivial
end Go.Proofs.YtnjjailadijdlaaGreatDoor
end
