/- From a row's reading of its arguments to the evaluator's values; and from the evaluator's word back to the row's end. -/
import Derived.Test.YtnjjailadijdlaaGreatDoorMAl
import Derived.Carry
import Derived.OpenShut
import Derived.ProofKit
import Derived.Test.YtnjjailadijdlaaGreatDoorMBa
import Derived.Test.YtnjjailadijdlaaGreatDoorMAo
import Derived.Test.YtnjjailadijdlaaGreatDoorMBb
import Derived.Test.YtnjjailadijdlaaGreatDoorMAm
import Derived.Test.YtnjjailadijdlaaGreatDoorMAs
set_option maxRecDepth 100000
set_option linter.unusedVariables false
set_option linter.unusedSimpArgs false
noncomputable section
namespace Go.Fw
open Go.WideShapes Go.RowKit Go.ChangeShapes
inductive Sh where
 | int (k:IntKind)
 | bool
 | str
 | unit
 | pair (a b:Sh)
 | sl (es:Nat) (e:Sh)
@[reducible] def Sh.den:Sh->Type
 | .int _=>Int
 | .bool=>Bool
 | .str=>List UInt8
 | .unit=>Unit
 | .pair a b=>a.den×b.den
 | .sl _ e=>Nat×(Nat->e.den)
def Sh.dflt:(s:Sh)->s.den
 | .int _=>(0:Int)
 | .bool=>false
 | .str=>([]:List UInt8)
 | .unit=>()
 | .pair a b=>(a.dflt,b.dflt)
 | .sl _ e=>((0:Nat),fun _=>e.dflt)
def Sh.push:(s:Sh)->s.den->V->V
 | .int k,x,tl=>.cons (.int false k x) tl
 | .bool,x,tl=>.cons (.bool false x) tl
 | .str,x,tl=>.cons (.str false x) tl
 | .unit,_,tl=>tl
 | .pair a b,x,tl=>a.push x.1 (b.push x.2 tl)
 | .sl es e,x,tl=>.cons (.rsl false es x.1 fun i=>e.push (x.2 i) .nil) tl
def Sh.wf:(s:Sh)->s.den->Prop
 | .int k,x=>(Lit.int k x).wf = true
 | .bool,_=>True
 | .str,x=>x.length<=maxLen
 | .unit,_=>True
 | .pair a b,x=>a.wf x.1/\b.wf x.2
 | .sl _ e,x=>x.1<=maxLen/\∀ i,i < x.1->e.wf (x.2 i)
def shRep (s:Sh):Nat->Sh
 | 0=>.unit
 | n + 1=>.pair s (shRep s n)
section
variable (P:Program)
def shFs (rec_:TypeId->Option Sh):List Field->Nat->Option (Sh×Nat)
 | [],o=>some (.unit,o)
 | f :: fs,o=>if f.offset = o then match rec_ f.type,shFs rec_ fs (o + P.cellsOf f.type) with
   | some a,some (b,o')=>some (.pair a b,o')
   | _,_=>none
  else none
def shOf:Nat->TypeId->Option Sh
 | 0,_=>none
 | k + 1,t=>match P.underlying t with
  | some .bool=>if P.cellsOf t = 1 then some .bool else none
  | some (.int k)=>if P.cellsOf t = 1 then some (.int k) else none
  | some .string=>if P.cellsOf t = 1 then some .str else none
  | some (.struct fs)=>match shFs P (shOf k) fs.toList 0 with
   | some (s,o)=>if o = P.cellsOf t then some s else none
   | none=>none
  | some (.slice e)=>if P.cellsOf e = 0\/P.cellsOf t ≠ 1 then none else match shOf k e with
   | some s=>some (.sl (P.cellsOf e) s)
   | none=>none
  | some (.array n e)=>if P.cellsOf t = n * P.cellsOf e/\n<=8 then match shOf k e with
   | some s=>some (shRep s n)
   | none=>none
   else none
  | _=>none
end
theorem VG {α:Type} {p:Prop} [Decidable p] {a b:α} (h:(if p then some a else none) = some b):p/\a = b:=by
 split at h
 ·exact ⟨‹_›,by simpa using h⟩
 ·cases h
theorem ZgW {F:Nat->Prop} {w:World} {n:Nat} {m:Nat->Option Nat}:∀ (s:Sh) (x:s.den) (tl:V) (xs ys:List Value),
  RL F w (s.push x .nil) n m xs->RL F w tl n m ys->RL F w (s.push x tl) n m (xs ++ ys):=by
 suffices H:∀ (s:Sh) (x:s.den) (t1 t2:V) (xs ys:List Value),(∀ zs,RL F w t1 n m zs->RL F w t2 n m (zs ++ ys))->RL F w (s.push x t1) n m xs->RL F w (s.push x t2) n m (xs ++ ys) from
  fun s x tl xs ys h1 h2=>H s x .nil tl xs ys (fun zs hz=>by simp only [RL] at hz; subst hz; exact h2) h1
 intro s
 induction s with
 | int k=>intro x t1 t2 xs ys ht h; obtain ⟨a,r,rfl,h1,h2⟩:=h; exact ⟨a,r ++ ys,rfl,h1,ht r h2⟩
 | bool=>intro x t1 t2 xs ys ht h; obtain ⟨a,r,rfl,h1,h2⟩:=h; exact ⟨a,r ++ ys,rfl,h1,ht r h2⟩
 | str=>intro x t1 t2 xs ys ht h; obtain ⟨a,r,rfl,h1,h2⟩:=h; exact ⟨a,r ++ ys,rfl,h1,ht r h2⟩
 | unit=>intro x t1 t2 xs ys ht h; exact ht xs h
 | pair a b iha ihb=>intro x t1 t2 xs ys ht h; exact iha x.1 _ _ xs ys (fun zs hz=>ihb x.2 t1 t2 zs ys ht hz) h
 | sl es e ih=>intro x t1 t2 xs ys ht h; obtain ⟨a,r,rfl,h1,h2⟩:=h; exact ⟨a,r ++ ys,rfl,h1,ht r h2⟩
theorem ZjH {α β:Type} {f:α->Option β}:∀ {l:List α} {r:List β},l.mapM f = some r->r.length = l.length/\∀ i (h:i < l.length),f l[i] = r[i]?:=by
 intro l
 induction l with
 | nil=>intro r h; simp at h; subst h; exact ⟨rfl,fun i h=>absurd h (by simp)⟩
 | cons a l ih=>
  intro r h
  simp only [List.mapM_cons,Option.bind_eq_bind,Option.bind_eq_some_iff,Option.pure_def,Option.some.injEq] at h
  obtain ⟨b,hb,r',hr',rfl⟩:=h
  obtain ⟨h1,h2⟩:=ih hr'
  refine ⟨by simp [h1],fun i hi=>?_⟩
  cases i with
  | zero=>simpa using hb
  | succ i=>simpa using h2 i (by simpa using hi)
theorem Zez {w:World} {base:Nat} {a:Addr} {n:Nat} {cs:List Value} (h:w.cells? base a n = some cs):cs.length = n/\∀ i,i < n->w.cell? (a.add i) = cs[i]?:=by
 unfold World.cells? at h
 split at h
 ·obtain ⟨h1,h2⟩:=ZjH h
  exact ⟨by simpa using h1,fun i hi=>by have:=h2 i (by simpa using hi); rwa [List.getElem_range] at this⟩
 ·cases h
theorem Zid (a:Addr) (h:a.spot = none) (n:Nat):a.add n = ⟨a.block,a.off + n,none⟩:=by
 cases a; simp only at h; subst h
 unfold Addr.add; split
 ·rename_i h; subst h; rfl
 ·rfl
section
variable {H:Type} {enc:TypeId×Value->H} {P:Program} {w:World} {spare:Nat->Bool} {held:Bool} {F:Nat->Prop}
theorem sh_fs {k fuel:Nat} {cs:List Value}
  (ih:∀ t s,shOf P k t = some s->∀ cs d ps,DataW.trod enc P w 0 spare held fuel t cs = some (d,ps)->(∀ p ∈ ps,F p.block) ->
   cs.length = P.cellsOf t/\∃ x,RL F w (s.push x .nil) 0 (fun _=>none) cs/\s.wf x) :
  ∀ (fs:List Field) (o:Nat) (s:Sh) (o':Nat),shFs P (shOf P k) fs o = some (s,o') ->
   (∀ f ∈ fs,∃ d ps,DataW.trod enc P w 0 spare held fuel f.type ((cs.drop f.offset).take (P.cellsOf f.type)) = some (d,ps)/\∀ p ∈ ps,F p.block) ->
   o' = cs.length->∃ x,RL F w (s.push x .nil) 0 (fun _=>none) (cs.drop o)/\s.wf x:=by
 intro fs
 induction fs with
 | nil=>
  intro o s o' h _ ho
  simp only [shFs,Option.some.injEq,Prod.mk.injEq] at h
  obtain ⟨rfl,rfl⟩:=h
  refine ⟨(),?_,trivial⟩
  show RL F w .nil 0 _ _
  simp only [RL]
  rw [ho]; exact List.drop_length
 | cons f fs ihf=>
  intro o s o' h hall ho
  simp only [shFs] at h
  split at h
  ·rename_i hoff
   split at h
   ·rename_i a b o'' ha hb
    simp only [Option.some.injEq,Prod.mk.injEq] at h
    obtain ⟨rfl,rfl⟩:=h
    obtain ⟨d,ps,h1,h2⟩:=hall f (List.mem_cons_self ..)
    obtain ⟨hl,x,hx,hwx⟩:=ih f.type a ha _ d ps h1 h2
    obtain ⟨y,hy,hwy⟩:=ihf _ b o'' hb (fun g hg=>hall g (List.mem_cons_of_mem _ hg)) ho
    refine ⟨(x,y),?_,hwx,hwy⟩
    have e:cs.drop o = (cs.drop f.offset).take (P.cellsOf f.type) ++ cs.drop (o + P.cellsOf f.type):=by
     rw [hoff,<- List.drop_drop,List.take_append_drop]
    rw [e]
    exact ZgW a x _ _ _ hx hy
   ·cases h
  ·cases h
theorem sh_rep {fuel:Nat} {cs:List Value} {e:TypeId} {s:Sh} {z:Nat}
  (ih:∀ cs d ps,DataW.trod enc P w 0 spare held fuel e cs = some (d,ps)->(∀ p ∈ ps,F p.block)->∃ x,RL F w (s.push x .nil) 0 (fun _=>none) cs/\s.wf x) :
  ∀ (n o:Nat),(∀ i,i < n->∃ d ps,DataW.trod enc P w 0 spare held fuel e ((cs.drop ((o + i) * z)).take z) = some (d,ps)/\∀ p ∈ ps,F p.block)->cs.length = (o + n) * z ->
   ∃ x,RL F w ((shRep s n).push x .nil) 0 (fun _=>none) (cs.drop (o * z))/\(shRep s n).wf x:=by
 intro n
 induction n with
 | zero=>
  intro o _ hl
  refine ⟨(),?_,trivial⟩
  show RL F w .nil 0 _ _
  simp only [RL]
  rw [Nat.add_zero] at hl
  rw [<- hl]; exact List.drop_length
 | succ n ihn=>
  intro o hall hl
  obtain ⟨d,ps,h1,h2⟩:=hall 0 (by omega)
  obtain ⟨x,hx,hwx⟩:=ih _ d ps h1 h2
  obtain ⟨y,hy,hwy⟩:=ihn (o + 1) (fun i hi=>by
   have:=hall (i + 1) (by omega)
   rwa [show o + (i + 1) = o + 1 + i by omega] at this) (by rw [hl]; congr 1; omega)
  refine ⟨(x,y),?_,hwx,hwy⟩
  have e1:cs.drop (o * z) = (cs.drop ((o + 0) * z)).take z ++ cs.drop ((o + 1) * z):=by
   rw [Nat.add_zero,Nat.add_mul,Nat.one_mul,<- List.drop_drop,List.take_append_drop]
  rw [e1]
  exact ZgW s x _ _ _ hx hy
theorem sh_ok:∀ (k:Nat) (t:TypeId) (s:Sh),shOf P k t = some s->∀ (fuel:Nat) (cs:List Value) (d:DataW H) (ps:List MemPlace),DataW.trod enc P w 0 spare held fuel t cs = some (d,ps)->(∀ p ∈ ps,F p.block) ->
  cs.length = P.cellsOf t/\∃ x,RL F w (s.push x .nil) 0 (fun _=>none) cs/\s.wf x:=by
 intro k
 induction k with
 | zero=>intro t s h; cases h
 | succ k ih=>
  intro t s h fuel cs d ps hd hps
  simp only [shOf] at h
  split at h
  ·rename_i hu
   rcases VG h with ⟨h1,rfl⟩
   obtain ⟨b,rfl,_⟩:=DataW.trod_bool hu hd
   exact ⟨h1.symm,b,⟨_,[],rfl,rfl,rfl⟩,trivial⟩
  ·rename_i ik hu
   rcases VG h with ⟨h1,rfl⟩
   obtain ⟨n,rfl,_,hw⟩:=DataW.trod_int hu hd
   exact ⟨h1.symm,n,⟨_,[],rfl,rfl,rfl⟩,hw⟩
  ·rename_i hu
   rcases VG h with ⟨h1,rfl⟩
   obtain ⟨b,rfl,_,hl⟩:=DataW.trod_string hu hd
   exact ⟨h1.symm,b.data.toList,⟨_,[],rfl,rfl,rfl⟩,by simpa [Sh.wf] using hl⟩
  ·rename_i fs hu
   split at h
   ·rename_i s' o hs
    split at h
    ·rename_i ho
     cases h
     obtain ⟨xs,n,rfl,hx,hlen,hxl,hf⟩:=DataW.trod_struct hu hd
     simp only [Prod.mk.injEq] at hx
     refine ⟨hlen,?_⟩
     have:=sh_fs (enc:=enc) (spare:=spare) (held:=held) (fuel:=n) (cs:=cs) (fun t s h cs d ps=>ih t s h n cs d ps) fs.toList 0 s o hs (fun f hfm=>?_) (ho.trans hlen.symm)
     ·simpa using this
     ·obtain ⟨i,hi,rfl⟩:=List.getElem_of_mem hfm
      have hi':i < fs.size:=by simpa using hi
      have h1:=hf i fs[i] (by simp [hi'])
      have hxi:i < xs.length:=by omega
      refine ⟨xs[i].1,xs[i].2,?_,fun p hp=>hps p ?_⟩
      ·simp only [Array.getElem_toList]
       rw [h1,List.getElem?_eq_getElem hxi]
      ·rw [hx.2]
       exact List.mem_flatMap.2 ⟨xs[i],List.getElem_mem _,hp⟩
    ·cases h
   ·cases h
  ·rename_i e hu
   split at h
   ·cases h
   ·rename_i hes'
    have hes:P.cellsOf e ≠ 0:=fun e0=>hes' (.inl e0)
    have hlen1:P.cellsOf t = 1:=Classical.byContradiction fun e0=>hes' (.inr e0)
    split at h
    ·rename_i s' hs
     cases h
     rcases DataW.trod_slice hu hd with ⟨rfl,_⟩ | ⟨a,len,cap,elems,rest,n,rfl,rfl,hx,_,hlc,hcm,hlen,hel,_,_⟩
     ·refine ⟨hlen1.symm,((0:Nat),fun _=>s'.dflt),⟨_,[],rfl,⟨none,0,rfl,Nat.le_refl _,.inl rfl⟩,rfl⟩,Nat.zero_le _,fun i hi=>absurd hi (Nat.not_lt_zero _)⟩
     ·simp only [Prod.mk.injEq] at hx
      have hpl:∀ p ∈ MemPlace.row a ((elems.length + rest.length) * P.cellsOf e) ++ (elems ++ rest).flatMap (·.2),F p.block:=fun p hp=>hps p (by rw [hx.2]; exact hp)
      have hi:∀ i,i < len->∃ cs',w.cells? 0 (a.add (i * P.cellsOf e)) (P.cellsOf e) = some cs'/\∃ x,RL F w (s'.push x .nil) 0 (fun _=>none) cs'/\s'.wf x:=by
       intro i hil
       have h1:=hel i hil
       have hil':i < elems.length:=by omega
       rw [List.getElem?_eq_getElem hil'] at h1
       obtain ⟨cs',h2,h3⟩:=Option.bind_eq_some_iff.1 h1
       exact ⟨cs',h2,(ih e s' hs n cs' elems[i].1 elems[i].2 h3 (fun p hp=>hpl p (List.mem_append_right _ (List.mem_flatMap.2 ⟨elems[i],List.mem_append_left _ (List.getElem_mem _),hp⟩)))).2⟩
      refine ⟨hlen1.symm,(len,fun i=>if h:i < len then (hi i h).choose_spec.2.choose else s'.dflt),⟨_,[],rfl,⟨some a,cap,rfl,hlc,?_⟩,rfl⟩,Nat.le_trans hlc hcm,fun i hil=>?_⟩
      ·rcases Nat.eq_zero_or_pos len with h0 | h0
       ·exact .inl h0
       ·refine .inr ?_
        have hpos:0 < P.cellsOf e:=Nat.pos_of_ne_zero hes
        obtain ⟨cs0,hc0,_⟩:=hi 0 h0
        obtain ⟨hl0,hg0⟩:=Zez hc0
        have hz:=hg0 0 hpos
        rw [List.getElem?_eq_getElem (by omega)] at hz
        have hz':w.cell? a = some cs0[0]:=by simpa [Addr.add] using hz
        unfold World.cell? at hz'
        split at hz'
        ·rename_i c el fr hb
         split at hz'
         ·cases hz'
         ·rename_i hsp
          have hsp':a.spot = none:=by simpa using hsp
          have ea:a = ⟨a.block,a.off,none⟩:=by cases a; simp_all
          refine ⟨a.block,a.off,congrArg some ea,hpl (.cell a.block a.off) (List.mem_append_left _ ?_),c,el,fr,hb,fun j hj=>?_⟩
          ·exact List.mem_map.2 ⟨0,List.mem_range.2 (Nat.mul_pos (by omega) hpos),rfl⟩
          ·refine ⟨(hi j hj).choose,?_,?_,fun q hq=>?_⟩
           ·simp only [hj,dif_pos]
            exact (hi j hj).choose_spec.2.choose_spec.1
           ·exact (Zez (hi j hj).choose_spec.1).1
           ·have h4:=(Zez (hi j hj).choose_spec.1).2 q hq
            rw [<- h4]
            have eb:((a.add (j * P.cellsOf e)).add q) = ⟨a.block,a.off + j * P.cellsOf e + q,none⟩:=by
             rw [Zid a hsp',Zid _ rfl]
            rw [eb]
            simp [World.cell?,hb]
        ·cases hz'
      ·simp only [hil,dif_pos]
       exact (hi i hil).choose_spec.2.choose_spec.2
    ·cases h
  ·rename_i n e hu
   split at h
   ·rename_i hc
    split at h
    ·rename_i s' hs
     cases h
     obtain ⟨xs,q,rfl,hx,hlen,hxl,hf⟩:=DataW.trod_array hu hd
     simp only [Prod.mk.injEq] at hx
     refine ⟨hlen,?_⟩
     have:=sh_rep (enc:=enc) (spare:=spare) (held:=held) (fuel:=q) (cs:=cs) (s:=s') (z:=P.cellsOf e) (fun cs d ps h1 h2=>(ih e s' hs q cs d ps h1 h2).2) n 0 (fun i hi=>by
      have h1:=hf i hi
      have hxi:i < xs.length:=by omega
      refine ⟨xs[i].1,xs[i].2,?_,fun p hp=>hps p ?_⟩
      ·rw [Nat.zero_add,h1,List.getElem?_eq_getElem hxi]
      ·rw [hx.2]
       exact List.mem_flatMap.2 ⟨xs[i],List.getElem_mem _,hp⟩) (by rw [hlen,hc.1,Nat.zero_add])
     simpa using this
    ·cases h
   ·cases h
  ·cases h
theorem ZdT {k:Nat} {t:TypeId} {s:Sh} {v:Value} {d:DataW H} {ps:List MemPlace} (hs:shOf P k t = some s) (hd:DataW.Trod enc P w 0 spare held t v d ps) (hps:∀ p ∈ ps,F p.block) :
  ∃ x,RL F w (s.push x .nil) 0 (fun _=>none) v.cells.toList/\s.wf x:=by
 obtain ⟨fuel,hf⟩:=hd
 exact (sh_ok k t s hs fuel _ d ps hf hps).2
end
def Sh.val (s:Sh) (x:s.den):V:=match s,x with
 | .int k,x=>.int false k x
 | .bool,x=>.bool false x
 | .str,x=>.str false x
 | .unit,_=>.agg .nil
 | .pair a b,x=>.agg (a.push x.1 (b.push x.2 .nil))
 | .sl es e,x=>.rsl false es x.1 fun i=>e.push (x.2 i) .nil
theorem sh_val {F:Nat->Prop} {P:Program} {w W:World} {b0:Nat} {r:Reach} {k:Nat} {t:TypeId} {s:Sh} {v:Value} (hs:shOf P (k + 1) t = some s) (hv:Value.okWide P W r b0 t v) {x:s.den}
  (h:RL F w (s.push x .nil) 0 (fun _=>none) v.cells.toList):R F w (s.val x) 0 (fun _=>none) v:=by
 have scal:∀ y:V,(∀ z,P.underlying t = some (.struct z)->False)->(∀ z z',P.underlying t = some (.array z z')->False)->RL F w (.cons y .nil) 0 (fun _=>none) v.cells.toList->R F w y 0 (fun _=>none) v:=by
  intro y h1 h2 h3
  obtain ⟨a,r,e1,h4,h5⟩:=h3
  simp only [RL] at h5
  subst h5
  have:v.cells = #[v]:=by
   cases v with
   | agg cs=>
    exfalso
    simp only [Value.okWide] at hv
    unfold Cell.okWide at hv
    split at hv <;> simp_all [Cell.ok]
   | _=>rfl
  rw [this] at e1
  simp at e1
  subst e1
  exact h4
 simp only [shOf] at hs
 split at hs
 ·rename_i hu
  obtain ⟨_,rfl⟩:=VG hs
  exact scal _ (by simp [hu]) (by simp [hu]) h
 ·rename_i ik hu
  obtain ⟨_,rfl⟩:=VG hs
  exact scal _ (by simp [hu]) (by simp [hu]) h
 ·rename_i hu
  obtain ⟨_,rfl⟩:=VG hs
  exact scal _ (by simp [hu]) (by simp [hu]) h
 ·rename_i fs hu
  obtain ⟨cs,rfl,_⟩:=okWide_struct hu hv
  split at hs
  ·rename_i s' o hfs
   obtain ⟨_,rfl⟩:=VG hs
   cases hl:fs.toList with
   | nil=>
    rw [hl] at hfs
    simp only [shFs,Option.some.injEq,Prod.mk.injEq] at hfs
    obtain ⟨rfl,_⟩:=hfs
    exact ⟨cs,rfl,h⟩
   | cons f fs'=>
    rw [hl] at hfs
    simp only [shFs] at hfs
    split at hfs
    ·split at hfs
     ·simp only [Option.some.injEq,Prod.mk.injEq] at hfs
      obtain ⟨rfl,_⟩:=hfs
      exact ⟨cs,rfl,h⟩
     ·cases hfs
    ·cases hfs
  ·cases hs
 ·rename_i e hu
  split at hs
  ·cases hs
  ·split at hs
   ·cases hs
    exact scal _ (by simp [hu]) (by simp [hu]) h
   ·cases hs
 ·rename_i n' e hu
  obtain ⟨cs,rfl⟩:∃ cs,v = .agg cs:=by
   simp only [Value.okWide,hu] at hv
   obtain ⟨cs,h1,_⟩:=hv
   exact ⟨cs,h1⟩
  split at hs
  ·split at hs
   ·rename_i s' _
    cases hs
    cases n' with
    | zero=>exact ⟨cs,rfl,h⟩
    | succ n'=>exact ⟨cs,rfl,h⟩
   ·cases hs
  ·cases hs
 ·cases hs
def shAll (P:Program) (k:Nat):List TypeId->Option Sh
 | []=>some .unit
 | t :: ts=>match shOf P k t,shAll P k ts with
  | some a,some b=>some (.pair a b)
  | _,_=>none
def Sh.vals:(s:Sh)->s.den->V
 | .pair a b,x=>.cons (a.val x.1) (b.vals x.2)
 | _,_=>.nil
theorem sh_all {H:Type} {enc:TypeId×Value->H} {P:Program} {w:World} {b0:Nat} {r:Reach} {spare:Nat->Bool} {held:Bool} {F:Nat->Prop} {k:Nat} :
  ∀ (ts:List TypeId) (s:Sh) (vs:List Value) (ds:List (DataW H)) (ps:List MemPlace),shAll P (k + 1) ts = some s->DataW.TrodAll enc P w 0 spare held ts vs ds ps ->
   (∀ (j:Nat) t v,ts[j]? = some t->vs[j]? = some v->Value.okWide P w r b0 t v)->(∀ p ∈ ps,F p.block) ->
   ∃ x,RL F w (s.vals x) 0 (fun _=>none) vs/\s.wf x:=by
 intro ts
 induction ts with
 | nil=>
  intro s vs ds ps hs h _ _
  simp only [shAll,Option.some.injEq] at hs
  subst hs
  obtain ⟨rfl,_,_⟩:=trodAll_nil h
  exact ⟨(),rfl,trivial⟩
 | cons t ts ih=>
  intro s vs ds ps hs h hok hps
  simp only [shAll] at hs
  split at hs
  ·rename_i a b ha hb
   cases hs
   obtain ⟨v,vs1,d,ds1,p,q,rfl,rfl,rfl,h1,h2⟩:=trodAll_cons h
   obtain ⟨x,hx,hwx⟩:=ZdT ha h1 (fun z hz=>hps z (List.mem_append_left _ hz))
   obtain ⟨y,hy,hwy⟩:=ih b vs1 ds1 q hb h2 (fun j t v h3 h4=>hok (j + 1) t v (by simpa using h3) (by simpa using h4)) (fun z hz=>hps z (List.mem_append_right _ hz))
   exact ⟨(x,y),⟨v,vs1,rfl,sh_val ha (hok 0 t v rfl rfl) hx,hy⟩,hwx,hwy⟩
  ·cases hs
theorem Zlv {H:Type} {enc:TypeId×Value->H} {P:Program} {W W':World} (hl:laidOutB P = true) (hs:∀ p:MemPlace,p.block < W.heap.size->W.sameAt W' p) :
  ∀ (ts:List TypeId) (vs:List Value) (ds:List (DataW H)) (ps:List MemPlace),(ts.all fun t=>P.readableRec t&&decide (t < P.types.size)) = true->DataW.TrodAll enc P W 0 (fun _=>true) true ts vs ds ps ->
   (∀ p ∈ ps,p.block < W.heap.size)->∀ sp:Nat->Bool,(∀ p ∈ ps,sp p.block = true)->DataW.TrodAll enc P W' 0 sp true ts vs ds ps:=by
 intro ts
 induction ts with
 | nil=>
  intro vs ds ps _ h _ sp _
  obtain ⟨rfl,rfl,rfl⟩:=trodAll_nil h
  exact trodAll_mk0
 | cons t ts ih=>
  intro vs ds ps ht h hps sp hsp
  obtain ⟨v,vs1,d,ds1,p,q,rfl,rfl,rfl,h1,h2⟩:=trodAll_cons h
  simp only [List.all_cons,Bool.and_eq_true,decide_eq_true_eq] at ht
  exact trodAll_cons_mk (WideElems.Trod_stays hl ht.1.1 ht.1.2 h1 (fun z hz=>hs z (hps z (List.mem_append_left _ hz))) (fun z hz=>hsp z (List.mem_append_left _ hz)))
   (ih vs1 ds1 q ht.2 h2 (fun z hz=>hps z (List.mem_append_right _ hz)) sp (fun z hz=>hsp z (List.mem_append_right _ hz)))
theorem law_post {H:Type} {enc:TypeId×Value->H} {P:Program} {f:Func} {s:ChangeSpec} {apart fresh handsOn again:Bool} {W W':World} {args:Array Value} {ds gs:List (DataW H)} {before:List MemPlace} {tb:TypeId}
  (hW:DataW.Whole enc P f.params.toList s.vars apart W args.toList ds gs before) (hvars:s.vars = []) (hb:Below W.heap.size W W') (hl:laidOutB P = true)
  (hr:(f.params.toList.all fun t=>P.readableRec t&&decide (t < P.types.size)) = true) (ht:f.resultTypes = #[tb]) (hu:P.underlying tb = some .bool)
  (hfn:s.fn H (ds ++ gs) = { results:=[.lit (.bool true)],args:=ds }):s.post enc P f apart fresh handsOn again W args (.bool true) W':=by
 have hlt:=hW.lt
 have hW0:=hW
 obtain ⟨p,q,hA,hV,rfl,hfz,hnd⟩:=hW
 have hA':∀ sp:Nat->Bool,(∀ z ∈ p ++ q,sp z.block = true)->DataW.TrodAll enc P W' 0 sp true f.params.toList args.toList ds p:=fun sp hsp=>
  Zlv hl (fun z hz=>hb.same hz) _ _ _ _ hr hA (fun z hz=>hlt z (List.mem_append_left _ hz)) sp (fun z hz=>hsp z (List.mem_append_left _ hz))
 have hV':q = []/\∀ sp:Nat->Bool,DataW.TrodVars enc P W' sp s.vars [] []:=by
  rw [hvars] at hV ⊢
  obtain ⟨_,h2⟩:=trodVars_none hV
  exact ⟨h2,fun sp=>rfl⟩
 obtain ⟨rfl,hV'⟩:=hV'
 have hres:∀ (b:Nat) (sp:Nat->Bool) (hd:Bool),DataW.TrodAll enc P W' b sp hd f.resultTypes.toList ((Value.bool true).resultList f.resultTypes.size) [.lit (.bool true)] []:=by
  intro b sp hd
  rw [ht]
  exact trodAll_cons_mk (shut_bool hu _) trodAll_mk0
 refine ⟨ds,gs,p ++ [],[],p,[],hW0,?_,?_,?_,hb.frame _,fun _=>⟨ok_one ht rfl (okWide_bool_mk hu _),_,_,([] ++ p) ++ [],⟨[] ++ p,[],trodAll_append (hA' _ (fun _ _=>rfl)) (hres _ _ _),hV' _,rfl,?_,?_⟩,?_⟩⟩
 ·rw [hfn]; exact hres _ _ _
 ·rw [hfn]; exact hA' _ (fun z hz=>by simpa using hlt z hz)
 ·rw [hfn]; exact hV' _
 ·intro b off hp
  have hp':MemPlace.cell b off ∈ p ++ []:=by simpa using hp
  have:=hlt _ hp'
  rw [hb.frozen (p:=⟨b,off,none⟩) this]
  exact hfz b off hp'
 ·intro ha
  have:=hnd ha
  simpa using this
 ·intro z hz _
  simpa using hz
theorem Zky {H:Type} {enc:TypeId×Value->H} {P:Program} {n k:Nat} {f:Func} {s:ChangeSpec} {sh:Sh} {apart fresh handsOn again:Bool} {tb:TypeId} {W:World} {base:Nat} {args:Array Value} {ds gs:List (DataW H)} {before:List MemPlace}
  {st:Bool} (hmeets:∀ x:sh.den,sh.wf x->Zi P n (sh.vals x) (.bool st true)) (hsh:shAll P (k + 1) f.params.toList = some sh)
  (hvars:s.vars = []) (hl:laidOutB P = true) (hr:(f.params.toList.all fun t=>P.readableRec t&&decide (t < P.types.size)) = true) (ht:f.resultTypes = #[tb]) (hu:P.underlying tb = some .bool)
  (hfn:∀ ds:List (DataW H),ds.length = f.params.toList.length->s.fn H ds = { results:=[.lit (.bool true)],args:=ds })
  (hgl:GOk (fun B=>B < W.heap.size) W)
  (hval:∀ (j:Nat) t v,f.params[j]? = some t->args[j]? = some v->Value.okWide P W .any base t v)
  (hW:DataW.Whole enc P f.params.toList s.vars apart W args.toList ds gs before) :
  Calls P n args W fun e W'=>∃ v,e = .returned v/\s.post enc P f apart fresh handsOn again W args v W':=by
 have hlt:=hW.lt
 have hW0:=hW
 obtain ⟨p,q,hA,hV,rfl,hfz,hnd⟩:=hW
 have hg:gs = []:=by rw [hvars] at hV; exact (trodVars_none hV).1
 obtain ⟨x,hx,hwf⟩:=sh_all (F:=fun B=>B < W.heap.size) (k:=k) (b0:=base) (r:=.any) f.params.toList sh args.toList ds p hsh hA
  (fun j t v h1 h2=>hval j t v (by simpa using h1) (by simpa using h2)) (fun z hz=>hlt z (List.mem_append_left _ hz))
 refine ((hmeets x hwf).2 (fun B=>B < W.heap.size) W args (fun _ h=>h) hgl hx).mono fun e W' ⟨v,F',he,hlat,hR⟩=>?_
 subst he
 simp only [R] at hR
 subst hR
 refine ⟨_,rfl,law_post hW0 hvars ⟨hlat.calm.os,hlat.calm.tape,hlat.calm.output,hlat.size,hlat.keep⟩ hl hr ht hu ?_⟩
 subst hg
 rw [List.append_nil]
 refine hfn ds ?_
 have:∀ (ts:List TypeId) (vs:List Value) (ds:List (DataW H)) (p:List MemPlace),DataW.TrodAll enc P W 0 (fun _=>true) true ts vs ds p->ds.length = ts.length:=by
  intro ts
  induction ts with
  | nil=>intro vs ds p h; obtain ⟨_,rfl,_⟩:=trodAll_nil h; rfl
  | cons t ts ih=>
   intro vs ds p h
   obtain ⟨_,vs1,_,ds1,_,q,rfl,rfl,rfl,_,h2⟩:=trodAll_cons h
   simp [ih vs1 ds1 q h2]
 exact this _ _ _ _ hA
end Go.Fw
namespace Go.Proofs.YtnjjailadijdlaaGreatDoor
open Go.Fw
def Zat (b:Nat) (d:Zb):V:=(.cons (.int false .i64 d.f0) (.cons (.rsl false 2 d.n1 fun j=>Yk false (d.r1 j)) (.cons (.rsl false 1 d.n2 fun j=>ZW false (d.r2 j)) (.cons (.rsl false 4 d.n3 fun j=>Zm false (d.r3 j)) (.cons (.rsl false 4 d.n4 fun j=>Zk false (d.r4 j)) (.cons (.osl false b 2 0 d.n5) (.cons (.rsl false 11 d.n6 fun j=>ZT false (d.r6 j)) (.cons (.rsl false 2 d.n7 fun j=>ZN false (d.r7 j)) (.cons (.rsl false 5 d.n8 fun j=>ZG false (d.r8 j)) (.cons (.int false .i64 d.f9) (.cons (.rsl false 2 d.n10 fun j=>Zr false (d.r10 j)) (.cons (.rsl false 3 d.n11 fun j=>Zl false (d.r11 j)) (.cons (.rsl false 2 d.n12 fun j=>Yq false (d.r12 j)) (.cons (.int false .u64 d.f13) .nil))))))))))))))
def Zbn:V:=(.cons (.int true .i64 0) (.cons .Zz (.cons .Zz (.cons .Zz (.cons .Zz (.cons .Zz (.cons .Zz (.cons .Zz (.cons .Zz (.cons (.int true .i64 0) (.cons .Zz (.cons .Zz (.cons .Zz (.cons (.int true .u64 0) .nil))))))))))))))
def cutG (x:Wq):Wq:=⟨x.f0,Z5 17 x.n1,x.r1⟩
def Jp (g:Nat->Wq) (i j:Nat):Wq:=bif decide (j < i) then cutG (g j) else g j
def Uv (e:Zb) (i:Int):V:=.cons (.ptr true 0 0 0 0) (.cons (.ptr true 1 0 0 0) (.cons (.int false .i64 ((e.n5:Nat):Int)) (.cons (.int false .i64 i) .nil)))
def UH (e:Zb) (z:Nat->Wq):List Blk:=[.var (Zat 33 e),.var Zbn,.arr 2 e.n5 (fun j=>ZE false (z j))]
def ZdT (x:Wq):V:=.cons (.rsl false 1 x.n1 fun j=>Ym false (x.r1 j)) (.cons (.int false .i64 17) .nil)
def sh_T (e:Zb) (i:Int) (z:Nat->Wq):Tree (Ex×Bool×V×List Blk):=
 .node (bif decide (i < ((e.n5:Nat):Int)) then false else true) (.leaf (.exit 0,true,Uv e i,UH e z))
  (.need (((0:Int)<=i/\i < ((e.n5:Nat):Int))/\0 + Int.toNat i < e.n5/\(ZdT (z (0 + Int.toNat i)) = ZdT (z (0 + Int.toNat i))/\True)/\((0:Int)<=i/\i < ((e.n5:Nat):Int))/\0 + Int.toNat i < e.n5)
   (.leaf (.normal,true,Uv e (IntKind.wrap .i64 (i + 1)),[.var (Zat 33 e),.var Zbn,.arr 2 e.n5 (fun j=>bif Nat.beq j (0 + Int.toNat i) then ZE false (cutG (z (0 + Int.toNat i))) else ZE false (z j))])))
theorem sh_round (B:Base) (e:Zb) (i:Int) (z:Nat->Wq):((ev (Zn P [Zbf] [] true) 400 17 (Qu P 17 5) B (Yg 44 89 [1,2,43,44] [(0,.own),(1,.own),(33,.own)] (Uv e i) (UH e z))).bind fun x=>Tree.leaf (x.1,vwN 44 44 89 [1,2,43,44] [(0,.own),(1,.own),(33,.own)] x.2)) = sh_T e i z:=by kernel_rfl
def sh_lp (e:Zb) (g:Nat->Wq):Lp:=⟨17,5,fun _ s=>match vwN 44 44 89 [1,2,43,44] [(0,.own),(1,.own),(33,.own)] s with
 | (true,.cons (.ptr true 0 0 0 0) (.cons (.ptr true 1 0 0 0) (.cons (.int _ .i64 t2) (.cons (.int _ .i64 t3) .nil))),[.var u0,.var u1,.arr 2 n f])=>bif Nat.beq s.n 44 then .need (((e.n5:Nat):Int) = t2/\0 = t3/\V.soft u0 = V.soft (Zat 33 e)/\V.soft u1 = V.soft Zbn/\e.n5 = n/\∀ j,(f j).soft = (ZE false (g j)).soft)
   (.leaf (.exit 0,Yg 44 89 [1,2,43,44] [(0,.own),(1,.own),(33,.own)] (Uv e ((e.n5:Nat):Int)) (UH e (fun j=>cutG (g j))))) else .stuck
 | _=>.stuck⟩
theorem ZiO (g:Nat->Wq) (i j:Nat):(bif Nat.beq j (0 + Int.toNat (i:Int)) then ZE false (cutG (Jp g i (0 + Int.toNat (i:Int)))) else ZE false (Jp g i j)) = ZE false (Jp g (i + 1) j):=by
 have e0:0 + Int.toNat (i:Int) = i:=by omega
 rw [e0]
 unfold Jp
 by_cases h:j = i
 ·subst h
  rw [decide_eq_false (Nat.lt_irrefl j),decide_eq_true (Nat.lt_succ_self j),Nat.beq_refl]; rfl
 ·have h0:Nat.beq j i = false:=by
   cases hb:Nat.beq j i
   ·rfl
   ·exact absurd (Nat.eq_of_beq_eq_true hb) h
  have h1:decide (j < i + 1) = decide (j < i):=by
   rw [decide_eq_decide]; omega
  rw [h0,h1]; rfl
theorem cutTo_end (g:Nat->Wq) (i j:Nat) (h:j < i):Jp g i j = cutG (g j):=by
 unfold Jp
 rw [decide_eq_true h]; rfl
theorem cutTo_0 (g:Nat->Wq):Jp g 0 = g:=by
 funext j
 unfold Jp
 rw [decide_eq_false (Nat.not_lt_zero j)]; rfl
theorem sh_lp_ok (e:Zb) (g:Nat->Wq) (hl:e.n5<=1000):(sh_lp e g).Ok P:=by
 refine KM (by kernel_rfl) fun hin B s Q hq=>?_
 dsimp only [sh_lp] at hq hin ⊢
 split at hq
 ·rename_i q1 t2 q2 t3 u0 u1 n f heq
  cases hsn:Nat.beq s.n 44
  ·rw [hsn] at hq; exact hq.elim
  ·rw [hsn] at hq
   obtain ⟨⟨rfl,rfl,hw0,hw1,rfl,hf⟩,hq⟩:=hq
   have hsame:WE 44 44 89 [1,2,43,44] [(0,.own),(1,.own),(33,.own)] s (Uv e 0) (UH e (Jp g 0)):=by
    rw [cutTo_0]
    refine ⟨by rw [heq],by rw [heq]; exact Le.soft rfl,by rw [heq]; exact ⟨LeK.var (Le.soft hw0),LeK.var (Le.soft hw1),LeK.arrS rfl (fun j _=>hf j),trivial⟩⟩
   refine ZfQ (k:=400) (f:=17) (Zu hm hn (l:=[Zbf]) ⟨Zf4,trivial⟩ (ls:=[]) trivial true) rfl hin e.n5 (fun i=>Uv e i) (fun i=>UH e (Jp g i)) (fun _=>True) Q (fun i=>sh_round B e i (Jp g i)) (fun i hi hg=>?_) (Nat.eq_of_beq_eq_true hsn) trivial hsame
   refine ⟨fun hc=>?_,fun hc=>?_⟩
   ·have hge:¬ ((i:Int) < ((e.n5:Nat):Int)):=fun h=>by rw [decide_eq_true h] at hc; cases hc
    have ei:i = e.n5:=by omega
    subst ei
    exact ⟨rfl,_,UH e (fun j=>cutG (g j)),Le.refl _,⟨LeK.refl _,LeK.refl _,LeK.arr rfl (fun j hj=>by rw [cutTo_end g _ j hj]),trivial⟩,hq⟩
   ·have hlt:((i:Int) < ((e.n5:Nat):Int)):=by
     apply Classical.byContradiction; intro h; rw [decide_eq_false h] at hc; cases hc
    refine ⟨⟨⟨by omega,hlt⟩,by omega,⟨rfl,trivial⟩,⟨by omega,hlt⟩,by omega⟩,?_⟩
    rw [IntWalk.i64_in ((i:Int) + 1) ⟨by omega,by omega⟩]
    exact ⟨rfl,by omega,trivial,Le.soft rfl,⟨LeK.refl _,LeK.refl _,LeK.arr rfl (fun j hj=>ZiO g i j),trivial⟩⟩
 ·exact hq.elim
def cutA (a:Zb):Zb:={ a with n1:=Z5 9 a.n1,n2:=Z5 5 a.n2,n3:=Z5 9 a.n3,n4:=Z5 17 a.n4,n5:=Z5 9 a.n5,n8:=Z5 33 a.n8 }
def XL (a:Zb):Zb:={ cutA a with n6:=Z5 17 a.n6,n7:=Z5 9 a.n7,n10:=Z5 33 a.n10,n11:=Z5 17 a.n11,n12:=Z5 9 a.n12,r5:=fun j=>cutG (a.r5 j) }
def J7 (v:V):Prop:=v = v/\True
theorem Zkn (a:Zb):ZQ (Zn P [Zen,Ze5,ZeG,Zek,Zf1,Zbf,Zfe,Zex,Zf2,ZfD,Zeb] [sh_lp (cutA a) (fun j=>a.r5 j)] true) 400 17 (.cons (.agg (Zt false a)) .nil) =
 .need (J7 (.cons (.rsl false 2 a.n1 fun j=>Yk false (a.r1 j)) (.cons (.int false .i64 9) .nil))) (.need (J7 (.cons (.rsl false 1 a.n2 fun j=>ZW false (a.r2 j)) (.cons (.int false .i64 5) .nil))) (.need (J7 (.cons (.rsl false 4 a.n3 fun j=>Zm false (a.r3 j)) (.cons (.int false .i64 9) .nil))) (.need (J7 (.cons (.rsl false 4 a.n4 fun j=>Zk false (a.r4 j)) (.cons (.int false .i64 17) .nil))) (.need ((0:Int)<=cutI 9 a.n5/\cutI 9 a.n5<=((a.n5:Nat):Int)) (.need (True/\fits (Z5 9 a.n5 - 0) 32/\∀ (j:Nat),j < Z5 9 a.n5 - 0->V.Xp (ZE false (a.r5 (0 + j))) = true/\V.clean (ZE false (a.r5 (0 + j))) = true) (.need (J7 (.cons (.rsl false 5 a.n8 fun j=>ZG false (a.r8 j)) (.cons (.int false .i64 33) .nil))) (.need ((((cutA a).n5:Nat):Int) = ((Z5 9 a.n5 - 0:Nat):Int)/\(0:Int) = 0/\V.soft (Zat 33 (cutA a)) = V.soft (Zat 33 (cutA a))/\V.soft Zbn = V.soft Zbn/\(cutA a).n5 = (cutA a).n5/\∀ j,(ZE false (a.r5 (0 + j))).soft = (ZE false (a.r5 j)).soft) (.need (J7 (.cons (.rsl false 3 a.n11 fun j=>Zl false (a.r11 j)) (.cons (.int false .i64 17) .nil))) (.need (J7 (.cons (.rsl false 2 a.n10 fun j=>Zr false (a.r10 j)) (.cons (.int false .i64 33) .nil))) (.need (J7 (.cons (.rsl false 11 a.n6 fun j=>ZT false (a.r6 j)) (.cons (.int false .i64 17) .nil))) (.need (J7 (.cons (.rsl false 2 a.n7 fun j=>ZN false (a.r7 j)) (.cons (.int false .i64 9) .nil))) (.need (J7 (.cons (.rsl false 2 a.n12 fun j=>Yq false (a.r12 j)) (.cons (.int false .i64 9) .nil))) (.need (0 + Z5 9 a.n5<=Z5 9 a.n5) (.leaf (.agg (Zt false { XL a with r5:=fun j=>cutG (a.r5 (0 + j)) })))))))))))))))):=by kernel_rfl
theorem Zkz (a:Zb):Zi P 17 (.cons (.agg (Zt false a)) .nil) (.agg (Zt false (XL a))):=by
 refine meets (Zu hm hn (l:=[Zen,Ze5,ZeG,Zek,Zf1,Zbf,Zfe,Zex,Zf2,ZfD,Zeb]) ⟨Zlu,ZjD,ZjR,ZjL,ZkW,Zf4,Zl9,Zlq,Zjt,ZkZ,Zj9,trivial⟩ (ls:=[sh_lp (cutA a) (fun j=>a.r5 j)]) ⟨sh_lp_ok _ _ (Nat.le_trans (Qq (m:=9)).1 (by decide)),trivial⟩ true) 400 (Has.of hn Tryz.func17 rfl) (Zkn a) ?_
 refine ⟨⟨rfl,trivial⟩,⟨rfl,trivial⟩,⟨rfl,trivial⟩,⟨rfl,trivial⟩,Zh1 (m:=9),⟨trivial,ZhQ (m:=9) (by decide),fun j _=>⟨rfl,rfl⟩⟩,⟨rfl,trivial⟩,⟨rfl,rfl,rfl,rfl,rfl,fun j=>by rw [Nat.zero_add]⟩,⟨rfl,trivial⟩,⟨rfl,trivial⟩,⟨rfl,trivial⟩,⟨rfl,trivial⟩,⟨rfl,trivial⟩,Nat.le_of_eq (Nat.zero_add _),rfl,?_⟩
 have e:(fun j=>cutG (a.r5 (0 + j))) = fun j=>cutG (a.r5 j):=by funext j; rw [Nat.zero_add]
 rw [e]
 rfl
theorem Zgh (a:Zb):(XL a).n1<=9/\(XL a).n2<=5/\(XL a).n3<=9/\(XL a).n4<=17/\(XL a).n5<=9/\(XL a).n6<=17/\(XL a).n8<=33/\(XL a).n10<=33/\(XL a).n11<=17/\(XL a).n12<=9/\∀ j,((XL a).r5 j).n1<=17:=
 ⟨(Qq (m:=9)).1,(Qq (m:=5)).1,(Qq (m:=9)).1,(Qq (m:=17)).1,(Qq (m:=9)).1,(Qq (m:=17)).1,(Qq (m:=33)).1,(Qq (m:=33)).1,(Qq (m:=17)).1,(Qq (m:=9)).1,fun j=>(Qq (m:=17)).1⟩
def ZhM (a e:Zb):Con:=Yf 17 (fun _=>.cons (.agg (Zt false a)) .nil) (fun _=>.agg (Zt false e)) (fun _=>True)
theorem ZiZ (a:Zb):(ZhM a (XL a)).Ok P:=Yt fun _ _=>Zkz a
structure ZU where
 own:Int->DOwn
 is:Int->Bool
 cpu:Int->Int
 on:Int->Bool
 pool:Int->Int
 park:Int->Bool
 qn:Int->Bool->Nat
 qr:Int->Bool->Nat->Xv
 wn:Int->Nat
 wr:Int->Nat->XR
 hn:Int->Nat
 hr:Int->Nat->XW
 runs:Zq->Bool
def Yj (e:Zb):ZU:=⟨V9 e,Qg e,Gl e,Jz e,VJ e,K3 e,Wl e,Zdx e,ZaR e,waits_R e,Vg e,UU e,YJ⟩
section
variable (e:Zb) (k:ZU)
def k_own:Con:=Yf 24 (fun x=>.cons (.agg (Zt false e)) (.cons (.int false .i64 x.tl.hd.toInt) .nil)) (fun x=>.tup (.cons (.agg (ZT false (k.own x.tl.hd.toInt))) (.cons (.bool false (k.is x.tl.hd.toInt)) .nil))) (fun _=>True)
def k_on:Con:=Yf 25 (fun x=>.cons (.agg (Zt false e)) (.cons (.int false .i64 x.tl.hd.toInt) .nil)) (fun x=>.tup (.cons (.int false .i64 (k.cpu x.tl.hd.toInt)) (.cons (.bool false (k.on x.tl.hd.toInt)) .nil))) (fun _=>True)
def k_pool:Con:=Yf 26 (fun x=>.cons (.agg (Zt false e)) (.cons (.int false .i64 x.tl.hd.toInt) .nil)) (fun x=>.tup (.cons (.int false .i64 (k.pool x.tl.hd.toInt)) (.cons (.bool false (k.is x.tl.hd.toInt)) .nil))) (fun _=>True)
def k_park:Con:=Yf 31 (fun x=>.cons (.agg (Zt false e)) (.cons (.int false .i64 x.tl.hd.toInt) .nil)) (fun x=>.bool false (k.park x.tl.hd.toInt)) (fun _=>True)
def k_queue:Con:=Yf 37 (fun x=>.cons (.agg (Zt false e)) (.cons (.int false .i64 x.tl.hd.toInt) (.cons (.bool false x.tl.tl.hd.toBool) .nil))) (fun x=>.agg (.cons (.rsl false 5 (k.qn x.tl.hd.toInt x.tl.tl.hd.toBool) (fun j=>Xy false (k.qr x.tl.hd.toInt x.tl.tl.hd.toBool j))) .nil)) (fun _=>True)
def k_waits:Con:=Yf 39 (fun x=>.cons (.agg (Zt false e)) (.cons (.int false .i64 x.tl.hd.toInt) .nil)) (fun x=>.rsl false 3 (k.wn x.tl.hd.toInt) (fun j=>Qr false (k.wr x.tl.hd.toInt j))) (fun _=>True)
def k_wish:Con:=Yf 41 (fun x=>.cons (.agg (Zt false e)) (.cons (.int false .i64 x.tl.hd.toInt) .nil)) (fun x=>.rsl false 4 (k.hn x.tl.hd.toInt) (fun j=>Wt false (k.hr x.tl.hd.toInt j))) (fun _=>True)
abbrev XZ:List Con:=[k_own e k,k_on e k,k_pool e k,k_park e k,k_queue e k,k_waits e k,k_wish e k,XQ k.runs]
end
theorem asksL_ok (e:Zb) (h:small e):Wy P (XZ e (Yj e)):=⟨Yt fun x _=>own_meets e _ h,Yt fun x _=>on_meets e _ h,Yt fun x _=>ZlP e _ h,Yt fun x _=>Zle e _ h,Yt fun x _=>ZjO e _ _ h,Yt fun x _=>Zjl e _ h,Yt fun x _=>Zkg e _ h,Gb,trivial⟩
abbrev qb_ts (e:Zb) (ak:ZU) (p w:Int) (i:Int) (z:Unit):V:=(.cons (.bool true false) (.cons (.ptr true 1 0 0 0) (.cons (.int false .i64 w) (.cons (.int false .i64 p) (.cons (.ptr true 8 0 0 0) (.cons (.ptr true 9 0 0 0) (.cons (.int false .i64 ((e.n2:Nat):Int)) (.cons (.int false .i64 p) (.cons (.rsl false 5 (ak.qn p true) (fun j=>Xy false (ak.qr p true j))) (.cons (.int false .i64 (((ak.qn p true):Nat):Int)) (.cons (.int false .i64 i) .nil)))))))))))
abbrev qb_ys (e:Zb) (ak:ZU) (p w:Int) (i:Int) (z:Unit):List Blk:=[.var (Zt false e),.var (.cons (.rsl false 5 (ak.qn p true) (fun j=>Xy false (ak.qr p true j))) .nil),.var (.cons (.rsl false 5 (ak.qn p false) (fun j=>Xy false (ak.qr p false j))) .nil)]
def qb_R (e:Zb) (ak:ZU) (p w:Int) (i:Int) (z:Unit):Tree Rd:=
 let q0:=(ci e.f0 (V.cons (V.rsl false 2 e.n1 fun j=>Yk false (e.3 j)) (V.cons (V.rsl false 1 e.n2 fun j=>V.cons (V.int false .u32 (e.5 j).f0) V.nil) (V.cons (V.rsl false 4 e.n3 fun j=>Zm false (e.7 j)) (V.cons (V.rsl false 4 e.n4 fun j=>Zk false (e.9 j)) (V.cons (V.rsl false 2 e.n5 fun j=>ZE false (e.11 j)) (V.cons (V.rsl false 11 e.n6 fun j=>ZT false (e.13 j)) (V.cons (V.rsl false 2 e.n7 fun j=>ZN false (e.15 j)) (V.cons (V.rsl false 5 e.n8 fun j=>ZG false (e.17 j)) (ci e.f9 (V.cons (V.rsl false 2 e.n10 fun j=>Zr false (e.20 j)) (V.cons (V.rsl false 3 e.n11 fun j=>Zl false (e.22 j)) (V.cons (V.rsl false 2 e.n12 fun j=>Yq false (e.24 j)) (V.cons (V.int false .u64 e.f13) V.nil))))))))))))))
 let q1:=(ak.8 p true (Int.toNat i))
 let q2:=(V.rsl false 5 (ak.7 p true) fun jj=>Xy false (ak.8 p true jj))
 let q3:=[Blk.var q0,Blk.var (V.cons q2 V.nil),Blk.var (V.cons (V.rsl false 5 (ak.7 p false) fun jj=>Xy false (ak.8 p false jj)) V.nil)]
 let q4:=(ci q1.f0 V.nil)
 let q5:=((ak.7 p true:Nat):Int)
 Tree.need (((0:Int)<=i/\i < q5)/\(V.cons (V.agg q0) q4 = V.cons (V.agg q0) q4/\True)/\V.cons (V.agg q0) q4 = V.cons (V.agg q0) q4/\True) (Tree.node (bif bif bif !ak.2 q1.f0 then true else bif !ak.2 q1.f0 then true else bif ak.5 q1.f0 != p then true else bif !ak.13 (Y0 (ci (ak.1 q1.f0).f1 (ci (ak.1 q1.f0).f2 (V.cons (V.int false .u32 (ak.1 q1.f0).f3) (ci (ak.1 q1.f0).f4 V.nil))))) then true else !(q1.f2==(ak.1 q1.f0).f5&&(q1.f3==(ak.1 q1.f0).f6&&true)&&(q1.f4==(ak.1 q1.f0).f7&&true)) then true else false then true else false) (Tree.leaf (Ex.ret,true,V.cons (V.bool true false) (V.cons (pt 1) (ci w (ci p (V.cons (pt 8) (V.cons (pt 9) (ci ((e.n2:Nat):Int) (ci p (V.cons q2 (ci q5 (ci i V.nil)))))))))),q3)) (Tree.leaf (Ex.normal,true,V.cons (V.bool true false) (V.cons (pt 1) (ci w (ci p (V.cons (pt 8) (V.cons (pt 9) (ci ((e.n2:Nat):Int) (ci p (V.cons q2 (ci q5 (ci (IntKind.wrap .i64 (i + (1:Int))) V.nil)))))))))),q3)))
theorem qb_round (e:Zb) (ak:ZU) (p w:Int):Yp P (Zn P (XZ e ak) [] true) 6 13 12 12 179 [2,3,4,5,6,7,31,32,47,48,49] [(1,.own),(8,.own),(9,.own)] [] (qb_ts e ak p w) (qb_ys e ak p w) (fun i=>(bif decide (i < ((ak.7 p true:Nat):Int)) then false else true)) (.exit 2) (qb_R e ak p w):=fun B i z=>by kernel_rfl
def Kq (ak:ZU) (p:Int) (k:Nat):Bool:=(fun (i:Int) (z:Unit)=>(bif bif bif bif !ak.2 (ak.8 p true (Int.toNat i)).f0 then true else bif !ak.2 (ak.8 p true (Int.toNat i)).f0 then true else bif ak.5 (ak.8 p true (Int.toNat i)).f0 != p then true else bif !ak.13 (Y0 (V.cons (V.int false .i64 (ak.1 (ak.8 p true (Int.toNat i)).f0).f1) (V.cons (V.int false .i64 (ak.1 (ak.8 p true (Int.toNat i)).f0).f2) (V.cons (V.int false .u32 (ak.1 (ak.8 p true (Int.toNat i)).f0).f3) (V.cons (V.int false .i64 (ak.1 (ak.8 p true (Int.toNat i)).f0).f4) V.nil))))) then true else !((ak.8 p true (Int.toNat i)).f2==(ak.1 (ak.8 p true (Int.toNat i)).f0).f5&&((ak.8 p true (Int.toNat i)).f3==(ak.1 (ak.8 p true (Int.toNat i)).f0).f6&&true)&&((ak.8 p true (Int.toNat i)).f4==(ak.1 (ak.8 p true (Int.toNat i)).f0).f7&&true)) then true else false then true else false then true else false)) k ()
abbrev qb_ets (e:Zb) (ak:ZU) (p w:Int) (i:Int) (z:Unit):V:=(.cons (V.bool true false) (.cons (V.ptr true 1 0 0 0) (.cons (V.int false .i64 w) (.cons (V.int false .i64 p) (.cons (V.ptr true 8 0 0 0) (.cons (V.ptr true 9 0 0 0) (.cons (V.int false .i64 ((e.n2:Nat):Int)) (.cons (V.int false .i64 p) (.cons (V.rsl false 5 (ak.7 p true) fun jj=>Xy false (ak.8 p true jj)) (.cons (V.int false .i64 ((ak.7 p true:Nat):Int)) (.cons .junk .nil)))))))))))
def qb_lp (e:Zb) (ak:ZU) (p w:Int):Lp:=lpL 6 13 12 12 179 [2,3,4,5,6,7,31,32,47,48,49] [(1,.own),(8,.own),(9,.own)] [] (qb_ts e ak p w) (qb_ys e ak p w) (.exit 2) .ret () (fun _=>()) (Kq ak p) (ak.qn p true) (qb_ets e ak p w) (qb_ys e ak p w)
theorem qb_lp_ok (e:Zb) (ak:ZU) (p w:Int) (hl:(ak.qn p true)<=1000) (hk:Wy P (XZ e ak)):(qb_lp e ak p w).Ok P:=by
 refine Y4 (Zu hm hn (l:=XZ e ak) hk (ls:=[]) trivial true) rfl (by kernel_rfl) (qb_round e ak p w) exN YB (fun _=>rfl) (step:=fun _ z=>z) (rd:=(fun _ t y=>())) (fun i z=>rfl) (fun i=>(cC rfl rfl)) rfl (fun i hlt hg=>?_) (fun i z hi=>?_)
 ·have hltI:(i:Int) < (((ak.qn p true):Nat):Int):=by omega
  refine ⟨?_,⟨fun hb0=>trivial,fun hb0=>trivial⟩⟩
  all_goals (repeat' (first | exact rfl | exact fun _=>⟨rfl,rfl⟩ | apply And.intro | intro _))
  all_goals (try simp only [decide_eq_true_eq,decide_eq_false_iff_not,Bool.not_eq_true',Bool.not_eq_false'] at *)
  all_goals (try simp (disch:=omega) only [IntWalk.i64_in])
  all_goals (first | omega)
 ·have hw:=(IntWalk.i64_in ((i:Int) + 1) ⟨by omega,by omega⟩)
  refine ⟨?_,?_⟩
  all_goals (first | exact ⟨rfl,YD (ts:=qb_ts e ak p w) (a:=()) hw rfl,Z7 _⟩ | exact ⟨rfl,rfl,(by repeat' (first | exact Le.refl _ | exact Le.junk _ rfl | apply Le.cons)),Z7 _⟩)
def qb_in (e:Zb) (ak:ZU):Lp:=⟨6,13,fun _ s=>(s.tmp 5).QF .stuck fun p=>(s.tmp 4).QF .stuck fun w=>.need ((fun (e:Zb) (ak:ZU) (p w:Int)=>ak.qn p true<=1000) e ak p w) ((qb_lp e ak p w).g _ s)⟩
theorem qb_in_ok (e:Zb) (ak:ZU) (hk:Wy P (XZ e ak)):(qb_in e ak).Ok P:=by
 intro body hin hfr B s Q hq
 obtain ⟨p,hq⟩:=Ji hq
 obtain ⟨w,hq⟩:=Ji hq
 exact qb_lp_ok e ak p w hq.1 hk body hin hfr B s Q hq.2
abbrev qc_ts (e:Zb) (ak:ZU) (p w:Int) (i:Int) (z:Unit):V:=(.cons (.bool true false) (.cons (.ptr true 1 0 0 0) (.cons (.int false .i64 w) (.cons (.int false .i64 p) (.cons (.int false .i64 ((e.n2:Nat):Int)) (.cons (.int false .i64 p) (.cons (.rsl false 4 (ak.hn p) (fun j=>Wt false (ak.hr p j))) (.cons (.int false .i64 (((ak.hn p):Nat):Int)) (.cons (.int false .i64 i) .nil)))))))))
abbrev qc_ys (e:Zb) (ak:ZU) (p w:Int) (i:Int) (z:Unit):List Blk:=[.var (Zt false e)]
def qc_R (e:Zb) (ak:ZU) (p w:Int) (i:Int) (z:Unit):Tree Rd:=
 let q0:=(ci e.f0 (V.cons (V.rsl false 2 e.n1 fun j=>Yk false (e.3 j)) (V.cons (V.rsl false 1 e.n2 fun j=>V.cons (V.int false .u32 (e.5 j).f0) V.nil) (V.cons (V.rsl false 4 e.n3 fun j=>Zm false (e.7 j)) (V.cons (V.rsl false 4 e.n4 fun j=>Zk false (e.9 j)) (V.cons (V.rsl false 2 e.n5 fun j=>ZE false (e.11 j)) (V.cons (V.rsl false 11 e.n6 fun j=>ZT false (e.13 j)) (V.cons (V.rsl false 2 e.n7 fun j=>ZN false (e.15 j)) (V.cons (V.rsl false 5 e.n8 fun j=>ZG false (e.17 j)) (ci e.f9 (V.cons (V.rsl false 2 e.n10 fun j=>Zr false (e.20 j)) (V.cons (V.rsl false 3 e.n11 fun j=>Zl false (e.22 j)) (V.cons (V.rsl false 2 e.n12 fun j=>Yq false (e.24 j)) (V.cons (V.int false .u64 e.f13) V.nil))))))))))))))
 let q1:=(ci (ak.12 p (Int.toNat i)).f0 V.nil)
 let q2:=(V.rsl false 4 (ak.11 p) fun jj=>Wt false (ak.12 p jj))
 Tree.need (((0:Int)<=i/\i < ((ak.11 p:Nat):Int))/\(V.cons (V.agg q0) q1 = V.cons (V.agg q0) q1/\True)/\((!ak.4 (ak.12 p (Int.toNat i)).f0==decide ((ak.12 p (Int.toNat i)).f1 >= (0:Int))) = false->(ak.4 (ak.12 p (Int.toNat i)).f0 = true->(ak.3 (ak.12 p (Int.toNat i)).f0 != (ak.12 p (Int.toNat i)).f1) = false->V.cons (V.agg q0) q1 = V.cons (V.agg q0) q1/\True)/\(ak.4 (ak.12 p (Int.toNat i)).f0 = false->V.cons (V.agg q0) q1 = V.cons (V.agg q0) q1/\True))) (Tree.node (bif bif bif !ak.4 (ak.12 p (Int.toNat i)).f0==decide ((ak.12 p (Int.toNat i)).f1 >= (0:Int)) then true else bif ak.4 (ak.12 p (Int.toNat i)).f0 then bif ak.3 (ak.12 p (Int.toNat i)).f0 != (ak.12 p (Int.toNat i)).f1 then true else ak.6 (ak.12 p (Int.toNat i)).f0 else ak.6 (ak.12 p (Int.toNat i)).f0 then true else false then true else false) (Tree.leaf (Ex.ret,true,V.cons (V.bool true false) (V.cons (pt 1) (ci w (ci p (ci ((e.n2:Nat):Int) (ci p (V.cons q2 (ci ((ak.11 p:Nat):Int) (ci i V.nil)))))))),[Blk.var q0])) (Tree.leaf (Ex.normal,true,V.cons (V.bool true false) (V.cons (pt 1) (ci w (ci p (ci ((e.n2:Nat):Int) (ci p (V.cons q2 (ci ((ak.11 p:Nat):Int) (ci (IntKind.wrap .i64 (i + (1:Int))) V.nil)))))))),[Blk.var q0])))
theorem qc_round (e:Zb) (ak:ZU) (p w:Int):Yp P (Zn P (XZ e ak) [] true) 6 23 39 39 179 [2,3,4,5,31,32,121,122,123] [(1,.own)] [] (qc_ts e ak p w) (qc_ys e ak p w) (fun i=>(bif decide (i < ((ak.11 p:Nat):Int)) then false else true)) (.exit 4) (qc_R e ak p w):=fun B i z=>by kernel_rfl
def Kl (ak:ZU) (p:Int) (k:Nat):Bool:=(fun (i:Int) (z:Unit)=>(bif bif bif bif !ak.4 (ak.12 p (Int.toNat i)).f0==decide ((ak.12 p (Int.toNat i)).f1 >= (0:Int)) then true else bif ak.4 (ak.12 p (Int.toNat i)).f0 then bif ak.3 (ak.12 p (Int.toNat i)).f0 != (ak.12 p (Int.toNat i)).f1 then true else ak.6 (ak.12 p (Int.toNat i)).f0 else ak.6 (ak.12 p (Int.toNat i)).f0 then true else false then true else false then true else false)) k ()
abbrev qc_ets (e:Zb) (ak:ZU) (p w:Int) (i:Int) (z:Unit):V:=(.cons (V.bool true false) (.cons (V.ptr true 1 0 0 0) (.cons (V.int false .i64 w) (.cons (V.int false .i64 p) (.cons (V.int false .i64 ((e.n2:Nat):Int)) (.cons (V.int false .i64 p) (.cons (V.rsl false 4 (ak.11 p) fun jj=>Wt false (ak.12 p jj)) (.cons (V.int false .i64 ((ak.11 p:Nat):Int)) (.cons .junk .nil)))))))))
def qc_lp (e:Zb) (ak:ZU) (p w:Int):Lp:=lpL 6 23 39 39 179 [2,3,4,5,31,32,121,122,123] [(1,.own)] [] (qc_ts e ak p w) (qc_ys e ak p w) (.exit 4) .ret () (fun _=>()) (Kl ak p) (ak.hn p) (qc_ets e ak p w) (qc_ys e ak p w)
theorem qc_lp_ok (e:Zb) (ak:ZU) (p w:Int) (hl:(ak.hn p)<=1000) (hk:Wy P (XZ e ak)):(qc_lp e ak p w).Ok P:=by
 refine Y4 (Zu hm hn (l:=XZ e ak) hk (ls:=[]) trivial true) rfl (by kernel_rfl) (qc_round e ak p w) exN YB (fun _=>rfl) (step:=fun _ z=>z) (rd:=(fun _ t y=>())) (fun i z=>rfl) (fun i=>(cC rfl rfl)) rfl (fun i hlt hg=>?_) (fun i z hi=>?_)
 ·have hltI:(i:Int) < (((ak.hn p):Nat):Int):=by omega
  refine ⟨?_,⟨fun hb0=>trivial,fun hb0=>trivial⟩⟩
  all_goals (repeat' (first | exact rfl | exact fun _=>⟨rfl,rfl⟩ | apply And.intro | intro _))
  all_goals (try simp only [decide_eq_true_eq,decide_eq_false_iff_not,Bool.not_eq_true',Bool.not_eq_false'] at *)
  all_goals (try simp (disch:=omega) only [IntWalk.i64_in])
  all_goals (first | omega)
 ·have hw:=(IntWalk.i64_in ((i:Int) + 1) ⟨by omega,by omega⟩)
  refine ⟨?_,?_⟩
  all_goals (first | exact ⟨rfl,YD (ts:=qc_ts e ak p w) (a:=()) hw rfl,Z7 _⟩ | exact ⟨rfl,rfl,(by repeat' (first | exact Le.refl _ | exact Le.junk _ rfl | apply Le.cons)),Z7 _⟩)
def qc_in (e:Zb) (ak:ZU):Lp:=⟨6,23,fun _ s=>(s.tmp 5).QF .stuck fun p=>(s.tmp 4).QF .stuck fun w=>.need ((fun (e:Zb) (ak:ZU) (p w:Int)=>ak.hn p<=1000) e ak p w) ((qc_lp e ak p w).g _ s)⟩
theorem qc_in_ok (e:Zb) (ak:ZU) (hk:Wy P (XZ e ak)):(qc_in e ak).Ok P:=by
 intro body hin hfr B s Q hq
 obtain ⟨p,hq⟩:=Ji hq
 obtain ⟨w,hq⟩:=Ji hq
 exact qc_lp_ok e ak p w hq.1 hk body hin hfr B s Q hq.2
abbrev qa_ts (e:Zb) (ak:ZU) (i:Int) (z:Int):V:=(.cons (.bool true false) (.cons (.ptr true 1 0 0 0) (.cons (.int false .i64 (z)) (.cons (.int false .i64 ((e.n2:Nat):Int)) (.cons (.int false .i64 i) .nil)))))
abbrev qa_ys (e:Zb) (ak:ZU) (i:Int) (z:Int):List Blk:=[.var (Zt false e)]
def qa_R (e:Zb) (ak:ZU) (i:Int) (z:Int):Tree Rd:=
 let q0:=(V.cons (V.rsl false 2 e.n1 fun j=>Yk false (e.3 j)) (V.cons (V.rsl false 1 e.n2 fun j=>V.cons (V.int false .u32 (e.5 j).f0) V.nil) (V.cons (V.rsl false 4 e.n3 fun j=>Zm false (e.7 j)) (V.cons (V.rsl false 4 e.n4 fun j=>Zk false (e.9 j)) (V.cons (V.rsl false 2 e.n5 fun j=>ZE false (e.11 j)) (V.cons (V.rsl false 11 e.n6 fun j=>ZT false (e.13 j)) (V.cons (V.rsl false 2 e.n7 fun j=>ZN false (e.15 j)) (V.cons (V.rsl false 5 e.n8 fun j=>ZG false (e.17 j)) (ci e.f9 (V.cons (V.rsl false 2 e.n10 fun j=>Zr false (e.20 j)) (V.cons (V.rsl false 3 e.n11 fun j=>Zl false (e.22 j)) (V.cons (V.rsl false 2 e.n12 fun j=>Yq false (e.24 j)) (V.cons (V.int false .u64 e.f13) V.nil)))))))))))))
 let q11:=((ak.7 i true:Nat):Int)
 let q5:=(vi (IntKind.wrap .i64 (z + q11)))
 let q8:=(vi ((e.n2:Nat):Int))
 let q6:=(ci i V.nil)
 let q12:=(ci e.f0 q0)
 let q1:=(Tree.leaf (Ex.ret,true,V.cons (V.bool true false) (V.cons (pt 1) (V.cons q5 (V.cons q8 q6))),[Blk.var q12]))
 let q7:=(V.rsl false 5 (ak.7 i true) fun j=>Xy false (ak.8 i true j))
 let q2:=(V.cons (V.ptr false 1 0 0 0) (V.cons q5 (ci i (V.cons (V.ptr false 8 0 0 0) (V.cons (V.ptr false 9 0 0 0) (V.cons q8 (ci i (V.cons q7 (ci q11 (ci (0:Int) V.nil))))))))))
 let q3:=(V.cons (V.ptr false 1 0 0 0) (V.cons q5 (ci i (V.cons q8 (ci i (V.cons (V.rsl false 4 (ak.11 i) fun j=>Wt false (ak.12 i j)) (ci ((ak.11 i:Nat):Int) (ci (0:Int) V.nil))))))))
 let q4:=(V.agg q12)
 let q9:=((ak.7 i false:Nat):Int)
 let q10:=(V.rsl false 5 (ak.7 i false) fun j=>Xy false (ak.8 i false j))
 let q13:=(ci i (V.cons (V.bool false false) V.nil))
 let q14:=(ci i (V.cons (V.bool false true) V.nil))
 Tree.need (V.cons q4 q14 = V.cons q4 q14/\True) (Tree.need (V.cons q4 q13 = V.cons q4 q13/\True) (Tree.need (ak.7 i true<=(1000:Nat)/\V.cons (V.bool false false) q2 = V.cons (V.bool false false) q2/\ci e.f0 q0 = ci e.f0 q0/\V.cons q7 V.nil = V.cons q7 V.nil/\V.cons q10 V.nil = V.cons q10 V.nil/\True) (Tree.node (bif Zp (Kq ak i) (ak.7 i true) then true else false) q1 (Tree.need (decide (q9 > q11) = false->(V.cons q4 q6 = V.cons q4 q6/\True)/\((((ak.9 i:Nat):Int) != q9) = false->V.cons q4 q6 = V.cons q4 q6/\True)) (Tree.node (bif bif decide (q9 > q11) then true else bif ((ak.9 i:Nat):Int) != q9 then true else ((ak.11 i:Nat):Int) != q9 then true else false) q1 (Tree.need (V.cons q4 q6 = V.cons q4 q6/\True) (Tree.need (ak.11 i<=(1000:Nat)/\V.cons (V.bool false false) q3 = V.cons (V.bool false false) q3/\ci e.f0 q0 = ci e.f0 q0/\True) (Tree.node (bif Zp (Kl ak i) (ak.11 i) then true else false) q1 (Tree.leaf (Ex.normal,true,V.cons (V.bool true false) (V.cons (pt 1) (V.cons q5 (V.cons q8 (ci (IntKind.wrap .i64 (i + (1:Int))) V.nil)))),[Blk.var q12]))))))))))
theorem qa_round (e:Zb) (ak:ZU):Yp P (Zn P (XZ e ak) [qb_in e ak,qc_in e ak] true) 6 8 2 2 179 [2,3,4,31,32] [(1,.own)] [] (qa_ts e ak) (qa_ys e ak) (fun i=>(bif decide (i < ((e.n2:Nat):Int)) then false else true)) (.exit 0) (qa_R e ak):=fun B i z=>by kernel_rfl
def Zec (e:Zb) (ak:ZU) (k:Nat) (z:Int):Int:=(fun (i:Int) (z:Int)=>(bif bif Zp (Kq ak i) (ak.7 i true) then true else false then (z) else (bif bif bif decide (((ak.7 i false:Nat):Int) > ((ak.7 i true:Nat):Int)) then true else bif ((ak.9 i:Nat):Int) != ((ak.7 i false:Nat):Int) then true else ((ak.11 i:Nat):Int) != ((ak.7 i false:Nat):Int) then true else false then (z) else (bif bif Zp (Kl ak i) (ak.11 i) then true else false then (z) else (IntKind.wrap .i64 (z + ((ak.7 i true:Nat):Int))))))) k z
def JM (e:Zb) (ak:ZU) (k:Nat):Int:=ZI 0 (Zec e ak) k
def qa_bad (e:Zb) (ak:ZU) (k:Nat):Bool:=(fun (i:Int) (z:Int)=>(bif bif Zp (Kq ak i) (ak.7 i true) then true else false then true else (bif bif bif decide (((ak.7 i false:Nat):Int) > ((ak.7 i true:Nat):Int)) then true else bif ((ak.9 i:Nat):Int) != ((ak.7 i false:Nat):Int) then true else ((ak.11 i:Nat):Int) != ((ak.7 i false:Nat):Int) then true else false then true else (bif bif Zp (Kl ak i) (ak.11 i) then true else false then true else false)))) k (JM e ak k)
abbrev qa_ets (e:Zb) (ak:ZU) (i:Int) (z:Int):V:=(.cons (V.bool true false) (.cons (V.ptr true 1 0 0 0) (.cons .junk (.cons (V.int false .i64 ((e.n2:Nat):Int)) (.cons .junk .nil)))))
def qa_lp (e:Zb) (ak:ZU):Lp:=lpL 6 8 2 2 179 [2,3,4,31,32] [(1,.own)] [] (qa_ts e ak) (qa_ys e ak) (.exit 0) .ret 0 (JM e ak) (qa_bad e ak) (e.n2) (qa_ets e ak) (qa_ys e ak)
def qa_need (e:Zb) (ak:ZU):Prop:=YP 2 [] (qa_ts e ak) (qa_ys e ak) 0 (qa_ts e ak (0:Nat) 0) (qa_ys e ak (0:Nat) 0)
theorem qa_fit (e:Zb) (ak:ZU):qa_need e ak:=⟨rfl,⟨rfl,trivial⟩⟩
theorem qa_lp_ok (e:Zb) (ak:ZU) (hl:e.n2<=1000) (hk:Wy P (XZ e ak)) (hq:∀ p b,ak.qn p b<=1000) (hh:∀ p,ak.hn p<=1000):(qa_lp e ak).Ok P:=by
 refine Y4 (Zu hm hn (l:=XZ e ak) hk (ls:=[qb_in e ak,qc_in e ak]) ⟨qb_in_ok e ak hk,qc_in_ok e ak hk,trivial⟩ true) rfl (by kernel_rfl) (qa_round e ak) exN YB (fun _=>rfl) (rd:=(fun _ t y=>(t.nth 2).toInt)) (fun i z=>(cC rfl (cC rfl (cC rfl rfl)))) (fun i=>(cC rfl (cC rfl (cC rfl rfl)))) rfl (fun i hlt hg=>?_) (fun i z hi=>?_)
 ·have hltI:(i:Int) < ((e.n2:Nat):Int):=by omega
  refine ⟨?_,⟨?_,⟨?_,⟨fun hb0=>trivial,fun hb0=>⟨?_,⟨fun hb1=>trivial,fun hb1=>⟨?_,⟨?_,⟨fun hb2=>trivial,fun hb2=>trivial⟩⟩⟩⟩⟩⟩⟩⟩⟩
  all_goals (repeat' (first | exact rfl | exact fun _=>⟨rfl,rfl⟩ | apply And.intro | intro _))
  all_goals (try simp only [decide_eq_true_eq,decide_eq_false_iff_not,Bool.not_eq_true',Bool.not_eq_false'] at *)
  all_goals (try simp (disch:=omega) only [IntWalk.i64_in])
  all_goals (first | omega | exact hq _ _ | exact hh _)
 ·have hw:=(IntWalk.i64_in ((i:Int) + 1) ⟨by omega,by omega⟩)
  refine ⟨?_,⟨?_,⟨?_,?_⟩⟩⟩
  all_goals (first | exact ⟨rfl,YD (ts:=qa_ts e ak) hw rfl,Z7 _⟩ | exact ⟨rfl,rfl,(by repeat' (first | exact Le.refl _ | exact Le.junk _ rfl | apply Le.cons)),Z7 _⟩)
abbrev qd_ts (e:Zb) (ak:ZU) (w:Int) (i:Int) (z:Int):V:=(.cons (.bool true false) (.cons (.ptr true 1 0 0 0) (.cons (.int false .i64 w) (.cons (.int false .i64 (z)) (.cons (.rsl false 11 e.n6 (fun j=>ZT false (e.r6 j))) (.cons (.int false .i64 ((e.n6:Nat):Int)) (.cons (.int false .i64 i) .nil)))))))
abbrev qd_ys (e:Zb) (ak:ZU) (w:Int) (i:Int) (z:Int):List Blk:=[.var (Zt false e)]
def qd_R (e:Zb) (ak:ZU) (w:Int) (i:Int) (z:Int):Tree Rd:=
 Tree.need ((0:Int)<=i/\i < ((e.n6:Nat):Int)) (Tree.leaf (Ex.normal,true,V.cons (V.bool true false) (V.cons (pt 1) (ci w (ci (bif ak.13 (Y0 (ci (e.13 (Int.toNat i)).f1 (ci (e.13 (Int.toNat i)).f2 (V.cons (V.int false .u32 (e.13 (Int.toNat i)).f3) (ci (e.13 (Int.toNat i)).f4 V.nil))))) then IntKind.wrap .i64 (z + (1:Int)) else z) (V.cons (V.rsl false 11 e.n6 fun jj=>ZT false (e.13 jj)) (ci ((e.n6:Nat):Int) (ci (IntKind.wrap .i64 (i + (1:Int))) V.nil)))))),[Blk.var (ci e.f0 (V.cons (V.rsl false 2 e.n1 fun j=>Yk false (e.3 j)) (V.cons (V.rsl false 1 e.n2 fun j=>V.cons (V.int false .u32 (e.5 j).f0) V.nil) (V.cons (V.rsl false 4 e.n3 fun j=>Zm false (e.7 j)) (V.cons (V.rsl false 4 e.n4 fun j=>Zk false (e.9 j)) (V.cons (V.rsl false 2 e.n5 fun j=>ZE false (e.11 j)) (V.cons (V.rsl false 11 e.n6 fun j=>ZT false (e.13 j)) (V.cons (V.rsl false 2 e.n7 fun j=>ZN false (e.15 j)) (V.cons (V.rsl false 5 e.n8 fun j=>ZG false (e.17 j)) (ci e.f9 (V.cons (V.rsl false 2 e.n10 fun j=>Zr false (e.20 j)) (V.cons (V.rsl false 3 e.n11 fun j=>Zl false (e.22 j)) (V.cons (V.rsl false 2 e.n12 fun j=>Yq false (e.24 j)) (V.cons (V.int false .u64 e.f13) V.nil))))))))))))))]))
theorem qd_round (e:Zb) (ak:ZU) (w:Int):Yp P (Zn P (XZ e ak) [] true) 6 32 2 2 179 [2,3,4,18,157,158,159] [(1,.own)] [] (qd_ts e ak w) (qd_ys e ak w) (fun i=>(bif decide (i < ((e.n6:Nat):Int)) then false else true)) (.exit 6) (qd_R e ak w):=fun B i z=>by kernel_rfl
def qd_step (e:Zb) (ak:ZU) (k:Nat) (z:Int):Int:=(fun (i:Int) (z:Int)=>(bif ak.13 (Y0 (V.cons (V.int false .i64 (e.13 (Int.toNat i)).f1) (V.cons (V.int false .i64 (e.13 (Int.toNat i)).f2) (V.cons (V.int false .u32 (e.13 (Int.toNat i)).f3) (V.cons (V.int false .i64 (e.13 (Int.toNat i)).f4) V.nil))))) then IntKind.wrap .i64 (z + (1:Int)) else z)) k z
def Vv (e:Zb) (ak:ZU) (k:Nat):Int:=ZI 0 (qd_step e ak) k
def qd_lp (e:Zb) (ak:ZU) (w:Int):Lp:=lpL0 6 32 2 2 179 [2,3,4,18,157,158,159] [(1,.own)] [] (qd_ts e ak w) (qd_ys e ak w) (.exit 6) 0 (Vv e ak) (e.n6)
theorem qd_lp_ok (e:Zb) (ak:ZU) (w:Int) (hl:e.n6<=1000) (hk:Wy P (XZ e ak)):(qd_lp e ak w).Ok P:=by
 refine Vm (Zu hm hn (l:=XZ e ak) hk (ls:=[]) trivial true) rfl (by kernel_rfl) (qd_round e ak w) exN YB (fun _=>rfl) (rd:=(fun _ t y=>(t.nth 3).toInt)) (fun i z=>rfl) (fun i=>rfl) rfl (fun i hlt hg=>?_) (fun i z hi=>?_)
 ·have hltI:(i:Int) < ((e.n6:Nat):Int):=by omega
  refine ⟨?_,trivial⟩
  all_goals (repeat' (first | exact rfl | exact fun _=>⟨rfl,rfl⟩ | apply And.intro | intro _))
  all_goals (try simp only [decide_eq_true_eq,decide_eq_false_iff_not,Bool.not_eq_true',Bool.not_eq_false'] at *)
  all_goals (try simp (disch:=omega) only [IntWalk.i64_in])
  all_goals (first | omega)
 ·have hw:=(IntWalk.i64_in ((i:Int) + 1) ⟨by omega,by omega⟩)
  all_goals exact ⟨rfl,YD (ts:=qd_ts e ak w) hw rfl,Z7 _⟩
def qd_in (e:Zb) (ak:ZU):Lp:=⟨6,32,fun _ s=>(s.tmp 4).QF .stuck fun w=>.need ((fun (e:Zb) (ak:ZU) (w:Int)=>e.n6<=1000) e ak w) ((qd_lp e ak w).g _ s)⟩
theorem qd_in_ok (e:Zb) (ak:ZU) (hk:Wy P (XZ e ak)):(qd_in e ak).Ok P:=by
 intro body hin hfr B s Q hq
 obtain ⟨w,hq⟩:=Ji hq
 exact qd_lp_ok e ak w hq.1 hk body hin hfr B s Q hq.2
end Go.Proofs.YtnjjailadijdlaaGreatDoor
end
