/- Loads; tests of likeness; numbers' and strings' operations; structs and slices made: the evaluator's answer stands for the model's. -/
import Derived.Test.YthhbdbeglmkijaaGreatDoorMAb
import Derived.Laws.BytesString
import Derived.Laws.StructEq
import Derived.Laws.Strings
import Derived.LaidEql
import Derived.Laws.CopyRow
import Derived.Lib.ConvBytes
import Derived.Laws.AppendOwn
import Derived.Laws.Append
set_option maxRecDepth 100000
set_option linter.unusedVariables false
set_option linter.unusedSimpArgs false
noncomputable section
open Option renaming some→zi,none→zm
open Go.Sem renaming run_bind→zM,run_pure→zV
open Go.Result renaming andThen_ok→zP
open Go.Fw.Val renaming stuck→zH,leaf→zU
open Nat renaming beq→zq,eq_of_beq_eq_true→zO,not_lt_zero→yB,ble→zK,le_of_ble_eq_true→yA,blt→zG,le_refl→zI,mul_le_mul_right→yx
open Bool renaming true→ze,false→za,and_eq_true→zL
namespace Go.Fw
section
variable{P:Program}{F:Nat->Prop}{w:World}{n:Nat}{m:Nat->Option Nat}
variable{t:TypeId}
theorem ZiP{cs:V}{o:Nat}{v:V}{xs:List Value}{B off:Nat}{c:Array Value}{el:TypeId}{fr:Nat×Nat}
  (h:partOf P t cs o=zi v)(hr:RL F w cs n m xs)(hb:w.heap[B]? =zi (.cells c el fr))(hc:∀q,q<xs.length->c[off+q]? =xs[q]?) :
  ∃x,(loadVar t ⟨B,off+o,zm⟩).run P w=.ok x w/\R F w v n m x:=by
 rcases Zl4 h hr with⟨ha,z,hz,hle,hv⟩|⟨ha,x,hx,hv⟩
 ·refine⟨_,?_,hv⟩
  unfold loadVar
  simp only[zM,Zg7 ha,zP,if_true,XU hz]
  have hl:((xs.drop o).take z).length=z:=by
   simp
   omega
  have:=run_loadCells_list (P:=P) w ⟨B,off+o,zm⟩ ((xs.drop o).take z) (λj v hj=>by
   have hjz:j<z:=by
    rcases Nat.lt_or_ge j z with h|h
    ·exact h
    ·rw[List.getElem?_eq_none (by omega)]at hj;cases hj
   rw[List.getElem?_take_of_lt hjz,List.getElem?_drop]at hj
   rw[add_plain]
   simp only[World.cell?,hb,Option.isSome_none,Bool.false_eq_true,if_false]
   rw[Nat.add_assoc,hc (o+j) (by omega)]
   exact hj)
  simp_all
 ·refine⟨x,?_,hv⟩
  unfold loadVar
  simp only[zM,Zg7 ha,zP,Bool.false_eq_true,if_false]
  have ho:o<xs.length:=by
   grind
  simp_all[World.cell?,Option.isSome_none,Bool.false_eq_true,Sem.run]
variable{base:Nat}{h:Nat->Blk}{a:V}{x:Value}
theorem Zih(hr:HR base m F h n w)(ha:R F w a n m x):Val P F w n m (Vq P h t a) (Instr.loadAt t x):=by
 unfold Vq
 cases a<;>try exact zH
 ·rename_i st b es i o
  rw[Wm]at ha
  obtain⟨hb,B,rfl,hB⟩:=ha
  have hblk:=hr.blk b hb
  dsimp only
  cases hh:h b with
  |none=>exact zH
  |any=>exact zH
  |rng=>exact zH
  |Zk=>exact zH
  |iter=>exact zH
  |var cs=>
   rw[hh]at hblk
   obtain⟨B',xs,el,ys,zs,hm,hcell,hsp,hrow⟩:=hblk
   obtain rfl:B=B':=by
    grind
   dsimp only
   cases st with
   |false=>exact zH
   |true=>
    refine Zdt λv hv=>?_
    obtain⟨x,hx,hR⟩:=ZiP (off:=0) hv hrow hcell (λq hq=>by rw[Nat.zero_add];exact Kv hsp hq)
    refine⟨x,?_,hR⟩
    simp only[Instr.loadAt,Instr.sureAddr,zM,zV,zP]
    grind
  |arr es' k get=>
   rw[hh]at hblk
   dsimp only
   cases he:zq es es'
   ·exact zH
   ·obtain rfl:=zO he
    refine atIdx_val λhi=>Zdt λv hv=>?_
    obtain⟨B',c,el,hm,hcell,hsz,hrow⟩:=hblk.resolve_left (λh0=>by have:=h0.1;omega)
    obtain rfl:B=B':=by
     grind
    obtain⟨xs,h1,h2,h3⟩:=hrow i hi
    obtain⟨x,hx,hR⟩:=ZiP (off:=i*es) hv h1 hcell (λq hq=>h3 q (by omega))
    refine⟨x,?_,(Xj (Yk.refl w) (λ_ h=>h) (λ_ _=>rfl) v 0 n _ m (Nat.zero_le _) (λb hb=>absurd hb (yB _))).1 x hR⟩
    simp only[Instr.loadAt,Instr.sureAddr,zM,zV,zP]
    exact hx
 ·rename_i st es k get i o
  rw[JE]at ha
  obtain⟨hi,B,off,rfl,hF,c,el,fr,hcell,hrow⟩:=ha
  refine Zdt λv hv=>?_
  obtain⟨xs,h1,h2,h3⟩:=hrow i hi
  obtain⟨x,hx,hR⟩:=ZiP (off:=off+i*es) hv h1 hcell (λq hq=>h3 q (by omega))
  refine⟨x,?_,(Xj (Yk.refl w) (λ_ h=>h) (λ_ _=>rfl) v 0 n _ m (Nat.zero_le _) (λb hb=>absurd hb (yB _))).1 x hR⟩
  simp only[Instr.loadAt,Instr.sureAddr,zM,zV,zP]
  exact hx
variable{r:Bool}
theorem Zi0{a b:Option Bool}{s:Bool}(h:Zds a b=zi (s,r)):(a=zi ze/\b=zi r)\/(a=zi za/\b=zi ze/\r=za):=by
 cases a with
 |none=>cases h
 |some a=>cases a<;>cases b<;>grind[Zds]
theorem Zgw(hx:R F w a n m x)(h:nilS a=zi r):∃ad k c,x=.slice ad k c/\ad.isNone=r:=by
 cases a<;>try(cases h;done)
 case rsl st es k get=>
  cases st<;>try(cases h;done)
  grind[nilS,zq,Wi]
 case osl st b es i k=>
  cases st<;>try(cases h;done)
  grind[nilS,zq,Yp]
 case Zo=>
  injection h with h
  grind[R]
 case osp st b es i k c0=>
  cases st<;>try(cases h;done)
  grind[nilS,zq,Kc]
 case esl nn es=>
  cases nn<;>try(cases h;done)
  injection h with h
  subst h
  rw[Zaq]at hx
  obtain⟨a,rfl,h1⟩:=hx
  cases a<;>grind
theorem Zgv(hx:R F w a n m x)(h:nilP a=zi r):∃ad,x=.pointer ad/\ad.isNone=r:=by
 cases a<;>try(cases h;done)
 ·injection h with h
  grind[Wm]
 ·injection h with h
  grind[JE]
 ·injection h with h
  grind[R]
theorem Zgu(hx:R F w a n m x)(h:nilF a=zi r):(r=ze/\x=.nilFunc)\/(r=za/\∃f p q,x=.func f p q):=by
 cases a<;>try(cases h;done)
 ·injection h with h
  grind[R]
 ·injection h with h
  grind[R]
 ·injection h with h
  grind[R]
variable{b:V}{y:Value}
theorem Zrl(hx:R F w a n m x)(hy:R F w b n m y)(h:ZgS a b=ze):∃ad,x=.pointer (zi ad)/\y=.pointer (zi ad):=by
 cases a<;>try(cases h;done)
 cases b<;>try(cases h;done)
 simp only[ZgS,zL]at h
 grind[zO,Wm]
theorem Znp(hx:R F w a n m x)(hy:R F w b n m y)(h:Zes a b=ze):∃B o o',x=.pointer (zi ⟨B,o,zm⟩)/\y=.pointer (zi ⟨B,o',zm⟩)/\o≠o':=by
 cases a<;>try(cases h;done)
 cases b<;>try(cases h;done)
 simp only[Zes,zL,Bool.not_eq_true']at h
 obtain⟨_,h1,h2⟩:=h
 obtain rfl:=zO h1
 rw[Wm]at hx hy
 obtain⟨_,B,rfl,hB⟩:=hx
 obtain⟨_,B',rfl,hB'⟩:=hy
 rw[hB]at hB'
 injection hB' with hB'
 subst hB'
 exact⟨_,_,_,rfl,rfl,λe=>by rw[e]at h2;simp at h2⟩
theorem ZkE:∀(d:Nat),
  (∀(t:TypeId)(a b:V)(s r:Bool)(D:Nat)(x y:Value),evEq P d t a b=zi (s,r)->R F w a n m x->R F w b n m y->(Op.equalIn (d+D) t x y).run P w=.ok r w)/\
  (∀(fs:List Field)(a b:V)(s r:Bool)(D:Nat)(xs ys:Array Value),Gm P d fs a b=zi (s,r)->RL F w a n m xs.toList->RL F w b n m ys.toList->
   (Op.eqFields (d+D) xs ys fs).run P w=.ok r w):=by
 intro d
 induction d with
 |zero=>exact⟨(λt a b s r D x y h=>by unfold evEq at h;cases h),(λfs a b s r D xs ys h=>by unfold Gm at h;cases h)⟩
 |succ d ih=>
  refine⟨λt a b s r D x y h hx hy=>?_,λfs a b s r D xs ys h hx hy=>?_⟩
  ·rw[Nat.add_right_comm]
   unfold evEq at h
   cases hu:P.underlying t with
   |none=>rw[hu]at h;cases h
   |some dd=>
    rw[hu]at h
    cases dd<;>try(cases h;done)
    ·dsimp only at h
     cases a<;>try(cases h;done)
     cases b<;>try(cases h;done)
     injection h with h;injection h with _ h;subst h
     rw[WJ]at hx hy;subst hx;subst hy
     exact run_equalIn_bool' w _ t _ _ hu
    ·dsimp only at h
     cases a<;>try(cases h;done)
     cases b<;>try(cases h;done)
     dsimp only at h
     split at h
     ·rename_i hk;subst hk
      injection h with h;injection h with _ h;subst h
      rw[Yo]at hx hy;subst hx;subst hy
      exact run_equalIn_int w _ t _ _ _ _ hu
     ·cases h
    ·dsimp only at h
     cases a<;>try(cases h;done)
     cases b<;>try(cases h;done)
     injection h with h;injection h with _ h;subst h
     rw[QH]at hx hy;subst hx;subst hy
     rw[run_equalIn_string w _ t _ _ hu]
     simp only[ByteArray.toList_eq]
    case pointer e=>
     dsimp only at h
     cases hsp:ZgS a b&&(ZW P e).isSome
     ·rw[hsp]at h
      dsimp only at h
      cases hap:Zes a b&&bulky P e
      case true=>
       rw[hap]at h
       simp only[zL]at hap
       injection h with h;injection h with _ h;subst h
       obtain⟨B,o,o',rfl,rfl,hne⟩:=Znp hx hy hap.1
       have hb:=hap.2
       unfold bulky at hb
       cases hz:ZW P e with
       |none=>rw[hz]at hb;cases hb
       |some z=>
        rw[hz]at hb
        have hz0:z≠0:=λe=>by subst e;cases hb
        simp[Op.equalIn,run_underlying hu,zM,Result.andThen,XU hz,hz0,sameAddr,hne]
      rw[hap]at h
      rcases Zi0 h with⟨h1,h2⟩|⟨h1,h2,h3⟩
      ·obtain⟨ad,rfl,e1⟩:=Zgv hx h1
       obtain⟨bd,rfl,e2⟩:=Zgv hy h2
       cases ad with
       |some _=>cases e1
       |none=>subst e2;simp[Op.equalIn,run_underlying hu,zM,Result.andThen]
      ·obtain⟨ad,rfl,e1⟩:=Zgv hx h1
       obtain⟨bd,rfl,e2⟩:=Zgv hy h2
       subst h3
       cases ad with
       |none=>cases e1
       |some _=>cases bd with
        |some _=>cases e2
        |none=>simp[Op.equalIn,run_underlying hu,zM,Result.andThen]
     ·rw[hsp]at h
      simp only[zL]at hsp
      injection h with h;injection h with _ h;subst h
      obtain⟨ad,rfl,rfl⟩:=Zrl hx hy hsp.1
      cases hz:ZW P e with
      |none=>rw[hz]at hsp;cases hsp.2
      |some z=>
       by_cases hz0:z=0
       ·subst hz0
        simp[Op.equalIn,run_underlying hu,zM,Result.andThen,XU hz]
       ·simp[Op.equalIn,run_underlying hu,zM,Result.andThen,XU hz,hz0,run_sameAddr_same]
    case slice e=>
     dsimp only at h
     rcases Zi0 h with⟨h1,h2⟩|⟨h1,h2,h3⟩
     ·obtain⟨ad,k,c,rfl,e1⟩:=Zgw hx h1
      obtain⟨bd,k',c',rfl,e2⟩:=Zgw hy h2
      cases ad with
      |some _=>cases e1
      |none=>subst e2;simp[Op.equalIn,run_underlying hu,zM,Result.andThen]
     ·obtain⟨ad,k,c,rfl,e1⟩:=Zgw hx h1
      obtain⟨bd,k',c',rfl,e2⟩:=Zgw hy h2
      subst h3
      cases ad with
      |none=>cases e1
      |some _=>cases bd with
       |some _=>cases e2
       |none=>simp[Op.equalIn,run_underlying hu,zM,Result.andThen]
    case func p q v=>
     dsimp only at h
     rcases Zi0 h with⟨h1,h2⟩|⟨h1,h2,h3⟩
     ·rcases Zgu hx h1 with⟨_,rfl⟩|⟨e,_⟩
      ·rcases Zgu hy h2 with⟨rfl,rfl⟩|⟨rfl,f',p',q',rfl⟩<;>simp[Op.equalIn,run_underlying hu,zM,Result.andThen]
      ·cases e
     ·rcases Zgu hx h1 with⟨e,_⟩|⟨_,f',p',q',rfl⟩
      ·cases e
      ·rcases Zgu hy h2 with⟨_,rfl⟩|⟨e,_⟩
       ·subst h3;simp[Op.equalIn,run_underlying hu,zM,Result.andThen]
       ·cases e
    ·dsimp only at h
     cases a<;>try(cases h;done)
     cases b<;>try(cases h;done)
     dsimp only at h
     split at h
     ·cases h
     ·rename_i fields _ _ hp
      rw[JD]at hx hy
      obtain⟨xs,rfl,hx⟩:=hx
      obtain⟨ys,rfl,hy⟩:=hy
      have hf:P.fieldsOf t=fields:=by simp only[Program.fieldsOf,hu]
      rw[run_equalIn_struct w _ t xs ys (by rw[hf];exact hu) (by simpa using hp),hf]
      exact ih.2 _ _ _ s r D xs ys h hx hy
  ·rw[Nat.add_right_comm]
   cases fs with
   |nil=>unfold Gm at h;injection h with h;injection h with _ h;subst h;simp only[Op.eqFields,zV]
   |cons f fs=>
    unfold Gm at h
    split at h
    ·cases h
    ·rename_i hname
     cases hpa:partOf P f.type a f.offset with
     |none=>rw[hpa]at h;cases h
     |some va=>
      rw[hpa]at h
      cases hpb:partOf P f.type b f.offset with
      |none=>rw[hpb]at h;cases h
      |some vb=>
       rw[hpb]at h
       dsimp only at h
       obtain⟨x,hx1,hx2⟩:=Zdy hpa hx
       obtain⟨y,hy1,hy2⟩:=Zdy hpb hy
       cases he:evEq P d f.type va vb with
       |none=>rw[he]at h;cases h
       |some r1=>
        obtain⟨s1,r1⟩:=r1
        rw[he]at h
        cases hes:Gm P d fs a b with
        |none=>rw[hes]at h;cases h
        |some r2=>
         obtain⟨s2,r2⟩:=r2
         rw[hes]at h
         injection h with h;injection h with _ h;subst h
         have e1:=ih.1 f.type va vb s1 r1 (D+1) x y he hx2 hy2
         have e2:=ih.2 fs a b s2 r2 (D+1) xs ys hes hx hy
         rw[<- Nat.add_assoc]at e1 e2
         simp only[Op.eqFields,if_pos hname,zM,hx1,hy1,zP,e1,Sem.run_ite,e2,zV]
         cases r1<;>simp
theorem Zrt(hx:R F w a n m x){k:Nat}(h:Zmu a=zi k):∃ad c,x=.slice ad k c/\(ad=zm->k=0):=by
 cases a<;>try(cases h;done)
 ·injection h with h
  subst h
  rw[Wi]at hx
  obtain⟨ad,cap,rfl,hk,hr⟩:=hx
  exact⟨ad,cap,rfl,λe=>hr.elim id λ⟨B,off,e2,_⟩=>by rw[e]at e2;cases e2⟩
 ·injection h with h
  subst h
  rw[Yp]at hx
  obtain⟨_,ad,cap,rfl,hk,hr⟩:=hx
  exact⟨ad,cap,rfl,λe=>hr.elim (λh=>by omega) λ⟨B,c,el,fr,e2,_⟩=>by rw[e]at e2;cases e2⟩
variable{op:BinOp}
theorem ZkI(hx:R F w a n m x)(hy:R F w b n m y){Q:V->Prop}(hq:(evNilU P op t a b).holds P Q) :
  ∃r want,eqOp op=zi want/\Q (.bool ze (bif want then r else !r))/\(Op.equalIn 10000 t x y).run P w=.ok r w:=by
 unfold evNilU at hq
 split at hq
 case h_2=>exact hq.elim
 rename_i e hu
 split at hq
 case h_2=>exact hq.elim
 split at hq
 case h_2=>exact hq.elim
 rename_i k hk
 split at hq
 case h_2=>exact hq.elim
 rename_i want hw
 obtain⟨ad,c,rfl,hn⟩:=Zrt hx hk
 simp only[R]at hy
 subst hy
 simp only[KX]at hq
 refine⟨ad.isNone,want,hw,?_,?_⟩
 ·cases ad with
  |none=>have:=hq.1 (hn rfl);cases want<;>exact this
  |some _=>have:=hq.2;cases want<;>exact this
 ·rw[show(10000:Nat)=9999+1 from rfl]
  generalize 9999=D
  cases ad<;>simp[Op.equalIn,run_underlying hu,zM,Result.andThen]
theorem ZkD(hx:R F w a n m x)(hy:R F w b n m y)
  (he:∀r,(Op.equalIn 10000 t x y).run P w=.ok r w->(binOp .eql t x y).run P w=.ok (.bool r) w/\(binOp .neq t x y).run P w=.ok (.bool (!r)) w) :
  Val P F w n m (Gn P op t a b) (binOp op t x y):=by
 unfold Gn
 cases h:evEq P 20 t a b with
 |none=>
  intro Q hq
  obtain⟨r,want,hw,hQ,e⟩:=ZkI hx hy hq
  refine⟨_,.bool (bif want then r else !r),hQ,?_,by rw[WJ]⟩
  cases op<;>cases hw<;>first|exact(he r e).1|exact(he r e).2
 |some r=>
  obtain⟨s,r⟩:=r
  have e:=(ZkE 20).1 t a b s r 9980 x y h hx hy
  grind[zU,KX,WJ,zH]
theorem ZmC(a:List UInt8):(ByteArray.mk a.toArray).toList=a:=by rw[ByteArray.toList_eq]
theorem evStr_val{s s':Bool}{a b:List UInt8}(t:TypeId) :
  Val P F w n m (evStr op s s' a b) (binOp op t (.string ⟨a.toArray⟩) (.string ⟨b.toArray⟩)):=by
 have e:binOp op t (.string ⟨a.toArray⟩) (.string ⟨b.toArray⟩)=Op.stringOp op ⟨a.toArray⟩ ⟨b.toArray⟩:=by cases op<;>rfl
 rw[e]
 have hadd:a.length+b.length<=9223372036854775807->(Op.stringOp .add ⟨a.toArray⟩ ⟨b.toArray⟩).run P w=.ok (.string ⟨(a++b).toArray⟩) w:=by
  intro hle
  have hs:∀l:List UInt8,(ByteArray.mk l.toArray).size=l.length:=λl=>by simp[ByteArray.size]
  have hmax:IntKind.i64.max=9223372036854775807:=by decide
  simp only[Op.stringOp,hs,hmax]
  rw[if_neg (by omega)]
  simp only[zV]
  congr 2
 cases op<;>first
  |exact zH
  |exact zU rfl (by rw[KX,WJ,ZmC,ZmC])
  |skip
 grind[evStr,zK,zH,zU,yA,QH,Val.need]
variable{ox oy:Operand}
theorem Zfu(hx:R F w a n m x)(hy:R F w b n m y)(hg:(∃ad k c,x=.slice ad k c)\/(∃ad,x=.pointer ad)\/x=.nilFunc\/∃f p q,x=.func f p q)(hop:op=.eql\/op=.neq)(r:Bool)
  (hr:(Op.equalIn 10000 t x y).run P w=.ok r w):(do eqGuard op t ox oy x y;binOp op t x y:Sem Value).run P w=.ok (.bool (bif (op==.eql)then r else !r)) w:=by
 have e1:(eqGuard op t ox oy x y).run P w=.ok () w:=by
  rcases hop with rfl|rfl<;>rcases hg with⟨_,_,_,rfl⟩|⟨_,rfl⟩|rfl|⟨_,_,_,rfl⟩<;>cases y<;>rfl
 rw[zM,e1,zP]
 rcases hop with rfl|rfl<;>rcases hg with⟨_,_,_,rfl⟩|⟨_,rfl⟩|rfl|⟨_,_,_,rfl⟩<;>cases y<;>simp only[binOp,Op.equal,Op.maxDepth,zM,hr,zP,zV]<;>rfl
theorem ZlU(hx:R F w a n m x){st:Bool}(h:nilI a=zi (st,r)):(r=ze/\x=.nilIface)\/(r=za/\∃t v,x=.iface t v):=by
 cases a<;>try(cases h;done)
 ·injection h with h
  grind[R]
 ·injection h with h
  grind[R]
theorem evIfc_val{T:Tree V}(hT:Ub P op t ox oy a b=zi T)(hx:R F w a n m x)(hy:R F w b n m y)
  (cx:∀v,ox=.const v->x=v)(cy:∀v,oy=.const v->y=v):Val P F w n m T (do eqGuard op t ox oy x y;binOp op t x y):=by
 unfold Ub at hT
 split at hT
 ·rename_i ms hu
  have e1:(Op.equal t .nilIface .nilIface).run P w=.ok ze w:=by
   have:∀d,(Op.equalIn (d+1) t .nilIface .nilIface).run P w=.ok ze w:=λd=>by simp[Op.equalIn,run_underlying hu,zM,Result.andThen]
   exact this 9999
  have e2:∀t' v,(Op.equal t (.iface t' v) .nilIface).run P w=.ok za w:=by
   have:∀d t' v,(Op.equalIn (d+1) t (.iface t' v) .nilIface).run P w=.ok za w:=λd t' v=>by simp[Op.equalIn,run_underlying hu,zM,Result.andThen]
   exact this 9999
  have e3:∀t' v,(Op.equal t .nilIface (.iface t' v)).run P w=.ok za w:=by
   have:∀d t' v,(Op.equalIn (d+1) t .nilIface (.iface t' v)).run P w=.ok za w:=λd t' v=>by simp[Op.equalIn,run_underlying hu,zM,Result.andThen]
   exact this 9999
  cases hop:eqOp op with
  |none=>grind
  |some want=>
   rw[hop]at hT
   have hop':(op=.eql/\want=ze)\/(op=.neq/\want=za):=by
    cases op<;>first
     |(injection hop with hop;exact .inl ⟨rfl,hop.symm⟩)
     |(injection hop with hop;exact .inr ⟨rfl,hop.symm⟩)
     |cases hop
   dsimp only at hT
   have hc:∀o:Operand,Zdr o=ze->o=.const .nilIface:=by
    intro o h
    cases o<;>try(cases h;done)
    rename_i v
    cases v<;>first|rfl|cases h
   cases hny:Zdr oy
   ·rw[hny]at hT
    dsimp only at hT
    cases hnx:Zdr ox
    ·grind
    ·rw[hnx]at hT
     dsimp only at hT
     cases hi:nilI b with
     |none=>grind
     |some r=>
      obtain⟨st,r⟩:=r
      rw[hi]at hT
      injection hT with hT
      subst hT
      have ex:=cx _ (hc _ hnx)
      have eo:=hc _ hnx
      subst ex
      subst eo
      refine zU (x:=.bool (bif want then r else !r)) ?_ (by rw[KX,WJ])
      rcases ZlU hy hi with⟨rfl,rfl⟩|⟨rfl,t',v,rfl⟩<;>rcases hop' with⟨rfl,rfl⟩|⟨rfl,rfl⟩<;>simp[eqGuard,binOp,Result.andThen,e1,e3]
   ·rw[hny]at hT
    dsimp only at hT
    cases hi:nilI a with
    |none=>grind
    |some r=>
     obtain⟨st,r⟩:=r
     rw[hi]at hT
     injection hT with hT
     subst hT
     have ey:=cy _ (hc _ hny)
     have eo:=hc _ hny
     subst ey
     subst eo
     refine zU (x:=.bool (bif want then r else !r)) ?_ (by rw[KX,WJ])
     rcases ZlU hx hi with⟨rfl,rfl⟩|⟨rfl,t',v,rfl⟩<;>rcases hop' with⟨rfl,rfl⟩|⟨rfl,rfl⟩<;>simp[eqGuard,binOp,Result.andThen,e1,e2]
 ·cases hT
theorem Kk(hx:R F w a n m x)(hy:R F w b n m y)(hg:(∃ad k c,x=.slice ad k c)\/(∃ad,x=.pointer ad)\/x=.nilFunc\/∃f p q,x=.func f p q) :
  Val P F w n m (Gn P op t a b) (do eqGuard op t ox oy x y;binOp op t x y):=by
 unfold Gn
 cases h:evEq P 20 t a b with
 |none=>
  intro Q hq
  obtain⟨r,want,hw,hQ,e⟩:=ZkI hx hy hq
  refine⟨_,.bool (bif want then r else !r),hQ,?_,by rw[WJ]⟩
  cases op<;>cases hw<;>first|exact Zfu hx hy hg (.inl rfl) r e|exact Zfu hx hy hg (.inr rfl) r e
 |some r=>
  obtain⟨s,r⟩:=r
  have e:=(ZkE 20).1 t a b s r 9980 x y h hx hy
  cases op<;>first
   |exact zU (Zfu hx hy hg (.inl rfl) r e) (by rw[KX,WJ];rfl)
   |exact zU (Zfu hx hy hg (.inr rfl) r e) (by rw[KX,WJ];rfl)
   |exact zH
theorem evBin_val(hx:R F w a n m x)(hy:R F w b n m y) :
  Val P F w n m (JM P op t a b) (do eqGuard op t ox oy x y;binOp op t x y):=by
 have plain:(∀z,(eqGuard op t ox oy x y).run P w=.ok z w)->Val P F w n m (JM P op t a b) (binOp op t x y)->
   Val P F w n m (JM P op t a b) (do eqGuard op t ox oy x y;binOp op t x y):=by
  intro hg h Q hq
  obtain⟨v,r,h1,h2,h3⟩:=h Q hq
  exact⟨v,r,h1,by simp only[zM,hg (),zP,h2],h3⟩
 have gint:∀k a k' b,x=.int k a->y=.int k' b->∀z,(eqGuard op t ox oy x y).run P w=.ok z w:=by
  intro k a k' b hx hy z
  subst hx
  subst hy
  cases op<;>rfl
 cases a<;>try exact λ_ hq=>hq.elim
 case ptr st bl es i o=>have h:=hx;rw[Wm]at h;obtain⟨_,B,rfl,_⟩:=h;exact Kk hx hy (.inr (.inl ⟨_,rfl⟩))
 case rptr st es k get i o=>have h:=hx;rw[JE]at h;obtain⟨_,B,off,rfl,_⟩:=h;exact Kk hx hy (.inr (.inl ⟨_,rfl⟩))
 case nilptr=>have h:=hx;simp only[R]at h;subst h;exact Kk hx hy (.inr (.inl ⟨_,rfl⟩))
 case rsl st es k get=>have h:=hx;rw[Wi]at h;obtain⟨ad,cap,rfl,_⟩:=h;exact Kk hx hy (.inl ⟨_,_,_,rfl⟩)
 case osl st bl es i k=>have h:=hx;rw[Yp]at h;obtain⟨_,ad,cap,rfl,_⟩:=h;exact Kk hx hy (.inl ⟨_,_,_,rfl⟩)
 case Zo=>have h:=hx;simp only[R]at h;subst h;exact Kk hx hy (.inl ⟨_,_,_,rfl⟩)
 case osp st bl es i k c0=>have h:=hx;rw[Kc]at h;obtain⟨_,ad,cap,rfl,_⟩:=h;exact Kk hx hy (.inl ⟨_,_,_,rfl⟩)
 case esl nn es=>have h:=hx;rw[Zaq]at h;obtain⟨ad,rfl,_⟩:=h;exact Kk hx hy (.inl ⟨_,_,_,rfl⟩)
 case fn f p q=>have h:=hx;simp only[R]at h;obtain⟨xs,ys,rfl,_⟩:=h;exact Kk hx hy (.inr (.inr (.inr ⟨_,_,_,rfl⟩)))
 case nilfn=>have h:=hx;simp only[R]at h;subst h;exact Kk hx hy (.inr (.inr (.inl rfl)))
 case yld bl=>have h:=hx;simp only[R]at h;obtain⟨_,l,rfl,_⟩:=h;exact Kk hx hy (.inr (.inr (.inr ⟨_,_,_,rfl⟩)))
 ·rename_i s k a
  rw[Yo]at hx
  cases b<;>try exact λ_ hq=>hq.elim
  grind[Yo,refine,JM,Zbf,Zpx,evInt_val,zH]
 ·rename_i s a
  have hx0:=hx
  rw[WJ]at hx
  refine plain (λz=>by subst hx;cases op<;>cases y<;>rfl) ?_
  refine ZkD hx0 hy λr hr=>?_
  subst hx
  constructor
  ·cases y<;>simp only[binOp,Op.equal,Op.maxDepth,zM,hr,zP,zV]
  ·cases y<;>simp only[binOp,Op.equal,Op.maxDepth,zM,hr,zP,zV]
 ·rename_i s a
  rw[QH]at hx
  cases b<;>try exact λ_ hq=>hq.elim
  rename_i s' b
  rw[QH]at hy
  refine plain (λz=>by subst hx;subst hy;cases op<;>rfl) ?_
  subst hx
  subst hy
  exact evStr_val t
 ·rename_i cs
  unfold JM
  dsimp only
  split
  ·exact zH
  ·rename_i hgt
   have hgt:P.eqGuardType P.depth t=za:=by simpa using hgt
   have hx0:=hx
   rw[JD]at hx
   obtain⟨xs,rfl,_⟩:=hx
   intro Q hq
   have h:=ZkD (P:=P) (op:=op) (t:=t) hx0 hy (λr hr=>by
    constructor
    ·cases y<;>simp only[binOp,Op.equal,Op.maxDepth,zM,hr,zP,zV]
    ·cases y<;>simp only[binOp,Op.equal,Op.maxDepth,zM,hr,zP,zV])
   obtain⟨v,r,h1,h2,h3⟩:=h Q hq
   refine⟨v,r,h1,?_,h3⟩
   have hg:(eqGuard op t ox oy (.agg xs) y).run P w=.ok () w:=by
    cases y<;>first
     |exact run_eqGuard_agg w op t ox oy xs _ hgt
     |(cases op<;>rfl)
   simp_all
theorem evUn_val{op:UnOp}(h:R F w a n m x):Val P F w n m (evUn op a) (Op.unary op x):=by
 cases a<;>try exact zH
 ·rename_i s k a
  rw[Yo]at h;subst h
  cases op<;>first
   |exact zH
   |exact zU rfl (by rw[Wp,Yo])
 ·rename_i s b
  rw[WJ]at h;subst h
  cases op<;>first
   |exact zH
   |exact zU rfl (by rw[KX,WJ])
theorem ZnK:∀(cs:V)(xs:List Value)(st:Bool)(l:List UInt8),bytesOf cs=zi (st,l)->RL F w cs n m xs->∃ns:List Int,xs=ns.map (Value.int .u8)/\l=ns.map λv=>UInt8.ofNat v.toNat:=by
 intro cs
 induction cs with
 |nil=>simp_all[bytesOf,RL]
 |cons a t _ ih=>
  intro xs st l h hr
  cases a<;>try(simp only[bytesOf]at h;cases h;done)
  rename_i s k v _
  cases k<;>try(simp only[bytesOf]at h;cases h;done)
  have h:(match bytesOf t with|some (s',l)=>zi (s&&s',UInt8.ofNat v.toNat::l)|none=>zm)=zi (st,l):=h
  simp only[RL]at hr
  obtain⟨x,r,rfl,h1,h2⟩:=hr
  rw[Yo]at h1
  subst h1
  split at h
  ·rename_i s' l' hb
   simp only[Option.some.injEq,Prod.mk.injEq]at h
   obtain⟨ns,rfl,h4⟩:=ih r s' l' hb h2
   exact⟨v::ns,rfl,by rw[<- h.2,h4];rfl⟩
  ·cases h
 |_=>grind[bytesOf]
theorem foldl_push(ns:List Int):∀(b:ByteArray),ns.foldl (λr n=>r.push (UInt8.ofNat n.toNat)) b=⟨(b.data.toList++ns.map λv=>UInt8.ofNat v.toNat).toArray⟩:=by
 induction ns<;>simp_all
theorem ZpD{e:TypeId}(hr : HR base m F h n w)(ha : R F w a n m x) : Val P F w n m (ZcU P h e a) (do match <- underlying e with| .int .u8=>Conv.bytesToString x| .int .i32=>Conv.runesToString x|_=>stuck "Convert: a slice of what to string?"):=by
 unfold ZcU
 split
 ·rename_i hu
  cases a<;>try exact zH
  rename_i st b es i k
  rw[Yp]at ha
  obtain⟨hb,ad,cap,rfl,hk,hrow⟩:=ha
  have hblk:=hr.blk b hb
  dsimp only
  cases hh:h b<;>try exact zH
  rename_i cs
  rw[hh]at hblk
  obtain⟨B',xs0,el,xs,zs,hm,hcell,hsp,hrl⟩:=hblk
  dsimp only
  cases st with
  |false=>exact zH
  |true=>
   cases he:zq es 1
   ·exact zH
   ·cases hle:zK (i+k) cs.len
    ·exact zH
    ·obtain rfl:=zO he
     have hle':=yA hle
     rw[XM _ _ hrl]at hle'
     simp only[Bool.and_self,cond_true]
     cases hby:bytesOf ((cs.drop i).take k)with
     |none=>exact zH
     |some r=>
      obtain⟨s,l⟩:=r
      dsimp only
      obtain⟨ns,h1,h2⟩:=ZnK _ _ s l hby (K9 _ _ (VY _ _ hrl i) k)
      refine zU (x:=.string ⟨l.toArray⟩) ?_ (by rw[QH])
      simp only[zM,run_underlying hu,zP]
      have hkl:ns.length=k:=by
       have:=congrArg List.length h1
       grind
      have hend:∀b,b=ByteArray.empty->(Value.string (ns.foldl (λr n=>r.push (UInt8.ofNat n.toNat)) b))=.string ⟨l.toArray⟩:=by
       simp_all[foldl_push]
      rcases hrow with h0|⟨B,_,_,_,rfl,hB,_⟩
      ·have hns:ns=[]:=List.eq_nil_of_length_eq_zero (by omega)
       have hk0:k=0:=by omega
       subst hns
       subst hk0
       cases ad with
       |none=>
        simp only[Conv.bytesToString,zV]
        grind
       |some ad=>
        rw[run_bytesToString w ad 0 cap [] (by simpa using run_loadCells_list (P:=P) w ad [] (λj v hj=>by cases hj))]
        grind
      ·obtain rfl:B'=B:=by
        grind
       rw[run_bytesToString w _ k cap ns (by
        have:=run_loadCells_list (P:=P) w ⟨B',i*1,zm⟩ (ns.map (Value.int .u8)) (λj v hj=>by
         rw[<- h1,List.getElem?_take]at hj
         split at hj
         ·rw[List.getElem?_drop]at hj
          rw[add_plain]
          simp only[World.cell?,hcell,Nat.mul_one]
          have hlt:i+j<xs.length:=by
           rcases Nat.lt_or_ge (i+j) xs.length with h|h
           ·exact h
           ·rw[List.getElem?_eq_none h]at hj;cases hj
          simpa[Kv hsp hlt]using hj
         ·cases hj)
        simpa[hkl]using this)]
       grind
 ·exact zH
theorem Zo2(c:Nat)(h:c<128):Utf8.encode (.ofNat c)=⟨#[UInt8.ofNat c]⟩:=by
 have hv:Utf8.valid (.ofNat c)=ze:=by unfold Utf8.valid;simp;omega
 unfold Utf8.encode
 simp only[hv,if_true]
 have ht:Int.toNat (.ofNat c)=c:=rfl
 rw[ht,if_pos (by omega)]
variable{src dst:TypeId}
theorem Zpa{ds:TypeDesc}(hs:P.underlying src=zi ds)(h:R F w a n m x):Val P F w n m (Zif P dst a) (convert src dst x):=by
 unfold Zif
 cases hd:P.underlying dst with
 |none=>exact zH
 |some dd=>
  cases dd<;>try exact zH
  ·dsimp only
   cases a<;>try exact zH
   rename_i k s k' a
   rw[Yo]at h
   subst h
   refine zU (x:=.int k (k.wrap a)) ?_ (by rw[Wp,Yo])
   simp only[convert,zM,run_underlying hs,run_underlying hd,zP,Conv.intToInt,zV]
  ·dsimp only
   cases a<;>try exact zH
   ·rename_i s k' a
    have key:∀c:Nat,c<128->(convert src dst (.int k' (Int.ofNat c))).run P w=.ok (.string ⟨[UInt8.ofNat c].toArray⟩) w:=λc hc=>by
     simp only[convert,zM,run_underlying hs,run_underlying hd,zP,Conv.intToString,zV]
     rw[Zo2 c hc]
    cases s
    ·grind[Yo,refine,Val.need,zU,QH]
    cases a<;>try exact zH
    rename_i c
    rw[Yo]at h
    subst h
    cases hc:zG c 128
    ·grind[zH]
    ·simp only[hc]
     simp_all[zU,UInt8.ofNat,QH]
   rename_i s a
   rw[QH]at h
   subst h
   refine zU (x:=.string ⟨a.toArray⟩) ?_ (by rw[QH])
   simp only[convert,zM,run_underlying hs,run_underlying hd,zP,zV]
theorem Zpc{hb0:Nat->Blk}(hr:HR base m F hb0 n w)(h:R F w a n m x):Val P F w n m (ZaY P hb0 src dst a) (convert src dst x):=by
 unfold ZaY
 split
 ·exact zH
 ·rename_i e hs
  split
  ·rename_i hd
   intro Q hq
   obtain⟨v,y,h1,h2,h3⟩:=ZpD (e:=e) hr h Q hq
   refine⟨v,y,h1,?_,h3⟩
   rw[<- h2]
   have hx:∃ad len cap,x=.slice ad len cap:=by
    unfold ZcU at hq
    split at hq
    ·cases a<;>try exact hq.elim
     grind[Yp]
    ·exact hq.elim
   obtain⟨ad,len,cap,rfl⟩:=hx
   simp only[convert,zM,run_underlying hs,run_underlying hd,zP]
   rfl
  ·exact zH
 grind[Zpa]
theorem Zpu{c:V}{z:Value}(hc:R F w c n m z)(hx:R F w a n m x)(hy:R F w b n m y) :
  Val P F w n m (Zfz c a b) (do pure (if <- asBool z then x else y)):=by
 cases c<;>try exact zH
 rename_i s r
 rw[WJ]at hc;subst hc
 have ht:∀r:Bool,(do pure (if <- asBool (.bool r)then x else y):Sem Value).run P w=.ok (if r then x else y) w:=λr=>by
  simp only[asBool,pure_bind,zV]
 cases s with
 |true=>
  cases r with
  |true=>exact zU (ht ze) hx
  |false=>exact zU (ht za) hy
 |false=>
  intro Q hq
  cases r with
  |true=>exact⟨a,x,hq.1 rfl,ht ze,hx⟩
  |false=>exact⟨b,y,hq.2 rfl,ht za,hy⟩
end
end Go.Fw
namespace Go.Fw
section
variable{P:Program}{F:Nat->Prop}{w:World}{n:Nat}{m:Nat->Option Nat}
variable{t:TypeId}
theorem K4{cs:V}(h:X5 P t=zi cs):∃z,(zeroValue t).run P w=.ok z w/\RL F w cs n m z.cells.toList:=by
 unfold X5 at h
 cases hi:P.info? t with
 |none=>grind
 |some i=>
  rw[hi]at h
  dsimp only at h
  cases hz:i.zero with
  |none=>grind
  |some z=>
   rw[hz]at h
   injection h with h
   subst h
   refine⟨z,by simp only[zeroValue,zM,run_typeInfo w hi,zP,hz,zV],?_⟩
   unfold V.ofValue
   split
   ·exact ZjL _
   ·rename_i hne
    have hc:z.cells= #[z]:=by cases z<;>first|rfl|exact absurd rfl (hne _)
    rw[hc]
    have hr:=Zci (F:=F) (w:=w) (n:=n) (m:=m) z
    cases ho:V.VG z with
    |agg cs=>
     exfalso
     unfold V.VG at ho
     grind
    |_=>grind[V.cells,RL]
inductive Parts(F:Nat->Prop)(w:World)(n:Nat)(m:Nat->Option Nat):List (Nat×V)->List (Nat×Value)->Prop
 |nil:Parts F w n m [] []
 |cons {i:Nat} {v:V} {x:Value} {l:List (Nat×V)} {r:List (Nat×Value)} (h:R F w v n m x) (hr:Parts F w n m l r):Parts F w n m ((i,v)::l) ((i,x)::r)
theorem foldl_set(vs:List Value):∀(k:Nat)(cs:Array Value)(o:Nat),
  ((vs.zipIdx k).foldl (λcs(c,j)=>cs.setIfInBounds (o+j) c) cs).toList=XT cs.toList (o+k) vs:=by
 induction vs with
 |nil=>
  intro k cs o
  simp only[List.zipIdx_nil,List.foldl_nil]
  apply List.ext_getElem? <;>grind[VP,J6]
 |cons v vs ih=>
  intro k cs o
  simp only[List.zipIdx_cons,List.foldl_cons]
  rw[ih (k+1) _ o]
  apply List.ext_getElem?
  grind[VP,J6]
theorem fill_cons(place:Nat->Option (Nat×Nat))(cells:Array Value)(i:Nat)(v:Value)(rest:List (Nat×Value))(off z:Nat)(hp:place i=zi (off,z))
  (h1:v.cells.size=z)(h2:off+z<=cells.size) :
  Instr.fill place cells ((i,v)::rest)=Instr.fill place (XT cells.toList off v.cells.toList).toArray rest:=by
 simp only[Instr.fill,hp]
 rw[if_neg (by simp[h1];omega)]
 congr 1
 apply Array.ext'
 have:=foldl_set v.cells.toList 0 cells off
 simp only[Nat.add_zero]at this
 grind[Array.toList_zipIdx]
theorem Zim{place:Nat->Option (Nat×Nat)}:∀(l:List (Nat×V))(r:List (Nat×Value)),Parts F w n m l r->∀(cs:V)(out:V)(cells:Array Value),
  KN P place cs l=zi out->RL F w cs n m cells.toList->
  ∃outc,Instr.fill place cells r=zi outc/\RL F w out n m outc.toList/\outc.size=cells.size:=by
 intro l r h
 induction h with
 |nil=>
  intro cs out cells hf hr
  simp only[KN]at hf
  injection hf with hf
  subst hf
  exact⟨cells,rfl,hr,rfl⟩
 |@cons i v x l r hv hlr ih=>
  intro cs out cells hf hr
  simp only[KN]at hf
  cases hp:place i with
  |none=>grind
  |some q=>
   obtain⟨off,z⟩:=q
   rw[hp]at hf
   dsimp only at hf
   cases hsol:v.solid
   ·grind
   rw[hsol,Bool.true_and]at hf
   have hcells:=UL v x hv hsol
   rw[XM _ _ hcells,XM _ _ hr]at hf
   cases h1:zq x.cells.toList.length z
   ·grind
   ·cases h2:zK (off+z) cells.toList.length
    ·grind
    ·rw[h1,h2]at hf
     have h1':x.cells.size=z:=by simpa using zO h1
     have h2':off+z<=cells.size:=by simpa using yA h2
     obtain⟨outc,g1,g2,g3⟩:=ih (cs.splice off v.cells) out (XT cells.toList off x.cells.toList).toArray hf
      (by simpa using Zen cs _ hr off v.cells _ hcells)
     grind[refine,fill_cons,J6]
theorem Zq1(w:World):∀(fields:List Field),(∀f∈fields,∃z,ZW P f.type=zi z)->
  (fields.mapM (m:=Sem) λf=>do pure (f.offset,<- sizeOf f.type)).run P w=.ok (fields.map λf=>(f.offset,(ZW P f.type).getD 0)) w:=by
 intro fields
 induction fields<;>simp_all[List.mapM_cons,zM,XU,zP,zV,List.mem_cons_of_mem,List.map_cons,Option.getD_some]
theorem Zo8{l:List (Nat×V)}{r:Array (Nat×Value)}(h:Parts F w n m l r.toList):Val P F w n m (Zid P t l) (Instr.build t r):=by
 unfold Zid
 cases hz:X5 P t with
 |none=>exact zH
 |some zero=>
  obtain⟨z,hz1,hz2⟩:=K4 (F:=F) (w:=w) (n:=n) (m:=m) hz
  dsimp only
  cases hu:P.underlying t with
  |none=>exact zH
  |some d=>
   cases d<;>try exact zH
   ·rename_i len e
    dsimp only
    cases hs:ZW P e with
    |none=>exact zH
    |some q=>
     dsimp only
     cases hf:KN P (λi=>zi (i*q,q)) zero l with
     |none=>exact zH
     |some cs=>
      obtain⟨outc,g1,g2,_⟩:=Zim _ _ h _ _ _ hf hz2
      refine zU (x:=.agg outc) ?_ (by rw[JD];exact⟨_,rfl,g2⟩)
      simp only[Instr.build,zM,hz1,run_underlying hu,zP,XU hs,g1,zV]
   ·rename_i fields
    dsimp only
    cases ha:fields.toList.all λf=>(ZW P f.type).isSome
    ·exact zH
    ·simp only[cond_true]
     cases hf:KN P (ZfE P fields) zero l with
     |none=>exact zH
     |some cs=>
      have hall:∀f∈fields.toList,∃z,ZW P f.type=zi z:=λf hf=>Option.isSome_iff_exists.1 (List.all_eq_true.1 ha f hf)
      have hpl:=Zq1 (P:=P) w fields.toList hall
      have hfun:(λi=>(fields.toList.map λf=>(f.offset,(ZW P f.type).getD 0)).toArray[i]?)=(ZfE P fields):=by
       grind[ZfE]
      obtain⟨outc,g1,g2,_⟩:=Zim _ _ h _ _ _ hf hz2
      refine zU (x:=.agg outc) ?_ (by rw[JD];exact⟨_,rfl,g2⟩)
      have hma:(fields.mapM (m:=Sem) λf=>do pure (f.offset,<- sizeOf f.type)).run P w=.ok (fields.toList.map λf=>(f.offset,(ZW P f.type).getD 0)).toArray w:=by
       simp_all[List.toArray,Array.mapM_eq_mapM_toList,Sem.run_map]
      simp only[Instr.build,zM,hz1,run_underlying hu,zP,hma]
      simp_all
variable{x:Value}
theorem Va{v:V}(h:R F w v n m x):R F w v.Wl n m x:=by
 cases v<;>try exact h
 rw[Kc]at h
 obtain⟨hb,a,cap,e,h1,h2,h3⟩:=h
 show R F w (.osl _ _ _ _ _) n m x
 grind[Yp]
theorem ZdO{k:IntKind}{j:Int}{y:Nat}(code:BoundsCode)(h0:0<=j)(h1:j<=y):Instr.sliceBound (.int k j) y code=pure j.toNat:=by
 simp only[Instr.sliceBound,asIntOf,pure_bind]
 grind
variable{k:Nat}{lo hi:Option V}{vlo vhi:Option Value}
theorem Vp{st:Bool}{cap:Nat}{isSlice:Bool}{T:Bool->Nat->Nat->Tree V}{f:Nat×Nat×Nat->Sem Value}
  (hk:k<=cap)(hlo:∀a,lo=zi a->∃x,vlo=zi x/\R F w a n m x)(hlo0:lo=zm->vlo=zm)(hhi:∀a,hi=zi a->∃x,vhi=zi x/\R F w a n m x)(hhi0:hi=zm->vhi=zm)
  (h:∀st a b,a<=b->b<=k->(lo=zm->a=0)->Val P F w n m (T st a b) (f (a,b,cap))) :
  Val P F w n m (Jd st k lo hi T) (Instr.sliceBounds isSlice k cap vlo vhi zm >>= f):=by
 have hlow:∀st b,b<=k->Val P F w n m (match lo with|none=>T st 0 b|some (.int s _ j)=>ZbL (st&&s) j b λq=>T (st&&s) q b|some _=>.stuck)
   ((match vlo with
     |some v=>(do let l <- Instr.sliceBound v b (if(zm:Option Value).isSome then .slice3C else .sliceB);pure (l,b,cap))
     |none=>pure (0,b,cap)) >>= f):=by
  intro st b hb
  cases lo with
  |none=>
   rw[hlo0 rfl]
   intro Q hq
   obtain⟨v,x,h1,h2,h3⟩:=h st 0 b (Nat.zero_le _) hb (λ_=>rfl) Q hq
   exact⟨v,x,h1,by simp only[pure_bind];exact h2,h3⟩
  |some a=>
   obtain⟨x,rfl,hx⟩:=hlo a rfl
   cases a<;>try exact zH
   rename_i s kk j
   rw[Yo]at hx
   subst hx
   refine ZdV λh0 h1=>?_
   intro Q hq
   obtain⟨v,x,h1',h2,h3⟩:=h (st&&s) j.toNat b (by omega) hb (λh=>by cases h) Q hq
   refine⟨v,x,h1',?_,h3⟩
   simp only[ZdO _ h0 h1,pure_bind]
   exact h2
 unfold Jd
 cases hi with
 |none=>
  rw[hhi0 rfl]
  intro Q hq
  obtain⟨v,x,h1,h2,h3⟩:=hlow st k (zI _) Q hq
  refine⟨v,x,h1,?_,h3⟩
  simp only[Instr.sliceBounds,pure_bind]
  exact h2
 |some a=>
  obtain⟨x,rfl,hx⟩:=hhi a rfl
  cases a<;>try exact zH
  rename_i s kk j
  rw[Yo]at hx
  subst hx
  refine ZdV λh0 h1=>?_
  intro Q hq
  obtain⟨v,x,h1',h2,h3⟩:=hlow (st&&s) j.toNat (by omega) Q hq
  refine⟨v,x,h1',?_,h3⟩
  simp only[Instr.sliceBounds,pure_bind,ZdO _ h0 (show j<=(cap:Int)by omega)]
  exact h2
variable{base:Nat}{hb0:Nat->Blk}
theorem Zlj(hr:HR base m F hb0 n w){b B:Nat}(hbn:b<n)(hB:m b=zi B)(h:Zdf (hb0 b) k=ze):∃c el,w.heap[B]? =zi (.cells c el (0,0))/\k<=c.size:=by
 have hblk:=hr.blk b hbn
 cases hh:hb0 b<;>rw[hh]at h hblk<;>try(cases h;done)
 rename_i cs
 obtain⟨B',xs,el,ys,zs,hm,hcell,hsp,hrow⟩:=hblk
 obtain rfl:B=B':=by
  grind
 refine⟨xs,el,hcell,?_⟩
 have h1:=yA h
 rw[XM _ _ hrow]at h1
 exact Nat.le_trans h1 (Zbx hsp)
variable{a:V}{vmx:Option Value}
theorem Zpy{mx:V}(ha:R F w a n m x)
  (hlo0:lo=zm->vlo=zm)(hhi:∀a,hi=zi a->∃x,vhi=zi x/\R F w a n m x)(hmx:∃x,vmx=zi x/\R F w mx n m x) :
  Val P F w n m (ZfB P t a lo hi mx) (Instr.sliceAt t x vlo vhi vmx):=by
 unfold ZfB
 cases lo with
 |some _=>exact zH
 |none=>
  cases hi with
  |none=>exact zH
  |some hi=>
   dsimp only
   cases hz:Zdh hi&&Zdh mx
   ·exact zH
   simp only[cond_true]
   cases hu:P.underlying t with
   |none=>exact zH
   |some d=>
    cases d<;>try exact zH
    dsimp only
    simp only[zL]at hz
    obtain⟨yh,hyh,rh⟩:=hhi hi rfl
    obtain⟨ym,hym,rm⟩:=hmx
    have zero:∀(v:V)(y:Value),Zdh v=ze->R F w v n m y->∃k,y=.int k 0:=by
     intro v y hv hy
     cases v<;>try(cases hv;done)
     rename_i st k i
     cases st<;>try(cases hv;done)
     cases i<;>try(cases hv;done)
     rename_i c
     have:=zO hv
     simp_all[Yo]
    obtain⟨kh,rfl⟩:=zero _ _ hz.1 rh
    obtain⟨km,rfl⟩:=zero _ _ hz.2 rm
    rename_i e
    cases hsz:ZW P e with
    |none=>exact zH
    |some z=>
     dsimp only
     rw[hlo0 rfl,hyh,hym]
     have hrun:∀(ad:Option Addr)(l c:Nat),(Instr.sliceAt t (.slice ad l c) zm (zi (.int kh 0)) (zi (.int km 0))).run P w=.ok (.slice ad 0 0) w:=by
      intro ad l c
      simp[Instr.sliceAt,Instr.slice,Instr.sliceBounds,Instr.sliceBound,asIntOf,zM,run_underlying hu,zP,XU hsz]
     have pos:∀{st:Bool}{k:Nat},(st&&zG 0 k)=ze->0<k:=by
      simp_all
     cases a<;>try exact zH
     case rsl=>
      rw[Wi]at ha
      obtain⟨ad,c,rfl,_,hrow⟩:=ha
      refine zU (hrun ad _ c) ?_
      rw[Zaq]
      refine⟨ad,rfl,λh=>?_⟩
      have:=pos h
      grind
     case osl=>
      rw[Yp]at ha
      obtain⟨_,ad,c,rfl,hk,hrow⟩:=ha
      refine zU (hrun ad _ c) ?_
      rw[Zaq]
      refine⟨ad,rfl,λh=>?_⟩
      have:=pos h
      grind
     case osp=>
      rw[Kc]at ha
      obtain⟨_,ad,c,rfl,hk,hk2,hrow⟩:=ha
      refine zU (hrun ad _ c) ?_
      rw[Zaq]
      refine⟨ad,rfl,λh=>?_⟩
      have:=pos h
      grind
     case Zo=>
      grind[R,zU]
     grind[Zaq,zU]
theorem Zq2{st:Bool}{b es i:Nat}(ha:R F w a n m x)(h:a.Wl=.osl st b es i k):R F w (.osl st b es i k) n m x:=by
 cases a<;>simp only[V.Wl]at h<;>try(cases h;done)
 ·grind
 grind[Kc,Yp]
theorem Zpz{lo hi mx:V}{xl xh xm:Value}(ha:R F w a n m x)(hlo:R F w lo n m xl)(hhi:R F w hi n m xh)(hmx:R F w mx n m xm) :
  Val P F w n m (Zil P t a lo hi mx) (Instr.sliceAt t x (zi xl) (zi xh) (zi xm)):=by
 unfold Zil
 cases hu:P.underlying t with
 |none=>exact zH
 |some d=>
  cases d<;>try exact zH
  rename_i e
  dsimp only
  cases hz:ZW P e with
  |none=>exact zH
  |some z=>
   dsimp only
   cases hp:a.Wl<;>try exact zH
   rename_i st bl es i k
   dsimp only
   cases he:zq z es
   ·exact zH
   ·obtain rfl:=zO he
    simp only[cond_true]
    have ha':=Zq2 ha hp
    rw[Yp]at ha'
    obtain⟨hbn,ad,cap,rfl,hk,hrow⟩:=ha'
    cases mx<;>try exact zH
    rename_i s kk j
    rw[Yo]at hmx
    subst hmx
    dsimp only
    refine ZdV λh0 h1=>?_
    unfold Jd
    dsimp only
    cases hi<;>try exact zH
    rename_i s2 k2 j2
    rw[Yo]at hhi
    subst hhi
    dsimp only
    refine ZdV λh2 h3=>?_
    cases lo<;>try exact zH
    rename_i s3 k3 j3
    rw[Yo]at hlo
    subst hlo
    dsimp only
    refine ZdV λh4 h5=>?_
    have hjc:j<=(cap:Int):=by omega
    refine zU (x:=.slice (if j.toNat=j3.toNat then ad else ad.map (·.add (j3.toNat*z))) (j2.toNat-j3.toNat) (j.toNat-j3.toNat)) ?_ ?_
    ·simp only[Instr.sliceAt,Instr.slice,zM,run_underlying hu,zP,XU hz,Instr.sliceBounds,ZdO _ h0 hjc,ZdO _ h2 h3,ZdO _ h4 h5,pure_bind,zV]
    ·rw[Yp]
     refine⟨hbn,_,_,rfl,by omega,?_⟩
     by_cases hab:j.toNat-j3.toNat=0
     ·omega
     ·right
      rcases hrow with h0'|⟨B,c0,el0,fr0,rfl,hB,hc0,hz0⟩
      ·omega
      ·rw[if_neg (by omega)]
       have e:i+j3.toNat+(j.toNat-j3.toNat)=i+j.toNat:=by omega
       refine⟨B,c0,el0,fr0,by simp only[Option.map_some,add_plain,Nat.add_mul],hB,hc0,?_⟩
       rw[e]
       exact Nat.le_trans (yx z (by omega)) hz0
theorem ZpB{mx:Option V}(hr:HR base m F hb0 n w)(ha:R F w a n m x)
  (hlo:∀a,lo=zi a->∃x,vlo=zi x/\R F w a n m x)(hlo0:lo=zm->vlo=zm)(hhi:∀a,hi=zi a->∃x,vhi=zi x/\R F w a n m x)(hhi0:hi=zm->vhi=zm)
  (hmx:∀a,mx=zi a->∃x,vmx=zi x/\R F w a n m x)(hmx0:mx=zm->vmx=zm) :
  Val P F w n m (Za0 P hb0 t a lo hi mx) (Instr.sliceAt t x vlo vhi vmx):=by
 unfold Za0
 cases mx with
 |some mx=>
  dsimp only
  obtain⟨xm,rfl,hm'⟩:=hmx mx rfl
  have h0:=Zpy (P:=P) (t:=t) (mx:=mx) (vmx:=zi xm) ha hlo0 hhi ⟨xm,rfl,hm'⟩
  grind[ZfB,zH,Zpz]
 |none=>
  rw[hmx0 rfl]
  dsimp only
  cases hu:P.underlying t with
  |none=>exact zH
  |some d=>
   cases d<;>try exact zH
   ·dsimp only
    cases a<;>try exact zH
    rename_i st l
    rw[QH]at ha
    subst ha
    have hsz:(ByteArray.mk l.toArray).size=l.length:=by simp[ByteArray.size]
    have h:=Vp (P:=P) (F:=F) (w:=w) (n:=n) (m:=m) (st:=st) (k:=l.length) (cap:=l.length) (lo:=lo) (hi:=hi) (vlo:=vlo) (vhi:=vhi) (isSlice:=za)
     (T:=λst a b=>.leaf (.str st ((l.drop a).take (b-a)))) (f:=λr=>pure (.string ((ByteArray.mk l.toArray).extract r.1 r.2.1))) (zI _) hlo hlo0 hhi hhi0
     (λst a b h1 h2 hz0=>zU (x:=.string ⟨((l.drop a).take (b-a)).toArray⟩) (by
      simp only[zV]
      congr 2
      apply ByteArray.ext
      apply Array.ext'
      simp[ByteArray.data_extract,List.extract_eq_take_drop]) (by rw[QH]))
    intro Q hq
    obtain⟨v,x,h1,h2,h3⟩:=h Q hq
    refine⟨v,x,h1,?_,h3⟩
    simp only[Instr.sliceAt,Instr.slice,zM,run_underlying hu,zP,Option.isSome_none,Bool.false_eq_true,if_false,hsz]
    simp_all
   ·rename_i arr
    dsimp only
    cases a<;>try exact zH
    rename_i st bl es i o
    dsimp only
    cases hua:P.underlying arr with
    |none=>exact zH
    |some da=>
     cases da<;>try exact zH
     rename_i len e
     dsimp only
     cases hz:ZW P e with
     |none=>exact zH
     |some z=>
      dsimp only
      cases he:zq (i*es+o) ((i*es+o)/z*z)
      ·exact zH
      cases hcs:Zdf (hb0 bl) (i*es+o+len*z)
      ·exact zH
      ·have he:=zO he
       simp only[Bool.and_self,cond_true]
       rw[Wm]at ha
       obtain⟨hbn,B,rfl,hB⟩:=ha
       obtain⟨hc0,el0,hcell0,hsz0⟩:=Zlj hr hbn hB hcs
       generalize(i*es+o)/z=q0 at he⊢
       rw[he]
       have h:=Vp (P:=P) (F:=F) (w:=w) (n:=n) (m:=m) (st:=st) (k:=len) (cap:=len) (lo:=lo) (hi:=hi) (vlo:=vlo) (vhi:=vhi) (isSlice:=za)
        (T:=λst a b=>.leaf (.osl st bl z (q0+a) (b-a)))
        (f:=λr=>pure (.slice (zi (if r.2.2=r.1 then(⟨B,q0*z,zm⟩:Addr)else Addr.add ⟨B,q0*z,zm⟩ (r.1*z))) (r.2.1-r.1) (r.2.2-r.1))) (zI _) hlo hlo0 hhi hhi0
        (λst a b h1 h2 hz0=>zU (x:=.slice (zi (if len=a then(⟨B,q0*z,zm⟩:Addr)else Addr.add ⟨B,q0*z,zm⟩ (a*z))) (b-a) (len-a)) (by simp only[zV]) (by
         rw[Yp]
         refine⟨hbn,_,_,rfl,by omega,?_⟩
         by_cases hab:len-a=0
         ·exact .inl hab
         ·right
          rw[if_neg (by omega)]
          refine⟨B,hc0,el0,(0,0),by rw[add_plain,Nat.add_mul],hB,hcell0,?_⟩
          have e:q0+a+(len-a)=q0+len:=by omega
          rw[e,Nat.add_mul,<- he]
          exact hsz0))
       intro Q hq
       obtain⟨v,x,h1,h2,h3⟩:=h Q hq
       refine⟨v,x,h1,?_,h3⟩
       simp only[Instr.sliceAt,Instr.slice,zM,run_underlying hu,run_underlying hua,zP,asAddr,pure_bind,zV]
       simp only[zM]at h2
       simp only[XU hz,zP]
       exact h2
   ·rename_i e
    dsimp only
    cases a<;>try exact zH
    ·rename_i st es k get
     dsimp only
     cases hz:ZW P e with
     |none=>exact zH
     |some z=>
      dsimp only
      cases he:zq z es
      ·exact zH
      ·obtain rfl:=zO he
       simp only[cond_true]
       rw[Wi]at ha
       obtain⟨ad,cap,rfl,hk,hrow⟩:=ha
       have h:=Vp (P:=P) (F:=F) (w:=w) (n:=n) (m:=m) (st:=st) (k:=k) (cap:=cap) (lo:=lo) (hi:=hi) (vlo:=vlo) (vhi:=vhi) (isSlice:=ze)
        (T:=λst a b=>.leaf (.rsl st z (b-a) λj=>get (a+j)))
        (f:=λr=>pure (.slice (if r.2.2=r.1 then ad else ad.map (·.add (r.1*z))) (r.2.1-r.1) (r.2.2-r.1))) hk hlo hlo0 hhi hhi0
        (λst a b h1 h2 hz0=>zU (x:=.slice (if cap=a then ad else ad.map (·.add (a*z))) (b-a) (cap-a)) (by simp only[zV]) (by
         rw[Wi]
         refine⟨_,_,rfl,by omega,?_⟩
         by_cases hab:b-a=0
         ·exact .inl hab
         ·right
          rcases hrow with h0|⟨B,off,rfl,hF,c,el,fr,hc,hr⟩
          ·omega
          ·rw[if_neg (by omega)]
           refine⟨B,off+a*z,by simp only[Option.map_some,add_plain],hF,c,el,fr,hc,λj hj=>?_⟩
           obtain⟨xs,g1,g2,g3⟩:=hr (a+j) (by omega)
           refine⟨xs,g1,g2,λq hq=>?_⟩
           rw[<- g3 q hq]
           congr 1
           rw[Nat.add_mul]
           omega))
       intro Q hq
       obtain⟨v,x,h1,h2,h3⟩:=h Q hq
       refine⟨v,x,h1,?_,h3⟩
       simp only[Instr.sliceAt,Instr.slice,zM,run_underlying hu,zP]
       simp_all[zM,XU,zP]
    ·rename_i st bl es i k
     dsimp only
     cases hz:ZW P e with
     |none=>exact zH
     |some z=>
      dsimp only
      cases he:zq z es
      ·exact zH
      ·obtain rfl:=zO he
       simp only[cond_true]
       rw[Yp]at ha
       obtain⟨hbn,ad,cap,rfl,hk,hrow⟩:=ha
       have h:=Vp (P:=P) (F:=F) (w:=w) (n:=n) (m:=m) (st:=st) (k:=k) (cap:=cap) (lo:=lo) (hi:=hi) (vlo:=vlo) (vhi:=vhi) (isSlice:=ze)
        (T:=λst a b=>.leaf (ospB lo st bl z i k a b))
        (f:=λr=>pure (.slice (if r.2.2=r.1 then ad else ad.map (·.add (r.1*z))) (r.2.1-r.1) (r.2.2-r.1))) hk hlo hlo0 hhi hhi0
        (λst a b h1 h2 hzz=>zU (x:=.slice (if cap=a then ad else ad.map (·.add (a*z))) (b-a) (cap-a)) (by simp only[zV]) (by
         have ho:R F w (.osl st bl z (i+a) (b-a)) n m (.slice (if cap=a then ad else ad.map (·.add (a*z))) (b-a) (cap-a)):=by
          rw[Yp]
          refine⟨hbn,_,_,rfl,by omega,?_⟩
          by_cases hab:cap-a=0
          ·exact .inl hab
          ·right
           rcases hrow with h0|⟨B,c0,el0,fr0,rfl,hB,hc0,hz0⟩
           ·omega
           ·rw[if_neg (by omega)]
            have e:i+a+(cap-a)=i+cap:=by omega
            exact⟨B,c0,el0,fr0,by simp only[Option.map_some,add_plain,Nat.add_mul],hB,hc0,by rw[e];exact hz0⟩
         unfold ospB
         cases lo with
         |some _=>exact ho
         |none=>
          have:=hzz rfl
          subst this
          dsimp only
          unfold ospOf
          cases hcc:(st&&zq b k)
          ·rw[Yp]at ho
           obtain⟨g1,g2,g3,g4,g5,g6⟩:=ho
           simp only[cond_false]
           rw[Kc]
           injection g4 with g41 g42 g43
           refine⟨hbn,g2,g3,by rw[g41,g42,g43];rfl,h2,by rw[<- g43];omega,?_⟩
           simpa using g6
          ·simpa using ho))
       intro Q hq
       obtain⟨v,x,h1,h2,h3⟩:=h Q hq
       refine⟨v,x,h1,?_,h3⟩
       simp only[Instr.sliceAt,Instr.slice,zM,run_underlying hu,zP]
       simp_all[zM,XU,zP]
    ·rename_i st bl es i k c0
     dsimp only
     cases hz:ZW P e with
     |none=>exact zH
     |some z=>
      dsimp only
      cases he:zq z es
      ·exact zH
      ·obtain rfl:=zO he
       simp only[cond_true]
       rw[Kc]at ha
       obtain⟨hbn,ad,cap,rfl,hk,hk2,hrow⟩:=ha
       have main:∀kk,kk<=cap->(Instr.sliceBounds ze k cap vlo vhi zm=Instr.sliceBounds ze kk cap vlo vhi zm)->Val P F w n m (Jd st kk lo hi λst a b=>.leaf (.osl st bl z (i+a) (b-a))) (Instr.sliceAt t (.slice ad k cap) vlo vhi zm):=by
        intro kk hkk hsame
        have h:=Vp (P:=P) (F:=F) (w:=w) (n:=n) (m:=m) (st:=st) (k:=kk) (cap:=cap) (lo:=lo) (hi:=hi) (vlo:=vlo) (vhi:=vhi) (isSlice:=ze)
         (T:=λst a b=>.leaf (.osl st bl z (i+a) (b-a)))
         (f:=λr=>pure (.slice (if r.2.2=r.1 then ad else ad.map (·.add (r.1*z))) (r.2.1-r.1) (r.2.2-r.1))) hkk hlo hlo0 hhi hhi0
         (λst a b h1 h2 _=>zU (x:=.slice (if cap=a then ad else ad.map (·.add (a*z))) (b-a) (cap-a)) (by simp only[zV]) (by
          rw[Yp]
          refine⟨hbn,_,_,rfl,by omega,?_⟩
          by_cases hab:cap-a=0
          ·exact .inl hab
          ·right
           rcases hrow with h0|⟨B,c0,el0,fr0,rfl,hB,hc0,hz0⟩
           ·omega
           ·rw[if_neg (by omega)]
            have e:i+a+(cap-a)=i+cap:=by omega
            exact⟨B,c0,el0,fr0,by simp only[Option.map_some,add_plain,Nat.add_mul],hB,hc0,by rw[e];exact hz0⟩))
        intro Q hq
        obtain⟨v,x,h1,h2,h3⟩:=h Q hq
        refine⟨v,x,h1,?_,h3⟩
        simp only[Instr.sliceAt,Instr.slice,zM,run_underlying hu,zP]
        simp_all[zM,XU,zP]
       cases hi with
       |none=>grind
       |some hi=>
        obtain⟨xh,rfl,_⟩:=hhi hi rfl
        exact main c0 hk2 rfl
    ·dsimp only
     cases hz:ZW P e with
     |none=>exact zH
     |some z=>
      dsimp only
      simp only[R]at ha
      subst ha
      have h:=Vp (P:=P) (F:=F) (w:=w) (n:=n) (m:=m) (st:=ze) (k:=0) (cap:=0) (lo:=lo) (hi:=hi) (vlo:=vlo) (vhi:=vhi) (isSlice:=ze)
       (T:=λ_ _ _=>.leaf .Zo)
       (f:=λr=>pure (.slice (if r.2.2=r.1 then zm else(zm:Option Addr).map (·.add (r.1*z))) (r.2.1-r.1) (r.2.2-r.1))) (zI _) hlo hlo0 hhi hhi0
       (λst a b h1 h2 _=>zU (x:=.slice zm 0 0) (by
        obtain rfl:a=0:=by omega
        obtain rfl:b=0:=by omega
        simp only[zV];rfl) (by simp only[R]))
      intro Q hq
      obtain⟨v,x,h1,h2,h3⟩:=h Q hq
      refine⟨v,x,h1,?_,h3⟩
      simp only[Instr.sliceAt,Instr.slice,zM,run_underlying hu,zP]
      simp_all[zM,XU,zP]
    ·rename_i nn es
     dsimp only
     cases hz:ZW P e with
     |none=>exact zH
     |some z=>
      dsimp only
      simp only[R]at ha
      obtain⟨ad,rfl,hnn⟩:=ha
      have h:=Vp (P:=P) (F:=F) (w:=w) (n:=n) (m:=m) (st:=ze) (k:=0) (cap:=0) (lo:=lo) (hi:=hi) (vlo:=vlo) (vhi:=vhi) (isSlice:=ze)
       (T:=λ_ _ _=>.leaf (.esl nn es))
       (f:=λr=>pure (.slice (if r.2.2=r.1 then ad else ad.map (·.add (r.1*z))) (r.2.1-r.1) (r.2.2-r.1))) (zI _) hlo hlo0 hhi hhi0
       (λst a b h1 h2 _=>zU (x:=.slice ad 0 0) (by
        obtain rfl:a=0:=by omega
        obtain rfl:b=0:=by omega
        simp only[zV];rfl) (by simp only[R];exact⟨ad,rfl,hnn⟩))
      intro Q hq
      obtain⟨v,x,h1,h2,h3⟩:=h Q hq
      refine⟨v,x,h1,?_,h3⟩
      simp only[Instr.sliceAt,Instr.slice,zM,run_underlying hu,zP]
      simp_all[zM,XU,zP]
   ·rename_i len e
    dsimp only
    cases a<;>try exact zH
    ·rename_i st bl es i o
     dsimp only
     cases hz:ZW P e with
     |none=>exact zH
     |some z=>
      dsimp only
      cases he:zq (i*es+o) ((i*es+o)/z*z)
      ·exact zH
      cases hcs:Zdf (hb0 bl) (i*es+o+len*z)
      ·exact zH
      ·have he:=zO he
       simp only[Bool.and_self,cond_true]
       rw[Wm]at ha
       obtain⟨hbn,B,rfl,hB⟩:=ha
       obtain⟨hc0,el0,hcell0,hsz0⟩:=Zlj hr hbn hB hcs
       generalize(i*es+o)/z=q0 at he⊢
       rw[he]
       have h:=Vp (P:=P) (F:=F) (w:=w) (n:=n) (m:=m) (st:=st) (k:=len) (cap:=len) (lo:=lo) (hi:=hi) (vlo:=vlo) (vhi:=vhi) (isSlice:=za)
        (T:=λst a b=>.leaf (.osl st bl z (q0+a) (b-a)))
        (f:=λr=>pure (.slice (zi (if r.2.2=r.1 then(⟨B,q0*z,zm⟩:Addr)else Addr.add ⟨B,q0*z,zm⟩ (r.1*z))) (r.2.1-r.1) (r.2.2-r.1))) (zI _) hlo hlo0 hhi hhi0
        (λst a b h1 h2 hz0=>zU (x:=.slice (zi (if len=a then(⟨B,q0*z,zm⟩:Addr)else Addr.add ⟨B,q0*z,zm⟩ (a*z))) (b-a) (len-a)) (by simp only[zV]) (by
         rw[Yp]
         refine⟨hbn,_,_,rfl,by omega,?_⟩
         by_cases hab:len-a=0
         ·exact .inl hab
         ·right
          rw[if_neg (by omega)]
          refine⟨B,hc0,el0,(0,0),by rw[add_plain,Nat.add_mul],hB,hcell0,?_⟩
          have e:q0+a+(len-a)=q0+len:=by omega
          rw[e,Nat.add_mul,<- he]
          exact hsz0))
       intro Q hq
       obtain⟨v,x,h1,h2,h3⟩:=h Q hq
       refine⟨v,x,h1,?_,h3⟩
       simp only[Instr.sliceAt,Instr.sureAddr,zM,run_underlying hu,zP,pure_bind,zV]
       simp only[zM]at h2
       simp only[XU hz,zP]
       exact h2
    ·rename_i st es n' get i o
     dsimp only
     cases hz:ZW P e with
     |none=>exact zH
     |some z=>
      dsimp only
      cases hle:zK (o+len*z) (get i).len
      ·exact zH
      ·simp only[cond_true]
       obtain⟨B,off,rfl,hF,c0,el0,fr0,hcell,hrow⟩:=ZmH ha (yA hle)
       have h:=Vp (P:=P) (F:=F) (w:=w) (n:=n) (m:=m) (st:=st) (k:=len) (cap:=len) (lo:=lo) (hi:=hi) (vlo:=vlo) (vhi:=vhi) (isSlice:=za)
        (T:=λst a b=>.leaf (.rsl st z (b-a) λq=>elemAt (get i) o z (a+q)))
        (f:=λr=>pure (.slice (zi (if r.2.2=r.1 then(⟨B,off,zm⟩:Addr)else Addr.add ⟨B,off,zm⟩ (r.1*z))) (r.2.1-r.1) (r.2.2-r.1))) (zI _) hlo hlo0 hhi hhi0
        (λst a b h1 h2 hz0=>zU (x:=.slice (zi (if len=a then(⟨B,off,zm⟩:Addr)else Addr.add ⟨B,off,zm⟩ (a*z))) (b-a) (len-a)) (by simp only[zV]) (by
         rw[Wi]
         refine⟨_,_,rfl,by omega,?_⟩
         by_cases hab:b-a=0
         ·exact .inl hab
         ·right
          rw[if_neg (by omega)]
          refine⟨B,off+a*z,by rw[add_plain],hF,c0,el0,fr0,hcell,λq hq=>?_⟩
          obtain⟨xs,g1,g2,g3⟩:=hrow (a+q) (by omega)
          refine⟨xs,g1,g2,λp hp=>?_⟩
          rw[<- g3 p hp,Nat.add_mul]
          congr 1
          omega))
       intro Q hq
       obtain⟨v,x,h1,h2,h3⟩:=h Q hq
       refine⟨v,x,h1,?_,h3⟩
       simp only[Instr.sliceAt,Instr.sureAddr,zM,run_underlying hu,zP,pure_bind,zV]
       simp_all[zM,XU,zP]
variable{ts:Array TypeId}{ty:TypeId}
theorem evCap_val{args:Array Value}(ht:ts[0]? =zi t)(hargs:args[0]? =zi x)(h:R F w a n m x) :
  Val P F w n m (evCap P t a) (Builtin.cap_ ts ty args):=by
 unfold evCap
 cases hu:P.underlying t with
 |none=>exact zH
 |some d=>
  cases d<;>try exact zH
  dsimp only
  have h:=Va h
  generalize a.Wl=a at h⊢
  cases a<;>try exact zH
  ·simp only[R]at h
   subst h
   refine zU (x:=.int .i64 0) ?_ (by rw[Yo])
   simp only[Builtin.cap_,ht,hargs,zM,run_underlying hu,zP,zV,goInt]
   rfl
  ·simp only[R]at h
   obtain⟨ad,rfl,_⟩:=h
   refine zU (x:=.int .i64 0) ?_ (by rw[Yo])
   simp only[Builtin.cap_,ht,hargs,zM,run_underlying hu,zP,zV,goInt]
   rfl
theorem evLen_val{args:Array Value}(ht:ts[0]? =zi t)(hargs:args[0]? =zi x)(h:R F w a n m x) :
  Val P F w n m (evLen P t a) (Builtin.len_ ts ty args):=by
 unfold evLen
 cases hu:P.underlying t with
 |none=>exact zH
 |some d=>
  cases d<;>try exact zH
  ·dsimp only
   cases a<;>try exact zH
   rename_i st l
   rw[QH]at h;subst h
   refine zU (x:=.int .i64 l.length) ?_ (by rw[Wp,Yo])
   simp only[Builtin.len_,ht,hargs,zM,run_underlying hu,zP,zV,goInt]
   simp[ByteArray.size]
  ·dsimp only
   have h:=Va h
   generalize a.Wl=a at h⊢
   cases a<;>try exact zH
   ·rename_i st es k get
    rw[Wi]at h
    obtain⟨_,_,rfl,_⟩:=h
    refine zU (x:=.int .i64 k) ?_ (by rw[Wp,Yo])
    simp only[Builtin.len_,ht,hargs,zM,run_underlying hu,zP,zV,goInt]
   ·rename_i st b es i k
    rw[Yp]at h
    obtain⟨_,_,_,rfl,_⟩:=h
    refine zU (x:=.int .i64 k) ?_ (by rw[Wp,Yo])
    simp only[Builtin.len_,ht,hargs,zM,run_underlying hu,zP,zV,goInt]
   ·simp only[R]at h
    subst h
    refine zU (x:=.int .i64 0) ?_ (by rw[Yo])
    simp only[Builtin.len_,ht,hargs,zM,run_underlying hu,zP,zV,goInt]
    rfl
   ·simp only[R]at h
    obtain⟨ad,rfl,_⟩:=h
    refine zU (x:=.int .i64 0) ?_ (by rw[Yo])
    simp only[Builtin.len_,ht,hargs,zM,run_underlying hu,zP,zV,goInt]
    rfl
  ·rename_i k e
   dsimp only
   refine zU (x:=.int .i64 k) ?_ (by rw[Wp,Yo])
   simp only[Builtin.len_,ht,hargs,zM,run_underlying hu,zP,zV,goInt]
variable{less:Bool}
theorem ev2_val{b:V}{y:Value}(hx:R F w a n m x)(hy:R F w b n m y) :
  Val P F w n m (ev2 less a b) (match less with|true=>Builtin.min2 x y|false=>Builtin.max2 x y):=by
 cases a<;>try exact λ_ hq=>hq.elim
 cases b<;>try exact λ_ hq=>hq.elim
 rw[Yo]at hx hy
 subst hx;subst hy
 cases less
 ·exact zU rfl (by rw[Wp,Yo])
 ·exact zU rfl (by rw[Wp,Yo])
theorem ZkH:∀(r:V)(ys:List Value),RL F w r n m ys->∀(a:V)(x:Value),R F w a n m x->
  Val P F w n m (ZcS less a r) (ys.foldlM (match less with|true=>Builtin.min2|false=>Builtin.max2) x):=by
 intro r
 induction r with
 |nil=>
  intro ys h a x hx
  simp only[RL]at h
  subst h
  exact zU (by simp only[List.foldlM_nil,zV]) hx
 |cons b t _ ih=>
  intro ys h a x hx
  simp only[RL]at h
  obtain⟨y,r,rfl,h1,h2⟩:=h
  intro Q hq
  simp only[ZcS]at hq
  rw[Tree.Yw]at hq
  obtain⟨v,z,g1,g2,g3⟩:=ev2_val (P:=P) (less:=less) hx h1 _ hq
  obtain⟨u,q,k1,k2,k3⟩:=ih r h2 v z g3 Q g1
  refine⟨u,q,k1,?_,k3⟩
  rw[List.foldlM_cons]
  cases less<;>simp only[zM,g2,zP,k2]
 |_=>grind[RL]
end
end Go.Fw
namespace Go.Fw
structure Later(F:Nat->Prop)(w:World)(F':Nat->Prop)(w':World):Prop where
 f:∀B,F B->F' B
 back:∀B,F' B->F B\/w.heap.size<=B
 keep:∀B,B<w.heap.size->w'.heap[B]? =w.heap[B]?
 size:w.heap.size<=w'.heap.size
 dom:(∀B,F B->B<w.heap.size)->∀B,F' B->B<w'.heap.size
 calm:Calm w w'
theorem Later.refl(F:Nat->Prop)(w:World):Later F w F w:=
 ⟨λ_ h=>h,λ_ h=>.inl h,λ_ _=>rfl,zI _,λh=>h,Calm.refl w⟩
theorem Later.trans{F F1 F2:Nat->Prop}{w w1 w2:World}(h:Later F w F1 w1)(h':Later F1 w1 F2 w2):Later F w F2 w2 where
 f B hB:=h'.f B (h.f B hB)
 back B hB:=(h'.back B hB).elim (λhB=>h.back B hB) (λhB=>.inr (Nat.le_trans h.size hB))
 keep B hB:=by rw[h'.keep B (Nat.lt_of_lt_of_le hB h.size),h.keep B hB]
 size:=Nat.le_trans h.size h'.size
 dom hd:=h'.dom (h.dom hd)
 calm:=h.calm.trans h'.calm
theorem heap_alloc_old(w:World)(o:Obj)(B:Nat)(h:B<w.heap.size):(w.alloc o).heap[B]? =w.heap[B]?:=by
 grind[World.alloc]
theorem heap_alloc_new(w:World)(o:Obj):(w.alloc o).heap[w.heap.size]? =zi o:=by
 grind[World.alloc,Array.getElem?_push_size]
theorem Later.alloc(F:Nat->Prop)(w:World)(o:Obj):Later F w (λB=>F B\/B=w.heap.size) (w.alloc o) where
 f _ h:=.inl h
 back B h:=h.imp id (λh=>by omega)
 keep B hB:=heap_alloc_old w o B hB
 size:=by simp
 dom hd B hB:=by
  simp only[World.size_alloc]
  rcases hB with h|h
  ·have:=hd B h;omega
  ·omega
 calm:=⟨rfl,rfl,rfl⟩
theorem Zdg{w:World}{B:Nat}{o:Obj}(h:w.heap[B]? =zi o):B<w.heap.size:=by
 grind
section
variable{base:Nat}{m:Nat->Option Nat}{F F':Nat->Prop}{h:Nat->Blk}{n:Nat}{w w':World}
theorem HR.lt(hr:HR base m F h n w){b:Nat}(hb:m b≠zm):b<n:=by
 rcases Nat.lt_or_ge b n with h'|h'
 ·exact h'
 ·exact absurd (hr.new b h') hb
theorem HR.ext(hr:HR base m F h n w)(hl:Later F w F' w'):Ext base m F n w m F' n w' where
 f:=hl.f
 back B hB:=hl.back B hB
 keep B hB:=hl.keep B (hB.elim (λh=>Nat.lt_of_lt_of_le h hr.low) (hr.fdom B))
 size:=hl.size
 sz:=Yk.Kt hl.keep
 ow:=Own.Kt hl.keep
 le:=zI _
 map _ _ _ h:=h
 calm:=hl.calm
theorem HR.ZeW(hr:HR base m F h n w){b B:Nat}(hb:m b=zi B):B<w.heap.size:=by
 exact hr.dom b B hb
theorem Ka{m':Nat->Option Nat}{n':Nat}{blk:Blk}{B:Option Nat}(he:Ext base m F n w m' F' n' w')(hk:∀b,B=zi b->w'.heap[b]? =w.heap[b]?)(hb:RB F w n m blk B):RB F' w' n' m' blk B:=by
 cases blk with
 |none=>exact hb
 |any=>exact hb
 |var cs=>
  obtain⟨b,xs,el,ys,zs,e,hc,hsp,hr⟩:=hb
  exact⟨b,xs,el,ys,zs,e,by rw[hk b e];exact hc,hsp,he.row hr⟩
 |arr es k get=>
  rcases hb with h0|⟨b,c,el,e,hc,hs,hr⟩
  ·exact .inl h0
  refine .inr ⟨b,c,el,e,by rw[hk b e];exact hc,hs,λj hj=>?_⟩
  obtain⟨xs,h1,h2,h3⟩:=hr j hj
  exact⟨xs,(Xj he.sz he.f (λB hB=>he.keep B (.inr hB)) (get j) 0 0 _ _ (zI _) (λ_ _ _ h=>h)).2 _ h1,h2,h3⟩
 |iter mb since seen last=>
  obtain⟨r,x,e,hc,h1⟩:=hb
  refine⟨r,x,e,by rw[hk r e];exact hc,?_⟩
  cases mb with
  |none=>exact h1
  |some b=>obtain⟨y,h2,h3,h4⟩:=h1;exact⟨y,Nat.lt_of_lt_of_le h2 he.le,h3,he.map b h2 y h4⟩
 |Zk kd st f ks=>
  obtain⟨b,es,clock,e,hc,hE,hf⟩:=hb
  exact⟨b,es,clock,e,by rw[hk b e];exact hc,hE,λk hk'=>⟨(hf k hk').1,λv hv=>he.val ((hf k hk').2 v hv)⟩⟩
 |rng f ps asg bd row N st pend=>
  obtain⟨l,r,e,hc,h1,h2,h3,h4,h5,h6,h7⟩:=hb
  exact⟨l,r,e,by rw[hk l e];exact hc,h1,h2,h3,h4,h5,h6,λi=>he.val (h7 i)⟩
theorem HR.later(hr:HR base m F h n w)(hl:Later F w F' w'):HR base m F' h n w' where
 low:=Nat.le_trans hr.low hl.size
 fdom:=hl.dom hr.fdom
 blk b hb:=Ka (hr.ext hl) (λB hB=>hl.keep B (hr.ZeW hB)) (hr.blk b hb)
 dom b B hB:=Nat.lt_of_lt_of_le (hr.dom b B hB) hl.size
 new:=hr.new
 gl:=hr.gl.mono (Yk.Kt hl.keep) hl.f λB hB=>hl.keep B (hr.fdom B hB)
 own b B hB:=⟨(hr.own b B hB).1,λhF=>(hl.back B hF).elim (hr.own b B hB).2 (λh=>absurd (hr.ZeW hB) (Nat.not_lt.2 h))⟩
 inj:=hr.inj
end
def Has(P : Program)(g : FuncId) : Prop:=∃fn c,P.funcs[g]? =zi fn/\fn.body=zi c/\(fn.name== "runtime.NumGoroutine")=za
def Zh(P:Program)(g:FuncId)(args v:V):Prop:=
 Has P g/\∀(F:Nat->Prop)(w:World)(xs:Array Value),(∀B,F B->B<w.heap.size)->GOk F w->RL F w args 0 (λ_=>zm) xs.toList->
  Calls P g xs w λe w'=>∃x F',e=.returned x/\Later F w F' w'/\R F' w' v 0 (λ_=>zm) x
def Zem(P:Program)(body:Code)(g:(B:Base)->St B->Tree (Ex×St B)):Prop:=
 ∀(B:Base)(s:St B)(Q:Ex×St B->Prop),(g B s).holds P Q->V3 P body s Q
theorem ZlE:∀(c b:Code),b∈YQ c->b∈Qc c:=by
 intro c
 induction c<;>grind[YQ,Qc]
def Xo(P:Program)(g:FuncId)(K:HK):Prop:=
 ∀(args:V)(bl:List Blk)(T:Tree (V×List Blk)),K args bl=zi T->∀(base:Nat)(m:Nat->Option Nat)(F:Nat->Prop)(w:World)(xs:Array Value)(Q:V×List Blk->Prop)(KK:Ending->World->Prop),
  HR base m F (λb=>bl.getD b .none) bl.length w->RL F w args bl.length m xs.toList->T.holds P Q->
  (∀v bl',Q (v,bl')->∀m' F' w' x,Ext base m F bl.length w m' F' bl'.length w'->HR base m' F' (λb=>bl'.getD b .none) bl'.length w'->R F' w' v bl'.length m' x->KK (.returned x) w')->
  Has P g/\Calls P g xs w KK
structure Env.Ok(E:Env):Prop where
 mixed:E.P.follows .mixedOrders=ze
 named : ∀(g : FuncId) fn,E.P.funcs[g]? =zi fn->(fn.name== "runtime.NumGoroutine")=za
 sure:∀g args v,E.Γ g args=zi (.sure v)->Zh E.P g args v
 where_:∀g args p v,E.Γ g args=zi (.where_ p v)->p->Zh E.P g args v
 fork:∀g args b v v',E.Γ g args=zi (.fork b v v')->(b=ze->Zh E.P g args v)/\(b=za->Zh E.P g args v')
 lp:∀f body g,Wq E.P f body->Qo E f body=zi g->Zem E.P body g
 hk:∀g K,E.hk g=zi K->Xo E.P g K
theorem ZgP{P:Program}{g:FuncId}(h:Has P g)(args:Array Value)(w:World):(callFunc g args).run P w=.ok (.enter g args) w:=by
 obtain⟨fn,c,hf,hb,hn⟩:=h
 simp only[callFunc,zM,run_program,zP,hf,hn,Bool.false_eq_true,if_false,hb,Option.isNone_some,zV]
section
variable{base:Nat}{m:Nat->Option Nat}{F:Nat->Prop}{h:Nat->Blk}{n:Nat}{w:World}{ρ:Operand->V}{a:Act}
theorem Zao(hρ:∀x,R F w (ρ x) n m (a.eval x)):∀(l:List Operand),RL F w (.ofList (l.map ρ)) n m (l.map a.eval):=by
 intro l
 induction l<;>grind[V.ofList,RL]
theorem ZjI(hρ:∀x,R F w (ρ x) n m (a.eval x)):∀(l:List (Nat×Operand)),Parts F w n m (l.map λp=>(p.1,ρ p.2)) (l.map λp=>(p.1,a.eval p.2)):=by
 intro l
 induction l with
 |nil=>exact .nil
 |cons x l ih=>exact .cons (hρ x.2) ih
variable{g:FuncId}
theorem ZhV{P:Program}{f:V}{x:Value}{args:V}{xs:Array Value}{out:V}(hc:callee f args=zi (g,out))(hf:R F w f n m x)
  (ha:RL F w args n m xs.toList):∃ys:Array Value,RL F w out n m ys.toList/\
   ∀w,((Deferred.ofValue x xs).run P w)=.ok { target:=.fn (.func g) (match x with| .func _ _ c=>c|_=>#[]),args:=(match x with| .func _ f _=>f|_=>#[])++xs } w/\
    ys=(match x with| .func _ f _=>f|_=>#[])++xs++(match x with| .func _ _ c=>c|_=>#[]):=by
 unfold callee at hc
 cases f<;>try(cases hc;done)
 rename_i f first cap
 cases f<;>try(cases hc;done)
 simp only[Option.some.injEq,Prod.mk.injEq]at hc
 obtain⟨rfl,rfl⟩:=hc
 simp only[R]at hf
 obtain⟨fs,cs,rfl,h1,h2⟩:=hf
 refine⟨fs++xs++cs,?_,λw=>⟨rfl,rfl⟩⟩<;>grind[refine,Array.toList_append,List.append_assoc,Zch]
variable{o:Oper}
theorem ZkL{P:Program}{c:Call}{f:Operand}{out:V}(ho:o.op=.call c)(hcal:c.callee=.value f)
  (hρ:∀x,R F w (ρ x) n m (a.eval x))(hc:callee (ρ f) (.ofList (c.args.toList.map ρ))=zi (g,out))(hg:Has P g) :
  ∃ys:Array Value,RL F w out n m ys.toList/\(execOp a.eval o).run P w=.ok (.enter g ys) w:=by
 have ha:RL F w (.ofList (c.args.toList.map ρ)) n m (c.args.map a.eval).toList:=by
  simp_all[Zao]
 obtain⟨ys,h1,h2⟩:=ZhV (P:=P) hc (hρ f) ha
 refine⟨ys,h1,?_⟩
 obtain⟨hrun,hys⟩:=h2 w
 simp only[execOp,ho,resolve,hcal,zM,hrun,zP,invoke,ZgP hg,hys]
variable{E:Env}{T:Tree V}{Q:V->Prop}{K:Act->World->Prop}{Qx:Exit->Act->World->Prop}
theorem WI{sem:Sem Value}
  (hx:execOp a.eval o=(do pure (.value (<- sem)):Sem Next))(hv:Val E.P F w n m T sem)(hq:T.holds E.P Q)
  (hK:∀v x w' F',Q v->Later F w F' w'->R F' w' v n m x->K (a.put o.dst x) w'):o.wp E.P a w K Qx:=by
 obtain⟨v,x,h1,h2,h3⟩:=hv Q hq
 grind[Oper.wp,zM,zP,zV,Oper.upon,Later.refl]
theorem RL_rep{zero:V}{z:List Value}(hz:RL F w zero n m z):∀k,RL F w (rep k zero) n m (List.replicate k z).flatten:=by
 intro k
 induction k<;>simp_all[rep,List.replicate_zero,List.flatten_nil,RL,List.replicate_succ,List.flatten_cons,Zch]
theorem Zq9(z:List Value)(k i:Nat)(_hz:0<z.length)(hi:i<k*z.length):(List.replicate k z).flatten[i]? =z[i%z.length]?:=by
 induction k generalizing i with
 |zero=>simp at hi
 |succ k ih=>
  rw[List.replicate_succ,List.flatten_cons]
  by_cases h1:i<z.length
  ·grind[List.getElem?_append_left,Nat.mod_eq_of_lt]
  ·have e:i%z.length=(i-z.length)%z.length:=Nat.mod_eq_sub_mod (by omega)
   grind
theorem Zq6(z:Array Value)(k:Nat):((Array.range (k*z.size)).map λi=>z[i%z.size]!)=(List.replicate k z.toList).flatten.toArray:=by
 apply Array.ext'
 apply List.ext_getElem?
 intro i
 by_cases hi:i<k*z.size
 ·have hz:0<z.size:=by
   grind
  have hm:i%z.size<z.size:=Nat.mod_lt _ hz
  grind[Zq9]
 simp_all
theorem run_buildSlice{t:TypeId}{len:Nat}{parts:Array (Nat×Operand)}{z:Nat}{cs:V}
  (ho:o.op=.buildSlice t len parts)(hρ:∀x,R F w (ρ x) n m (a.eval x))(hq:Gj E.P t len (parts.toList.map λp=>(p.1,ρ p.2))=zi (z,cs)) :
  ∃(outc:Array Value)(e:TypeId),(execOp a.eval o).run E.P w=.ok (.value (.slice (zi ⟨w.heap.size,0,zm⟩) len len)) (w.alloc (.cells outc e))/\RL F w cs n m outc.toList/\outc.size=len*z:=by
 unfold Gj at hq
 cases hu:E.P.underlying t with
 |none=>grind
 |some d=>
  rw[hu]at hq
  cases d<;>try(cases hq;done)
  rename_i e
  dsimp only at hq
  cases hz:ZW E.P e with
  |none=>grind
  |some z'=>
   rw[hz]at hq
   cases hzero:X5 E.P e with
   |none=>grind
   |some zero=>
    rw[hzero]at hq
    dsimp only at hq
    obtain⟨zv,hzv,hzr⟩:=K4 (F:=F) (w:=w) (n:=n) (m:=m) hzero
    rw[XM _ _ hzr]at hq
    cases h1:zq zv.cells.toList.length z'
    ·grind
    ·cases h2:zK (len*z') 16777216
     ·grind
     ·rw[h1,h2]at hq
      simp only[Bool.and_self,cond_true]at hq
      have h1':zv.cells.size=z':=by simpa using zO h1
      have h2':=yA h2
      have hparts:Parts F w n m (parts.toList.map λp=>(p.1,ρ p.2)) (parts.map λp=>(p.1,a.eval p.2)).toList:=by
       simp_all[ZjI]
      cases hf:KN E.P (λi=>zi (i*z',z')) (rep len zero) (parts.toList.map λp=>(p.1,ρ p.2))with
      |none=>grind
      |some cs'=>
       rw[hf]at hq
       dsimp only at hq
       injection hq with hq
       injection hq with e1 e2
       subst e1
       subst e2
       obtain⟨outc,g1,g2,g3⟩:=Zim _ _ hparts _ _ (List.replicate len zv.cells.toList).flatten.toArray hf (by simpa using RL_rep hzr len)
       have hsize:outc.size=len*z':=by
        simp_all
       have hzeros:∀zz:Array Value,(len*z'≠0->zz=zv.cells)->
         ((Array.range (len*z')).map λi=>zz[i%zz.size]!)=(List.replicate len zv.cells.toList).flatten.toArray:=by
        intro zz hzz
        by_cases h0:len*z'=0
        ·rw[h0]
         have:(List.replicate len zv.cells.toList).flatten=[]:=by
          apply List.eq_nil_of_length_eq_zero
          simp[List.length_flatten,h1',h0]
         rw[this];simp
        ·rw[hzz h0,<- h1',Zq6]
       refine⟨outc,e,?_,g2,hsize⟩
       simp only[execOp,ho,Instr.buildSlice,zM,run_underlying hu,zP,XU hz]
       rw[if_neg (show ¬len*z'>2^24 by omega)]
       by_cases h0:len*z'=0
       ·simp only[h0,if_true,pure_bind]
        have:=hzeros #[] (λh=>absurd h0 h)
        rw[h0]at this
        rw[this,g1]
        rfl
       ·simp only[h0,if_false,zM,hzv,zP,pure_bind]
        rw[hzeros zv.cells (λ_=>rfl),g1]
        rfl
theorem wp_bytes{src dst:TypeId}{x:Operand}
  (ho:o.op=.convert src dst x)(hρ:∀x,R F w (ρ x) n m (a.eval x))(hT:Zfv E.P src dst (ρ x)=zi T)(hq:T.holds E.P Q)
  (hK:∀v x w' F',Q v->Later F w F' w'->R F' w' v n m x->K (a.put o.dst x) w'):o.wp E.P a w K Qx:=by
 unfold Zfv at hT
 split at hT
 ·rename_i st s hx
  split at hT
  ·rename_i hs
   split at hT
   ·rename_i e hd
    split at hT
    ·rename_i he
     injection hT with hT
     subst hT
     have hv:=hρ x
     rw[hx,QH]at hv
     have hrun:=Lib.run_convert_string_bytes (P:=E.P) w src dst e ⟨s.toArray⟩ hs hd he
     have hrun2:(execOp a.eval o).run E.P w=.ok (.value (.slice (zi ⟨w.heap.size,0,zm⟩) s.length (grownCap w s.length 0 e))) (Lib.bytesWorld w e ⟨s.toArray⟩):=by
      simp only[execOp,ho,zM,hv,hrun,zP,zV]
      rfl
     unfold Oper.wp
     rw[hrun2]
     simp only[Oper.upon]
     have hcalm:Calm w (Lib.bytesWorld w e ⟨s.toArray⟩):=⟨rfl,rfl,rfl⟩
     have hsz:(Lib.bytesWorld w e ⟨s.toArray⟩).heap.size=w.heap.size+1:=Lib.bytesWorld_size w e _
     refine hK _ _ _ (λB=>F B\/B=w.heap.size) hq ⟨λ_ h=>.inl h,λB h=>h.elim .inl λh=>.inr (by omega),λB hB=>Lib.bytesWorld_at_old w e _ B hB,by omega,λhd B hB=>?_,hcalm⟩ ?_
     ·grind
     ·rw[Wi]
      refine⟨_,_,rfl,grownCap_ge w s.length 0 e,.inr ⟨w.heap.size,0,rfl,.inr rfl,_,_,_,Lib.bytesWorld_at_new w e _,λj hj=>⟨[.int .u8 (Int.ofNat (s.getD j 0).toNat)],?_,rfl,λq hq=>?_⟩⟩⟩
      ·grind[RL,R]
      ·obtain rfl:q=0:=by omega
       simp[Lib.bytesCells,Array.getElem?_append,hj,List.getD]
    ·cases hT
   ·cases hT
  ·cases hT
 ·cases hT
end
end Go.Fw
namespace Go.Fw
section
variable{base:Nat}{m:Nat->Option Nat}{F:Nat->Prop}{h:Nat->Blk}{n:Nat}{w:World}{ρ:Operand->V}{a:Act}
theorem optV{lo:Option Operand}(hρ:∀x,R F w (ρ x) n m (a.eval x)) :
  (∀b,lo.map ρ=zi b->∃x,lo.map a.eval=zi x/\R F w b n m x)/\(lo.map ρ=zm->lo.map a.eval=zm):=by
 cases lo<;>grind
variable{o:Oper}{c:Call}{b:Builtin}{sem:Sem Value}
theorem Ue{P:Program}(ho:o.op=.call c)(hcal:c.callee=.builtin b)
  (hb:∀consts ty,builtin b c.argTypes ty consts (c.args.map a.eval)=(do pure (.value (<- sem))))(w:World) :
  (execOp a.eval o).run P w=((sem.run P w).andThen λx w=>.ok (.value x) w):=by
 simp only[execOp,ho,resolve,hcal,pure_bind,invoke,hb,zM,zV]
variable{E:Env}{T:Tree V}{Q:V->Prop}{K:Act->World->Prop}{Qx:Exit->Act->World->Prop}
theorem Zhf
  (hx:(execOp a.eval o).run E.P w=((sem.run E.P w).andThen λx w=>.ok (.value x) w))(hv:Val E.P F w n m T sem)(hq:T.holds E.P Q)
  (hK:∀v x w' F',Q v->Later F w F' w'->R F' w' v n m x->K (a.put o.dst x) w'):o.wp E.P a w K Qx:=by
 obtain⟨v,x,h1,h2,h3⟩:=hv Q hq
 grind[Oper.wp,zP,Oper.upon,Later.refl]
theorem Zsf
  (ho:o.op=.call c)(hcal:c.callee=.builtin b)(hρ:∀x,R F w (ρ x) n m (a.eval x))(hT:Gl E.P b c.argTypes.toList (.ofList (c.args.toList.map ρ))=zi T)(hq:T.holds E.P Q)
  (hK:∀v x w' F',Q v->Later F w F' w'->R F' w' v n m x->K (a.put o.dst x) w'):o.wp E.P a w K Qx:=by
 have hargs:=Zao (a:=a) hρ c.args.toList
 cases b<;>try(cases hT;done)
 ·simp only[Gl,Option.some.injEq]at hT
  subst hT
  cases hts:c.argTypes.toList with
  |nil=>rw[hts]at hq;exact hq.elim
  |cons t ts=>
   rw[hts]at hq
   cases hal:c.args.toList with
   |nil=>rw[hal]at hq;exact hq.elim
   |cons x xs=>
    rw[hal]at hq
    simp only[List.map_cons,V.ofList]at hq
    have h0:c.argTypes[0]? =zi t:=by rw[<- Array.getElem?_toList,hts];rfl
    have h1:(c.args.map a.eval)[0]? =zi (a.eval x):=by rw[<- Array.getElem?_toList,Array.toList_map,hal];rfl
    exact Zhf (Ue (sem:=Builtin.cap_ c.argTypes o.type (c.args.map a.eval)) ho hcal (λconsts ty=>by
      simp only[builtin,Builtin.cap_]) w) (evCap_val h0 h1 (hρ x)) hq hK
 ·simp only[Gl,Option.some.injEq]at hT
  subst hT
  cases hts:c.argTypes.toList with
  |nil=>rw[hts]at hq;exact hq.elim
  |cons t ts=>
   rw[hts]at hq
   cases hal:c.args.toList with
   |nil=>rw[hal]at hq;exact hq.elim
   |cons x xs=>
    rw[hal]at hq
    simp only[List.map_cons,V.ofList]at hq
    have h0:c.argTypes[0]? =zi t:=by rw[<- Array.getElem?_toList,hts];rfl
    have h1:(c.args.map a.eval)[0]? =zi (a.eval x):=by rw[<- Array.getElem?_toList,Array.toList_map,hal];rfl
    exact Zhf (Ue (sem:=Builtin.len_ c.argTypes o.type (c.args.map a.eval)) ho hcal (λconsts ty=>by
      simp only[builtin,Builtin.len_]) w) (evLen_val h0 h1 (hρ x)) hq hK
 ·simp only[Gl,Option.some.injEq]at hT
  subst hT
  cases hal:c.args.toList with
  |nil=>rw[hal]at hq;exact hq.elim
  |cons x xs=>
   rw[hal]at hq hargs
   simp only[List.map_cons,V.ofList,RL]at hq hargs
   obtain⟨y,r,e,hy,hr⟩:=hargs
   injection e with e1 e2
   subst e1;subst e2
   refine Zhf (Ue (sem:=Builtin.max_ c.argTypes o.type (c.args.map a.eval)) ho hcal (λconsts ty=>rfl) w) ?_ hq hK
   have:=ZkH (P:=E.P) (less:=za) _ _ hr _ _ hy
   intro Q' hq'
   obtain⟨v,z,k1,k2,k3⟩:=this Q' hq'
   refine⟨v,z,k1,?_,k3⟩
   simp only[Builtin.max_,Array.toList_map,hal,List.map_cons]
   exact k2
 ·simp only[Gl,Option.some.injEq]at hT
  subst hT
  cases hal:c.args.toList with
  |nil=>rw[hal]at hq;exact hq.elim
  |cons x xs=>
   rw[hal]at hq hargs
   simp only[List.map_cons,V.ofList,RL]at hq hargs
   obtain⟨y,r,e,hy,hr⟩:=hargs
   injection e with e1 e2
   subst e1;subst e2
   refine Zhf (Ue (sem:=Builtin.min_ c.argTypes o.type (c.args.map a.eval)) ho hcal (λconsts ty=>rfl) w) ?_ hq hK
   have:=ZkH (P:=E.P) (less:=ze) _ _ hr _ _ hy
   intro Q' hq'
   obtain⟨v,z,k1,k2,k3⟩:=this Q' hq'
   refine⟨v,z,k1,?_,k3⟩
   simp only[Builtin.min_,Array.toList_map,hal,List.map_cons]
   exact k2
variable{f:Operand}{g:FuncId}{v:V}
theorem Zhe{out:V}
  (ho:o.op=.call c)(hcal:c.callee=.value f)(hρ:∀x,R F w (ρ x) n m (a.eval x))(hc:callee (ρ f) (.ofList (c.args.toList.map ρ))=zi (g,out))
  (hm:Zh E.P g out v)(hcl:out.clean=ze)(hcv:v.clean=ze)(hfd:∀B,F B->B<w.heap.size)(hgl:GOk F w)(hq:Q v)
  (hK:∀v x w' F',Q v->Later F w F' w'->R F' w' v n m x->K (a.put o.dst x) w'):o.wp E.P a w K Qx:=by
 obtain⟨hhas,hm⟩:=hm
 obtain⟨ys,h1,h2⟩:=ZkL (P:=E.P) ho hcal hρ hc hhas
 unfold Oper.wp
 rw[h2]
 simp only[Oper.upon]
 refine(hm F w ys hfd hgl ((WS out hcl n 0 m _).2 _ h1)).mono λe w' he=>?_
 obtain⟨x,F',rfl,hl,hR⟩:=he
 exact hK v x w' F' hq hl ((WS v hcv 0 n _ m).1 _ hR)
variable{F F':Nat->Prop}
theorem Zho{w:World}:∀(v:V),v.clean=ze->v.Xg=ze->∀(n n':Nat)(m m':Nat->Option Nat),
  (∀x,R F w v n m x->R F' w v n' m' x)/\(∀xs,RL F w v n m xs->RL F' w v n' m' xs):=by
 intro v
 induction v<;>grind[V.clean,V.Xg,refine,R,RL]
variable{p q:Option Prop}
theorem ZjW(h:∀r,bothP p q=zi r->r):∀r,p=zi r->r:=by
 intro r hr;subst hr
 cases q with
 |none=>exact h r rfl
 |some q=>exact(h _ rfl).1
theorem ZjX(h:∀r,bothP p q=zi r->r):∀r,q=zi r->r:=by
 intro r hr;subst hr
 cases p with
 |none=>exact h r rfl
 |some p=>exact(h _ rfl).2
theorem Zeo{w:World}{n:Nat}{m:Nat->Option Nat}:∀(v:V),v.Qs.clean=ze/\v.Qs.len=v.len/\(∀x,R F w v n m x->R F w v.Qs n m x)/\(∀xs,RL F w v n m xs->RL F w v.Qs n m xs):=by
 intro v
 induction v<;>grind[refine,V.Qs,V.clean,Bool.and_self,V.len,R,RL]
theorem ZgT(hF:∀B,F B->F' B){xs:List Value}(h:RL F w v n m xs):RL F' w v.Qs 0 (λ_=>zm) xs:=
 (Xj (Yk.refl w) hF (λ_ _=>rfl) _ 0 0 _ _ (zI _) (λ_ _ _ h=>h)).2 _ ((WS _ (Zeo (F:=F) (w:=w) (n:=n) (m:=m) v).1 n 0 m _).2 _ ((Zeo v).2.2.2 _ h))
variable{x:V}{X:Value}
theorem Zk1(hr:HR base m F h n w){g:V->V}{gN:V->Option Prop}(hg:∀v,(∀p,gN v=zi p->p)->∀xs,RL F w v n m xs->RL (λB=>F B\/∃b,m b=zi B) w (g v) n m xs)(hx:R F w x n m X)(hn:∀p,Vt h gN x=zi p->p) :
  R (λB=>F B\/∃b,m b=zi B) w (ZfN h g x) n m X:=by
 have base':R (λB=>F B\/∃b,m b=zi B) w x n m X:=(Xj (Yk.refl w) (λB h=>.inl h) (λ_ _=>rfl) x n n m m (zI _) (λ_ _ _ h=>h)).1 X hx
 unfold ZfN
 split
 ·rename_i st b es i o
  split
  ·rename_i cs hb
   cases st
   ·grind
   simp only[cond_true]
   have hgn:∀p,gN cs=zi p->p:=λp hp=>hn p (by simp only[Vt,hb,cond_true];exact hp)
   rw[Wm]at hx
   obtain⟨hbn,B,rfl,hB⟩:=hx
   have hblk:=hr.blk b hbn
   rw[hb]at hblk
   obtain⟨B',xs,el',ys,zs,hm,hcell,hsp,hrl⟩:=hblk
   obtain rfl:B=B':=by
    grind
   rw[JE]
   refine⟨by omega,B,0,by simp,.inr ⟨b,hB⟩,xs,el',(0,0),hcell,λj hj=>?_⟩
   obtain rfl:j=0:=by omega
   refine⟨ys,ZgT (λ_ h=>h) (hg _ hgn _ hrl),(XM _ _ hrl).symm,λq hq=>?_⟩<;>grind[refine,ZgT,XM,Kv]
  ·rename_i es' K get hb
   cases he:zq es es'
   ·grind
   have hlt':i<K:=by
    cases hs:(st&&zG i K)
    ·exact hn _ (by simp only[Vt,hb,he,hs];rfl)
    ·simp only[zL]at hs
     simpa[Nat.blt_eq]using hs.2
   obtain rfl:=zO he
   simp only[cond_true]
   rw[Wm]at hx
   obtain⟨hbn,B,rfl,hB⟩:=hx
   have hblk:=hr.blk b hbn
   rw[hb]at hblk
   rcases hblk with⟨h0,_⟩|⟨B',c',el',hm,hcell,hz',hall⟩
   ·omega
   obtain rfl:B=B':=by
    grind
   rw[JE]
   refine⟨hlt',B,0,by simp,.inr ⟨b,hB⟩,c',el',(0,0),hcell,λj hj=>?_⟩
   obtain⟨xs,g1,g2,g3⟩:=hall j hj
   refine⟨xs,?_,g2,λq hq=>?_⟩
   ·exact(Xj (Yk.refl w) (λB h=>.inl h) (λ_ _=>rfl) _ 0 0 _ _ (zI _) (λ_ _ _ h=>h)).2 _ g1
   grind
  omega
 ·rename_i st b es i k
  split
  ·rename_i cs hb
   cases hc:(st&&zK ((i+k)*es) cs.len)
   ·grind
   have hgn:∀p,gN cs=zi p->p:=λp hp=>hn p (by simp only[Vt,hb,hc,cond_true];exact hp)
   simp only[zL]at hc
   have hle':=yA hc.2
   simp only[cond_true]
   rw[Yp]at hx
   obtain⟨hbn,a,cap,rfl,hk,hrow⟩:=hx
   have hblk:=hr.blk b hbn
   rw[hb]at hblk
   obtain⟨B',xs,el',ys,zs,hm,hcell,hsp,hrl⟩:=hblk
   rw[Wi]
   refine⟨a,cap,rfl,hk,?_⟩
   rcases hrow with h0|⟨B,c,el,fr,rfl,hB,hcc,hz⟩
   ·omega
   right
   obtain rfl:B=B':=by
    grind
   refine⟨B,i*es,rfl,.inr ⟨b,hB⟩,xs,el',(0,0),hcell,λj hj=>?_⟩
   have hlen:=XM _ _ hrl
   rw[hlen]at hle'
   have hpl:=Zbx hsp
   have hjk:(i+j+1)*es<=(i+k)*es:=yx es (by omega)
   rw[Nat.add_mul,Nat.one_mul]at hjk
   refine⟨(ys.drop ((i+j)*es)).take es,K9 _ _ (VY _ _ (ZgT (λ_ h=>h) (hg _ hgn _ hrl)) _) _,?_,λq hq=>?_⟩<;>grind[refine,K9,VY,ZgT,Kv]
  ·rename_i es' K get hb
   cases he:zq es es'
   ·grind
   have hik:i+k<=K:=by
    cases hs:(st&&zK (i+k) K)
    ·exact hn _ (by simp only[Vt,hb,he,hs];rfl)
    ·simp only[zL]at hs
     exact yA hs.2
   obtain rfl:=zO he
   simp only[cond_true]
   rw[Yp]at hx
   obtain⟨hbn,a,cap,rfl,hk,hrow⟩:=hx
   rw[Wi]
   refine⟨a,cap,rfl,hk,?_⟩
   rcases hrow with h0|⟨B,c,el,fr,rfl,hB,hcc,hz⟩
   ·omega
   have hblk:=hr.blk b hbn
   rw[hb]at hblk
   rcases hblk with⟨h0,_⟩|⟨B',c',el',hm,hcell,hz',hall⟩
   ·omega
   right
   obtain rfl:B=B':=by
    grind
   refine⟨B,i*es,rfl,.inr ⟨b,hB⟩,c',el',(0,0),hcell,λj hj=>?_⟩
   obtain⟨xs,g1,g2,g3⟩:=hall (i+j) (by omega)
   refine⟨xs,?_,g2,λq hq=>?_⟩
   ·exact(Xj (Yk.refl w) (λB h=>.inl h) (λ_ _=>rfl) _ 0 0 _ _ (zI _) (λ_ _ _ h=>h)).2 _ g1
   grind
  omega
 ·rename_i b
  split
  ·rename_i kd st f ks hb
   simp only[R]at hx
   obtain⟨hbn,B,rfl,hB⟩:=hx
   have hblk:=hr.blk b hbn
   rw[hb]at hblk
   obtain⟨B',es,clock,e,hcell,hE,hf⟩:=hblk
   obtain rfl:B=B':=by
    grind
   simp only[R]
   refine⟨B,rfl,.inr ⟨b,hB⟩,es,clock,hcell,hE.ent,λk hk=>⟨(hf k hk).1,λv hv=>?_⟩⟩
   exact(Xj (Yk.refl w) (λB h=>.inl h) (λ_ _=>rfl) _ 0 0 _ _ (zI _) (λ_ _ _ h=>h)).1 _ ((WS _ (Zeo (F:=F) (w:=w) (n:=n) (m:=m) (f k).2).1 n 0 m _).1 _ ((Zeo (f k).2).2.2.1 _ ((hf k hk).2 v hv)))
  omega
 omega
theorem fz_R(hr:HR base m F h n w):∀(k:Nat)(v:V),(∀p,Gy h k v=zi p->p)->(∀x,R F w v n m x->R (λB=>F B\/∃b,m b=zi B) w (fz h k v) n m x)/\(∀xs,RL F w v n m xs->RL (λB=>F B\/∃b,m b=zi B) w (fz h k v) n m xs):=by
 intro k
 induction k with
 |zero=>exact λv _=>Xj (Yk.refl w) (λB h=>.inl h) (λ_ _=>rfl) v n n m m (zI _) (λ_ _ _ h=>h)
 |succ k ihk=>
  have leaf:∀v,(∀p,Vt h (Gy h k) v.Wl=zi p->p)->∀x,R F w v n m x->R (λB=>F B\/∃b,m b=zi B) w (ZfM h (fz h k) v) n m x:=λv hn x hx=>Zk1 hr (λv hv=>(ihk v hv).2) (Va hx) hn
  show ∀v:V,(∀p,(v.Uk λx=>Vt h (Gy h k) x.Wl)=zi p->p)->(∀x,R F w v n m x->R (λB=>F B\/∃b,m b=zi B) w (v.leaves (ZfM h (fz h k))) n m x)/\(∀xs,RL F w v n m xs->RL (λB=>F B\/∃b,m b=zi B) w (v.leaves (ZfM h (fz h k))) n m xs)
  intro v
  induction v with
  |cons a t ih1 ih2=>
   intro hn
   refine⟨λx hx=>by simp only[R]at hx,λxs hx=>?_⟩
   simp only[RL]at hx
   obtain⟨x,r,rfl,h1,h2⟩:=hx
   simp only[V.leaves,RL]
   exact⟨x,r,rfl,(ih1 (ZjW hn)).1 _ h1,(ih2 (ZjX hn)).2 _ h2⟩
  |agg cs ih=>
   intro hn
   refine⟨λx hx=>?_,λxs hx=>by simp only[RL]at hx⟩
   simp only[R]at hx
   obtain⟨xs,rfl,h1⟩:=hx
   simp only[V.leaves,R]
   exact⟨xs,rfl,(ih hn).2 _ h1⟩
  |tup cs ih=>
   intro hn
   refine⟨λx hx=>?_,λxs hx=>by simp only[RL]at hx⟩
   simp only[R]at hx
   obtain⟨xs,rfl,h1⟩:=hx
   simp only[V.leaves,R]
   exact⟨xs,rfl,(ih hn).2 _ h1⟩
  |fn f a b ih1 ih2=>
   intro hn
   refine⟨λx hx=>?_,λxs hx=>by simp only[RL]at hx⟩
   simp only[R]at hx
   obtain⟨xs,ys,rfl,h1,h2⟩:=hx
   simp only[V.leaves,R]
   exact⟨xs,ys,rfl,(ih1 (ZjW hn)).2 _ h1,(ih2 (ZjX hn)).2 _ h2⟩
  |nil=>exact λ_=>⟨λx hx=>by simp only[R]at hx,λxs hx=>hx⟩
  |_=>exact λhn=>⟨leaf _ hn,λxs hx=>by simp only[RL]at hx⟩
theorem scrub_eq:∀{v:V},v.clean=ze->v.Qs=v:=by
 intro v
 induction v<;>grind[V.Qs,V.clean]
theorem Zhc{α:Type}{P:Program}{T:Tree α}{Q:α->Prop}(h:(Zal p T).holds P Q):(∀r,p=zi r->r)/\T.holds P Q:=by
 cases p with
 |none=>exact⟨λr h=>(by cases h),h⟩
 |some p=>exact⟨λr h'=>by injection h' with h';subst h';exact h.1,h.2⟩
theorem ZmN{out:V}
  (ho:o.op=.call c)(hcal:c.callee=.value f)(hρ:∀x,R F w (ρ x) n m (a.eval x))(hc:callee (ρ f) (.ofList (c.args.toList.map ρ))=zi (g,out))
  (hm:Zh E.P g (fz h 6 out) v)(hfn:∀p,Gy h 6 out=zi p->p)(hcl:(fz h 6 out).clean=ze)(hcv:v.clean=ze)(hrl:v.Xg=ze)(hr:HR base m F h n w)(hq:Q v)
  (hK:∀v x w' F',Q v->Later F w F' w'->R F' w' v n m x->K (a.put o.dst x) w'):o.wp E.P a w K Qx:=by
 obtain⟨hhas,hm⟩:=hm
 obtain⟨ys,h1,h2⟩:=ZkL (P:=E.P) ho hcal hρ hc hhas
 unfold Oper.wp
 rw[h2]
 simp only[Oper.upon]
 have hfd:∀B,(F B\/∃b,m b=zi B)->B<w.heap.size:=λB hB=>hB.elim (hr.fdom B) λ⟨b,hb⟩=>hr.dom b B hb
 refine(hm (λB=>F B\/∃b,m b=zi B) w ys hfd (hr.gl.mono (Yk.refl w) (λB h=>.inl h) (λ_ _=>rfl)) ((WS _ hcl n 0 m _).2 _ ((fz_R hr 6 _ hfn).2 _ h1))).mono λe w' he=>?_
 obtain⟨x,F',rfl,hl,hR⟩:=he
 exact hK v x w' F hq ⟨λ_ h=>h,λ_ h=>.inl h,hl.keep,hl.size,λh B hB=>Nat.lt_of_lt_of_le (h B hB) hl.size,hl.calm⟩ ((Zho v hcv hrl 0 n _ m).1 _ hR)
theorem Zgr{a b:MK}(h:Kq a b=ze):a=b:=by
 cases a<;>cases b<;>first|(cases h;done)|rfl|(simp only[Kq,decide_eq_true_eq]at h;rw[h])
theorem ZlS{P:Program}{kt:TypeId}{kd:MK}(h:mkOf P kt=zi kd):∃d,P.underlying kt=zi d/\kd.of d=ze:=by
 grind[mkOf,MK.of]
theorem Zlq{kd:MK}{sk:Bool}{key:Value}(h:keyOf kd x=zi (sk,key))(hx:R F w x n m X):X=key/\kd.is key=ze:=by
 cases x<;>try(cases h;done)
 ·rename_i st k q
  cases kd<;>try(cases h;done)
  grind[keyOf,R,MK.is]
 ·rename_i st q
  cases kd<;>try(cases h;done)
  injection h with h
  injection h with h1 h2
  subst h2
  simp only[R]at hx
  exact⟨hx,rfl⟩
variable{t:TypeId}
theorem zeroV_run{P:Program}{z:V}(h:zeroV P t=zi z):∃zv,(zeroValue t).run P w=.ok zv w/\R F w z n m zv:=by
 unfold zeroV at h
 cases hi:P.info? t with
 |none=>grind
 |some i=>
  rw[hi]at h
  dsimp only at h
  cases hz:i.zero with
  |none=>grind
  |some zv=>
   rw[hz]at h
   injection h with h
   subst h
   exact⟨zv,by simp only[zeroValue,typeInfo,zM,run_program,zP,hi,hz,zV],R_const zv⟩
variable{has:Bool}
theorem ZkY{st:Bool}{z:V}{o:Option Value}{zv:Value}(h1:has=o.isSome)(h2:∀x,o=zi x->R F w v n m x)(hz:R F w z n m zv):R F w (foundV st has v z) n m (o.getD zv):=by
 subst h1
 have key:R F w (bif o.isSome then v else z) n m (o.getD zv):=by
  cases o<;>grind
 cases st with
 |false=>exact VF key
 |true=>cases o with
  |none=>exact hz
  |some x=>exact h2 x rfl
theorem Zjq{ok st:Bool}{x:Value}(h:R F w v n m x):R F w (ZdY ok st has v) n m (if ok then .tuple #[x,.bool has]else x):=by
 cases ok<;>grind[ZdY,R,RL,KX,WJ]
theorem Zpo{P:Program}(hr:HR base m F h n w){ix:V}{IX:Value}{ok:Bool}(hx:R F w x n m X)(hi:R F w ix n m IX):Val P F w n m (ZaZ P h t x ix ok) (Instr.lookup t X IX ok):=by
 unfold ZaZ
 split
 case h_2=>exact zH
 rename_i kt et hu
 split
 case h_2=>exact zH
 rename_i kd z hkd hz
 split
 case h_2=>exact zH
 rename_i sk key hk
 obtain⟨d,hd,hof⟩:=ZlS hkd
 obtain⟨zv,hzr,hzR⟩:=zeroV_run (F:=F) (w:=w) (n:=n) (m:=m) hz
 obtain⟨rfl,his⟩:=Zlq hk hi
 split
 ·grind[R,zU,Zrh,Zjq]
 ·rename_i b
  simp only[R]at hx
  obtain⟨hbn,B,rfl,hB⟩:=hx
  have hblk:=hr.blk b hbn
  split
  case h_2=>exact zH
  rename_i kd' st f ks hb
  cases hs:Kq kd kd'
  ·exact zH
  obtain rfl:=Zgr hs
  rw[hb]at hblk
  obtain⟨B',es,clock,e,hcell,hE,hf⟩:=hblk
  obtain rfl:B=B':=by
   grind
  obtain⟨h1,h2⟩:=hf IX his
  have:=Zmr (P:=P) hu hd hof hcell hE.ent his hzr ok
  refine zU this ?_
  rw[h1]
  exact Zjq (ZkY rfl h2 hzR)
 ·rename_i st kd' has get
  cases hs:Kq kd kd'
  ·exact zH
  obtain rfl:=Zgr hs
  simp only[R]at hx
  obtain⟨B,rfl,_,es,clock,hcell,hE,hf⟩:=hx
  obtain⟨h1,h2⟩:=hf IX his
  have:=Zmr (P:=P) hu hd hof hcell hE his hzr ok
  refine zU this ?_
  rw[h1]
  exact Zjq (ZkY rfl (λv hv=>(Xj (Yk.refl w) (λB h=>h) (λ_ _=>rfl) _ 0 n (λ_=>zm) m (Nat.zero_le _) (λb hb=>absurd hb (yB _))).1 _ (h2 v hv)) hzR)
 ·exact zH
theorem evQ_wp(hE:E.Ok)
  (hr:HR base m F h n w)(hρ:∀x,R F w (ρ x) n m (a.eval x))(hT:evQ E ρ h o.op=zi T)(hq:T.holds E.P Q)
  (hK:∀v x w' F',Q v->Later F w F' w'->R F' w' v n m x->K (a.put o.dst x) w'):o.wp E.P a w K Qx:=by
 cases ho:o.op<;>rw[ho]at hT<;>simp only[evQ]at hT<;>try(cases hT;done)
 case move x=>injection hT with hT;subst hT;exact WI (sem:=pure (a.eval x)) (by simp only[execOp,ho];rfl) (zU rfl (hρ x)) hq hK
 case assign x=>injection hT with hT;subst hT;exact WI (sem:=pure (a.eval x)) (by simp only[execOp,ho];rfl) (zU rfl (hρ x)) hq hK
 case pick c x y=>
  injection hT with hT
  subst hT
  exact WI (sem:=do pure (if <- asBool (a.eval c)then a.eval x else a.eval y)) (by simp only[execOp,ho,bind_assoc,pure_bind]) (Zpu (hρ c) (hρ x) (hρ y)) hq hK
 case build t parts=>
  injection hT with hT
  subst hT
  refine WI (sem:=Instr.build t (parts.map λp=>(p.1,a.eval p.2))) (by simp only[execOp,ho]) (Zo8 ?_) hq hK
  simp_all[ZjI]
 case load t x=>injection hT with hT;subst hT;exact WI (by simp only[execOp,ho]) (Zih hr (hρ x)) hq hK
 case nilCheck x=>
  injection hT with hT
  subst hT
  obtain⟨h1,h2,h3,h4,h5⟩:=Zpr (hρ x) Q hq
  refine WI (sem:=pure (a.eval x)) (T:=.leaf (ρ x)) ?_ (zU rfl (hρ x)) h1 hK
  simp only[execOp,ho]
  rfl
 case binOp op t x y yt=>
  cases hb:Ub E.P op t x y (ρ x) (ρ y)with
  |some T'=>
   rw[hb]at hT
   injection hT with hT
   subst hT
   exact WI (sem:=do eqGuard op t x y (a.eval x) (a.eval y);binOp op t (a.eval x) (a.eval y)) (by simp only[execOp,ho]) (evIfc_val hb (hρ x) (hρ y) (λv h=>by subst h;rfl) (λv h=>by subst h;rfl)) hq hK
  |none=>
   rw[hb]at hT
   injection hT with hT
   subst hT
   exact WI (sem:=do eqGuard op t x y (a.eval x) (a.eval y);binOp op t (a.eval x) (a.eval y)) (by simp only[execOp,ho]) (evBin_val (hρ x) (hρ y)) hq hK
 case unOp op t x=>injection hT with hT;subst hT;exact WI (by simp only[execOp,ho]) (evUn_val (hρ x)) hq hK
 case convert src dst x=>
  cases hb:Zfv E.P src dst (ρ x)with
  |some T'=>
   rw[hb]at hT
   injection hT with hT
   subst hT
   exact wp_bytes ho hρ hb hq hK
  |none=>
   rw[hb]at hT
   injection hT with hT
   subst hT
   exact WI (by simp only[execOp,ho]) (Zpc hr (hρ x)) hq hK
 case makeFunc f first cap=>
  injection hT with hT
  subst hT
  refine WI (sem:=Instr.makeFunc f (first.map a.eval) (cap.map a.eval)) (by simp only[execOp,ho]) (zU rfl ?_) hq hK
  simp only[R]
  refine⟨_,_,rfl,?_,?_⟩<;>simp_all[refine,Zao]
 case slice t x lo hi mx=>
  injection hT with hT
  subst hT
  exact WI (by simp only[execOp,ho]) (ZpB hr (hρ x) (optV hρ).1 (optV hρ).2 (optV hρ).1 (optV hρ).2 (optV hρ).1 (optV hρ).2) hq hK
 case fieldAddr s x f=>injection hT with hT;subst hT;exact WI (by simp only[execOp,ho]) (Zph (hρ x)) hq hK
 case field t x f=>injection hT with hT;subst hT;exact WI (by simp only[execOp,ho]) (Zpi (hρ x)) hq hK
 case indexAddr t x ix=>injection hT with hT;subst hT;exact WI (by simp only[execOp,ho]) (Zpk (Va (hρ x)) (hρ ix)) hq hK
 case index t x ix=>injection hT with hT;subst hT;exact WI (by simp only[execOp,ho]) (Zpl (hρ x) (hρ ix)) hq hK
 case lookup t x ix ok=>injection hT with hT;subst hT;exact WI (by simp only[execOp,ho]) (Zpo hr (hρ x) (hρ ix)) hq hK
 case extract x i=>injection hT with hT;subst hT;exact WI (by simp only[execOp,ho]) (Zpg (hρ x)) hq hK
 case call c=>
  cases hcal:c.callee with
  |builtin b=>
   rw[hcal]at hT
   exact Zsf ho hcal hρ hT hq hK
  |invoke r nm=>grind
  |value f=>
   rw[hcal]at hT
   dsimp only at hT
   cases hc:callee (ρ f) (.ofList (c.args.toList.map ρ))with
   |none=>grind
   |some r=>
    obtain⟨g,args⟩:=r
    rw[hc]at hT
    dsimp only at hT
    cases hg:E.Γ g args with
    |none=>grind
    |some ans=>
     rw[hg]at hT
     cases ans with
     |sure v=>
      dsimp only at hT
      cases h1:args.clean
      ·grind
      ·cases h2:v.clean
       ·grind
       ·rw[h1,h2]at hT
        injection hT with hT
        subst hT
        exact Zhe ho hcal hρ hc (hE.sure _ _ _ hg) h1 h2 hr.fdom hr.gl hq hK
     |where_ p v=>
      dsimp only at hT
      cases h1:args.clean
      ·grind
      ·cases h2:v.clean
       ·grind
       ·rw[h1,h2]at hT
        injection hT with hT
        subst hT
        exact Zhe ho hcal hρ hc (hE.where_ _ _ _ _ hg hq.1) h1 h2 hr.fdom hr.gl hq.2 hK
     |fork b v v'=>
      dsimp only at hT
      cases h1:args.clean
      ·grind
      cases h2:v.clean
      ·grind
      cases h3:v'.clean
      ·grind
      rw[h1,h2,h3]at hT
      injection hT with hT
      subst hT
      cases b with
      |true=>exact Zhe ho hcal hρ hc ((hE.fork _ _ _ _ _ hg).1 rfl) h1 h2 hr.fdom hr.gl (hq.1 rfl) hK
      |false=>exact Zhe ho hcal hρ hc ((hE.fork _ _ _ _ _ hg).2 rfl) h1 h3 hr.fdom hr.gl (hq.2 rfl) hK
theorem Zpj(hE:E.Ok)
  (ho:o.op=.call c)(hcal:c.callee=.value f)(hr:HR base m F h n w)(hρ:∀x,R F w (ρ x) n m (a.eval x))(hT:Gr E ρ h f c=zi T)(hq:T.holds E.P Q)
  (hK:∀v x w' F',Q v->Later F w F' w'->R F' w' v n m x->K (a.put o.dst x) w'):o.wp E.P a w K Qx:=by
 unfold Gr at hT
 cases hc:callee (ρ f) (.ofList (c.args.toList.map ρ))with
 |none=>grind
 |some r=>
  obtain⟨g,args⟩:=r
  rw[hc]at hT
  dsimp only at hT
  cases h1:args.clean
  case true=>rw[h1]at hT;cases hT
  cases h0:(fz h 6 args).clean
  ·grind
  rw[h1,h0]at hT
  simp only[cond_true,cond_false]at hT
  cases hg:E.Γ g (fz h 6 args)with
  |none=>grind
  |some ans=>
   rw[hg]at hT
   cases ans with
   |sure v=>
    dsimp only at hT
    cases h2:v.clean
    ·grind
    cases h3:v.Xg
    ·grind
    rw[h2,h3]at hT
    injection hT with hT
    subst hT
    obtain⟨hfn,hq⟩:=Zhc hq
    exact ZmN ho hcal hρ hc (hE.sure _ _ _ hg) hfn h0 h2 h3 hr hq hK
   |where_ p v=>
    dsimp only at hT
    cases h2:v.clean
    ·grind
    cases h3:v.Xg
    ·grind
    rw[h2,h3]at hT
    injection hT with hT
    subst hT
    obtain⟨hfn,hq⟩:=Zhc hq
    exact ZmN ho hcal hρ hc (hE.where_ _ _ _ _ hg hq.1) hfn h0 h2 h3 hr hq.2 hK
   |fork b v v'=>cases hT
variable{h':Nat->Blk}
theorem HR.layO(hr:HR base m F h n w){nm n':Nat}{blk:Blk}{o:Obj}(hnm:m nm=zm)(hn:n<=n')(hlt:nm<n')
  (hnew:∀b,n<=b->b<n'->b=nm)(hh:∀b,h' b=if b=nm then blk else h b)
  (hblk:Ext base m F n w (λb=>if b=nm then zi w.heap.size else m b) F n' (w.alloc o)->RB F (w.alloc o) n' (λb=>if b=nm then zi w.heap.size else m b) blk (zi w.heap.size)) :
  HR base (λb=>if b=nm then zi w.heap.size else m b) F h' n' (w.alloc o)/\
   Ext base m F n w (λb=>if b=nm then zi w.heap.size else m b) F n' (w.alloc o):=by
 have keep:∀B,B<w.heap.size->(w.alloc o).heap[B]? =w.heap[B]?:=λB hB=>heap_alloc_old w _ B hB
 have hext:Ext base m F n w (λb=>if b=nm then zi w.heap.size else m b) F n' (w.alloc o):=
  ⟨λ_ h=>h,λ_ h=>.inl h,λB hB=>keep B (hB.elim (λh=>Nat.lt_of_lt_of_le h hr.low) (hr.fdom B)),by simp,Yk.Kt keep,
   ⟨λB hB _=>keep B hB,λb B hb hB=>by
    by_cases e:b=nm
    ·rw[if_pos e]at hb;injection hb with hb;omega
    ·rw[if_neg e]at hb;exact⟨b,hb⟩⟩,hn,
   λb hb B hB=>by
    rw[if_neg (λe=>by rw[e,hnm]at hB;cases hB)]
    exact hB,⟨rfl,rfl,rfl⟩⟩
 refine⟨⟨Nat.le_trans hr.low (by simp),λB hB=>by have:=hr.fdom B hB;simp;omega,λb hb=>?_,λb B hB=>?_,λb hb=>?_,hr.gl.mono hext.sz (λ_ h=>h) (λB hB=>keep B (hr.fdom B hB)),λb B hB=>?_,λb b' B h1 h2 hne=>?_⟩,hext⟩
 ·rw[hh b]
  by_cases e:b=nm
  ·grind
  ·rw[if_neg e,if_neg e]
   have hbn:b<n:=by
    grind
   exact Ka hext (λB hB=>keep B (hr.dom b B hB)) (hr.blk b hbn)
 ·by_cases e:b=nm
  ·simp_all
  ·rw[if_neg e]at hB
   have:=hr.dom b B hB
   simp
   omega
 ·rw[if_neg (by omega)]
  exact hr.new b (by omega)
 ·by_cases e:b=nm
  ·rw[if_pos e]at hB
   injection hB with hB
   subst hB
   exact⟨hr.low,λhF=>absurd (hr.fdom _ hF) (Nat.lt_irrefl _)⟩
  ·rw[if_neg e]at hB
   exact hr.own b B hB
 ·by_cases e1:b=nm<;>by_cases e2:b'=nm
  ·omega
  ·rw[if_pos e1]at h1
   rw[if_neg e2]at h2
   injection h1 with h1
   subst h1
   exact absurd (hr.ZeW h2) (Nat.lt_irrefl _)
  ·rw[if_neg e1]at h1
   rw[if_pos e2]at h2
   injection h2 with h2
   subst h2
   exact absurd (hr.ZeW h1) (Nat.lt_irrefl _)
  ·rw[if_neg e1]at h1
   rw[if_neg e2]at h2
   rw[hh b,hh b',if_neg e1,if_neg e2]
   exact hr.inj b b' B h1 h2 hne
variable{xs:Array Value}
theorem HR.lay(hr:HR base m F h n w){nm n':Nat}{cs:V}(el:TypeId)(hrow:RL F w cs n m xs.toList)(hnm:m nm=zm)(hn:n<=n')(hlt:nm<n')
  (hnew:∀b,n<=b->b<n'->b=nm)(hh:∀b,h' b=if b=nm then .var cs else h b) :
  HR base (λb=>if b=nm then zi w.heap.size else m b) F h' n' (w.alloc (.cells xs el))/\
   Ext base m F n w (λb=>if b=nm then zi w.heap.size else m b) F n' (w.alloc (.cells xs el)):=
 hr.layO hnm hn hlt hnew hh λhe=>⟨_,xs,el,xs.toList,[],rfl,heap_alloc_new w _,by simp,he.row hrow⟩
theorem HR.push(hr:HR base m F h n w){cs:V}(el:TypeId)(hrow:RL F w cs n m xs.toList)(hh:∀b,h' b=if b=n then .var cs else h b) :
  HR base (λb=>if b=n then zi w.heap.size else m b) F h' (n+1) (w.alloc (.cells xs el))/\
   Ext base m F n w (λb=>if b=n then zi w.heap.size else m b) F (n+1) (w.alloc (.cells xs el)):=
 hr.lay el hrow (hr.new n (zI _)) (by omega) (by omega) (λb h1 h2=>by omega) hh
end
end Go.Fw
namespace Go.Fw
theorem ZgV{α:Type}(xs:List α)(o:Nat)(vs:List α)(h:o+vs.length<=xs.length):xs.take o++vs++xs.drop (o+vs.length)=XT xs o vs:=by
 apply List.ext_getElem?
 grind[VP,List.append_assoc,List.getElem?_append_left,List.getElem?_take_of_lt,List.getElem?_append_right,List.getElem?_eq_none,J6]
theorem Zmv{α:Type}(ys zs:List α)(o:Nat)(vs:List α)(h:o+vs.length<=ys.length):XT (ys++zs) o vs=XT ys o vs++zs:=by
 apply List.ext_getElem? <;>grind[VP,XT,J6]
section
variable{P:Program}{base:Nat}{m:Nat->Option Nat}{F:Nat->Prop}{h:Nat->Blk}{n:Nat}{w:World}{a:Act}{g:Nat->Blk}{h0:PT Blk}
variable{h':Nat->Blk}{b:Nat}
theorem HR.turn(hr:HR base m F h n w){B:Nat}(hb:m b=zi B){old new:Array Value}{el:TypeId}(hold:w.heap[B]? =zi (.cells old el (0,0)))(hns:new.size=old.size)(hna:h b≠.any){blk:Blk}
  (hh:∀c,h' c=if c=b then blk else h c)(hblk:(∀v n' m' xs,RL F w v n' m' xs->RL F (w.setRow B new) v n' m' xs)->RB F (w.setRow B new) n m blk (zi B)) :
  HR base m F h' n (w.setRow B new)/\Ext base m F n w m F n (w.setRow B new):=by
 have hown:=hr.own b B hb
 have keep:∀k,k≠B->(w.setRow B new).heap[k]? =w.heap[k]?:=λk hk=>setRow_other w B k new hk
 have hsz:Yk w (w.setRow B new):=λk c el' fr hk=>by
  by_cases e:k=B
  ·subst e
   rw[hold]at hk
   injection hk with hk
   injection hk with h1 h2 h3
   subst h1
   subst h2
   subst h3
   exact⟨new,_,setRow_heap w k _ new _ _ hold,hns⟩
  grind
 have hkF:∀k,F k->(w.setRow B new).heap[k]? =w.heap[k]?:=λk hk=>keep k λe=>by
  grind
 have hext:Ext base m F n w m F n (w.setRow B new):=
  ⟨λ_ h=>h,λ_ h=>.inl h,λk hk=>keep k (λe=>by subst e;rcases hk with h|h;exact absurd hown.1 (Nat.not_le.2 h);exact hown.2 h),by simp,hsz,⟨λk _ hk=>keep k λe=>hk b (by rw[e];exact hb),λc _ hc _=>⟨c,hc⟩⟩,zI _,λ_ _ _ h=>h,⟨rfl,rfl,rfl⟩⟩
 refine⟨⟨by simpa using hr.low,λk hk=>by simpa using hr.fdom k hk,λc hc=>?_,λc C hC=>by simpa using hr.dom c C hC,hr.new,hr.gl.mono hsz (λ_ h=>h) hkF,hr.own,λc c' C h1 h2 hne=>?_⟩,hext⟩
 ·rw[hh c]
  by_cases e:c=b
  ·subst e
   rw[if_pos rfl,hb]
   exact hblk λv n' m' xs hv=>(Xj hsz (λ_ h=>h) hkF v n' n' m' m' (zI _) (λ_ _ _ h=>h)).2 xs hv
  ·rw[if_neg e]
   by_cases e2:m c=zi B
   ·rcases hr.inj c b B e2 hb e with h1|h1
    ·rw[h1]
     exact trivial
    grind
   ·exact Ka hext (λk hk=>keep k λe'=>by subst e';exact e2 hk) (hr.blk c hc)
 ·rw[hh c,hh c']
  rcases hr.inj c c' C h1 h2 hne with h3|h3<;>grind
theorem HR.putO(hr:HR base m F h n w){l:Nat}(hb:m b=zi l){o o':Obj}(hl:w.heap[l]? =zi o)(hnc:∀c el fr,o≠.cells c el fr)(hna:h b≠.any){blk:Blk}
  (hh:∀c,h' c=if c=b then blk else h c)(hblk:(∀v x,R F w v n m x->R F (w.putObj l o') v n m x)->RB F (w.putObj l o') n m blk (zi l)) :
  HR base m F h' n (w.putObj l o')/\Ext base m F n w m F n (w.putObj l o'):=by
 have hown:=hr.own b l hb
 have keep:∀k,k≠l->(w.putObj l o').heap[k]? =w.heap[k]?:=λk hk=>World.putObj_heap_other hk
 have hsz:Yk w (w.putObj l o'):=λB c el fr hB=>by
  grind
 have hkF:∀k,F k->(w.putObj l o').heap[k]? =w.heap[k]?:=λk hk=>keep k λe=>by
  grind
 have hext:Ext base m F n w m F n (w.putObj l o'):=
  ⟨λ_ h=>h,λ_ h=>.inl h,λk hk=>keep k (λe=>by subst e;rcases hk with h|h;exact absurd hown.1 (Nat.not_le.2 h);exact hown.2 h),by simp,hsz,
   ⟨λk _ hk=>keep k λe=>hk b (by rw[e];exact hb),λc _ hc _=>⟨c,hc⟩⟩,zI _,λ_ _ _ h=>h,⟨rfl,rfl,rfl⟩⟩
 refine⟨⟨by simpa using hr.low,λk hk=>by simpa using hr.fdom k hk,λc hc=>?_,λc C hC=>by simpa using hr.dom c C hC,hr.new,hr.gl.mono hsz (λ_ h=>h) hkF,hr.own,λc c' C h1 h2 hne=>?_⟩,hext⟩
 ·rw[hh c]
  by_cases e:c=b
  ·subst e
   rw[if_pos rfl,hb]
   exact hblk λv xs hv=>hext.val hv
  ·rw[if_neg e]
   by_cases e2:m c=zi l
   ·rcases hr.inj c b l e2 hb e with h1|h1
    ·rw[h1]
     exact trivial
    grind
   ·exact Ka hext (λk hk=>keep k λe'=>by subst e';exact e2 hk) (hr.blk c hc)
 ·rw[hh c,hh c']
  rcases hr.inj c c' C h1 h2 hne with h3|h3<;>grind
theorem pickV_eq(c:Bool)(x y:V):pickV c x y=bif c then x else y:=by
 cases x with
 |bool s b=>
  cases y with
  |bool s' b'=>cases c<;>rfl
  |_=>rfl
 |int s k n=>
  cases y with
  |int s' k' n'=>
   show(if k=k' then V.int (bif c then s else s') k (bif c then n else n')else bif c then V.int s k n else V.int s' k' n')=_
   grind
  |_=>rfl
 |_=>rfl
variable{f:Value->Bool×V}{y:Bool×V}
theorem Zmg{st:Bool}{key k:Value}:(putF st f key y k).1=bif ZO k key then y.1 else(f k).1:=by
 cases st with
 |true=>rfl
 |false=>rfl
theorem Zjb{st:Bool}{key k:Value}{F:Nat->Prop}{w:World}{n:Nat}{m:Nat->Option Nat}{z:Value}(h:R F w (bif ZO k key then y.2 else(f k).2) n m z):R F w (putF st f key y k).2 n m z:=by
 cases st with
 |true=>
  show R F w (pickV (ZO k key) y.2 (f k).2) n m z
  grind[pickV_eq]
 |false=>exact VF h
variable{t:TypeId}{X:Value}
theorem Zdp{P:Program}(hr:HR base m F h n w){x k:V}{K:Value}{blk:Blk}(hx:R F w x n m X)(hk:R F w k n m K)(hp:WQ P h t x k y=zi (b,blk)) :
  (∀v,y.1=ze->R F w y.2 n m v->∃w',(Instr.mapUpdate t X K v).run P w=.ok () w'/\(∀h':Nat->Blk,(∀c,h' c=if c=b then blk else h c)->HR base m F h' n w')/\Ext base m F n w m F n w')/\
  (y.1=za->∀(ty:TypeId)(ts:Array TypeId),ts[0]? =zi t->∃w',(Builtin.delete_ ts ty #[X,K]).run P w=.ok (.tuple #[]) w'/\(∀h':Nat->Blk,(∀c,h' c=if c=b then blk else h c)->HR base m F h' n w')/\Ext base m F n w m F n w'):=by
 unfold WQ at hp
 split at hp
 case h_2=>cases hp
 rename_i kt et hu
 split at hp
 case h_2=>cases hp
 rename_i kd hkd
 split at hp
 case h_2=>cases hp
 rename_i sk key hko
 obtain⟨d,hd,hof⟩:=ZlS hkd
 obtain⟨rfl,his⟩:=Zlq hko hk
 split at hp
 case h_2=>cases hp
 rename_i b0
 split at hp
 case h_2=>cases hp
 rename_i blk0 hpm
 injection hp with hp
 injection hp with e1 e2
 subst e1
 subst e2
 simp only[R]at hx
 obtain⟨hbn,B,rfl,hB⟩:=hx
 have hblk:=hr.blk b0 hbn
 unfold putMap at hpm
 split at hpm
 case h_2=>cases hpm
 rename_i kd' st f ks hb
 cases hs:Kq kd kd'
 ·grind
 rw[hs]at hpm
 injection hpm with hpm
 subst hpm
 obtain rfl:=Zgr hs
 rw[hb]at hblk
 obtain⟨B',es,clock,e,hcell,hE,hf⟩:=hblk
 obtain rfl:B=B':=by
  grind
 have hne:h b0≠.any:=by
  grind
 have hlt:B<w.heap.size:=hr.dom b0 B hB
 refine⟨λv hy hv=>?_,λhy ty ts hts=>?_⟩
 ·obtain⟨es',clock',hrun,hE',hg,ht⟩:=Zrj (P:=P) hu hd hof hcell hE.ent his v
  refine⟨_,hrun,λh' hh=>?_,?_⟩
  ·exact(hr.putO (h':=h') hB hcell (λc el fr=>by simp) hne hh λup=>⟨B,es',clock',rfl,World.putObj_heap_same hlt,(by rw[hy];exact ht sk ks hE),λk hk'=>by
    rw[hg k hk',Zmg]
    cases hkk:ZO k K
    ·simp only[hkk,cond_false];exact⟨(hf k hk').1,λv hv=>Zjb (by rw[hkk];exact up _ _ ((hf k hk').2 v hv))⟩
    ·simp only[hkk,cond_true];exact⟨by rw[hy];rfl,λv' hv'=>Zjb (by rw[hkk];injection hv' with hv';subst hv';exact up _ _ hv)⟩⟩).1
  ·exact(hr.putO (h':=λc=>if c=b0 then .any else h c) (blk:=.any) hB hcell (λc el fr=>by simp) hne (λ_=>rfl) λ_=>trivial).2
 ·obtain⟨es',clock',hrun,hE',hg⟩:=run_erase (P:=P) hu hd hof hcell hE.ent his ty ts hts
  refine⟨_,hrun,λh' hh=>?_,?_⟩
  ·exact(hr.putO (h':=h') hB hcell (λc el fr=>by simp) hne hh λup=>⟨B,es',clock',rfl,World.putObj_heap_same hlt,(by rw[hy];exact KG.unk hE'),λk hk'=>by
    rw[hg k hk',Zmg]
    cases hkk:ZO k K
    ·simp only[hkk,cond_false];exact⟨(hf k hk').1,λv hv=>Zjb (by rw[hkk];exact up _ _ ((hf k hk').2 v hv))⟩
    ·simp only[hkk,cond_true];exact⟨by rw[hy];rfl,λv' hv'=>by cases hv'⟩⟩).1
  ·exact(hr.putO (h':=λc=>if c=b0 then .any else h c) (blk:=.any) hB hcell (λc el fr=>by simp) hne (λ_=>rfl) λ_=>trivial).2
theorem ZlK{P:Program}{r:Option V}{X:Option Value}{blk:Blk}(hp:Gt P t r=zi blk)(hX:∀v,r=zi v->∃x,X=zi x/\R F w v n m x)(hX0:r=zm->X=zm) :
  (Instr.makeMap t X).run P w=.ok (.map (zi w.heap.size)) (w.alloc (.map #[] 0))/\∃kd z,blk=.Zk kd ze (λ_=>(za,z)) (zi (0,[])):=by
 unfold Gt at hp
 split at hp
 case h_2=>cases hp
 rename_i kt et hu
 split at hp
 case h_2=>cases hp
 rename_i kd hkd
 split at hp
 ·injection hp with hp
  rw[hX0 rfl]
  exact⟨by simp[Instr.makeMap,Result.andThen],kd,_,hp.symm⟩
 ·rename_i st k q
  injection hp with hp
  obtain⟨x,rfl,hx⟩:=hX _ rfl
  simp only[R]at hx
  subst hx
  exact⟨by simp[Instr.makeMap,run_underlying hu,asInt,asIntOf,Result.andThen],kd,_,hp.symm⟩
 ·cases hp
variable{m':Nat->Option Nat}
theorem ZjJ{n':Nat}{kd:MK}{z:V}{B:Nat}(h:w.heap[B]? =zi (.map #[] 0)):RB F w n' m' (.Zk kd ze (λ_=>(za,z)) (zi (0,[]))) (zi B):=
 ⟨B,#[],0,rfl,h,⟨Entries.nil,λc l e=>by injection e with e;injection e with e1 e2;subst e1;subst e2;exact⟨rfl,rfl⟩⟩,λk _=>⟨rfl,λv hv=>by cases hv⟩⟩
theorem Zpv{P:Program}(hr:HR base m F h n w){x:V}{blk:Blk}(hx:R F w x n m X)(hz:ZfA P h t x=zi blk) :
  ∃ob,(Instr.range t X).run P w=.ok (.pointer (zi ⟨w.heap.size,0,zm⟩)) (w.alloc ob)/\
   ∀(n':Nat)(m':Nat->Option Nat)(w':World),n<=n'->(∀b,b<n->∀B,m b=zi B->m' b=zi B)->w'.heap[w.heap.size]? =zi ob->RB F w' n' m' blk (zi w.heap.size):=by
 unfold ZfA at hz
 split at hz
 case h_2=>cases hz
 rename_i kt et hu
 split at hz
 ·injection hz with hz
  subst hz
  simp only[R]at hx
  subst hx
  exact⟨_,run_range_nilMap w t kt et hu,λn' m' w' _ _ hc=>⟨_,zm,rfl,hc,rfl⟩⟩
 ·rename_i b
  split at hz
  case h_2=>cases hz
  rename_i kd st f ks hb
  split at hz
  case h_2=>cases hz
  rename_i c l
  injection hz with hz
  subst hz
  simp only[R]at hx
  obtain⟨hbn,B,rfl,hB⟩:=hx
  have hblk:=hr.blk b hbn
  rw[hb]at hblk
  obtain⟨B',es,clock,e,hcell,hE,hf⟩:=hblk
  obtain rfl:B=B':=by
   grind
  obtain⟨rfl,_⟩:=hE.told _ _ rfl
  exact⟨_,run_range_map w t kt et B es clock hu hcell,λn' m' w' hn hm hc=>⟨_,zi B,rfl,hc,B,by omega,rfl,hm b hbn B hB⟩⟩
 ·cases hz
theorem ZqU{P:Program}{α β:Type}{f:α->Tree β}{Q:β->Prop}:∀{l:List α},(oneOf f l).holds P Q->∀x∈l,(f x).holds P Q:=by
 intro l
 induction l with
 |nil=>grind
 |cons y l ih=>
  intro h x hx
  cases l with
  |nil=>
   rcases List.mem_cons.1 hx with rfl|hx
   ·exact h
   ·cases hx
  |cons z l=>
   rcases List.mem_cons.1 hx with rfl|hx
   ·exact h.1
   ·exact ih h.2 x hx
theorem iter_at{i o es:Nat}(hx:R F w (.ptr ze b es i o) n m X)(hz:(zq es 0&&(zq i 0&&zq o 0))=ze):b<n/\∃B,X=.pointer (zi ⟨B,0,zm⟩)/\m b=zi B:=by
 simp_all[zL,zO,Wm]
theorem Zpq{P:Program}(hr:HR base m F h n w){it:V}{str:Bool}(hx:R F w it n m X)(ty:TypeId){Q:V×Option (Nat×Blk)->Prop}(hq:(evNext h it str).holds P Q) :
  ∃v wr w' X',Q (v,wr)/\(Instr.next X str ty).run P w=.ok X' w'/\Ext base m F n w m F n w'/\
   (∀h':Nat->Blk,(∀c,h' c=match wr with|none=>h c|some (b,blk)=>if c=b then blk else h c)->HR base m F h' n w')/\R F w' v n m X':=by
 unfold evNext at hq
 split at hq
 ·exact hq.elim
 split at hq
 case h_2=>exact hq.elim
 rename_i st b es0 i o
 cases st with
 |false=>exact hq.elim
 |true=>
 cases hz:(zq es0 0&&(zq i 0&&zq o 0))
 ·rw[hz]at hq
  exact hq.elim
 rw[hz]at hq
 simp only[Bool.and_self,cond_true]at hq
 obtain⟨hbn,r,rfl,hB⟩:=iter_at hx hz
 have hblk:=hr.blk b hbn
 have stay:∀h':Nat->Blk,(∀c,h' c=h c)->HR base m F h' n w:=λh' hh=>by
  have:h'=h:=funext hh
  grind
 split at hq
 case h_2=>exact hq.elim
 rename_i mb since seen last hb
 rw[hb]at hblk
 obtain⟨r',x,e,hc,h1⟩:=hblk
 obtain rfl:r=r':=by
  grind
 split at hq
 ·dsimp only at h1
  subst h1
  refine⟨_,zm,w,.tuple #[.bool za],hq,?_,Ext.refl base m F n w,stay,by simp[R,RL]⟩
  simp only[Instr.next,getObj,zM,Sem.run,hc,Result.andThen]
  rfl
 ·rename_i mb
  obtain⟨y,h2,rfl,h4⟩:=h1
  have hmblk:=hr.blk mb h2
  split at hq
  case h_2=>exact hq.elim
  rename_i kd st f ks hmb
  split at hq
  case h_2=>exact hq.elim
  rename_i c l
  rw[hmb]at hmblk
  obtain⟨B',es,clock,e2,hcell,hE,hf⟩:=hmblk
  obtain rfl:y=B':=by
   grind
  obtain⟨rfl,rfl⟩:=hE.told _ _ rfl
  cases hol:(oldL since (es.toList.map Qw)&&zK since last)
  ·rw[hol]at hq
   exact hq.elim
  rw[hol]at hq
  simp only[cond_true]at hq
  simp only[zL]at hol
  obtain⟨ho1,ho2⟩:=hol
  obtain⟨hold,hnd⟩:=ZlZ ho1
  have hold':∀x∈es.toList,x.born<since:=λx hx=>hold (Qw x) (List.mem_map.2 ⟨x,hx,rfl⟩)
  rcases run_next_at (P:=P) w ty r y since last seen.toArray es clock hc hcell hold' (yA ho2)with⟨hs,hrun⟩|⟨e,he,w1,hw1,hrun⟩
  ·have hnil:leftL seen (es.toList.map Qw)=[]:=by
    grind[Zlv,List.map_eq_nil_iff,List.eq_nil_of_length_eq_zero]
   rw[hnil]at hq
   exact⟨_,zm,w,_,hq,hrun,Ext.refl base m F n w,stay,by simp[R,RL]⟩
  ·have hmem:Qw e∈leftL seen (es.toList.map Qw):=by
    grind[Zlv]
   have hees:e∈es.toList:=by
    unfold leftOf at he
    grind
   have hq':=hq
   split at hq'
   ·grind
   ·have hQ:=ZqU hq' _ hmem
    have hr1:HR base m F h n w1/\Ext base m F n w m F n w1:=by
     rcases hw1 with rfl|rfl
     ·grind[Ext.refl]
     ·have hdrew:Later F w F w.drew:=⟨λ_ h=>h,λ_ h=>.inl h,λ_ _=>rfl,zI _,λhd B hB=>hd B hB,⟨rfl,rfl,rfl⟩⟩
      exact⟨hr.later hdrew,hr.ext hdrew⟩
    have hc1:w1.heap[r]? =zi (.mapIter (zi y) since seen.toArray last):=by rcases hw1 with rfl|rfl<;>exact hc
    have hlt:r<w1.heap.size:=hr1.1.dom b r hB
    have hput:=λ(h':Nat->Blk)(hh:∀c',h' c'=if c'=b then Blk.iter (zi mb) since (seen++[e.born]) clock else h c')=>hr1.1.putO (h':=h') hB hc1 (o':=.mapIter (zi y) since (seen.toArray.push e.born) clock) (λc el fr=>by simp) (by rw[hb];simp) hh λup=>
     ⟨r,zi y,rfl,by rw[World.putObj_heap_same hlt];simp,y,h2,rfl,h4⟩
    have hext:=(hput (λc'=>if c'=b then Blk.iter (zi mb) since (seen++[e.born]) clock else h c') (λ_=>rfl)).2
    refine⟨_,zi (b,.iter (zi mb) since (seen++[e.born]) clock),_,_,hQ,hrun,hr1.2.trans hext,λh' hh=>(hput h' hh).1,?_⟩
    have hval:=(hf e.key (hE.ent.is e hees)).2 e.val (ZlL hE.ent e hees)
    have hval':=hext.val (hr1.2.val hval)
    simp only[R,RL]
    exact⟨_,rfl,_,_,rfl,rfl,_,_,rfl,Zci _,_,_,rfl,hval',rfl⟩
theorem Zpf{P:Program}(hr:HR base m F h n w){it:V}(hx:R F w it n m X):Val P F w n m (Zig h it) (Instr.entry X):=by
 unfold Zig
 split
 case h_2=>exact zH
 rename_i st b es0 i o
 cases st with
 |false=>exact zH
 |true=>
 cases hz:(zq es0 0&&(zq i 0&&zq o 0))
 ·exact zH
 simp only[Bool.and_self,cond_true]
 obtain⟨hbn,r,rfl,hB⟩:=iter_at hx hz
 have hblk:=hr.blk b hbn
 split
 case h_2=>exact zH
 rename_i mb since seen last hb
 rw[hb]at hblk
 obtain⟨r',x,e,hc,h1⟩:=hblk
 obtain rfl:r=r':=by
  grind
 split
 ·exact zH
 rename_i mb
 obtain⟨y,h2,rfl,h4⟩:=h1
 have hmblk:=hr.blk mb h2
 split
 case h_2=>exact zH
 rename_i kd st f ks hmb
 split
 case h_2=>exact zH
 rename_i c l
 split
 ·exact zH
 rename_i x rest hrev
 rw[hmb]at hmblk
 obtain⟨B',es,clock,e2,hcell,hE,hf⟩:=hmblk
 obtain rfl:y=B':=by
  grind
 obtain⟨rfl,rfl⟩:=hE.told _ _ rfl
 cases hol:(oldL since (es.toList.map Qw)&&zq clock last)
 ·exact zH
 simp only[cond_true]
 simp only[zL]at hol
 obtain⟨ho1,ho2⟩:=hol
 obtain⟨hold,hnd⟩:=ZlZ ho1
 obtain rfl:=zO ho2
 split
 case h_2=>exact zH
 rename_i e' hfind
 have hmem:=List.mem_of_find?_eq_some hfind
 have hx':=List.find?_some hfind
 obtain⟨e,hees,rfl⟩:=List.mem_map.1 hmem
 have hbx:e.born=x:=zO hx'
 have hseen:seen.toArray=(rest.reverse.toArray).push e.born:=by
  simp_all
 rw[hseen]at hc
 have hn:(es.toList.map (·.born)).Nodup:=by
  have:=hnd
  rw[List.map_map]at this
  exact this
 have hrun:=run_entry_at (P:=P) w r y since rest.reverse.toArray es clock e hc hcell hees hn
 refine zU hrun ?_
 have hval:=(hf e.key (hE.ent.is e hees)).2 e.val (ZlL hE.ent e hees)
 simp only[R,RL]
 exact⟨_,rfl,_,_,rfl,Zci _,_,_,rfl,hval,rfl⟩
theorem Zl0{xs:List Value}(h:∀x∈xs,(∀c,x≠.agg c)/\∀c,x≠.tuple c):∀v∈xs,v.oneCell'=ze:=by
 intro v hv
 obtain⟨h1,h2⟩:=h v hv
 cases v<;>first|rfl|exact absurd rfl (h1 _)|exact absurd rfl (h2 _)
theorem HR.forget(hr:HR base m F h n w)(hh:∀c,h' c=if c=b then .any else h c):HR base m F h' n w:=by
 refine⟨hr.low,hr.fdom,λc hc=>?_,hr.dom,hr.new,hr.gl,hr.own,λc c' C h1 h2 hne=>?_⟩
 ·rw[hh c]
  by_cases e:c=b
  ·rw[if_pos e]
   exact trivial
  ·rw[if_neg e]
   exact hr.blk c hc
 ·rw[hh c,hh c']
  rcases hr.inj c c' C h1 h2 hne with h3|h3<;>grind
theorem HR.Ziu(hr:HR base m F (look g h0) n w)(b:Option Nat):HR base m F (look g (JY h0 b)) n w:=by
 cases b with
 |none=>exact hr
 |some b=>exact hr.forget (b:=b) λc=>Yg _ _ _ _ _
variable{B:Option Nat}
theorem RB_more{n':Nat}{blk:Blk}(hn:n<=n')(hm:∀b,b<n->∀B,m b=zi B->m' b=zi B)(hb:RB F w n m blk B):RB F w n' m' blk B:=by
 have hm':=λv=>Xj (F:=F) (F':=F) (w:=w) (w':=w) (Yk.refl w) (λ_ h=>h) (λ_ _=>rfl) v n n' m m' hn hm
 cases blk with
 |none=>exact hb
 |any=>exact hb
 |var cs=>
  obtain⟨b,xs,el,ys,zs,e,hc,hsp,hr⟩:=hb
  exact⟨b,xs,el,ys,zs,e,hc,hsp,(hm' cs).2 _ hr⟩
 |arr es k get=>exact hb
 |iter mb since seen last=>
  obtain⟨r,x,e,hc,h1⟩:=hb
  refine⟨r,x,e,hc,?_⟩<;>grind
 |Zk kd st f ks=>
  obtain⟨b,es,clock,e,hc,hE,hf⟩:=hb
  exact⟨b,es,clock,e,hc,hE,λk hk'=>⟨(hf k hk').1,λv hv=>(hm' (f k).2).1 _ ((hf k hk').2 v hv)⟩⟩
 |rng f ps asg bd row N st pend=>
  obtain⟨l,r,e,hc,h1,h2,h3,h4,h5,h6,h7⟩:=hb
  exact⟨l,r,e,hc,h1,h2,h3,h4,h5,h6,λi=>(hm' (row i)).1 _ (h7 i)⟩
theorem Ext.name{w':World}(he:Ext base m F n w m F n w')(hB:∀k,B=zi k->w.heap.size<=k\/∃c,m c=zi k):Ext base m F n w (λc=>if c=n then B else m c) F (n+1) w':=
 ⟨he.f,he.back,he.keep,he.size,he.sz,⟨he.ow.un,λb k hk hlt=>by
  by_cases e:b=n
  ·rw[if_pos e]at hk
   rcases hB k hk with h|h
   ·omega
   ·exact h
  ·rw[if_neg e]at hk;exact⟨b,hk⟩⟩,by omega,λb hb k hk=>by rw[if_neg (by omega)];exact he.map b hb k hk,he.calm⟩
theorem HR.name(hr:HR base m F h n w){blk:Blk}(hB:∀k,B=zi k->(base<=k/\¬F k)/\k<w.heap.size/\∀c,m c=zi k->h c=.any)
  (hh:∀c,h' c=if c=n then blk else h c)(hblk:RB F w (n+1) (λc=>if c=n then B else m c) blk B) :
  HR base (λc=>if c=n then B else m c) F h' (n+1) w:=by
 have hmap:∀b,b<n->∀k,m b=zi k->(if b=n then B else m b)=zi k:=λb hb k hk=>by
  grind
 refine⟨hr.low,hr.fdom,λc hc=>?_,λc k hk=>?_,λc hc=>?_,hr.gl,λc k hk=>?_,λc c' C h1 h2 hne=>?_⟩
 ·rw[hh c]
  by_cases e:c=n
  ·grind
  ·rw[if_neg e,if_neg e]
   exact RB_more (by omega) hmap (hr.blk c (by omega))
 ·by_cases e:c=n
  ·grind
  ·rw[if_neg e]at hk
   exact hr.dom c k hk
 ·rw[if_neg (by omega)]
  exact hr.new c (by omega)
 ·by_cases e:c=n
  ·grind
  ·rw[if_neg e]at hk
   exact hr.own c k hk
 ·rw[hh c,hh c']
  by_cases e1:c=n<;>by_cases e2:c'=n
  ·omega
  ·grind
  ·grind
  ·rw[if_neg e1]at h1
   rw[if_neg e2]at h2
   rw[if_neg e1,if_neg e2]
   exact hr.inj c c' C h1 h2 hne
end
end Go.Fw
end
