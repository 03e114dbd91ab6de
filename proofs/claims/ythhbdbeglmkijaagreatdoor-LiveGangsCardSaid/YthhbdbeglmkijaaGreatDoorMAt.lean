/- The tied card of LiveGangs. For every state and row of numbers (the table of Go's library as the program's text lays it), LiveGangs answers true and leaves its arguments as they were: no condition on the arguments; what is listed is tied by the card. -/
import Derived.Test.YthhbdbeglmkijaaGreatDoorMAp
import Derived.Test.YthhbdbeglmkijaaGreatDoorMAr
import Derived.Test.YthhbdbeglmkijaaGreatDoorMAs
import Derived.Test.YthhbdbeglmkijaaGreatDoorMAg
import Derived.Test.YthhbdbeglmkijaaGreatDoorMAk
import Derived.Test.YthhbdbeglmkijaaGreatDoorRows
import Derived.JoinedOf
import Derived.LaidLaws
import Derived.Test.YthhbdbeglmkijaaGreatDoorMAh
import Derived.Lib.LaidTab
import Derived.LaidSub
import Derived.FnData
import Derived.Test.YthhbdbeglmkijaaGreatDoorMAq
import Derived.Test.YthhbdbeglmkijaaGreatDoorTie
import Derived.Test.YthhbdbeglmkijaaGreatDoorCards
import Derived.JoinedTies
import Derived.LaidHandle
import Derived.SevenTiedAt
import Derived.Stop.Joined
set_option maxRecDepth 100000
set_option linter.unusedVariables false
set_option linter.unusedSimpArgs false
noncomputable section
open Bool renaming false→za,true→ze
open Go.Fw.V renaming agg→zJ,cons→zf,rsl→zl,int→zn,nil→zh,bool→zC
open Option renaming none→zm,some→zi
open Int renaming toNat→zk
open Go.IntKind renaming wrap→zD,bits→zY,i64→zA
open And renaming intro→zy
open Nat renaming beq→zq,blt→zG,ble→zK,zero_add→zX,not_lt_zero→yB,le_refl→zI,eq_or_lt_of_le→yG
namespace Go.Proofs.YthhbdbeglmkijaaGreatDoor
open Go.Fw
def k_short(a e:Za):Con:=Yd 8 (λ_=>.cons (.agg (Z7 za a)) .nil) (λ_=>.agg (Z7 za e)) (λ_=>True)
theorem Zqo(a:Za):(k_short a (WY a)).Ok P:=Yf λ_ _=>Zrp a
structure DoA where
 n:Za
 k:Int
 e:Int
def doV(r:DoA):V:=.tup (.cons (.agg (Z7 za r.n)) (.cons (.int za .i64 r.k) (.cons (.int za .i64 r.e) .nil)))
def k_on(n:Za)(c:Int->Int)(o:Int->Bool):Con:=Yd 14 (λx=>.cons (.agg (Z7 za n)) (.cons (.int za .i64 x.tl.hd.toInt) .nil)) (λx=>.tup (.cons (.int za .i64 (c x.tl.hd.toInt)) (.cons (.bool za (o x.tl.hd.toInt)) .nil))) (λ_=>True)
theorem k_on_ok{n:Za}(h:small n):(k_on n (G8 n) (Ju n)).Ok P:=Yf λx _=>on_meets n _ h
def memV(k:Int)(n:Nat)(r:Nat->DT3):V:=zJ (.cons (.int za .i64 k) (.cons (.int za .i64 0) (.cons (.int za .i64 0) (.cons (.int za .i64 0) (.cons (.int za .i64 0) (.cons (.int za .i64 0) (.cons (.int za .i64 0) (.cons (.int za .i64 0) (.cons (.int za .i64 0) (.cons (.int za .u32 0) (.cons (.int za .u32 0) (.cons (.int za .u32 0) (.cons (.rsl za 1 n λj=>ZK za (r j)) .nil)))))))))))))
theorem few_tree(k:Int)(n:Nat)(r:Nat->DT3):ZT (Zl P [UR] [] ze) 400 11 (.cons (memV k n r) .nil)=.need (zf (.rsl za 1 n λj=>ZK za (r j)) (zf (.int za .i64 17) .nil)=zf (.rsl za 1 n λj=>ZK za (r j)) (zf (.int za .i64 17) .nil)/\True) (.leaf (memV k (ZU 17 n) r)):=by kernel_rfl
theorem few_meets(k:Int)(n:Nat)(r:Nat->DT3):Zh P 11 (.cons (memV k n r) .nil) (memV k (ZU 17 n) r):=by
 refine meets (Zw hm hn (l:=[UR]) ⟨ZhD,trivial⟩ (ls:=[]) trivial ze) 400 (Has.of hn Tryz.func11 rfl) (few_tree k n r) ?_
 exact⟨⟨rfl,trivial⟩,rfl,rfl⟩
def c_few:Con:=Yd 11 (λx=>.cons (memV x.hd.inner.hd.toInt (x.hd.inner.nth 12).Zi (λj=>Zx ((x.hd.inner.nth 12).Zn j))) .nil) (λx=>memV x.hd.inner.hd.toInt (ZU 17 (x.hd.inner.nth 12).Zi) (λj=>Zx ((x.hd.inner.nth 12).Zn j))) (λ_=>True)
theorem c_few_ok:c_few.Ok P:=Yf λx _=>few_meets _ _ _
def doG(a:Za)(c:V):V:=.cons (.agg (Z7 za a)) (.cons c .nil)
def k_DoG(e:Za)(n:Nat)(b:Nat->DT3)(r r2:DoA)(p:Prop):Con:={ g:=10,al:=ze,ans:=λx=>bif x.known then zm else zi (bif x.tl.hd.inner.hd.toInt==5 then .where_ (sR x (doG e (chgF n b))) (doV r)else .where_ (sR x (doG r.n (chgP r.k))/\p) (doV r2)) }
theorem k_DoG_ok{e:Za}{n:Nat}{b:Nat->DT3}{r r2:DoA}{p:Prop}(h1:Zh P 10 (doG e (chgF n b)) (doV r))(h2:p->Zh P 10 (doG r.n (chgP r.k)) (doV r2)):(k_DoG e n b r r2 p).Ok P:=by
 intro x
 show match(bif x.known then zm else zi (bif x.tl.hd.inner.hd.toInt==5 then Ans.where_ (sR x (doG e (chgF n b))) (doV r)else .where_ (sR x (doG r.n (chgP r.k))/\p) (doV r2)))with
  |some (.sure v)=>Zh P 10 x v
  |some (.where_ p v)=>p->Zh P 10 x v
  |some (.fork b v v')=>(b=ze->Zh P 10 x v)/\(b=za->Zh P 10 x v')
  |none=>True
 cases x.known with
 |true=>trivial
 |false=>
  cases(x.tl.hd.inner.hd.toInt==5)
  ·exact λhp=>⟨(h2 hp.2).1,λF w xs hfd hgl ha=>(h2 hp.2).2 F w xs hfd hgl ((sR_R x _ hp.1 0 _).2 _ ha)⟩
  ·exact λhp=>⟨h1.1,λF w xs hfd hgl ha=>h1.2 F w xs hfd hgl ((sR_R x _ hp 0 _).2 _ ha)⟩
abbrev lawG(Ck:Za->Int)(a e:Za)(n:Nat)(b:Nat->DT3)(r r2:DoA)(p:Prop)(Oc:Int->Int)(Oi:Int->Bool)(Sm:Zc->Zc->Bool):List Con:=[ZhS,k_short a e,Vd Ck,c_few,k_DoG e n b r r2 p,k_on r2.n Oc Oi,Zj4 Sm]
abbrev lg_ts(m:Za)(n:Nat)(b:Nat->DT3)(Oc:Int->Int)(Oi:Int->Bool)(i:Int)(z:Unit):V:=(.cons (.bool ze za) (.cons (.ptr ze 15 0 0 0) (.cons (.rsl za 1 n (λj=>ZK za (b j))) (.cons (.int za .i64 ((n:Nat):Int)) (.cons (.int za .i64 i) .nil)))))
abbrev lg_ys(m:Za)(n:Nat)(b:Nat->DT3)(Oc:Int->Int)(Oi:Int->Bool)(i:Int)(z:Unit):List Blk:=[.var (Z7 za m)]
def lg_R(m:Za)(n:Nat)(b:Nat->DT3)(Oc:Int->Int)(Oi:Int->Bool)(i:Int)(z:Unit):Tree Rd:=
 let q0:=(ci m.f0 (zf (zl za 2 m.n1 λj=>Z9 za (m.3 j)) (zf (zl za 1 m.n2 λj=>zf (zn za .u32 (m.5 j).f0) zh) (zf (zl za 4 m.n3 λj=>Zv za (m.7 j)) (zf (zl za 4 m.n4 λj=>Zt za (m.9 j)) (zf (zl za 2 m.n5 λj=>ci (m.11 j).f0 (zf (zl za 1 (m.11 j).n1 λj_1=>ci ((m.11 j).r1 j_1).f0 zh) zh)) (zf (zl za 11 m.n6 λj=>Zy za (m.13 j)) (zf (zl za 2 m.n7 λj=>Z0 za (m.15 j)) (zf (zl za 5 m.n8 λj=>ZP za (m.17 j)) (ci m.f9 (zf (zl za 2 m.n10 λj=>ZC za (m.20 j)) (zf (zl za 3 m.n11 λj=>ZF za (m.22 j)) (zf (zl za 2 m.n12 λj=>ZB za (m.24 j)) (zf (zn za .u64 m.f13) zh))))))))))))))
 let q1:=(zl za 1 n λjj=>ci (b jj).f0 zh)
 let q2:=(ci (b (zk i)).f0 zh)
 Tree.need (((0:Int)<=i/\i<(n:Int))/\zf (zJ q0) q2=zf (zJ q0) q2/\True) (Tree.node (bif bif Oi (b (zk i)).f0 then ze else za then ze else za) (Tree.leaf (Ex.ret,ze,zf (zC ze za) (zf (pt 15) (zf q1 (ci (n:Int) (ci i zh)))),[Blk.var q0])) (Tree.leaf (Ex.normal,ze,zf (zC ze za) (zf (pt 15) (zf q1 (ci (n:Int) (ci (zD .i64 (i+(1:Int))) zh)))),[Blk.var q0])))
theorem lg_round(m:Za)(n:Nat)(b:Nat->DT3)(Oc:Int->Int)(Oi:Int->Bool):Yi P (Zl P [k_on m Oc Oi] [] ze) 5 13 16 16 76 [4,9,62,63,64] [(15,.own)] [] (lg_ts m n b Oc Oi) (lg_ys m n b Oc Oi) (λi=>(bif decide (i<(n:Int))then za else ze)) (.exit 0) (lg_R m n b Oc Oi):=λB i z=>by kernel_rfl
def lg_bad(m:Za)(n:Nat)(b:Nat->DT3)(Oc:Int->Int)(Oi:Int->Bool)(k:Nat):Bool:=(λ(i:Int)(z:Unit)=>(bif bif bif Oi (b (zk i)).f0 then ze else za then ze else za then ze else za)) k ()
abbrev lg_ets(m:Za)(n:Nat)(b:Nat->DT3)(Oc:Int->Int)(Oi:Int->Bool)(i:Int)(z:Unit):V:=(.cons (zC ze za) (.cons (V.ptr ze 15 0 0 0) (.cons (zl za 1 n λjj=>zf (zn za .i64 (b jj).f0) zh) (.cons (zn za .i64 (n:Int)) (.cons .junk .nil)))))
def lg_lp(m:Za)(n:Nat)(b:Nat->DT3)(Oc:Int->Int)(Oi:Int->Bool):Lp:=lpL 5 13 16 16 76 [4,9,62,63,64] [(15,.own)] [] (lg_ts m n b Oc Oi) (lg_ys m n b Oc Oi) (.exit 0) .ret () (λ_=>()) (lg_bad m n b Oc Oi) (n) (lg_ets m n b Oc Oi) (lg_ys m n b Oc Oi)
def lg_need(m:Za)(n:Nat)(b:Nat->DT3)(Oc:Int->Int)(Oi:Int->Bool):Prop:=YC 16 [] (lg_ts m n b Oc Oi) (lg_ys m n b Oc Oi) () (lg_ts m n b Oc Oi (0:Nat) ()) (lg_ys m n b Oc Oi (0:Nat) ())
theorem lg_fit(m:Za)(n:Nat)(b:Nat->DT3)(Oc:Int->Int)(Oi:Int->Bool):lg_need m n b Oc Oi:=⟨rfl,⟨rfl,trivial⟩⟩
theorem lg_lp_ok(m:Za)(n:Nat)(b:Nat->DT3)(Oc:Int->Int)(Oi:Int->Bool)(ho:(k_on m Oc Oi).Ok P)(hl:n<=1000):(lg_lp m n b Oc Oi).Ok P:=by
 refine YR ((Zw hm hn (l:=[k_on m Oc Oi]) ⟨ho,trivial⟩ (ls:=[]) trivial ze)) rfl (by kernel_rfl) (lg_round m n b Oc Oi) exN Yv (λ_=>rfl) (step:=λ_ z=>z) (rd:=(λ_ t y=>())) (λi z=>rfl) (λi=>(cC rfl rfl)) rfl (λi hlt hg=>?_) (λi z hi=>?_)
 ·have hltI:(i:Int)<((n:Nat):Int):=by omega
  refine⟨?_,⟨λhb0=>trivial,λhb0=>trivial⟩⟩
  all_goals(repeat'(first|exact rfl|exact λ_=>⟨rfl,rfl⟩|apply zy|intro _))
  all_goals(try simp only[decide_eq_true_eq,decide_eq_false_iff_not,Bool.not_eq_true',Bool.not_eq_false']at*)
  all_goals(try simp(disch:=omega) only[IntWalk.i64_in])
  all_goals(first|omega)
 ·have hw:=(IntWalk.i64_in ((i:Int)+1) ⟨by omega,by omega⟩)
  refine⟨?_,?_⟩
  all_goals(first|exact⟨rfl,Yq (ts:=lg_ts m n b Oc Oi) (a:=()) hw rfl,Z5 _⟩|exact⟨rfl,rfl,(by repeat'(first|exact Le.refl _|exact Le.junk _ rfl|apply Le.cons)),Z5 _⟩)
end Go.Proofs.YthhbdbeglmkijaaGreatDoor
namespace Go.Proofs.YthhbdbeglmkijaaGreatDoor.liveGangs
open Go
theorem Xk{a b:Bool}(ha:a=ze)(hb:b=ze):(a&&b)=ze:=by rw[ha,hb];rfl
theorem fact0:(Rows.liveGangsRow.wf (OpenSpec.ofChange Rows.liveGangsSpec))=ze:=by kernel_rfl
theorem fact1:(laidOutB Tryz.prog)=ze:=by kernel_rfl
theorem fact2:(mapsRowed Tryz.prog)=ze:=by kernel_rfl
theorem fact3:(Tryz.f5.params.all (Tryz.prog.readableRec ·))=ze:=by kernel_rfl
theorem fact4:(namedTie Tryz.prog Rows.liveGangsRow.named Rows.liveGangsSpec.vars)=ze:=by kernel_rfl
theorem fact5:(Rows.liveGangsRow.stops==[])=ze:=by kernel_rfl
theorem fact6:(Tryz.prog.stops==[])=ze:=by kernel_rfl
theorem fact7:(Rows.liveGangsRow.knobs==[])=ze:=by kernel_rfl
theorem fact8:(Tryz.prog.stopKnobs==[])=ze:=by kernel_rfl
theorem fact9:(Rows.liveGangsRow.inPlace==Tryz.prog.inPlace 5)=ze:=by kernel_rfl
theorem fact10:(Rows.liveGangsRow.unfollowed==Tryz.prog.unfollowed 5)=ze:=by kernel_rfl
theorem fact11:(Rows.liveGangsRow.recurses==Tryz.prog.recurses 5)=ze:=by kernel_rfl
theorem fact12:(Rows.liveGangsRow.named==Tryz.prog.varsNamed 5)=ze:=by kernel_rfl
theorem fact13:(Rows.liveGangsRow.maps==(Tryz.f5.params.toList++Rows.liveGangsSpec.plain.varTypes Tryz.prog).any (Tryz.prog.mapsRec ·))=ze:=by kernel_rfl
theorem fact14:(Rows.liveGangsRow.ifaces==(Tryz.f5.params.toList++Rows.liveGangsSpec.plain.varTypes Tryz.prog).any (Tryz.prog.ifacesRec ·))=ze:=by kernel_rfl
theorem fact15:(Rows.liveGangsRow.mapsOut==Tryz.prog.mapsAmong Tryz.f5.resultTypes.toList)=ze:=by kernel_rfl
theorem fact16:(Rows.liveGangsRow.loops==(Tryz.f5.params.toList++Rows.liveGangsSpec.plain.varTypes Tryz.prog).any (Tryz.prog.loopsFrom ·))=ze:=by kernel_rfl
theorem fact17:(Rows.liveGangsRow.wideKeys==(Tryz.f5.params.toList++Rows.liveGangsSpec.plain.varTypes Tryz.prog++Tryz.f5.resultTypes.toList).any (Tryz.prog.wideKeysFrom ·))=ze:=by kernel_rfl
theorem fact18:(Rows.liveGangsSpec.vars.all (Tryz.prog.varReadable ·))=ze:=by kernel_rfl
theorem fact19:(Tryz.f5.resultTypes.all (λt=>Tryz.prog.readableRec t&&decide (t<Tryz.prog.types.size)))=ze:=by kernel_rfl
theorem fact20:(Rows.liveGangsRow.ifacesOut==Tryz.f5.resultTypes.toList.any (Tryz.prog.ifacesRec ·))=ze:=by kernel_rfl
theorem fact21:(Rows.liveGangsRow.loopsOut==Tryz.f5.resultTypes.toList.any (Tryz.prog.loopsFrom ·))=ze:=by kernel_rfl
theorem fact22:(Rows.liveGangsRow.plainKeys==Tryz.prog.plainKeys)=ze:=by kernel_rfl
theorem fact23:(Rows.liveGangsRow.shortTexts.isNone)=ze:=by kernel_rfl
theorem fact24:(Tryz.prog.stopsHeard)=ze:=by kernel_rfl
theorem fact25:(Tryz.prog.mayEnter)=ze:=by kernel_rfl
theorem fact26:(Rows.liveGangsRow.lifted==Tryz.prog.liftsFinal)=ze:=by kernel_rfl
theorem fact27:(Tryz.prog.make==zi Rows.liveGangsRow.make)=ze:=by kernel_rfl
theorem fact28:(Rows.liveGangsRow.kinds==(if Rows.liveGangsRow.domain.isEmpty then []else Tryz.f5.params.toList.map λt=>match Tryz.prog.underlying t with|some (.int k)=>zi k|_=>zm))=ze:=by kernel_rfl
theorem fact29:(Rows.liveGangsRow.pinned==Rows.liveGangsRow.pinnedBy)=ze:=by kernel_rfl
theorem fact30:(Rows.liveGangsRow.veiled==(Tryz.f5.params.toList++Rows.liveGangsSpec.plain.varTypes Tryz.prog++Tryz.f5.resultTypes.toList).any (Tryz.prog.veiledRec ·))=ze:=by kernel_rfl
theorem fact31:(Rows.liveGangsRow.veiledFits Tryz.prog Tryz.f5.params.toList (Tryz.f5.params.toList++Rows.liveGangsSpec.plain.varTypes Tryz.prog++Tryz.f5.resultTypes.toList))=ze:=by kernel_rfl
theorem closed:joinedFacts Tryz.prog 5 Tryz.f5 Rows.liveGangsSpec Rows.liveGangsRow=ze:=
 (Xk (Xk (Xk (Xk (Xk (Xk (Xk (Xk (Xk (Xk (Xk (Xk (Xk (Xk (Xk (Xk (Xk (Xk (Xk (Xk (Xk (Xk (Xk (Xk (Xk (Xk (Xk (Xk (Xk (Xk (Xk fact0 fact1) fact2) fact3) fact4) fact5) fact6) fact7) fact8) fact9) fact10) fact11) fact12) fact13) fact14) fact15) fact16) fact17) fact18) fact19) fact20) fact21) fact22) fact23) fact24) fact25) fact26) fact27) fact28) fact29) fact30) fact31)
end Go.Proofs.YthhbdbeglmkijaaGreatDoor.liveGangs
namespace Go.Proofs.YthhbdbeglmkijaaGreatDoor
open Go.Fw
variable{n:Nat}
theorem tabRow_RL{F:Nat->Prop}{w:World}{m:Nat->Option Nat}(k:IntKind):∀zs:List Int,RL F w (Zae k zs) n m (zs.map (Value.int k)):=by
 intro zs
 induction zs with
 |nil=>simp only[Zae,List.map_nil,RL]
 |cons z zs ih=>simp only[Zae,List.map_cons,RL,R];exact⟨_,_,rfl,rfl,ih⟩
theorem tab_R{W:World}{g:Nat}{k:IntKind}{zs:List Int}{name:String}(hg:P.globalNamed name=zi g)(hn:zs.length=n)(h:Lib.TabIs P W name k zs) :
  R (λB=>B<W.heap.size) W (.rptr ze n 1 (λ_=>Zae k zs) 0 0) 0 (λ_=>zm) (.pointer (zi ⟨g,0,zm⟩))/\exactAt (λB=>B<W.heap.size) W g (.rptr ze n 1 (λ_=>Zae k zs) 0 0):=by
 unfold Lib.TabIs World.var? at h
 rw[hg]at h
 simp only[Option.bind_some]at h
 split at h
 ·rename_i cs el fr hc
  injection h with h
  refine⟨?_,Zdg hc,cs,el,fr,hc,by rw[h];simpa using hn⟩
  rw[JE]
  refine⟨by decide,g,0,by simp,Zdg hc,cs,el,fr,hc,λj hj=>⟨zs.map (Value.int k),tabRow_RL k zs,by simpa using hn,λq _=>?_⟩⟩
  have:j=0:=by omega
  subst this
  rw[h]
  simp
 ·cases h
theorem gok_of{laid:List (String×DataW Unit)}{W:World}(hL:laidMetH P laid W)
  (h0 : (laid.filter λx=>x.1== "math/bits.deBruijn32tab")=[("math/bits.deBruijn32tab",Lib.tabData .u8 tab0)]) : GOk (λB=>B<W.heap.size) W:=by
 have a0:=laidMetH.filter (λx=>x.1== "math/bits.deBruijn32tab") hL
 rw[h0]at a0
 have a0 : laidMet P [("math/bits.deBruijn32tab",Lib.tabData .u8 tab0)] W:=a0
 intro g v hg
 unfold glob at hg
 split at hg
 ·injection hg with hg;subst hg
  exact⟨rfl,tab_R (name:= "math/bits.deBruijn32tab") (by kernel_rfl) (by kernel_rfl) (Lib.tabIs_of_head (g:=0) (t:=348) (e:=5) (n:=32) (by kernel_rfl) (by kernel_rfl) (by kernel_rfl) (by kernel_rfl) (by kernel_rfl) (by kernel_rfl) a0)⟩
 ·cases hg
section
variable(d:Za)(p:Zj)(gu:Zf)(ga:Zc)(no:Nat)(orr:Nat->Zq)(np:Nat)(pr:Nat->ZA)(sa la:Int)(gn:Nat)(gr:Nat->DT3)
def Ut(z:OfZ)(k:Nat):Bool:=bif decide (ofX no z k<(0:Int))then ze else !YU gn gr (z.2.1 (0+k)).f0
theorem ofm_eq(k:Nat)(z:OfZ):Zbs d p gu ga no orr np pr sa la gn gr XJ YU k z=bif (bif Ut no gn gr z k then ze else za)then z else bif (bif z.1==Jt then ze else za)then z else(zD .u64 (z.1+1),Kr z k,Zbr no z k,KY no z k):=by kernel_rfl
theorem ofmb_eq(k:Nat):G6 d p gu ga no orr np pr sa la gn gr XJ YU k=bif (bif Ut no gn gr (XD d p gu ga no orr np pr sa la gn gr XJ YU k) k then ze else za)then za else bif (bif (XD d p gu ga no orr np pr sa la gn gr XJ YU k).1==Jt then ze else za)then ze else za:=by kernel_rfl
end
theorem beqF_of{a b:Nat}(h:a≠b):zq a b=za:=by
 cases e:zq a b
 ·rfl
 ·exact absurd (Nat.eq_of_beq_eq_true e) h
theorem Zht{a b:Nat}(h:¬a<b):zG a b=za:=by
 cases e:zG a b
 ·rfl
 ·exact absurd (by simpa only[Nat.blt_eq]using e) h
theorem Zat{a b:Nat}(h:a<b):zG a b=ze:=by simpa only[Nat.blt_eq]using h
theorem ZeU{a b:Nat}(h:¬a<=b):zK a b=za:=by
 cases e:zK a b
 ·rfl
 ·exact absurd (by simpa only[Nat.ble_eq]using e) h
theorem bleT_of{a b:Nat}(h:a<=b):zK a b=ze:=by simpa only[Nat.ble_eq]using h
theorem ofX_cases(no:Nat)(z:OfZ)(k:Nat):(ofX no z k<0/\∀i,i<z.2.2.1->(z.2.2.2 i).f0≠(z.2.1 k).f0)\/∃i,i<z.2.2.1/\ofX no z k=(i:Int)/\(z.2.2.2 i).f0=(z.2.1 k).f0:=by
 have hb:KF z.2.2.1 (λj=>z.2.2.2 (0+j)) no (λj=>z.2.1 j) (0+k)=λi=>(z.2.2.2 i).f0==(z.2.1 k).f0:=by
  funext i
  have e:KF z.2.2.1 (λj=>z.2.2.2 (0+j)) no (λj=>z.2.1 j) (0+k) i=bif (bif (bif (z.2.2.2 (0+i)).f0==(z.2.1 (0+k)).f0 then ze else za)then ze else za)then ze else za:=by kernel_rfl
  rw[e,zX,zX]
  cases(z.2.2.2 i).f0==(z.2.1 k).f0<;>rfl
 have hx:ofX no z k=bif Zp (λi=>(z.2.2.2 i).f0==(z.2.1 k).f0) z.2.2.1 then((ZN (λi=>(z.2.2.2 i).f0==(z.2.1 k).f0) z.2.2.1 0:Nat):Int)else -1:=by
  unfold ofX
  rw[Zlp,hb]
 rw[hx]
 cases ha:Zp (λi=>(z.2.2.2 i).f0==(z.2.1 k).f0) z.2.2.1 with
 |false=>
  refine .inl ⟨by show(-1:Int)<0;omega,λi hi e=>?_⟩
  have:=Y7 ha i hi
  rw[e]at this;simp at this
 |true=>
  have hf:=ZfL ha
  exact .inr ⟨_,hf.1,rfl,eqT hf.2.1⟩
theorem Zdu(z:OfZ)(k:Nat):Kr z k k={ z.2.1 k with f8:=zD .u64 (z.1+1),f9:=0 }:=by
 unfold Kr
 rw[zX,Nat.beq_refl]
 rfl
variable{k j:Nat}
theorem GY(z:OfZ)(h:j≠k):Kr z k j=z.2.1 j:=by
 unfold Kr
 rw[zX,beqF_of h]
 rfl
variable{i:Nat}
theorem ZlX{no:Nat}{z:OfZ}(hx:ofX no z k=(i:Int))(hi:i<z.2.2.1)(hn:z.2.2.1<=100):Zbr no z k=z.2.2.1-1:=by
 unfold Zbr
 rw[hx,IntWalk.i64_in _ ⟨by omega,by omega⟩]
 omega
theorem ofPut_at{no:Nat}{z:OfZ}(hx:ofX no z k=(i:Int))(hi:i<z.2.2.1)(hn:z.2.2.1<=100)(hj:j<z.2.2.1-1):KY no z k j=z.2.2.2 (if j<i then j else j+1):=by
 have hl:=ZlX hx hi hn
 unfold KY
 rw[hl,hx,IntWalk.i64_in ((i:Int)+1) ⟨by omega,by omega⟩]
 simp only[Int.toNat_natCast,zX]
 rw[ZeU (show ¬z.2.2.1-1<=j by omega)]
 have e1:zk ((i:Int)+1)=i+1:=by omega
 rw[e1]
 by_cases hji:j<i
 ·rw[ZeU (show ¬i<=j by omega),if_pos hji]
  rfl
 ·rw[bleT_of (show i<=j by omega),Zat (show j<i+(z.2.2.1-(i+1))by omega),if_neg hji]
  rw[show i+1+(j-i)=j+1 by omega,Zat (show j+1<z.2.2.1 by omega)]
  rfl
section
variable{d:Za}{p:Zj}{gu:Zf}{ga:Zc}{no:Nat}{orr:Nat->Zq}{np:Nat}{pr:Nat->ZA}{sa la:Int}{gn:Nat}{gr:Nat->DT3}
variable(no orr np pr la gn gr)in
structure OfI(k:Nat)(z:OfZ):Prop where
 sub:∃e:Nat->Nat,(∀i,i<z.2.2.1->e i<np/\z.2.2.2 i=pr (e i))/\∀i j,i<j->j<z.2.2.1->e i<e j
 kept:∀i,i<np->(∃j,j<z.2.2.1/\z.2.2.2 j=pr i)\/YU gn gr (pr i).f0=ze
 gone:∀i,i<z.2.2.1->∀j,j<k->(orr j).f0=(z.2.2.2 i).f0->YU gn gr (orr j).f0=za
 own:∀j,z.2.1 j=orr j\/(j<k/\∃o,la<o/\o<=z.1/\z.2.1 j={ orr j with f8:=o,f9:=0 })
 ord:∀i j,i≠j->i<no->j<no->(z.2.1 i).f8≠(z.2.1 j).f8
 top:∀j,j<no->(z.2.1 j).f8<=z.1
 off:∀j i,j<no->i<np->(pr i).f0=(orr j).f0->(∃i,i<z.2.2.1/\(z.2.2.2 i).f0=(orr j).f0)\/(z.2.1 j).f9=0
 low:la<=z.1/\z.1<=Jt
 len:z.2.2.1<=np
end
section
variable{d:Za}{p:Zj}{gu:Zf}{ga:Zc}{no:Nat}{orr:Nat->Zq}{np:Nat}{pr:Nat->ZA}{sa la:Int}{gn:Nat}{gr:Nat->DT3}
variable(d p gu ga no orr np pr sa la gn gr)in
abbrev G5(k:Nat):OfZ:=XD d p gu ga no orr np pr sa la gn gr XJ YU k
theorem ofm_inv(hnp:np<=100)(hla:0<=la/\la<=Jt)(hid:∀i j,i<no->j<no->(orr i).f0=(orr j).f0->i=j)(hv:∀i j,i<np->j<np->(pr i).f0=(pr j).f0->i=j)
  (ho:∀i j,i≠j->i<no->j<no->(orr i).f8≠(orr j).f8)(ht:∀j,j<no->(orr j).f8<=la):∀k,k<=no->(∀i,i<k->G6 d p gu ga no orr np pr sa la gn gr XJ YU i=za)->OfI no orr np pr la gn gr k (G5 d p gu ga no orr np pr sa la gn gr k):=by
 intro k
 induction k with
 |zero=>intro _ _;exact⟨⟨id,λi hi=>⟨hi,rfl⟩,λi j h _=>h⟩,λi hi=>.inl ⟨i,hi,rfl⟩,λi _ j hj=>absurd hj (yB _),λj=>.inl rfl,ho,ht,λj i _ hi e=>.inl ⟨i,hi,e⟩,⟨Int.le_refl _,hla.2⟩,zI _⟩
 |succ k ih=>
  intro hk hb
  have ih:=ih (by omega) (λi hi=>hb i (by omega))
  have hbk:=hb k (by omega)
  show OfI no orr np pr la gn gr (k+1) (Zbs d p gu ga no orr np pr sa la gn gr XJ YU k (G5 d p gu ga no orr np pr sa la gn gr k))
  rw[ofm_eq]
  rw[ofmb_eq]at hbk
  change (bif (bif Ut no gn gr (G5 d p gu ga no orr np pr sa la gn gr k) k then ze else za)then za else bif (bif (G5 d p gu ga no orr np pr sa la gn gr k).1==Jt then ze else za)then ze else za)=za at hbk
  generalize G5 d p gu ga no orr np pr sa la gn gr k=z at ih hbk
  have hidk:(z.2.1 k).f0=(orr k).f0:=by
   rcases ih.own k with e|⟨hl,_⟩
   ·rw[e]
   ·exact absurd hl (Nat.lt_irrefl _)
  have hkeep:Ut no gn gr z k=bif decide (ofX no z k<(0:Int))then ze else !YU gn gr (orr k).f0:=by
   unfold Ut;rw[zX,hidk]
  have hX:=ofX_cases no z k
  cases hK:Ut no gn gr z k with
  |true=>
   simp only[cond_true]
   refine⟨ih.sub,ih.kept,λi hi j hj e=>?_,λj=>?_,ih.ord,ih.top,ih.off,ih.low,ih.len⟩
   ·rcases yG (Nat.le_of_lt_succ hj)with q|q
    ·subst q
     rcases hX with⟨_,hno⟩|⟨i0,hi0,hx,_⟩
     ·exact absurd (by rw[hidk,e]) (hno i hi)
     ·rw[hK,hx,decide_eq_false (by omega)]at hkeep
      simp only[cond_false]at hkeep
      cases hc:YU gn gr (orr j).f0
      ·rfl
      ·rw[hc]at hkeep;cases hkeep
    ·exact ih.gone i hi j q e
   ·rcases ih.own j with e|⟨hl,h⟩
    ·exact .inl e
    ·exact .inr ⟨by omega,h⟩
  |false=>
   rw[hK]at hbk
   simp only[cond_false]at hbk⊢
   have hmax:(z.1==Jt)=za:=nf4 (nf4 hbk)
   rw[hmax]
   simp only[cond_false]
   rw[hK]at hkeep
   have hlt:z.1<Jt:=by
    have h1:z.1≠Jt:=λe=>by rw[e]at hmax;simp at hmax
    have:=ih.low.2;omega
   have hw:zD .u64 (z.1+1)=z.1+1:=by
    have h1:=ih.low.1
    have h2:z.1+1<=4611686018427387904:=by have:Jt=4611686018427387904:=rfl;omega
    show(z.1+1)%18446744073709551616=z.1+1
    omega
   rcases hX with⟨hx,_⟩|⟨i0,hi0,hx,hi0v⟩
   ·rw[decide_eq_true hx]at hkeep;cases hkeep
   ·rw[hx,decide_eq_false (by omega)]at hkeep
    have hG:YU gn gr (orr k).f0=ze:=by
     cases hc:YU gn gr (orr k).f0
     ·rw[hc]at hkeep;cases hkeep
     ·rfl
    have hn:z.2.2.1<=100:=by have:=ih.len;omega
    have hL:=ZlX hx hi0 hn
    have hP:∀j,j<z.2.2.1-1->KY no z k j=z.2.2.2 (if j<i0 then j else j+1):=λj hj=>ofPut_at hx hi0 hn hj
    obtain⟨e,he1,he2⟩:=ih.sub
    have hrest:∀j,j<z.2.2.1->j≠i0->∃j',j'<z.2.2.1-1/\KY no z k j'=z.2.2.2 j:=λj hj hne=>by
     by_cases h:j<i0
     ·exact⟨j,by omega,by rw[hP j (by omega),if_pos h]⟩
     ·exact⟨j-1,by omega,by rw[hP (j-1) (by omega),if_neg (by omega),show j-1+1=j by omega]⟩
    have hback:∀j,j<z.2.2.1-1->∃j',j'<z.2.2.1/\j'≠i0/\KY no z k j=z.2.2.2 j':=λj hj=>by
     rw[hP j hj]
     by_cases h:j<i0
     ·rw[if_pos h];exact⟨j,by omega,by omega,rfl⟩
     ·rw[if_neg h];exact⟨j+1,by omega,by omega,rfl⟩
    have hinj:∀i j,i<z.2.2.1->j<z.2.2.1->(z.2.2.2 i).f0=(z.2.2.2 j).f0->i=j:=λi j hi hj hq=>by
     rw[(he1 i hi).2,(he1 j hj).2]at hq
     have:=hv _ _ (he1 i hi).1 (he1 j hj).1 hq
     rcases Nat.lt_trichotomy i j with h|h|h
     ·have:=he2 i j h hj;omega
     ·exact h
     ·have:=he2 j i h hi;omega
    rw[hL,hw]
    refine⟨⟨λj=>e (if j<i0 then j else j+1),λi hi=>?_,λi j hij hj=>?_⟩,λi hi=>?_,λi hi j hj hq=>?_,λj=>?_,λi j hij hi hj=>?_,λj hj=>?_,λj i hjn hi hq=>?_,⟨?_,?_⟩,?_⟩
    ·have hi:i<z.2.2.1-1:=hi
     show e (if i<i0 then i else i+1)<np/\KY no z k i=pr (e (if i<i0 then i else i+1))
     rw[hP i hi]
     exact he1 _ (by split<;>omega)
    ·have hj:j<z.2.2.1-1:=hj
     show e (if i<i0 then i else i+1)<e (if j<i0 then j else j+1)
     exact he2 _ _ (by split<;>split<;>omega) (by split<;>omega)
    ·rcases ih.kept i hi with⟨j,hj,hq⟩|h
     ·by_cases hji:j=i0
      ·subst hji
       refine .inr ?_
       rw[<- hq,hi0v,hidk];exact hG
      ·obtain⟨j',h1,h2⟩:=hrest j hj hji
       exact .inl ⟨j',h1,by show KY no z k j'=pr i;rw[h2,hq]⟩
     ·exact .inr h
    ·have hi:i<z.2.2.1-1:=hi
     have hq2:(orr j).f0=(KY no z k i).f0:=hq
     obtain⟨j',h1,h2,h3⟩:=hback i hi
     rw[h3]at hq2
     rcases yG (Nat.le_of_lt_succ hj)with q|q
     ·subst q
      exact absurd (hinj j' i0 h1 hi0 (by rw[<- hq2,hi0v,hidk])) h2
     ·exact ih.gone j' h1 j q hq2
    ·show Kr z k j=orr j\/(j<k+1/\∃o,la<o/\o<=z.1+1/\Kr z k j={ orr j with f8:=o,f9:=0 })
     by_cases hjk:j=k
     ·subst hjk
      refine .inr ⟨by omega,z.1+1,by have:=ih.low.1;omega,Int.le_refl _,?_⟩
      rw[Zdu,hw]
      rcases ih.own j with q|⟨hl,_⟩
      ·rw[q]
      ·exact absurd hl (Nat.lt_irrefl _)
     ·rw[GY z hjk]
      rcases ih.own j with q|⟨hl,o,h1,h2,h3⟩
      ·exact .inl q
      ·exact .inr ⟨by omega,o,h1,by omega,h3⟩
    ·show(Kr z k i).f8≠(Kr z k j).f8
     by_cases hik:i=k
     ·subst hik
      rw[Zdu,GY z (Ne.symm hij)]
      show zD .u64 (z.1+1)≠(z.2.1 j).f8
      rw[hw]
      have:=ih.top j hj;omega
     ·by_cases hjk:j=k
      ·subst hjk
       rw[Zdu,GY z hij]
       show(z.2.1 i).f8≠zD .u64 (z.1+1)
       rw[hw]
       have:=ih.top i hi;omega
      ·rw[GY z hik,GY z hjk]
       exact ih.ord i j hij hi hj
    ·show(Kr z k j).f8<=z.1+1
     by_cases hjk:j=k
     ·subst hjk
      rw[Zdu]
      show zD .u64 (z.1+1)<=z.1+1
      rw[hw];exact Int.le_refl _
     ·rw[GY z hjk]
      have:=ih.top j hj;omega
    ·show(∃i,i<z.2.2.1-1/\(KY no z k i).f0=(orr j).f0)\/(Kr z k j).f9=0
     by_cases hjk:j=k
     ·subst hjk
      rw[Zdu];exact .inr rfl
     ·rw[GY z hjk]
      rcases ih.off j i hjn hi hq with⟨i1,h1,h2⟩|h
      ·by_cases hi1:i1=i0
       ·subst hi1
        exact absurd (hid j k hjn (by omega) (by rw[<- h2,hi0v,hidk])) hjk
       ·obtain⟨j',h3,h4⟩:=hrest i1 h1 hi1
        exact .inl ⟨j',h3,by rw[h4,h2]⟩
      ·exact .inr h
    ·show la<=z.1+1
     have:=ih.low.1;omega
    ·show z.1+1<=Jt
     omega
    ·show z.2.2.1-1<=np
     have:=ih.len;omega
theorem ZlY:∀k,G5 d p gu ga no orr np pr sa la 0 gr k=(la,orr,np,pr)/\(∀i,i<k->G6 d p gu ga no orr np pr sa la 0 gr XJ YU i=za):=by
 have keep:∀(z:OfZ) k,Ut no 0 gr z k=ze:=λz k=>by
  unfold Ut
  rw[ct3_no λk hk=>absurd hk (yB _)]
  cases decide (ofX no z k<(0:Int))<;>rfl
 intro k
 induction k with
 |zero=>exact⟨rfl,λi hi=>absurd hi (yB _)⟩
 |succ k ih=>
  refine⟨?_,λi hi=>?_⟩
  ·show Zbs d p gu ga no orr np pr sa la 0 gr XJ YU k (G5 d p gu ga no orr np pr sa la 0 gr k)=_
   rw[ofm_eq,keep]
   exact ih.1
  ·rcases yG (Nat.le_of_lt_succ hi)with e|e
   ·subst e
    rw[ofmb_eq,keep];rfl
   ·exact ih.2 i e
end
def ZR(e:Za)(p:Zj)(g:Zc)(o:Nat->Zq)(n:Nat)(q:Nat->ZA)(la:Int):Za:={ e with n2:=p.n0,r2:=p.r0,n5:=g.n0,r5:=g.r0,r6:=o,n12:=n,r12:=q,f13:=la }
def plS(e:Za):Zj:=⟨e.n2,e.r2⟩
def Uw(e:Za)(o:Nat->Zq):Prop:=∀j,o j=e.r6 j\/∃x,o j={ e.r6 j with f8:=x,f9:=0 }
section
variable{e:Za}{p:Zj}{g:Zc}{o:Nat->Zq}{n:Nat}{q:Nat->ZA}{la:Int}
theorem ZiN(h:Uw e o)(j:Nat):(o j).f0=(e.r6 j).f0:=by rcases h j with h|⟨x,h⟩<;>rw[h]
theorem like_st(h:Uw e o)(j:Nat):(o j).f1=(e.r6 j).f1/\(o j).f2=(e.r6 j).f2/\(o j).f3=(e.r6 j).f3/\(o j).f4=(e.r6 j).f4:=by rcases h j with h|⟨x,h⟩<;>(rw[h];exact⟨rfl,rfl,rfl,rfl⟩)
theorem ZiZ(h:Uw e o):(Zg (ZR e p g o n q la)).oh=(Zg e).oh/\(Zg (ZR e p g o n q la)).og=(Zg e).og:=by
 have hs:GQ (ZR e p g o n q la)=GQ e:=by
  funext k z
  show((λj_=>bif j_==(o k).f0 then ze else z.1 j_),(λj_=>bif j_==(o k).f0 then((k:Nat):Int)else z.2 j_))=((λj_=>bif j_==(e.r6 k).f0 then ze else z.1 j_),(λj_=>bif j_==(e.r6 k).f0 then((k:Nat):Int)else z.2 j_))
  rw[ZiN h k]
 have ha:X3 (ZR e p g o n q la) e.n6=X3 e e.n6:=by
  unfold X3;rw[hs]
 exact⟨congrArg Prod.fst ha,congrArg Prod.snd ha⟩
def stripW(d:Ze):Ze:={ d with a:={ d.a with n2:=0,r2:=λ_=>⟨0⟩,n5:=0,r5:=λ_=>XC .nil,r6:=λj=>⟨0,(d.a.r6 j).f1,(d.a.r6 j).f2,(d.a.r6 j).f3,(d.a.r6 j).f4,0,0,0,0,0,0⟩,n12:=0,r12:=λ_=>⟨0,0⟩,f13:=0 },nh:=λ_=>za,ng:=λ_=>0 }
theorem ZmJ(d:Ze):K5 d=K5 (stripW d):=by kernel_rfl
theorem ZqP(h:Uw e o):K5 (Zg (ZR e p g o n q la))=K5 (Zg e):=by
 rw[ZmJ (Zg (ZR e p g o n q la)),ZmJ (Zg e)]
 congr 1
 have h1:=ZiZ (p:=p) (g:=g) (n:=n) (q:=q) (la:=la) h
 have h6:(λj=>(⟨0,(o j).f1,(o j).f2,(o j).f3,(o j).f4,0,0,0,0,0,0⟩:Zq))=λj=>⟨0,(e.r6 j).f1,(e.r6 j).f2,(e.r6 j).f3,(e.r6 j).f4,0,0,0,0,0,0⟩:=funext λj=>by
  have:=like_st h j
  rw[this.1,this.2.1,this.2.2.1,this.2.2.2]
 show(Ze.mk { e with n2:=0,r2:=λ_=>⟨0⟩,n5:=0,r5:=λ_=>XC .nil,r6:=λj=>⟨0,(o j).f1,(o j).f2,(o j).f3,(o j).f4,0,0,0,0,0,0⟩,n12:=0,r12:=λ_=>⟨0,0⟩,f13:=0 } (Zg (ZR e p g o n q la)).oh (Zg (ZR e p g o n q la)).og (λ_=>za) (λ_=>0) (Zg e).hh (Zg e).hg)=_
 rw[h1.1,h1.2,h6]
 rfl
theorem mod_parts(h:VT (Zg e)=ze)(hp:V.toInt (Ux p)=0)(hg:YH g=0)(hla:la<=Jt):VT (Zg (ZR e p g o n q la))=ze:=by
 have h1:=Y4 h
 have h2:=Y4 h1.1
 have h3:=Y4 h2.1
 have h4:=Y4 h3.2
 have h5:=Y4 h2.2
 have h6:=Y4 h5.2
 have b1:(bif decide (e.f0>=(0:Int))then bif decide (e.f0<=(1125899906842624:Int))then decide (la<=(4611686018427387904:Int))else za else za)=ze:=by
  have c1:decide (e.f0>=(0:Int))=ze:=h3.1
  have c2:decide (e.f0<=(1125899906842624:Int))=ze:=h4.1
  have c3:decide (la<=(4611686018427387904:Int))=ze:=decide_eq_true hla
  rw[c1,c2,c3];rfl
 refine cT (cT b1 (cT h5.1 (cT ?_ h6.2))) (cT ?_ (Y4 h1.2).2)
 ·show(V.toInt (Ux p)==(0:Int))=ze
  rw[hp];rfl
 ·show(YH g==(0:Int))=ze
  rw[hg];rfl
theorem ZqN(hf:ZL e=0)(h3:e.n3<=1000)(h4:e.n4<=1000)(hp:V.toInt (VI p)=V.toInt (VI (plS e)))(hn:e.n2<=p.n0)(hm:∀j,j<e.n4->mayV p e j≠0):UA (Zg (ZR e p g o n q la))=ze:=by
 have h:=(WM hf).2.1
 have h1:=fT h
 have h2:=fT h1.2
 have b1:(bif (bif V.toInt (VI p) != V.toInt (ZdS ⟨e.n1,e.r1⟩)then ze else((e.n7:Nat):Int) != ((e.n3:Nat):Int))then ze else za)=za:=by
  rw[hp];exact h1.1
 refine cF b1 (cF ?_ (cF ?_ rfl))
 ·have e0:=Y7 (nf4 h2.1)
  have b2:Zp (Jr (Zg (ZR e p g o n q la))) e.n3=za:=Qv λk hk=>by
   have g:=orF (e0 k hk)
   have gp:=(ZkT hf k hk).2
   refine cF (decide_eq_false ?_) g.2
   show ¬(e.r3 k).f3>=((p.n0:Nat):Int)
   omega
  show(bif Zp (Jr (Zg (ZR e p g o n q la))) e.n3 then ze else za)=za
  rw[b2];rfl
 ·have b3:Zp (GD (Zg (ZR e p g o n q la))) e.n4=za:=Qv λk hk=>by
   have eq:GD (Zg (ZR e p g o n q la)) k=bif (bif (bif Qd (Wu (guO e) (e.r4 k).f0) (p.r0 (zk (e.r3 (zk (Xy (Zg e) (e.r4 k).f0))).f3)).f0==(0:Int)then ze else za)then ze else za)then ze else za:=by kernel_rfl
   rw[eq,Zbn hf h3 h4 p hk]
   have:=hm k hk
   simp[this]
  show(bif Zp (GD (Zg (ZR e p g o n q la))) e.n4 then ze else za)=za
  rw[b3];rfl
end
def own2(w:Zq):Bool:=(bif bif bif !bif decide (w.f1>=(0:Int))then bif decide (w.f1<=(3:Int))then bif decide (w.f2>=(0:Int))then bif decide (w.f2<=(15:Int))then bif decide (w.f4>=(0:Int))then decide (w.f4<=(1125899906842624:Int))else za else za else za else za else za then ze else !(bif w.f3 != (0:Int)then ze else w.f4 != (0:Int))==(w.f1==(3:Int))then ze else za then(270:Int)else(0:Int))==(0:Int)
def own3(w:Zq):Bool:=(bif bif bif bif bif !bif decide (w.f7>=(1:Int))then decide (w.f7<=(65535:Int))else za then ze else decide (w.f5>=(68719476736:Int))then ze else za then ze else za then ze else za then(150:Int)else(0:Int))==(0:Int)
theorem ZcX{a:Za}(h:ZL a=0):∀k,k<a.n6->Uv (Zg a) k=za:=Y7 (nf4 (fT (fT (WM h).2.2.1).2).1)
theorem ZgF{d:Ze}(h:Uv d k=za):(bif (Xz d k).1 (d.a.r6 k).f8 then(Xz d k).2 (d.a.r6 k).f8 else za)=za/\(d.a.r6 k).f8<=d.a.f13/\
  Xz d (k+1)=((λj=>bif j==(d.a.r6 k).f8 then ze else(Xz d k).1 j),(λj=>bif j==(d.a.r6 k).f8 then ze else(Xz d k).2 j)):=by
 have h1:=QS rfl h
 have h2:=QS rfl h1.2
 have h3:=QS rfl h2.2
 have h4:=QS rfl h3.2
 have h5:=QS rfl h4.2
 have h6:=QS rfl h5.2
 have h7:=QS rfl h6.2
 have h8:=nf4 h7.2
 refine⟨?_,of_decide_eq_true h5.1,?_⟩
 ·have:=h4.1
  revert this
  show(!bif (Xz d k).1 (d.a.r6 k).f8 then(Xz d k).2 (d.a.r6 k).f8 else za)=ze->_
  cases(bif (Xz d k).1 (d.a.r6 k).f8 then(Xz d k).2 (d.a.r6 k).f8 else za)
  ·exact λ_=>rfl
  ·intro q;cases q
 ·exact cT h1.1 (cT h2.1 (cT h3.1 (cT h4.1 (cT h5.1 (cT h6.1 (cT h7.1 (cF h8 rfl)))))))
theorem own_met{a:Za}(h:ZL a=0):∀k,k<=a.n6->((Xz (Zg a) k).1 0=ze/\(Xz (Zg a) k).2 0=ze)/\∀j,j<k->(Xz (Zg a) k).1 (a.r6 j).f8=ze/\(Xz (Zg a) k).2 (a.r6 j).f8=ze:=by
 intro k
 induction k with
 |zero=>intro _;exact⟨⟨rfl,rfl⟩,λj hj=>absurd hj (yB _)⟩
 |succ k ih=>
  intro hk
  have ih:=ih (by omega)
  have ht:=ZgF (ZcX h k (by omega))
  rw[ht.2.2]
  have up:∀x,(Xz (Zg a) k).1 x=ze/\(Xz (Zg a) k).2 x=ze->(bif x==(a.r6 k).f8 then ze else(Xz (Zg a) k).1 x)=ze/\(bif x==(a.r6 k).f8 then ze else(Xz (Zg a) k).2 x)=ze:=λx hx=>by
   rw[hx.1,hx.2];cases x==(a.r6 k).f8<;>exact⟨rfl,rfl⟩
  refine⟨up 0 ih.1,λj hj=>?_⟩
  rcases yG (Nat.le_of_lt_succ hj)with e|e
  ·subst e
   show(bif (a.r6 j).f8==(a.r6 j).f8 then ze else _)=ze/\(bif (a.r6 j).f8==(a.r6 j).f8 then ze else _)=ze
   simp
  ·exact up _ (ih.2 j e)
theorem ZkS{a:Za}(h:ZL a=0):(∀j,j<a.n6->(a.r6 j).f8≠0/\(a.r6 j).f8<=a.f13)/\∀i j,i≠j->i<a.n6->j<a.n6->(a.r6 i).f8≠(a.r6 j).f8:=by
 have ap:∀i j,i<j->j<a.n6->(a.r6 i).f8≠(a.r6 j).f8:=λi j hij hj e=>by
  have ht:=(ZgF (ZcX h j hj)).1
  have hm:=(own_met h j (by omega)).2 i hij
  rw[e]at hm
  change (bif (Xz (Zg a) j).1 (a.r6 j).f8 then(Xz (Zg a) j).2 (a.r6 j).f8 else za)=za at ht
  rw[hm.1,hm.2]at ht
  cases ht
 refine⟨λj hj=>⟨λe=>?_,(ZgF (ZcX h j hj)).2.1⟩,λi j hne hi hj=>?_⟩
 ·have ht:=(ZgF (ZcX h j hj)).1
  have hm:=(own_met h j (by omega)).1
  change (bif (Xz (Zg a) j).1 (a.r6 j).f8 then(Xz (Zg a) j).2 (a.r6 j).f8 else za)=za at ht
  rw[e,hm.1,hm.2]at ht
  cases ht
 ·rcases Nat.lt_or_gt_of_ne hne with q|q
  ·exact ap i j q hj
  ·exact(ap j i q hi).symm
section
variable{e:Za}{p:Zj}{g:Zc}{o:Nat->Zq}{n:Nat}{q:Nat->ZA}{la:Int}
theorem met_only(d:Ze):∀k x,(Xz d k).1 x=ze->x=0\/∃j,j<k/\(d.a.r6 j).f8=x:=by
 intro k
 induction k with
 |zero=>
  intro x hx
  have hx:(bif x==0 then ze else za)=ze:=hx
  cases e:(x==0)
  ·rw[e]at hx;cases hx
  ·exact .inl (eqT e)
 |succ k ih=>
  intro x hx
  have hx:(Zi5 d k (Xz d k)).1 x=ze:=hx
  generalize Xz d k=z at ih hx
  let Qp:(Int->Bool)×(Int->Bool)->Prop:=λy=>y.1 x=ze->z.1 x=ze\/x=(d.a.r6 k).f8
  have key:Qp (Zi5 d k z):=by
   have hz:Qp (z.1,z.2):=λh=>.inl h
   have ha:Qp ((λj_=>bif j_==(d.a.r6 k).f8 then ze else z.1 j_),(λj_=>bif j_==(d.a.r6 k).f8 then ze else z.2 j_)):=λh=>by
    have h:(bif x==(d.a.r6 k).f8 then ze else z.1 x)=ze:=h
    cases e:(x==(d.a.r6 k).f8)
    ·rw[e]at h;exact .inl h
    ·exact .inr (eqT e)
   exact WO (p:=Qp) (WO (p:=Qp) (WO (p:=Qp) (WO (p:=Qp) (WO (p:=Qp) (WO (p:=Qp) (WO (p:=Qp) (WO (p:=Qp) hz ha) hz) hz) hz) hz) hz) hz) hz
  rcases key hx with h|h
  ·rcases ih x h with h|⟨j,hj,h⟩
   ·exact .inl h
   ·exact .inr ⟨j,by omega,h⟩
  ·exact .inr ⟨k,by omega,h.symm⟩
theorem mod_owned(hf:ZL e=0)(hl:Uw e o)(ho:∀i j,i≠j->i<e.n6->j<e.n6->(o i).f8≠(o j).f8)(ht:∀j,j<e.n6->(o j).f8<=la/\(o j).f8≠0):UC (Zg (ZR e p g o n q la))=ze:=by
 have hv:=fT (WM hf).2.2.1
 have b:Zp (Uv (Zg (ZR e p g o n q la))) e.n6=za:=Qv λk hk=>by
  have h:=ZcX hf k hk
  have h1:=QS rfl h
  have h2:=QS rfl h1.2
  have h3:=QS rfl h2.2
  have h4:=QS rfl h3.2
  have h5:=QS rfl h4.2
  have h6:=QS rfl h5.2
  have h7:=QS rfl h6.2
  have h8:=nf4 h7.2
  have g1:=Y4 (show(bif decide (zD .i64 ((e.r6 k).f9-(1000000:Int))<=e.f0)then bif decide ((e.r6 k).f10>=(0:Int))then decide ((e.r6 k).f10<=e.f0)else za else za)=ze from nT (nf4 h8))
  have hnow:0<=e.f0:=by
   have hp:=(WM hf).1
   have h1:=Y4 hp
   have h3:=Y4 (Y4 h1.1).1
   exact of_decide_eq_true h3.1
  have met:(!bif (Xz (Zg (ZR e p g o n q la)) k).1 (o k).f8 then(Xz (Zg (ZR e p g o n q la)) k).2 (o k).f8 else za)=ze:=by
   cases hm:(Xz (Zg (ZR e p g o n q la)) k).1 (o k).f8
   ·rfl
   ·rcases met_only _ k _ hm with h|⟨j,hj,h⟩
    ·exact absurd h (ht k hk).2
    ·exact absurd h (ho j k (by omega) (by omega) hk)
  have e5:decide ((o k).f8<=la)=ze:=decide_eq_true (ht k hk).1
  have run10:(o k).f10=(e.r6 k).f10:=by rcases hl k with q|⟨x,q⟩<;>rw[q]
  have e1:((o k).f0==(e.r4 k).f0)=ze:=by rw[ZiN hl k];exact h1.1
  have e6:((o k).f7==zD .u64 (e.r3 (zk (Xy (Zg e) (e.r4 k).f0))).f1)=ze:=by
   have:(o k).f7=(e.r6 k).f7:=by rcases hl k with q|⟨x,q⟩<;>rw[q]
   rw[this];exact h6.1
  have e7:decide ((o k).f9>=(0:Int))=ze:=by
   rcases hl k with q|⟨x,q⟩<;>rw[q]
   ·exact h7.1
   ·rfl
  have e8:(bif (bif !bif decide (zD .i64 ((o k).f9-(1000000:Int))<=e.f0)then bif decide ((o k).f10>=(0:Int))then decide ((o k).f10<=e.f0)else za else za then ze else za)then ze else za)=za:=by
   rw[run10,g1.2]
   have:decide (zD .i64 ((o k).f9-(1000000:Int))<=e.f0)=ze:=by
    rcases hl k with q|⟨x,q⟩<;>rw[q]
    ·exact g1.1
    ·refine decide_eq_true ?_
     show zD .i64 ((0:Int)-1000000)<=e.f0
     rw[IntWalk.i64_in _ ⟨by omega,by omega⟩];omega
   rw[this];rfl
  have e2:own2 (o k)=ze:=by
   have h:own2 (e.r6 k)=ze:=h2.1
   rcases hl k with q|⟨x,q⟩<;>(rw[q];exact h)
  have e3:own3 (o k)=ze:=by
   have h:own3 (e.r6 k)=ze:=h3.1
   rcases hl k with q|⟨x,q⟩<;>(rw[q];exact h)
  exact cT e1 (cT e2 (cT e3 (cT met (cT e5 (cT e6 (cT e7 e8))))))
 have hnn:(bif ((e.n6:Nat):Int) != ((e.n4:Nat):Int)then ze else za)=za:=hv.1
 refine cF hnn (cF ?_ rfl)
 show(bif Zp (Uv (Zg (ZR e p g o n q la))) e.n6 then ze else za)=za
 rw[b];rfl
end
section
variable{e:Za}{p:Zj}{g:Zc}{o:Nat->Zq}{n:Nat}{q:Nat->ZA}{la:Int}
variable{k:Nat}
theorem ZiX(hf:ZL e=0){s:Nat}(hk:k<e.n5)(hs:s<(e.r5 k).n1):(Zg e).oh ((e.r5 k).r1 s).f0=ze/\Xy (Zg e) ((e.r5 k).r1 s).f0=Xy (Zg e) ((e.r5 k).r1 0).f0:=
 ga2_parts ((Zk9 (ZkQ hf k hk)).1 s hs)
def Zbp(e:Za)(g:Zc):Prop:=∀k,k<g.n0->∀s,s<(g.r0 k).n1->(Zg e).oh ((g.r0 k).r1 s).f0=ze/\Xy (Zg e) ((g.r0 k).r1 s).f0=Xy (Zg e) ((g.r0 k).r1 0).f0
theorem ZqM(hf:ZL e=0)(h3:e.n3<=1000)(h4:e.n4<=1000)(hl:Uw e o)(hgc:YH g=0)(hme:Zbp e g)(hr:YJ p (guO e) g=ze):Zah (Zg (ZR e p g o n q la))=ze:=by
 have hm:=ZiZ (p:=p) (g:=g) (n:=n) (q:=q) (la:=la) hl
 have b:Zp (Ug (Zg (ZR e p g o n q la))) g.n0=za:=Qv λk hk=>by
  have no2:∀s,s<(g.r0 k).n1->Vu (Zg (ZR e p g o n q la)) (g.r0 k).n1 (g.r0 k).r1 s=za:=λs hs=>by
   have:=hme k hk s hs
   exact ga2_none (by rw[hm.1];exact this.1) this.2
  have hmk:=Zk6 no2
  rw[ga1_eq]
  refine cF ?_ ?_
  ·show(bif Zp (Vu (Zg (ZR e p g o n q la)) (g.r0 k).n1 (g.r0 k).r1) (g.r0 k).n1 then ze else za)=za
   rw[Qv no2];rfl
  ·have hg:=((ZdK hgc).1 hr).2 k hk
   have hc:W9 (Wv (Zg (ZR e p g o n q la)) (g.r0 k).n1 (g.r0 k).r1 (g.r0 k).n1).1 (λj=>(Wv (Zg (ZR e p g o n q la)) (g.r0 k).n1 (g.r0 k).r1 (g.r0 k).n1).2 (0+j))=ze:=by
    rw[hmk.1]
    rw[Zix (b:=λs=>⟨YF p (guO e) ((g.r0 k).r1 s).f0⟩) λj hj=>?_]
    ·exact hg
    ·rw[zX,hmk.2 j hj]
     obtain⟨i,hi,hv⟩:=Zbv hf (hme k hk j hj).1
     have:=Zbn hf h3 h4 p hi
     rw[hv]at this
     unfold mayV at this
     rw[hv]at this
     exact congrArg ZE.mk this
   show(bif (bif !W9 (Wv (Zg (ZR e p g o n q la)) (g.r0 k).n1 (g.r0 k).r1 (g.r0 k).n1).1 (λj=>(Wv (Zg (ZR e p g o n q la)) (g.r0 k).n1 (g.r0 k).r1 (g.r0 k).n1).2 (0+j))then ze else za)then ze else za)=za
   rw[hc];rfl
 refine cF ?_ rfl
 show(bif Zp (Ug (Zg (ZR e p g o n q la))) g.n0 then ze else za)=za
 rw[b];rfl
def Uo(d:Ze)(v:Int):Int:=Qd (Wu (guO d.a) v) (d.a.r2 (zk (d.a.r3 (zk (Xy d v))).f3)).f0
def pl1'(d:Ze)(k:Nat):Bool:=bif decide ((d.a.r12 k).f1<=WR d k)then ze else bif (bif d.nh (d.a.r12 k).f0 then d.ng (d.a.r12 k).f0 else 0) != (d.a.r12 k).f1 then ze else bif (bif !d.oh (d.a.r12 k).f0 then ze else za)then ze else bif !ZbS (stO (d.a.r6 (KZ d (d.a.r12 k).f0).toNat))then ze else bif Zey (d.a.r7 (Xy d (d.a.r12 k).f0).toNat)then ze else
 bif (bif (bif decide ((d.a.r12 k).f1<(0:Int))then ze else decide ((d.a.r12 k).f1>=(8:Int)))then ze else za)then(bif (bif !Qd (Uo d (d.a.r12 k).f0) 0 != (0:Int)then ze else za)then ze else za)else(bif (bif !Qd (Uo d (d.a.r12 k).f0) (zD .u32 ((1:Int)*(2:Int)^min (zk (d.a.r12 k).f1) (zY .u32))) != (0:Int)then ze else za)then ze else za)
theorem pl1_eq(d:Ze)(k:Nat):J3 d k=pl1' d k:=by kernel_rfl
variable{d:Ze}
theorem Zmn(h:J3 d k=za):ZbS (stO (d.a.r6 (KZ d (d.a.r12 k).f0).toNat))=ze/\Zey (d.a.r7 (Xy d (d.a.r12 k).f0).toNat)=za/\WA (Uo d (d.a.r12 k).f0) (d.a.r12 k).f1=ze:=by
 rw[pl1_eq]at h
 have h3:=orF (orF (orF (orF h).2).2).2
 have h4:=orF h3.2
 refine⟨nT h3.1,h4.1,?_⟩
 have h5:=h4.2
 unfold WA
 revert h5
 cases(bif decide ((d.a.r12 k).f1<(0:Int))then ze else decide ((d.a.r12 k).f1>=(8:Int)))
 ·cases(Qd (Uo d (d.a.r12 k).f0) (zD .u32 ((1:Int)*(2:Int)^min (zk (d.a.r12 k).f1) (zY .u32))) != (0:Int))
  ·intro h;cases h
  ·exact λ_=>rfl
 ·cases(Qd (Uo d (d.a.r12 k).f0) 0 != (0:Int))
  ·intro h;cases h
  ·exact λ_=>rfl
theorem put_build(h0:WR d k<(d.a.r12 k).f1)(h1:d.nh (d.a.r12 k).f0=ze/\d.ng (d.a.r12 k).f0=(d.a.r12 k).f1)(h2:d.oh (d.a.r12 k).f0=ze)(h3:ZbS (stO (d.a.r6 (KZ d (d.a.r12 k).f0).toNat))=ze)(h4:Zey (d.a.r7 (Xy d (d.a.r12 k).f0).toNat)=za)(h5:WA (Uo d (d.a.r12 k).f0) (d.a.r12 k).f1=ze):J3 d k=za:=by
 rw[pl1_eq]
 refine cF (decide_eq_false (by omega)) (cF ?_ (cF ?_ (cF ?_ (cF h4 ?_))))
 ·rw[h1.1,h1.2];simp
 ·rw[h2];rfl
 ·rw[h3];rfl
 ·unfold WA at h5
  revert h5
  cases(bif decide ((d.a.r12 k).f1<(0:Int))then ze else decide ((d.a.r12 k).f1>=(8:Int)))
  ·cases(Qd (Uo d (d.a.r12 k).f0) (zD .u32 ((1:Int)*(2:Int)^min (zk (d.a.r12 k).f1) (zY .u32))) != (0:Int))
   ·intro h;cases h
   ·exact λ_=>rfl
  ·cases(Qd (Uo d (d.a.r12 k).f0) 0 != (0:Int))
   ·intro h;cases h
   ·exact λ_=>rfl
variable{a:Za}
theorem fine_pl2(h:ZL a=0):∀k,k<a.n6->Zaa (Zg a) k=za:=Y7 (nf4 (fT (fT (WM h).2.2.2.2.2).2).1)
theorem fine_pl3(h:ZL a=0):∀k,k<a.n5->Zab (Zg a) k=za:=Y7 (nf4 (fT (fT (fT (WM h).2.2.2.2.2).2).2).1)
theorem pl2_eq(d:Ze)(k:Nat):Zaa d k=bif (bif (bif (bif !d.nh (d.a.r6 k).f0 then decide ((d.a.r6 k).f9>d.a.f0)else za)then ze else za)then ze else za)then ze else za:=by kernel_rfl
theorem pl3_eq(d:Ze)(k:Nat):Zab d k=bif (bif (bif (bif decide ((Q7 d (d.a.r5 k).n1 (d.a.r5 k).r1 (d.a.r5 k).n1).1>(0:Int))then decide ((Q7 d (d.a.r5 k).n1 (d.a.r5 k).r1 (d.a.r5 k).n1).2>(0:Int))else za)then ze else za)then ze else za)then ze else za:=by kernel_rfl
variable{r:Nat->DT3}
theorem pl4_none{m:Nat}(h:∀s,s<m->d.nh (r s).f0=za):∀k,k<=m->(Q7 d m r k).1=0:=by
 intro k
 induction k with
 |zero=>intro _;rfl
 |succ k ih=>
  intro hk
  show(bif d.nh (r k).f0 then zD .i64 ((Q7 d m r k).1+(1:Int))else(Q7 d m r k).1)=0
  rw[h k (by omega)]
  exact ih (by omega)
def stripG(d:Ze)(m:Nat)(r:Nat->DT3)(k:Nat):Bool×Bool×Y3:=(d.nh (r k).f0,d.oh (r k).f0,stO (d.a.r6 (KZ d (r k).f0).toNat))
def pl4F(x:Bool×Bool×Y3)(z:Int×Int):Int×Int:=(bif x.1 then zD .i64 (z.1+1)else z.1,bif x.1 then z.2 else bif (bif !x.2.1 then ze else za)then z.2 else bif ZbS x.2.2 then zD .i64 (z.2+1)else z.2)
theorem Zmd(d:Ze)(m:Nat)(r:Nat->DT3)(k:Nat)(z:Int×Int):ZgJ d m r k z=pl4F (stripG d m r k) z:=by kernel_rfl
theorem pl4_congr{d':Ze}{m:Nat}{r':Nat->DT3}(h:∀s,s<m->stripG d m r s=stripG d' m r' s):∀k,k<=m->Q7 d m r k=Q7 d' m r' k:=by
 intro k
 induction k with
 |zero=>intro _;rfl
 |succ k ih=>
  intro hk
  show ZgJ d m r k (Q7 d m r k)=ZgJ d' m r' k (Q7 d' m r' k)
  rw[Zmd,Zmd,ih (by omega),h k (by omega)]
def Qr(a b:ZI):Prop:=a.n1=b.n1/\∀s,s<a.n1->(a.r1 s).f0=(b.r1 s).f0
structure PutsOk(e:Za)(p:Zj)(g:Zc)(o:Nat->Zq)(n:Nat)(q:Nat->ZA):Prop where
 sub:∃f:Nat->Nat,(∀i,i<n->f i<e.n12/\q i=e.r12 (f i))/\∀i j,i<j->j<n->f i<f j
 has:∀i,i<n->WA (YF p (guO e) (q i).f0) (q i).f1=ze
 until_:∀j,j<e.n6->(∀i,i<n->(q i).f0≠(e.r6 j).f0)->(o j).f9<=e.f0
 gang:∀k,k<g.n0->(∃k',k'<e.n5/\Qr (g.r0 k) (e.r5 k')/\∀s,s<(g.r0 k).n1->((∃i,i<n/\(q i).f0=((g.r0 k).r1 s).f0)↔∃i,i<e.n12/\(e.r12 i).f0=((g.r0 k).r1 s).f0))\/∀s,s<(g.r0 k).n1->¬ ∃i,i<n/\(q i).f0=((g.r0 k).r1 s).f0
theorem GX(a:Za)(x:Int):(Zg a).nh x=ze↔∃i,i<a.n12/\(a.r12 i).f0=x:=
 ⟨λh=>by obtain⟨k,hk,e,_⟩:=(ZiS a).1 x h;exact⟨k,hk,e⟩,λ⟨i,hi,e⟩=>by rw[<- e];exact(ZiS a).2 i hi⟩
theorem put_inj(h:ZL a=0){i j:Nat}(hi:i<a.n12)(hj:j<a.n12)(e:(a.r12 i).f0=(a.r12 j).f0):i=j:=by
 have p1:(bif (Zg a).nh (a.r12 i).f0 then(Zg a).ng (a.r12 i).f0 else 0)=(a.r12 i).f1:=(Zac (Zg a) i (Gv h i hi)).2.2.1
 have p2:(bif (Zg a).nh (a.r12 j).f0 then(Zg a).ng (a.r12 j).f0 else 0)=(a.r12 j).f1:=(Zac (Zg a) j (Gv h j hj)).2.2.1
 have ec:(a.r12 i).f1=(a.r12 j).f1:=by rw[<- p1,<- p2,e]
 rcases Nat.lt_trichotomy i j with q|q|q
 ·have:=put_lt h q hj;omega
 ·exact q
 ·have:=put_lt h q hi;omega
theorem ZqO(hf:ZL e=0)(h3:e.n3<=1000)(h4:e.n4<=1000)(hl:Uw e o)(hq:PutsOk e p g o n q):Zai (Zg (ZR e p g o n q la))=ze:=by
 have hm:=ZiZ (p:=p) (g:=g) (n:=n) (q:=q) (la:=la) hl
 obtain⟨f,hf1,hf2⟩:=hq.sub
 have inj:∀i j,i<n->j<n->(q i).f0=(q j).f0->i=j:=λi j hi hj hv=>by
  rw[(hf1 i hi).2,(hf1 j hj).2]at hv
  have:=put_inj hf (hf1 i hi).1 (hf1 j hj).1 hv
  rcases Nat.lt_trichotomy i j with w|w|w
  ·have:=hf2 i j w hj;omega
  ·exact w
  ·have:=hf2 j i w hi;omega
 have rise:∀i j,i<j->j<n->(q i).f1<(q j).f1:=λi j hij hj=>by
  rw[(hf1 i (by omega)).2,(hf1 j hj).2]
  exact put_lt hf (hf2 i j hij hj) (hf1 j hj).1
 have ge0:∀i,i<n->0<=(q i).f1:=λi hi=>by
  rw[(hf1 i hi).2]
  exact((Zmm hf e.n12 (zI _)).2 _ (hf1 i hi).1).2
 have ix:∀v,KZ (Zg (ZR e p g o n q la)) v=KZ (Zg e) v:=λv=>by unfold KZ;rw[hm.1,hm.2]
 have st:∀j,stO (o j)=stO (e.r6 j):=λj=>by
  have:=like_st hl j
  unfold stO;rw[this.1,this.2.1,this.2.2.1,this.2.2.2]
 have one:∀i,i<n->WR (Zg (ZR e p g o n q la)) i<(q i).f1->J3 (Zg (ZR e p g o n q la)) i=za:=λi hi hlt=>by
  have he:=hf1 i hi
  have hb:=Gv hf (f i) he.1
  have ht:=Zmn hb
  have ho:(Zg e).oh (e.r12 (f i)).f0=ze:=(Zac (Zg e) (f i) hb).2.2.2.1
  refine put_build hlt ?_ ?_ ?_ ?_ ?_
  ·have hn:(Zg (ZR e p g o n q la)).nh (q i).f0=ze:=(GX (ZR e p g o n q la) _).2 ⟨i,hi,rfl⟩
   refine⟨hn,?_⟩
   obtain⟨k,hk,ek,vk⟩:=(ZiS (ZR e p g o n q la)).1 _ hn
   have:k=i:=inj k i hk hi ek
   subst this
   exact vk
  ·show(Zg (ZR e p g o n q la)).oh (q i).f0=ze
   rw[hm.1,he.2];exact ho
  ·show ZbS (stO (o (KZ (Zg (ZR e p g o n q la)) (q i).f0).toNat))=ze
   rw[ix,st,he.2];exact ht.1
  ·show Zey (e.r7 (Xy (Zg e) (q i).f0).toNat)=za
   rw[he.2];exact ht.2.1
  ·show WA (Qd (Wu (guO e) (q i).f0) (p.r0 (zk (e.r3 (zk (Xy (Zg e) (q i).f0))).f3)).f0) (q i).f1=ze
   obtain⟨j,hj,hv⟩:=Zbv hf ho
   have hmv:=Zbn hf h3 h4 p hj
   unfold mayV at hmv
   rw[hv,<- he.2]at hmv
   rw[hmv]
   exact hq.has i hi
 have all1:∀i,i<=n->-1<=WR (Zg (ZR e p g o n q la)) i/\(∀j,j<i->J3 (Zg (ZR e p g o n q la)) j=za)/\(i<n->WR (Zg (ZR e p g o n q la)) i<(q i).f1):=by
  intro i
  induction i with
  |zero=>intro _;exact⟨Int.le_refl _,λj hj=>absurd hj (yB _),λhn=>by have:=ge0 0 hn;show(-1:Int)<_;omega⟩
  |succ i ih=>
   intro hi
   have ih:=ih (by omega)
   have hb:=one i (by omega) (ih.2.2 (by omega))
   have hp:=(Zac (Zg (ZR e p g o n q la)) i hb).2.1
   have hp:WR (Zg (ZR e p g o n q la)) (i+1)=(q i).f1:=hp
   have:=ge0 i (by omega)
   refine⟨by omega,λj hj=>?_,λhn=>?_⟩
   ·rcases yG (Nat.le_of_lt_succ hj)with w|w
    ·subst w;exact hb
    ·exact ih.2.1 j w
   ·rw[hp];exact rise i (i+1) (by omega) hn
 have b1:Zp (J3 (Zg (ZR e p g o n q la))) n=za:=Qv (all1 n (zI _)).2.1
 have b2:Zp (Zaa (Zg (ZR e p g o n q la))) e.n6=za:=Qv λj hj=>by
  rw[pl2_eq]
  have h2:(bif !(Zg (ZR e p g o n q la)).nh (o j).f0 then decide ((o j).f9>e.f0)else za)=za:=by
   rw[ZiN hl j]
   cases hn:(Zg (ZR e p g o n q la)).nh (e.r6 j).f0
   ·show decide ((o j).f9>e.f0)=za
    refine decide_eq_false ?_
    have:=hq.until_ j hj λi hi hv=>by
     rw[(GX (ZR e p g o n q la) _).2 ⟨i,hi,hv⟩]at hn;cases hn
    omega
   ·rfl
  show(bif (bif (bif (bif !(Zg (ZR e p g o n q la)).nh (o j).f0 then decide ((o j).f9>e.f0)else za)then ze else za)then ze else za)then ze else za)=za
  rw[h2];rfl
 have b3:Zp (Zab (Zg (ZR e p g o n q la))) g.n0=za:=Qv λk hk=>by
  rw[pl3_eq]
  show(bif (bif (bif (bif decide ((Q7 (Zg (ZR e p g o n q la)) (g.r0 k).n1 (g.r0 k).r1 (g.r0 k).n1).1>(0:Int))then decide ((Q7 (Zg (ZR e p g o n q la)) (g.r0 k).n1 (g.r0 k).r1 (g.r0 k).n1).2>(0:Int))else za)then ze else za)then ze else za)then ze else za)=za
  rcases hq.gang k hk with⟨k',hk',hsr,h⟩|h
  ·have hc:=pl4_congr (d:=Zg (ZR e p g o n q la)) (d':=Zg e) (m:=(g.r0 k).n1) (r:=(g.r0 k).r1) (r':=(e.r5 k').r1) (λs hs=>by
    have hn:(Zg (ZR e p g o n q la)).nh ((g.r0 k).r1 s).f0=(Zg e).nh ((g.r0 k).r1 s).f0:=by
     have h1:=GX (ZR e p g o n q la) ((g.r0 k).r1 s).f0
     have h2:=GX e ((g.r0 k).r1 s).f0
     cases hx:(Zg (ZR e p g o n q la)).nh ((g.r0 k).r1 s).f0<;>cases hy:(Zg e).nh ((g.r0 k).r1 s).f0
     ·rfl
     ·rw[h1.2 ((h s hs).2 (h2.1 hy))]at hx;cases hx
     ·rw[h2.2 ((h s hs).1 (h1.1 hx))]at hy;cases hy
     ·rfl
    show((Zg (ZR e p g o n q la)).nh ((g.r0 k).r1 s).f0,(Zg (ZR e p g o n q la)).oh ((g.r0 k).r1 s).f0,stO (o (KZ (Zg (ZR e p g o n q la)) ((g.r0 k).r1 s).f0).toNat))=_
    rw[hn,hm.1,ix,st,hsr.2 s hs];rfl) (g.r0 k).n1 (zI _)
   rw[hc]
   have:=fine_pl3 hf k' hk'
   rw[pl3_eq]at this
   rw[hsr.1]
   have e5:∀m,Q7 (Zg e) (g.r0 k).n1 (e.r5 k').r1 m=Q7 (Zg e) (e.r5 k').n1 (e.r5 k').r1 m:=λm=>by rw[hsr.1]
   exact this
  ·have hz:=pl4_none (d:=Zg (ZR e p g o n q la)) (m:=(g.r0 k).n1) (r:=(g.r0 k).r1) (λs hs=>by
    cases hx:(Zg (ZR e p g o n q la)).nh ((g.r0 k).r1 s).f0
    ·rfl
    ·exact absurd ((GX (ZR e p g o n q la) _).1 hx) (h s hs)) (g.r0 k).n1 (zI _)
   rw[hz];rfl
 refine cF ?_ (cF ?_ (cF ?_ rfl))
 ·show(bif Zp (J3 (Zg (ZR e p g o n q la))) n then ze else za)=za
  rw[b1];rfl
 ·show(bif Zp (Zaa (Zg (ZR e p g o n q la))) e.n6 then ze else za)=za
  rw[b2];rfl
 ·show(bif Zp (Zab (Zg (ZR e p g o n q la))) g.n0 then ze else za)=za
  rw[b3];rfl
theorem mod_chk(hf:ZL e=0)(h3:e.n3<=1000)(h4:e.n4<=1000)(hl:Uw e o)(hp:V.toInt (Ux p)=0)(hc:V.toInt (VI p)=V.toInt (VI (plS e)))(hn:e.n2<=p.n0)(hgc:YH g=0)(hme:Zbp e g)(hr:YJ p (guO e) g=ze)
  (ho:∀i j,i≠j->i<e.n6->j<e.n6->(o i).f8≠(o j).f8)(ht:∀j,j<e.n6->(o j).f8<=la/\(o j).f8≠0)(hla:la<=Jt)(hq:PutsOk e p g o n q):ZL (ZR e p g o n q la)=0:=by
 unfold ZL
 rw[mod_parts (WM hf).1 hp hgc hla,ZqN hf h3 h4 hc hn (λj hj=>((ZdK hgc).1 hr).1 j hj),mod_owned hf hl ho ht,ZqM hf h3 h4 hl hgc hme hr,ZqP hl,(WM hf).2.2.2.2.1,ZqO hf h3 h4 hl hq]
 rfl
end
theorem gmy_eq(n:Nat)(r:Nat->DT3)(k:Nat):ZfT n r k=bif (bif (bif (bif decide ((r k).f0<=Vz n r k)then ze else decide ((r k).f0>(16:Int)))then ze else za)then ze else za)then ze else za:=by kernel_rfl
theorem gmy_next(n:Nat)(r:Nat->DT3)(k:Nat):Vz n r (k+1)=bif (bif (bif (bif decide ((r k).f0<=Vz n r k)then ze else decide ((r k).f0>(16:Int)))then ze else za)then ze else za)then Vz n r k else(r k).f0:=by kernel_rfl
variable{r:Nat->DT3}
theorem gMay_rise(h:QX n r=ze):(∀k,k<n->0<(r k).f0/\(r k).f0<=16)/\∀i j,i<j->j<n->(r i).f0<(r j).f0:=by
 have hb:=Y7 (nf4 (fT h).1)
 have low:∀k,k<=n->0<=Vz n r k/\∀i,i<k->(r i).f0<=Vz n r k/\0<(r i).f0/\(r i).f0<=16:=by
  intro k
  induction k with
  |zero=>intro _;exact⟨Int.le_refl _,λi hi=>absurd hi (yB _)⟩
  |succ k ih=>
   intro hk
   have ih:=ih (by omega)
   have hk1:=hb k (by omega)
   rw[gmy_eq]at hk1
   have c:=nf4 hk1
   have d:=orF (nf4 (nf4 c))
   have d1:=of_decide_eq_false d.1
   have d2:=of_decide_eq_false d.2
   have e:Vz n r (k+1)=(r k).f0:=by rw[gmy_next];exact cF c rfl
   rw[e]
   refine⟨by omega,λi hi=>?_⟩
   rcases yG (Nat.le_of_lt_succ hi)with q|q
   ·subst q;omega
   ·have:=ih.2 i q;omega
 refine⟨λk hk=>((low n (zI _)).2 k hk).2,λi j hij hj=>?_⟩
 have h1:=((low j (by omega)).2 i hij).1
 have hk1:=hb j hj
 rw[gmy_eq]at hk1
 have d1:=of_decide_eq_false (orF (nf4 (nf4 (nf4 hk1)))).1
 omega
theorem gc1_eq(a:Zc)(k:Nat):Gz a k=bif (bif (bif decide ((a.r0 k).f0<=(YW a k).1)then ze else bif decide ((a.r0 k).f0>(8:Int))then ze else !QX (a.r0 k).n1 (a.r0 k).r1)then ze else za)then ze else(bif (bif Zp (KP (a.r0 k).n1 (a.r0 k).r1 (YW a k).2.1 (YW a k).2.2) (a.r0 k).n1 then ze else za)then ze else za):=by kernel_rfl
theorem Zlb(n:Nat)(r:Nat->DT3)(h g:Int->Bool)(x:Int):∀m,(XG n r h g m).1 x=ze->h x=ze\/∃q,q<m/\(r q).f0=x:=by
 intro m
 induction m with
 |zero=>intro hx;exact .inl hx
 |succ m ih=>
  intro hx
  have hx:(Uh n r h g m (XG n r h g m)).1 x=ze:=hx
  generalize XG n r h g m=z at ih hx
  have key:z.1 x=ze\/x=(r m).f0:=by
   let Qp:(Int->Bool)×(Int->Bool)->Prop:=λy=>y.1 x=ze->z.1 x=ze\/x=(r m).f0
   have hz:Qp (z.1,z.2):=λh=>.inl h
   have ha:Qp ((λj_=>bif j_==(r m).f0 then ze else z.1 j_),(λj_=>bif j_==(r m).f0 then ze else z.2 j_)):=λh=>by
    have h:(bif x==(r m).f0 then ze else z.1 x)=ze:=h
    cases e:(x==(r m).f0)
    ·rw[e]at h;exact .inl h
    ·exact .inr (eqT e)
   exact WO (p:=Qp) hz ha hx
  rcases key with h|h
  ·rcases ih h with h|⟨q,hq,h⟩
   ·exact .inl h
   ·exact .inr ⟨q,by omega,h⟩
  ·exact .inr ⟨m,by omega,h.symm⟩
theorem gc2_no{h g:Int->Bool}(hx:∀s,s<n->h (r s).f0=za)(hd:∀i j,i<j->j<n->(r i).f0<(r j).f0)(q:Nat)(hq:q<n):KP n r h g q=za:=by
 have hz:(XG n r h g q).1 (r q).f0=za:=by
  cases e:(XG n r h g q).1 (r q).f0
  ·rfl
  ·rcases Zlb n r h g _ q e with w|⟨s,hs,w⟩
   ·rw[hx q hq]at w;cases w
   ·have:=hd s q hs hq;omega
 show(bif (bif (bif (bif (XG n r h g q).1 (r q).f0 then(XG n r h g q).2 (r q).f0 else za)then ze else za)then ze else za)then ze else za)=za
 rw[hz];rfl
variable{g:Zc}
theorem Zk3(hn:∀k,k<g.n0->1<=(g.r0 k).f0/\(g.r0 k).f0<=8/\QX (g.r0 k).n1 (g.r0 k).r1=ze)(hr:∀i j,i<j->j<g.n0->(g.r0 i).f0<(g.r0 j).f0)
  (ha:∀i j,i<j->j<g.n0->∀q s,q<(g.r0 i).n1->s<(g.r0 j).n1->((g.r0 i).r1 q).f0≠((g.r0 j).r1 s).f0):YH g=0:=by
 have key:∀k,k<=g.n0->(∀j,k<=j->j<g.n0->(YW g k).1<(g.r0 j).f0)/\(∀x,(YW g k).2.1 x=ze->∃i,i<k/\∃q,q<(g.r0 i).n1/\((g.r0 i).r1 q).f0=x)/\∀j,j<k->Gz g j=za:=by
  intro k
  induction k with
  |zero=>
   intro _
   refine⟨λj _ hj=>?_,λx hx=>?_,λj hj=>absurd hj (yB _)⟩
   ·have:=(hn j hj).1
    show(0:Int)<_
    omega
   ·have hx:za=ze:=hx
    cases hx
  |succ k ih=>
   intro hk
   obtain⟨i1,i2,i3⟩:=ih (by omega)
   have hk1:=hn k (by omega)
   have l1:=i1 k (zI _) (by omega)
   have c1:(bif (bif decide ((g.r0 k).f0<=(YW g k).1)then ze else bif decide ((g.r0 k).f0>(8:Int))then ze else !QX (g.r0 k).n1 (g.r0 k).r1)then ze else za)=za:=by
    rw[decide_eq_false (by omega:¬(g.r0 k).f0<=(YW g k).1),decide_eq_false (by omega:¬(g.r0 k).f0>8),hk1.2.2];rfl
   have c2:(bif Zp (KP (g.r0 k).n1 (g.r0 k).r1 (YW g k).2.1 (YW g k).2.2) (g.r0 k).n1 then ze else za)=za:=by
    rw[Qv λq hq=>gc2_no (λs hs=>?_) (gMay_rise hk1.2.2).2 q hq]
    ·rfl
    ·cases e:(YW g k).2.1 ((g.r0 k).r1 s).f0
     ·rfl
     ·obtain⟨i,hi,q,hq,w⟩:=i2 _ e
      exact absurd w (ha i k hi (by omega) q s hq hs)
   have hb:Gz g k=za:=by rw[gc1_eq];exact cF c1 (cF c2 rfl)
   have hnx:YW g (k+1)=((g.r0 k).f0,(XG (g.r0 k).n1 (g.r0 k).r1 (YW g k).2.1 (YW g k).2.2 (g.r0 k).n1).1,(XG (g.r0 k).n1 (g.r0 k).r1 (YW g k).2.1 (YW g k).2.2 (g.r0 k).n1).2):=cF c1 (cF c2 rfl)
   rw[hnx]
   refine⟨λj h1 h2=>hr k j (by omega) h2,λx hx=>?_,λj hj=>?_⟩
   ·rcases Zlb _ _ _ _ x _ hx with w|⟨q,hq,w⟩
    ·obtain⟨i,hi,q,hq,w⟩:=i2 x w
     exact⟨i,by omega,q,hq,w⟩
    ·exact⟨k,by omega,q,hq,w⟩
   ·rcases yG (Nat.le_of_lt_succ hj)with q|q
    ·subst q;exact hb
    ·exact i3 j q
 unfold YH
 rw[Qv (key g.n0 (zI _)).2.2];rfl
variable{a:Zc}
theorem gang_ge(h:YH a=0):∀k,k<a.n0->(k:Int)+1<=(a.r0 k).f0:=by
 intro k
 induction k with
 |zero=>intro hk;have:=Vv h hk;omega
 |succ k ih=>
  intro hk
  have:=ih (by omega)
  have:=Zc3 h k (k+1) (by omega) hk
  omega
theorem ZfR(h:YH a=0):a.n0<=8:=by
 by_cases hz:a.n0=0
 ·omega
 ·have h1:=gang_ge h (a.n0-1) (by omega)
  have h2:=(Vv h (i:=a.n0-1) (by omega)).2
  omega
theorem gAt_found(h:YH a=0)(hi:i<a.n0):X9 a (a.r0 i).f0=(i:Int)/\QW a (a.r0 i).f0=ze:=by
 have hw:∀k,k<a.n0->zD zA ((a.r0 k).f0-(a.r0 i).f0)=(a.r0 k).f0-(a.r0 i).f0:=λk hk=>by
  have:=Vv h hk
  have:=Vv h hi
  exact IntWalk.i64_in _ ⟨by omega,by omega⟩
 have hat:Jj a.n0 a.r0 (a.r0 i).f0=i:=ZjU (g:=λk=>(a.r0 k).f0) (λk hk=>by
  show decide (zD zA ((a.r0 k).f0-(a.r0 i).f0)<(0:Int))=_
  rw[hw k hk]
  by_cases q:(a.r0 k).f0<(a.r0 i).f0
  ·rw[decide_eq_true q,decide_eq_true (by omega)]
  ·rw[decide_eq_false q,decide_eq_false (by omega)]) (Zc3 h) hi rfl
 have hlt:decide (((i:Nat):Int)<((a.n0:Nat):Int))=ze:=decide_eq_true (by omega)
 refine⟨by unfold X9;rw[hat,hlt];rfl,?_⟩
 unfold QW
 rw[hat,hlt]
 show(zD .i64 ((a.r0 i).f0-(a.r0 i).f0)==(0:Int))=ze
 rw[hw i hi,Int.sub_self];rfl
theorem bfV{c:Bool}{x y:V}{g:V->Int}{r:Int}(h:g (bif c then x else y)=r):(c=ze/\g x=r)\/(c=za/\g y=r):=by cases c;exact .inr ⟨rfl,h⟩;exact .inl ⟨rfl,h⟩
theorem wTt{c:Bool}(h:(bif c then ze else za)=ze):c=ze:=by cases c;cases h;rfl
variable{x:Int}
theorem bneF{y:Int}(h:(bif x != y then ze else za)=za):x=y:=by
 have h:=nf4 h
 rw[bne]at h
 exact eqT (nT h)
def e3U(v:V):Int:=v.inner.tl.tl.hd.toInt
theorem ixFg_eq(g:Zc)(n:Nat)(r:Nat->DT3):Zbh g n r=bif Zp (K6 n r g) n then((ZN (K6 n r g) n 0:Nat):Int)else -1:=by
 unfold Zbh ixFg_T
 show V.toInt (bif (bif Zp (K6 n r g) n then ze else za)then _ else _)=_
 cases Zp (K6 n r g) n<;>rfl
variable{b:Nat->DT3}
theorem cfFg_no(h:ZaP g n b=za):∀s,s<n->∀k,k<g.n0->∀q,q<(g.r0 k).n1->((g.r0 k).r1 q).f0≠(b s).f0:=by
 have e:ZaP g n b=decide (Zbh g n b>=0):=by kernel_rfl
 rw[e,ixFg_eq]at h
 have ha:Zp (K6 n b g) n=za:=by
  cases q:Zp (K6 n b g) n
  ·rfl
  ·rw[q]at h
   have:=of_decide_eq_false h
   simp only[cond_true]at this
   omega
 intro s hs k hk q hq hv
 have hb:(bif (bif (bif decide (GK (b s).f0 g.n0 g.r0>=(0:Int))then ze else za)then ze else za)then ze else za)=za:=Y7 ha s hs
 have h1:=of_decide_eq_false (nf4 (nf4 (nf4 hb)))
 rw[ixGang_eq]at h1
 have hg:K7 g.n0 g.r0 (b s).f0 k=ze:=by
  show(bif (bif (bif YU (g.r0 k).n1 (g.r0 k).r1 (b s).f0 then ze else za)then ze else za)then ze else za)=ze
  rw[Zfp.2 ⟨q,hq,hv⟩];rfl
 cases hx:Zp (K7 g.n0 g.r0 (b s).f0) g.n0
 ·rw[Y7 hx k hk]at hg;cases hg
 ·rw[hx]at h1
  simp only[cond_true]at h1
  omega
theorem fm_eq(a:Zc)(n:Nat)(b:Nat->DT3)(k:Nat):Kl a n b k=bif (bif (a.r0 (0+k)).f0==zD .i64 ((k:Int)+1)then za else ze)then ze else za:=by kernel_rfl
def fmI(a:Zc)(n:Nat)(b:Nat->DT3):Nat:=ZN (Kl a n b) a.n0 0
theorem fm_not(hk:k<=1000):(Kl a n b k=za↔(a.r0 k).f0=(k:Int)+1):=by
 rw[fm_eq,zX,IntWalk.i64_in _ ⟨by omega,by omega⟩]
 cases h:((a.r0 k).f0==(k:Int)+1)
 ·refine⟨λq=>(by cases q),λq=>?_⟩
  rw[q]at h;simp at h
 ·exact⟨λ_=>eqT h,λ_=>rfl⟩
structure Zan(a:Zc)(n:Nat)(b:Nat->DT3):Prop where
 chk:YH a=0
 may:QX n b=ze
 new:∀s,s<n->∀k,k<a.n0->∀q,q<(a.r0 k).n1->((a.r0 k).r1 q).f0≠(b s).f0
 le:fmI a n b<=a.n0
 lt:fmI a n b<8
 low:∀k,k<fmI a n b->(a.r0 k).f0=(k:Int)+1
 here:fmI a n b<a.n0->(a.r0 (fmI a n b)).f0≠(fmI a n b:Int)+1
 n0:(YP a n b).n0=a.n0+1
 lo:∀j,j<fmI a n b->(YP a n b).r0 j=a.r0 j
 at_:(YP a n b).r0 (fmI a n b)=⟨(fmI a n b:Int)+1,n,b⟩
 hi:∀j,fmI a n b<j->(YP a n b).r0 j=a.r0 (j-1)
 id:Y9 a n b=(fmI a n b:Int)+1
theorem form_ok(h:XF a n b=0):Zan a n b:=by
 have h0:e3U (bif _ then _ else _)=(0:Int):=h
 rcases bfV (g:=e3U) h0 with⟨c1,h1⟩|⟨c1,h1⟩
 ·have h1:YH a=0:=h1
  have c1:(YH a != (0:Int))=ze:=wTt c1
  rw[h1]at c1;cases c1
 have h1':e3U (bif _ then _ else _)=(0:Int):=h1
 rcases bfV (g:=e3U) h1' with⟨c2,h2⟩|⟨c2,h2⟩
 ·have h2:(2:Int)=0:=h2
  omega
 have h2':e3U (bif _ then _ else _)=(0:Int):=h2
 rcases bfV (g:=e3U) h2' with⟨c3,h3⟩|⟨c3,h3⟩
 ·have h3:(5:Int)=0:=h3
  omega
 have h3':e3U (bif _ then _ else _)=(0:Int):=h3
 rcases bfV (g:=e3U) h3' with⟨c4,h4⟩|⟨c4,h4⟩
 ·have h4:(6:Int)=0:=h4
  omega
 have hc:YH a=0:=bneF c1
 have hm:QX n b=ze:=nT (nf4 c2)
 have hn:∀s,s<n->∀k,k<a.n0->∀q,q<(a.r0 k).n1->((a.r0 k).r1 q).f0≠(b s).f0:=by
  have c3':ZaP ⟨a.n0,λj=>a.r0 (0+j)⟩ n b=za:=nf4 c3
  have e:(λj=>a.r0 (0+j))=a.r0:=funext λj=>by rw[zX]
  rw[e]at c3'
  exact cfFg_no c3'
 have h8:=ZfR hc
 have hI:fmI a n b<=a.n0:=by
  have:=ZkZ (bad:=Kl a n b) (n:=a.n0) (k:=0)
  show ZN (Kl a n b) a.n0 0<=a.n0
  omega
 have c4':(((fmI a n b:Nat):Int)==(8:Int))=za:=nf4 c4
 have hI8:fmI a n b≠8:=λq=>by rw[q]at c4';cases c4'
 have hw:zD .i64 (((fmI a n b:Nat):Int)+1)=(fmI a n b:Int)+1:=IntWalk.i64_in _ ⟨by omega,by omega⟩
 have hv:(ZcZ a n b).valOf=_:=cF c1 (cF c2 (cF c3 (cF c4 rfl)))
 have hr:∀j,(YP a n b).r0 j=XC (bif zG (0+j) (zk ((fmI a n b:Nat):Int))then Zu za (a.r0 (0+j))else bif zG (0+j) (zk ((fmI a n b:Nat):Int)+1)then zf (zn za .i64 (zD .i64 (((fmI a n b:Nat):Int)+1))) (zf (zl za 1 n λj=>zf (zn za .i64 (b j).f0) zh) zh)else Zu za (a.r0 (0+j-1))):=λj=>by
  unfold YP;rw[hv];rfl
 have key:(∀k,k<fmI a n b->Kl a n b k=za)/\(fmI a n b<a.n0->Kl a n b (fmI a n b)=ze):=by
  unfold fmI
  cases hx:Zp (Kl a n b) a.n0
  ·have hf:=Y7 hx
   refine⟨λk hk=>hf k (Nat.lt_of_lt_of_le hk hI),λq=>?_⟩
   have:=Zk0 (bad:=Kl a n b) (n:=a.n0) (k:=0) λj _ hj=>hf j (by omega)
   omega
  ·have hs:=ZfL hx
   exact⟨hs.2.2,λ_=>hs.2.1⟩
 refine⟨hc,hm,hn,hI,by omega,λk hk=>(fm_not (by omega)).1 (key.1 k hk),λq e=>?_,?_,λj hj=>?_,?_,λj hj=>?_,?_⟩
 ·have h1:=key.2 q
  rw[(fm_not (a:=a) (n:=n) (b:=b) (k:=fmI a n b) (by omega)).2 e]at h1
  cases h1
 ·unfold YP;rw[hv];rfl
 ·rw[hr];simp only[zX,Int.toNat_natCast];rw[Zat hj];rfl
 ·rw[hr];simp only[zX,Int.toNat_natCast];rw[Zht (Nat.lt_irrefl _),Zat (Nat.lt_succ_self _),hw];rfl
 ·rw[hr];simp only[zX,Int.toNat_natCast];rw[Zht (by omega),Zht (by omega:¬j<fmI a n b+1)];rfl
 ·unfold Y9;rw[hv];exact hw
section
variable{a:Zc}{n:Nat}{b:Nat->DT3}(h:Zan a n b)
include h
theorem Vs{j:Nat}(hj:j<(YP a n b).n0):(j=fmI a n b/\(YP a n b).r0 j=⟨(fmI a n b:Int)+1,n,b⟩)\/∃k,k<a.n0/\(YP a n b).r0 j=a.r0 k/\((j<fmI a n b/\k=j)\/(fmI a n b<j/\k=j-1)):=by
 rw[h.n0]at hj
 have hle:=h.le
 rcases Nat.lt_trichotomy j (fmI a n b)with q|q|q
 ·exact .inr ⟨j,by omega,h.lo j q,.inl ⟨q,rfl⟩⟩
 ·exact .inl ⟨q,by rw[q];exact h.at_⟩
 ·exact .inr ⟨j-1,by omega,h.hi j q,.inr ⟨q,rfl⟩⟩
theorem ZfI:YH (YP a n b)=0:=by
 have h8:=h.lt
 have hI:=h.le
 refine Zk3 (λk hk=>?_) (λi j hij hj=>?_) (λi j hij hj q s hq hs=>?_)
 ·rcases Vs h hk with⟨_,e⟩|⟨k',hk',e,_⟩
  ·rw[e]
   exact⟨by show(1:Int)<=(fmI a n b:Int)+1;omega,by show(fmI a n b:Int)+1<=8;omega,h.may⟩
  ·rw[e]
   exact⟨(Vv h.chk hk').1,(Vv h.chk hk').2,Ziw h.chk k' hk'⟩
 ·rcases Vs h (Nat.lt_trans hij hj)with⟨q1,e1⟩|⟨k1,hk1,e1,w1⟩
  ·rcases Vs h hj with⟨q2,e2⟩|⟨k2,hk2,e2,w2⟩
   ·omega
   ·rw[e1,e2]
    show(fmI a n b:Int)+1<(a.r0 k2).f0
    have g1:=gang_ge h.chk (fmI a n b) (by omega)
    have g2:=h.here (by omega)
    by_cases w:fmI a n b=k2
    ·rw[<- w];omega
    ·have:=Zc3 h.chk (fmI a n b) k2 (by omega) hk2
     omega
  ·rcases Vs h hj with⟨q2,e2⟩|⟨k2,hk2,e2,w2⟩
   ·rw[e1,e2]
    show(a.r0 k1).f0<(fmI a n b:Int)+1
    rw[h.low k1 (by omega)]
    omega
   ·rw[e1,e2]
    exact Zc3 h.chk k1 k2 (by omega) hk2
 ·rcases Vs h (Nat.lt_trans hij hj)with⟨q1,e1⟩|⟨k1,hk1,e1,w1⟩
  ·rcases Vs h hj with⟨q2,e2⟩|⟨k2,hk2,e2,w2⟩
   ·omega
   ·rw[e1]at hq⊢;rw[e2]at hs⊢
    exact(h.new q hq k2 hk2 s hs).symm
  ·rcases Vs h hj with⟨q2,e2⟩|⟨k2,hk2,e2,w2⟩
   ·rw[e1]at hq⊢;rw[e2]at hs⊢
    exact h.new s hs k1 hk1 q hq
   ·rw[e1]at hq⊢;rw[e2]at hs⊢
    exact Zk7 h.chk (by omega) hk2 hq hs
end
def rowP(n:Nat)(r:Nat->ZI)(x:Int)(j:Nat):V:=bif zK (0+zk ((zk x+(n-zk (zD .i64 (x+1))):Nat):Int)) (0+j)&&zG (0+j) (0+zk ((zk x+(n-zk (zD .i64 (x+1))):Nat):Int)+(zk ((n:Nat):Int)-zk ((zk x+(n-zk (zD .i64 (x+1))):Nat):Int)))then zf (zn ze .i64 (0:Int)) (zf V.Zo zh)
 else bif zK (0+zk x) (0+j)&&zG (0+j) (0+zk x+(n-zk (zD .i64 (x+1))))then(bif zG (0+zk (zD .i64 (x+1))+(0+j-(0+zk x))) n then Zu za (r (0+zk (zD .i64 (x+1))+(0+j-(0+zk x))))else zf V.junk (zf V.junk zh))else Zu za (r (0+j))
theorem rowP_at{r:Nat->ZI}(hn:n<=1000)(hi:i<n)(hj:j<n-1):XC (rowP n r (i:Int) j)=r (if j<i then j else j+1):=by
 unfold rowP
 rw[IntWalk.i64_in ((i:Int)+1) ⟨by omega,by omega⟩]
 simp only[Int.toNat_natCast,zX]
 have e1:zk ((i:Int)+1)=i+1:=by omega
 rw[e1,ZeU (show ¬i+(n-(i+1))<=j by omega)]
 by_cases hji:j<i
 ·rw[ZeU (show ¬i<=j by omega),if_pos hji]
  rfl
 ·rw[bleT_of (show i<=j by omega),Zat (show j<i+(n-(i+1))by omega),if_neg hji]
  rw[show i+1+(j-i)=j+1 by omega,Zat (show j+1<n by omega)]
  rfl
theorem rowP_len{r:Nat->ZI}(h:∀j,(r j).n1<=1000):(XC (rowP n r x j)).n1<=1000:=WO (p:=λv=>(XC v).n1<=1000) (Nat.zero_le _) (WO (p:=λv=>(XC v).n1<=1000) (WO (p:=λv=>(XC v).n1<=1000) (h _) (Nat.zero_le _)) (h _))
theorem part_ok(h:YH g=0)(hi:i<g.n0):Ql g (g.r0 i).f0=0/\(Xd g (g.r0 i).f0).n0=g.n0-1/\(∀j,j<g.n0-1->(Xd g (g.r0 i).f0).r0 j=g.r0 (if j<i then j else j+1))/\((∀j,(g.r0 j).n1<=1000)->∀j,((Xd g (g.r0 i).f0).r0 j).n1<=1000):=by
 have hd:=Vv h hi
 have h8:=ZfR h
 have ha:=gAt_found h hi
 have eA:(ZG (zf (zl za 2 g.n0 λj=>Zu za (g.r0 (0+j))) zh))=g:=by
  have e:(λj=>Zu za (g.r0 (0+j)))=λj=>Zu za (g.r0 j):=funext λj=>by rw[zX]
  rw[e];rfl
 have c1:(bif YH g != (0:Int)then ze else za)=za:=by rw[h];rfl
 have c2:(bif (bif decide ((g.r0 i).f0<(1:Int))then ze else decide ((g.r0 i).f0>(8:Int)))then ze else za)=za:=by
  rw[decide_eq_false (by omega:¬(g.r0 i).f0<1),decide_eq_false (by omega:¬(g.r0 i).f0>8)];rfl
 have c3:(bif !QW (ZG (zf (zl za 2 g.n0 λj=>Zu za (g.r0 (0+j))) zh)) (g.r0 i).f0 then ze else za)=za:=by rw[eA,ha.2];rfl
 have hv:(ZfO g (g.r0 i).f0 X9 QW).valOf=_:=cF c1 (cF c2 (cF c3 rfl))
 have hn:(Xd g (g.r0 i).f0).n0=zk (X9 (ZG (zf (zl za 2 g.n0 λj=>Zu za (g.r0 (0+j))) zh)) (g.r0 i).f0)+(g.n0-zk (zD .i64 (X9 (ZG (zf (zl za 2 g.n0 λj=>Zu za (g.r0 (0+j))) zh)) (g.r0 i).f0+1))):=by
  unfold Xd;rw[hv];rfl
 have hr:∀j,(Xd g (g.r0 i).f0).r0 j=XC (rowP g.n0 g.r0 (X9 (ZG (zf (zl za 2 g.n0 λj=>Zu za (g.r0 (0+j))) zh)) (g.r0 i).f0) j):=λj=>by
  unfold Xd;rw[hv];rfl
 refine⟨?_,?_,λj hj=>?_,λhl j=>by rw[hr];exact rowP_len hl⟩
 ·unfold Ql;rw[hv];rfl
 ·rw[hn,eA,ha.1,IntWalk.i64_in _ ⟨by omega,by omega⟩]
  omega
 ·rw[hr,eA,ha.1]
  exact rowP_at (by omega) hi hj
theorem Zi6(h:Zan a n b):Ql (YP a n b) (Y9 a n b)=0/\(Xd (YP a n b) (Y9 a n b)).n0=a.n0/\(∀j,j<a.n0->(Xd (YP a n b) (Y9 a n b)).r0 j=a.r0 j)/\((∀j,((YP a n b).r0 j).n1<=1000)->∀j,((Xd (YP a n b) (Y9 a n b)).r0 j).n1<=1000):=by
 have hle:=h.le
 have hi:fmI a n b<(YP a n b).n0:=by rw[h.n0];omega
 have hid:((YP a n b).r0 (fmI a n b)).f0=Y9 a n b:=by rw[h.at_,h.id]
 have hp:=part_ok (ZfI h) hi
 rw[hid,h.n0]at hp
 refine⟨hp.1,hp.2.1,λj hj=>?_,hp.2.2.2⟩
 rw[hp.2.2.1 j (by omega)]
 by_cases w:j<fmI a n b
 ·rw[if_pos w];exact h.lo j w
 ·rw[if_neg w,h.hi (j+1) (by omega)];rfl
theorem eq3_refl(n:Nat)(r:Nat->DT3):Gh n r n r=ze:=by
 have e2:Gh n r n r=V.toBool (bif (bif (n:Int) != (n:Int)then ze else za)then zC ze za else bif (bif Zp (Zd5 n r n r) n then ze else za)then zC ze za else zC ze ze):=by kernel_rfl
 have e3:Zp (Zd5 n r n r) n=za:=Qv λk hk=>by
  show(bif (bif (bif (r k).f0 != (r k).f0 then ze else za)then ze else za)then ze else za)=za
  simp
 rw[e2,e3];simp only[bne_self_eq_false,cond_false];rfl
theorem Zrm{x y:Zc}(hn:x.n0=y.n0)(h:∀j,j<x.n0->x.r0 j=y.r0 j):Za6 x y=ze:=by
 have e1:Za6 x y=Zdc x.n0 x.r0 y.n0 y.r0:=by kernel_rfl
 have e2:Zdc x.n0 x.r0 y.n0 y.r0=V.toBool (bif (bif (x.n0:Int) != (y.n0:Int)then ze else za)then zC ze za else bif (bif Zp (Zd9 x.n0 x.r0 y.n0 y.r0) x.n0 then ze else za)then zC ze za else zC ze ze):=by kernel_rfl
 have e3:Zp (Zd9 x.n0 x.r0 y.n0 y.r0) x.n0=za:=Qv λk hk=>by
  show(bif (bif (bif !bif (x.r0 k).f0==(y.r0 k).f0 then Gh (x.r0 k).n1 (x.r0 k).r1 (y.r0 k).n1 (y.r0 k).r1 else za then ze else za)then ze else za)then ze else za)=za
  rw[h k hk,eq3_refl];simp
 rw[e1,e2,e3,hn];simp only[bne_self_eq_false,cond_false];rfl
theorem ZpM{x y:Zc}(hy:YH y=0)(hn:x.n0=y.n0)(h:∀j,j<x.n0->x.r0 j=y.r0 j):YH x=0:=by
 refine Zk3 (λk hk=>?_) (λi j hij hj=>?_) (λi j hij hj q s hq hs=>?_)
 ·rw[h k hk];exact⟨(Vv hy (by omega)).1,(Vv hy (by omega)).2,Ziw hy k (by omega)⟩
 ·rw[h i (by omega),h j hj];exact Zc3 hy i j hij (by omega)
 ·rw[h i (by omega)]at hq⊢;rw[h j hj]at hs⊢
  exact Zk7 hy hij (by omega) hq hs
abbrev fmG(e:Za)(n:Nat)(b:Nat->DT3):Zc:=YP (gaO e) n b
abbrev ofZ(e:Za)(n:Nat)(b:Nat->DT3):OfZ:=YL (plS e) (guO e) (fmG e n b) e.n6 e.r6 e.n12 e.r12 e.f13 n b
abbrev ofBd(e:Za)(n:Nat)(b:Nat->DT3):Bool:=XK (plS e) (guO e) (fmG e n b) e.n6 e.r6 e.n12 e.r12 e.f13 n b
def fmS(e:Za)(n:Nat)(b:Nat->DT3):Za:=ZR e (plS e) (fmG e n b) (ofZ e n b).2.1 (ofZ e n b).2.2.1 (ofZ e n b).2.2.2 (ofZ e n b).1
structure FmGo(e:Za)(n:Nat)(b:Nat->DT3):Prop where
 own:Xu e n b=za
 home:XP (guO e) n b n b=za
 form:XF (gaO e) n b=0
 room:YJ (plS e) (guO e) (fmG e n b)=ze
 off:ofBd e n b=za
variable{e:Za}
theorem doF_go(h:FmGo e n b):JL n b e=0/\JK n b e=Y9 (gaO e) n b/\ZaU n b e=fmS e n b:=by
 have c1:(bif Xu { e with r6:=λj=>e.r6 (0+j),r12:=λj=>e.r12 (0+j) } n b then ze else za)=za:=by rw[zo,h.own];rfl
 have c2:(bif XP (guO e) n b n b then ze else za)=za:=by rw[h.home];rfl
 have c3:(XF (gaO e) n b==(0:Int))=ze:=by rw[h.form];rfl
 have c4:(bif XF (gaO e) n b==(0:Int)then !YJ (plS e) (guO e) (fmG e n b)else za)=za:=by rw[h.form,h.room];rfl
 have c6:(bif ofBd e n b then ze else za)=za:=by rw[h.off];rfl
 have hv:(Kj n b e Xu XP YP Y9 XF YJ XK YL).valOf=_:=cF c1 (cF c2 (cT c3 (cF c4 (cT c3 (cF c6 rfl)))))
 refine⟨?_,?_,?_⟩
 ·unfold JL;rw[hv];rfl
 ·unfold JK;rw[hv];rfl
 ·have e1:ZaU n b e=ZR e (plS e) (fmG e n b) (λj=>(ofZ e n b).2.1 (0+j)) (ofZ e n b).2.2.1 (λj=>(ofZ e n b).2.2.2 (0+j)) (ofZ e n b).1:=by
   exact Eq.trans (congrArg (λv:V=>Yb v.inner.hd.inner) hv) (by kernel_rfl)
  rw[e1]
  unfold fmS
  simp only[zX]
theorem doF_no(h:¬FmGo e n b):JL n b e≠0/\JK n b e=0:=by
 cases h1:Xu e n b with
 |true=>
  have c1:(bif Xu { e with r6:=λj=>e.r6 (0+j),r12:=λj=>e.r12 (0+j) } n b then ze else za)=ze:=by rw[zo,h1];rfl
  have hv:(Kj n b e Xu XP YP Y9 XF YJ XK YL).valOf=_:=cT c1 rfl
  refine⟨λq=>?_,by unfold JK;rw[hv];rfl⟩
  unfold JL at q;rw[hv]at q
  have q:(4:Int)=0:=q
  omega
 |false=>
  have c1:(bif Xu { e with r6:=λj=>e.r6 (0+j),r12:=λj=>e.r12 (0+j) } n b then ze else za)=za:=by rw[zo,h1];rfl
  cases h2:XP (guO e) n b n b with
  |true=>
   have c2:(bif XP (guO e) n b n b then ze else za)=ze:=by rw[h2];rfl
   have hv:(Kj n b e Xu XP YP Y9 XF YJ XK YL).valOf=_:=cF c1 (cT c2 rfl)
   refine⟨λq=>?_,by unfold JK;rw[hv];rfl⟩
   unfold JL at q;rw[hv]at q
   have q:(2:Int)=0:=q
   omega
  |false=>
   have c2:(bif XP (guO e) n b n b then ze else za)=za:=by rw[h2];rfl
   by_cases h3:XF (gaO e) n b=0
   ·have c3:(XF (gaO e) n b==(0:Int))=ze:=by rw[h3];rfl
    cases h4:YJ (plS e) (guO e) (fmG e n b)with
    |false=>
     have c4:(bif XF (gaO e) n b==(0:Int)then !YJ (plS e) (guO e) (fmG e n b)else za)=ze:=by rw[h3,h4];rfl
     have hv:(Kj n b e Xu XP YP Y9 XF YJ XK YL).valOf=_:=cF c1 (cF c2 (cT c3 (cT c4 rfl)))
     refine⟨λq=>?_,by unfold JK;rw[hv];rfl⟩
     unfold JL at q;rw[hv]at q
     have q:(8:Int)=0:=q
     omega
    |true=>
     have c4:(bif XF (gaO e) n b==(0:Int)then !YJ (plS e) (guO e) (fmG e n b)else za)=za:=by rw[h3,h4];rfl
     cases h5:ofBd e n b with
     |false=>exact absurd ⟨h1,h2,h3,h4,h5⟩ h
     |true=>
      have c6:(bif ofBd e n b then ze else za)=ze:=by rw[h5];rfl
      have hv:(Kj n b e Xu XP YP Y9 XF YJ XK YL).valOf=_:=cF c1 (cF c2 (cT c3 (cF c4 (cT c3 (cT c6 rfl)))))
      refine⟨λq=>?_,by unfold JK;rw[hv];rfl⟩
      unfold JL at q;rw[hv]at q
      have q:(6:Int)=0:=q
      omega
   ·have c3:(XF (gaO e) n b==(0:Int))=za:=by simp[h3]
    have c4:(bif XF (gaO e) n b==(0:Int)then !YJ (plS e) (guO e) (gaO e)else za)=za:=by rw[c3];rfl
    have c5:(XF (gaO e) n b != (0:Int))=ze:=by rw[bne,c3];rfl
    have hv:(Kj n b e Xu XP YP Y9 XF YJ XK YL).valOf=_:=cF c1 (cF c2 (cF c3 (cF c4 (cF c3 (cT c5 rfl)))))
    refine⟨λq=>?_,by unfold JK;rw[hv];rfl⟩
    unfold JL at q;rw[hv]at q
    exact h3 q
theorem offM_none(e:Za)(g:Zc)(gr:Nat->DT3):XK (plS e) (guO e) g e.n6 e.r6 e.n12 e.r12 e.f13 0 gr=za/\YL (plS e) (guO e) g e.n6 e.r6 e.n12 e.r12 e.f13 0 gr=(e.f13,e.r6,e.n12,e.r12):=
 ⟨Qv (ZlY (d:=Yb .nil) (sa:=0) e.n6).2,(ZlY (d:=Yb .nil) (sa:=0) e.n6).1⟩
theorem doP_go{f:Int}(h1:Ql (gaO e) f=0)(h2:YJ (plS e) (guO e) (Xd (gaO e) f)=ze) :
  Ua f e=0/\Vo f e=ZR e (plS e) (Xd (gaO e) f) e.r6 e.n12 e.r12 e.f13:=by
 have hz:=offM_none e (Xd (gaO e) f) (λ_=>⟨0⟩)
 have c1:(bif Ql (gaO e) f==(0:Int)then !YJ (plS e) (guO e) (Xd (gaO e) f)else za)=za:=by rw[h1,h2];rfl
 have c2:(Ql (gaO e) f==(0:Int))=ze:=by rw[h1];rfl
 have c3:(bif XK (plS e) (guO e) (Xd (gaO e) f) e.n6 e.r6 e.n12 e.r12 e.f13 0 (λ_=>⟨0⟩)then ze else za)=za:=by rw[hz.1];rfl
 have hv:(ZaV f e Xd Ql YJ XK YL).valOf=_:=cF c1 (cT c2 (cF c3 rfl))
 refine⟨?_,?_⟩
 ·unfold Ua;rw[hv];rfl
 ·have e1:Vo f e=ZR e (plS e) (Xd (gaO e) f) (λj=>(YL (plS e) (guO e) (Xd (gaO e) f) e.n6 e.r6 e.n12 e.r12 e.f13 0 (λ_=>⟨0⟩)).2.1 (0+j)) (YL (plS e) (guO e) (Xd (gaO e) f) e.n6 e.r6 e.n12 e.r12 e.f13 0 (λ_=>⟨0⟩)).2.2.1 (λj=>(YL (plS e) (guO e) (Xd (gaO e) f) e.n6 e.r6 e.n12 e.r12 e.f13 0 (λ_=>⟨0⟩)).2.2.2 (0+j)) (YL (plS e) (guO e) (Xd (gaO e) f) e.n6 e.r6 e.n12 e.r12 e.f13 0 (λ_=>⟨0⟩)).1:=by
   exact Eq.trans (congrArg (λv:V=>Yb v.inner.hd.inner) hv) (by kernel_rfl)
  rw[e1,hz.2]
  simp only[zX]
section
variable{e:Za}(hf:ZL e=0)
include hf
theorem ZpH:V.toInt (Ux (plS e))=0:=by
 have h1:=Y4 (WM hf).1
 have h2:=Y4 h1.1
 have h5:=Y4 h2.2
 exact eqT (Y4 h5.2).1
variable{i:Nat}
theorem put_oh(hi:i<e.n12):(Zg e).oh (e.r12 i).f0=ze:=(Zac (Zg e) i (Gv hf i hi)).2.2.2.1
theorem put_own(hi:i<e.n12):∃j,j<e.n6/\(e.r6 j).f0=(e.r12 i).f0:=by
 obtain⟨k,hk,ek,_⟩:=(Zgb e).1 _ (put_oh hf hi)
 exact⟨k,hk,ek⟩
theorem ZkR:0<=e.f0/\e.f13<=Jt:=by
 have h3:=Y4 (Y4 (Y4 (WM hf).1).1).1
 exact⟨of_decide_eq_true h3.1,of_decide_eq_true (Y4 h3.2).2⟩
variable(h3:e.n3<=1000)(h4:e.n4<=1000)
include h3 h4
theorem room_self:YJ (plS e) (guO e) (gaO e)=ze:=by
 refine(ZdK (Zin hf)).2 ⟨λj hj=>?_,λk hk=>?_⟩
 ·have hg:=fT (fT (WM hf).2.1).2
  have b:=Y7 (nf4 (fT hg.2).1) j hj
  have eq:GD (Zg e) j=bif (bif (bif Qd (Wu (guO e) (e.r4 j).f0) (e.r2 (zk (e.r3 (zk (Xy (Zg e) (e.r4 j).f0))).f3)).f0==(0:Int)then ze else za)then ze else za)then ze else za:=by kernel_rfl
  rw[eq]at b
  have b1:=nf4 (nf4 (nf4 b))
  have hm:=Zbn hf h3 h4 (plS e) hj
  intro q
  have q:mayV (plS e) e j=0:=q
  rw[show(e.r2 (zk (e.r3 (zk (Xy (Zg e) (e.r4 j).f0))).f3)).f0=((plS e).r0 (zk (e.r3 (zk (Xy (Zg e) (e.r4 j).f0))).f3)).f0 from rfl,hm,q]at b1
  cases b1
 ·have hp:=Zk9 (ZkQ hf k hk)
  have hmk:=Zk6 hp.1
  have hg:=hp.2
  rw[hmk.1]at hg
  rw[<- Zix (λj hj=>?_)]
  ·exact hg
  ·rw[zX,hmk.2 j hj]
   obtain⟨i,hi,hv⟩:=Zbv hf (ZiX hf hk hj).1
   have:=Zbn hf h3 h4 (plS e) hi
   unfold mayV at this
   rw[hv]at this
   exact congrArg ZE.mk this
theorem home_eq{x:Int}(hx:(Zg e).oh x=ze):Zm (guO e) x=Xy (Zg e) x:=by
 obtain⟨j,hj,hv⟩:=Zbv hf hx
 obtain⟨i,hi,he,e1,e2,_⟩:=ZiD hf h3 h4 hj
 rw[<- hv,e1,e2]
theorem ZiV{x:Int}(hx:(Zg e).oh x=ze):(0<=Zm (guO e) x/\Zm (guO e) x<((guO e).n0:Nat))/\0<=((guO e).r0 (Zm (guO e) x).toNat).f3/\((guO e).r0 (Zm (guO e) x).toNat).f3<(plS e).n0:=by
 obtain⟨j,hj,rfl⟩:=Zbv hf hx
 obtain⟨i,hi,he,e1,e2,e3,e4⟩:=ZiD hf h3 h4 hj
 rw[e1]
 refine⟨⟨by omega,by show(i:Int)<(e.n3:Nat);omega⟩,e3,?_⟩
 show(e.r3 (zk (i:Int))).f3<(e.n2:Nat)
 rw[Int.toNat_natCast];exact e4
theorem put_has(hi:i<e.n12):WA (YF (plS e) (guO e) (e.r12 i).f0) (e.r12 i).f1=ze:=by
 have ht:=(Zmn (Gv hf i hi)).2.2
 obtain⟨j,hj2,hv⟩:=Zbv hf (put_oh hf hi)
 have hmv:=Zbn hf h3 h4 (plS e) hj2
 unfold mayV at hmv
 rw[hv]at hmv
 rw[<- hmv]
 exact ht
end
def HDG(p:Zj)(gu:Zf)(ga:Zc)(n:Nat)(r:Nat->ZA):Prop:=ga.n0<=1000/\(∀j,(ga.r0 j).n1<=1000)/\YV ga<=1000/\(∀j,j<YV ga->0<(ZV ga j).n0/\(ZV ga j).n0<=8/\∀q,q<(ZV ga j).n0->(0<=Zm gu ((ZV ga j).r0 q).f0/\Zm gu ((ZV ga j).r0 q).f0<gu.n0)/\0<=(gu.r0 (Zm gu ((ZV ga j).r0 q).f0).toNat).f3/\(gu.r0 (Zm gu ((ZV ga j).r0 q).f0).toNat).f3<p.n0)/\(∀j,j<gu.n1->(0<=Zm gu (gu.r1 j).f0/\Zm gu (gu.r1 j).f0<gu.n0)/\0<=(gu.r0 (Zm gu (gu.r1 j).f0).toNat).f3/\(gu.r0 (Zm gu (gu.r1 j).f0).toNat).f3<p.n0)/\∀j,j<n->((0<=Zm gu (r j).f0/\Zm gu (r j).f0<gu.n0)/\0<=(gu.r0 (Zm gu (r j).f0).toNat).f3/\(gu.r0 (Zm gu (r j).f0).toNat).f3<p.n0)/\WA (YF p gu (r j).f0) (r j).f1=ze
theorem hdg_of{r:Nat->ZA}(hf:ZL e=0)(h3:e.n3<=1000)(h4:e.n4<=1000)(hgc:YH g=0)(hl:∀j,(g.r0 j).n1<=1000)(hme:Zbp e g)(hr:∀j,j<n->∃i,i<e.n12/\r j=e.r12 i):HDG (plS e) (guO e) g n r:=by
 have hg:=Ziy hgc
 have h8:=ZfR hgc
 refine⟨by omega,hl,by rw[hg.1];omega,λj hj=>?_,λj hj=>?_,λj hj=>?_⟩
 ·rw[hg.1]at hj
  rw[hg.2 j hj]
  have hsz:=gang_size hgc hj
  exact⟨hsz.1,hsz.2,λq hq=>ZiV hf h3 h4 (hme j hj q hq).1⟩
 ·have h64:=(Za4 hf).1
  have hj:j<e.n4:=hj
  have ho:=(Zgb e).2 j (by omega)
  rw[Za3 hf j (by omega)]at ho
  exact ZiV hf h3 h4 ho
 ·obtain⟨i,hi,q⟩:=hr j hj
  rw[q]
  exact⟨ZiV hf h3 h4 (put_oh hf hi),put_has hf h3 h4 hi⟩
structure Fm(e:Za)(n:Nat)(b:Nat->DT3):Prop where
 hf:ZL e=0
 sm:small e
 h12:e.n12<=100
 hu:0<=e.f13
 hn:n<=1000
 go:FmGo e n b
section
variable{e:Za}{n:Nat}{b:Nat->DT3}(hf:ZL e=0)(h3:e.n3<=1000)(h4:e.n4<=1000)(ho:Xu e n b=za)(hh:XP (guO e) n b n b=za)
include hf ho
omit hf in
theorem fm_oh{s:Nat}(hs:s<n):(Zg e).oh (b s).f0=ze:=by
 have e1:Xu e n b=decide (Zbj e n b>=0):=by kernel_rfl
 have e2:Zbj e n b=V.toInt (bif (bif Zp (UK n b e 0 (λ_=>Zx .nil) 0 (Ym .nil) (ZQ .nil) (ZG .nil)) n then ze else za)then zn za .i64 ((ZN (UK n b e 0 (λ_=>Zx .nil) 0 (Ym .nil) (ZQ .nil) (ZG .nil)) n 0:Nat):Int)else zn ze .i64 (-1)):=by kernel_rfl
 rw[e1,e2]at ho
 cases hq:Zp (UK n b e 0 (λ_=>Zx .nil) 0 (Ym .nil) (ZQ .nil) (ZG .nil)) n
 ·have hb:(bif (bif (bif decide (QC (b s).f0 e.n6 e.r6<(0:Int))then ze else za)then ze else za)then ze else za)=za:=Y7 hq s hs
  have h1:=of_decide_eq_false (nf4 (nf4 (nf4 hb)))
  rw[Zlo]at h1
  cases hx:Zp (K8 e.n6 e.r6 (b s).f0) e.n6
  ·rw[hx]at h1;simp only[cond_false]at h1;omega
  ·obtain⟨k,hk,hb⟩:=Zck hx
   have hb:(bif (bif (bif (e.r6 k).f0==(b s).f0 then ze else za)then ze else za)then ze else za)=ze:=hb
   have:=eqT (wTt (wTt (wTt hb)))
   rw[<- this]
   exact(Zgb e).2 k hk
 ·rw[hq]at ho
  have h2:¬((ZN (UK n b e 0 (λ_=>Zx .nil) 0 (Ym .nil) (ZQ .nil) (ZG .nil)) n 0:Nat):Int)>=0:=of_decide_eq_false ho
  omega
include h3 h4 hh
theorem fm_home{s:Nat}(hs:s<n):Xy (Zg e) (b s).f0=Xy (Zg e) (b 0).f0:=by
 rw[<- home_eq hf h3 h4 (fm_oh ho hs),<- home_eq hf h3 h4 (fm_oh ho (s:=0) (by omega))]
 have e1:XP (guO e) n b n b=decide (Zbi (guO e) n b n b>=0):=by kernel_rfl
 have e2:Zbi (guO e) n b n b=V.toInt (bif (bif Zp (UJ n b (Yb .nil) 0 (λ_=>Zx .nil) 0 (Ym .nil) (guO e) (ZG .nil) n b) n then ze else za)then zn za .i64 ((ZN (UJ n b (Yb .nil) 0 (λ_=>Zx .nil) 0 (Ym .nil) (guO e) (ZG .nil) n b) n 0:Nat):Int)else zn ze .i64 (-1)):=by kernel_rfl
 rw[e1,e2]at hh
 cases hq:Zp (UJ n b (Yb .nil) 0 (λ_=>Zx .nil) 0 (Ym .nil) (guO e) (ZG .nil) n b) n
 ·have hb:(bif (bif (bif Zm (guO e) (b s).f0 != Zm (guO e) (b 0).f0 then ze else za)then ze else za)then ze else za)=za:=Y7 hq s hs
  exact bneF (nf4 (nf4 hb))
 ·rw[hq]at hh
  have h2:¬((ZN (UJ n b (Yb .nil) 0 (λ_=>Zx .nil) 0 (Ym .nil) (guO e) (ZG .nil) n b) n 0:Nat):Int)>=0:=of_decide_eq_false hh
  omega
theorem fm_mem(h:Zan (gaO e) n b):Zbp e (fmG e n b):=λk hk s hs=>by
 rcases Vs h hk with⟨_,q⟩|⟨k',hk',q,_⟩
 ·rw[show(fmG e n b).r0 k=_ from q]at hs⊢
  exact⟨fm_oh ho hs,fm_home hf h3 h4 ho hh hs⟩
 ·rw[show(fmG e n b).r0 k=_ from q]at hs⊢
  exact ZiX hf hk' hs
end
theorem Ziv(h:Zan a n b)(hl:∀j,(a.r0 j).n1<=1000)(hn:n<=1000)(j:Nat):((YP a n b).r0 j).n1<=1000:=by
 rcases Nat.lt_trichotomy j (fmI a n b)with q|q|q
 ·rw[h.lo j q];exact hl j
 ·rw[q,h.at_];exact hn
 ·rw[h.hi j q];exact hl _
section
variable{e:Za}{n:Nat}{b:Nat->DT3}(H:Fm e n b)
include H
theorem KO:Zan (gaO e) n b:=form_ok H.go.form
theorem Gw:OfI e.n6 e.r6 e.n12 e.r12 e.f13 n b e.n6 (ofZ e n b):=by
 have ho:=ZkS H.hf
 have hb:Zp (G6 (Yb .nil) (plS e) (guO e) (fmG e n b) e.n6 e.r6 e.n12 e.r12 0 e.f13 n b XJ YU) e.n6=za:=H.go.off
 exact ofm_inv (d:=Yb .nil) (p:=plS e) (gu:=guO e) (ga:=fmG e n b) (sa:=0) H.h12 ⟨H.hu,(ZkR H.hf).2⟩ (λi j hi hj q=>fine_inj H.hf H.sm.2.2.2.1 hi hj q) (λi j hi hj q=>put_inj H.hf hi hj q) ho.2 (λj hj=>(ho.1 j hj).2) e.n6 (zI _) (λi hi=>Y7 hb i hi)
theorem ZkU{i s:Nat}(hi:i<(ofZ e n b).2.2.1)(hs:s<n):((ofZ e n b).2.2.2 i).f0≠(b s).f0:=λq=>by
 have hI:=Gw H
 obtain⟨f,hf1,_⟩:=hI.sub
 have h:=hf1 i hi
 obtain⟨j,hj,ej⟩:=put_own H.hf h.1
 have:=hI.gone i hi j hj (by rw[ej,h.2])
 rw[ej,<- h.2,q,Zfp.2 ⟨s,hs,rfl⟩]at this
 cases this
theorem fm_put{i:Nat}(hi:i<(ofZ e n b).2.2.1):∃k,k<e.n12/\(ofZ e n b).2.2.2 i=e.r12 k:=by
 obtain⟨f,hf1,_⟩:=(Gw H).sub
 exact⟨f i,hf1 i hi⟩
theorem fm_puts{g:Zc}(hg:∀k,k<g.n0->(∃k',k'<e.n5/\g.r0 k=e.r5 k')\/∃x,g.r0 k=⟨x,n,b⟩):PutsOk e (plS e) g (ofZ e n b).2.1 (ofZ e n b).2.2.1 (ofZ e n b).2.2.2:=by
 have hi:=Gw H
 obtain⟨f,hf1,hf2⟩:=hi.sub
 have hnow:=(ZkR H.hf).1
 have h3:=H.sm.2.2.1
 have h4:=H.sm.2.2.2.1
 have hff:=H.hf
 refine⟨hi.sub,λi hi2=>?_,λj hj hno=>?_,λk hk=>?_⟩
 ·have h:=hf1 i hi2
  rw[h.2];exact put_has hff h3 h4 h.1
 ·by_cases hon:∃i,i<e.n12/\(e.r12 i).f0=(e.r6 j).f0
  ·obtain⟨i,hi2,ei⟩:=hon
   rcases hi.off j i hj hi2 ei with⟨i',h1,h2⟩|h
   ·exact absurd h2 (hno i' h1)
   ·rw[h];exact hnow
  ·have h2:=fine_pl2 hff j hj
   rw[pl2_eq]at h2
   have h5:=nf4 (nf4 (nf4 h2))
   have hn:(Zg e).nh (e.r6 j).f0=za:=by
    cases hx:(Zg e).nh (e.r6 j).f0
    ·rfl
    ·exact absurd ((GX e _).1 hx) hon
   have h5:(bif !(Zg e).nh (e.r6 j).f0 then decide ((e.r6 j).f9>e.f0)else za)=za:=h5
   rw[hn]at h5
   have h6:¬(e.r6 j).f9>e.f0:=of_decide_eq_false h5
   rcases hi.own j with q|⟨_,x,_,_,q⟩
   ·rw[q];omega
   ·rw[q];exact hnow
 ·rcases hg k hk with⟨k',hk',q⟩|⟨x,q⟩
  ·rw[q]
   refine .inl ⟨k',hk',⟨rfl,λs hs=>rfl⟩,λs hs=>⟨λ⟨i,h1,h2⟩=>⟨f i,(hf1 i h1).1,by rw[<- (hf1 i h1).2];exact h2⟩,λ⟨i,h1,h2⟩=>?_⟩⟩
   rcases hi.kept i h1 with⟨j,h5,h6⟩|h5
   ·exact⟨j,h5,by rw[h6];exact h2⟩
   ·obtain⟨s2,hs2,q2⟩:=Zfp.1 h5
    exact absurd (h2.symm.trans q2.symm) ((KO H).new s2 hs2 k' hk' s hs)
  ·rw[q]
   exact .inr λs hs ⟨i,h1,h2⟩=>ZkU H h1 hs h2
theorem fm_chk{g:Zc}(hg:∀k,k<g.n0->(∃k',k'<e.n5/\g.r0 k=e.r5 k')\/∃x,g.r0 k=⟨x,n,b⟩)(hgc:YH g=0)(hme:Zbp e g)(hr:YJ (plS e) (guO e) g=ze):ZL (ZR e (plS e) g (ofZ e n b).2.1 (ofZ e n b).2.2.1 (ofZ e n b).2.2.2 (ofZ e n b).1)=0:=by
 have hi:=Gw H
 have ho:=ZkS H.hf
 have hu:=H.hu
 refine mod_chk H.hf H.sm.2.2.1 H.sm.2.2.2.1 (λj=>?_) (ZpH H.hf) rfl (zI _) hgc hme hr hi.ord (λj hj=>⟨hi.top j hj,?_⟩) hi.low.2 (fm_puts H hg)
 ·rcases hi.own j with q|⟨_,x,_,_,q⟩
  ·exact .inl q
  ·exact .inr ⟨x,q⟩
 ·rcases hi.own j with q|⟨_,x,h1,_,q⟩
  ·rw[q];exact(ho.1 j hj).1
  ·rw[q]
   show x≠0
   omega
theorem ZfG:ZL (fmS e n b)=0:=by
 refine fm_chk H (λk hk=>?_) (ZfI (KO H)) (fm_mem H.hf H.sm.2.2.1 H.sm.2.2.2.1 H.go.own H.go.home (KO H)) H.go.room
 rcases Vs (KO H) hk with⟨_,q⟩|⟨k',hk',q,_⟩
 ·exact .inr ⟨_,q⟩
 ·exact .inl ⟨k',hk',q⟩
theorem Zit:small (fmS e n b):=by
 obtain⟨s1,s2,s3,s4,s5,s6,s8,s10,s11,s12,sm⟩:=H.sm
 have h8:=ZfR (ZfI (KO H))
 exact⟨s1,s2,s3,s4,by show(YP (gaO e) n b).n0<=1000;omega,s6,s8,s10,s11,Nat.le_trans (Gw H).len s12,λj=>Ziv (KO H) sm H.hn j⟩
abbrev ptG(e:Za)(n:Nat)(b:Nat->DT3):Zc:=Xd (fmG e n b) (Y9 (gaO e) n b)
def ptS(e:Za)(n:Nat)(b:Nat->DT3):Za:=ZR e (plS e) (ptG e n b) (ofZ e n b).2.1 (ofZ e n b).2.2.1 (ofZ e n b).2.2.2 (ofZ e n b).1
theorem Kw:(ptG e n b).n0=e.n5/\∀j,j<(ptG e n b).n0->(ptG e n b).r0 j=e.r5 j:=by
 have h:=Zi6 (KO H)
 exact⟨h.2.1,λj hj=>h.2.2.1 j (by rw[<- h.2.1];exact hj)⟩
theorem pt_gc:YH (ptG e n b)=0:=ZpM (y:=gaO e) (Zin H.hf) (Kw H).1 (Kw H).2
theorem pt_mem:Zbp e (ptG e n b):=λk hk s hs=>by
 have hr:=(Kw H).2 k hk
 rw[hr]at hs⊢
 exact ZiX H.hf (by rw[<- (Kw H).1];exact hk) hs
theorem pt_room:YJ (plS e) (guO e) (ptG e n b)=ze:=by
 have h:=(ZdK (Zin H.hf)).1 (room_self H.hf H.sm.2.2.1 H.sm.2.2.2.1)
 refine(ZdK (pt_gc H)).2 ⟨h.1,λk hk=>?_⟩
 rw[(Kw H).2 k hk]
 exact h.2 k (by show k<e.n5;rw[<- (Kw H).1];exact hk)
theorem pt_fine:ZL (ptS e n b)=0:=fm_chk H (λk hk=>.inl ⟨k,by rw[<- (Kw H).1];exact hk,(Kw H).2 k hk⟩) (pt_gc H) (pt_mem H) (pt_room H)
theorem Zmf:small (ptS e n b):=by
 obtain⟨s1,s2,s3,s4,s5,s6,s8,s10,s11,s12,sm⟩:=H.sm
 exact⟨s1,s2,s3,s4,by show(ptG e n b).n0<=1000;rw[(Kw H).1];exact s5,s6,s8,s10,s11,Nat.le_trans (Gw H).len s12,λj=>(Zi6 (KO H)).2.2.2 (λj=>Ziv (KO H) sm H.hn j) j⟩
omit H in
theorem modU_in(e:Za)(p:Zj)(g:Zc)(o:Nat->Zq)(m:Nat)(q:Nat->ZA)(la:Int):gaO (ZR e p g o m q la)=g/\plS (ZR e p g o m q la)=p/\guO (ZR e p g o m q la)=guO e:=⟨rfl,rfl,rfl⟩
omit H in
theorem modU_two(e:Za)(p p':Zj)(g g':Zc)(o:Nat->Zq)(m:Nat)(q:Nat->ZA)(la:Int):ZR (ZR e p g o m q la) p' g' (ZR e p g o m q la).r6 (ZR e p g o m q la).n12 (ZR e p g o m q la).r12 (ZR e p g o m q la).f13=ZR e p' g' o m q la:=rfl
theorem pt_yes:Ua (Y9 (gaO e) n b) (fmS e n b)=0/\Vo (Y9 (gaO e) n b) (fmS e n b)=ptS e n b:=by
 have hi:=modU_in e (plS e) (fmG e n b) (ofZ e n b).2.1 (ofZ e n b).2.2.1 (ofZ e n b).2.2.2 (ofZ e n b).1
 have hg:gaO (fmS e n b)=fmG e n b:=hi.1
 have hp:plS (fmS e n b)=plS e:=hi.2.1
 have hu:guO (fmS e n b)=guO e:=hi.2.2
 have h:=doP_go (e:=fmS e n b) (f:=Y9 (gaO e) n b) (by rw[hg];exact(Zi6 (KO H)).1) (by rw[hg,hp,hu];exact pt_room H)
 refine⟨h.1,h.2.trans ?_⟩
 rw[hg,hp]
 exact modU_two e (plS e) (plS e) (fmG e n b) (ptG e n b) _ _ _ _
end
def gaV(g:Zc):V:=.agg (Y5 za g)
def gaS(e:Za):Zc:=⟨e.n5,e.r5⟩
theorem Zp1(Ck:Za->Int)(a e:Za)(bn:Nat)(b:Nat->DT3)(r r2:DoA)(p:Prop)(Oc:Int->Int)(Oi:Int->Bool)(Sm:Zc->Zc->Bool):ZT (Zl P (lawG Ck a e (ZU 17 bn) b r r2 p Oc Oi Sm) [lg_lp r2.n (ZU 17 bn) b Oc Oi] ze) 400 5 (.cons (.agg (Z7 za a)) (.cons (.rsl za 1 bn λj=>ZK za (b j)) .nil))=
 .need (zf (zJ (Z7 za a)) zh=zf (zJ (Z7 za a)) zh/\True) (.need (zf (zJ (Z7 za e)) zh=zf (zJ (Z7 za e)) zh/\small e) (.node (bif Ck e != (0:Int)then ze else za) (.leaf (.bool ze ze))
  (.need (zf (memV 5 bn b) zh=zf (memV 5 bn b) zh/\True) (.need (sR (doG e (memV 5 (ZU 17 bn) b)) (doG e (chgF (ZU 17 bn) b)))
   (.node (bif r.e != (0:Int)then ze else za) (.leaf (.bool za (r.k==(0:Int))))
    (.need (sR (doG r.n (chgP r.k)) (doG r.n (chgP r.k))/\p)
     (.need ((r2.e != (0:Int))=za->(zf (gaV (gaS r2.n)) (zf (gaV (gaS e)) zh)=zf (gaV (gaS r2.n)) (zf (gaV (gaS e)) zh)/\r2.n.n5<=1000/\∀j,(r2.n.r5 j).n1<=1000)/\((!Sm (gaS r2.n) (gaS e))=za->zf (zJ (Z7 za r2.n)) zh=zf (zJ (Z7 za r2.n)) zh/\small r2.n))
      (.node (bif (bif r2.e != (0:Int)then ze else bif !Sm (gaS r2.n) (gaS e)then ze else Ck r2.n != (0:Int))then ze else za) (.leaf (.bool ze za))
       (.need (zf (memV 0 bn b) zh=zf (memV 0 bn b) zh/\True) (.need (lg_need r2.n (ZU 17 bn) b Oc Oi) (.node (bif Zp (lg_bad r2.n (ZU 17 bn) b Oc Oi) (ZU 17 bn)then ze else za) (.leaf (.bool ze za)) (.leaf (.bool ze ze))))))))))))):=by kernel_rfl
theorem Zh2{a n:Za}(h:ZL a=0):dO_n a n=n:=by
 have c:(bif ZL a != (0:Int)then ze else za)=za:=by rw[h];rfl
 have hv:(do_T ZL a n 0 0 0 0 0 0 True).valOf=_:=cF c rfl
 unfold dO_n
 rw[hv];rfl
theorem small_zS:small zS:=⟨Nat.zero_le _,Nat.zero_le _,Nat.zero_le _,Nat.zero_le _,Nat.zero_le _,Nat.zero_le _,Nat.zero_le _,Nat.zero_le _,Nat.zero_le _,Nat.zero_le _,λj=>Nat.zero_le _⟩
theorem Zcy{a:Za}{y:Int}(h:ZL a=0):JJ a x y=y:=by unfold JJ;rw[h];rfl
theorem small_cut(a:Za):small (WY a):=by
 obtain⟨h1,h2,h3,h4,h5,h6,h8,h10,h11,h12,hm⟩:=Zko a
 exact⟨h1,h2,by omega,by omega,by omega,by omega,by omega,by omega,by omega,by omega,λj=>by have:=hm j;omega⟩
theorem doF_pre(hf:ZL e=0)(hs:small e)(h12:e.n12<=100)(hn:n<=1000):Zh P 41 (.cons (.agg (Z7 za e)) (.cons (chgF n b) .nil)) (.tup (.cons (.agg (Z7 za (ZaU n b e))) (.cons (.int za .i64 (JK n b e)) (.cons (.int za .i64 (JL n b e)) .nil)))):=by
 have h7:e.n7<=1000:=by rw[(Za4 hf).2];exact hs.2.2.1
 obtain⟨s1,s2,s3,s4,s5,s6,s8,s10,s11,s12,sm⟩:=hs
 have hm:=doF_meets n b e (by omega) (by omega) s3 s4 s5 s6 h7 s8 s10 s11 s12 sm h12 hn (λh1 h2 hq=>by
  have hk:=form_ok hq
  exact hdg_of hf s3 s4 (ZfI hk) (λj=>Ziv hk sm hn j) (fm_mem hf s3 s4 h1 h2 hk) (λj hj=>⟨j,hj,rfl⟩))
 exact Zh.args hm λF w n m xs hx=>(sR_R _ _ (by repeat'(first|exact rfl|apply zy)) n m).2 xs hx
theorem doP_pre(H:Fm e n b):Zh P 41 (.cons (.agg (Z7 za (fmS e n b))) (.cons (chgP (Y9 (gaO e) n b)) .nil)) (.tup (.cons (.agg (Z7 za (Vo (Y9 (gaO e) n b) (fmS e n b)))) (.cons (.int za .i64 (Zft (Y9 (gaO e) n b) (fmS e n b))) (.cons (.int za .i64 (Ua (Y9 (gaO e) n b) (fmS e n b))) .nil)))):=by
 have h7:(fmS e n b).n7<=1000:=by rw[(Za4 (ZfG H)).2];exact(Zit H).2.2.1
 have h12:(fmS e n b).n12<=100:=Nat.le_trans (Gw H).len H.h12
 have hs3:=H.sm.2.2.1
 have hs4:=H.sm.2.2.2.1
 obtain⟨s1,s2,s3,s4,s5,s6,s8,s10,s11,s12,sm⟩:=Zit H
 have hm:=doP_meets (Y9 (gaO e) n b) (fmS e n b) (by omega) (by omega) s3 s4 s5 s6 h7 s8 s10 s11 s12 sm h12 (λhq=>hdg_of (e:=e) H.hf hs3 hs4 (pt_gc H) (Zmf H).2.2.2.2.2.2.2.2.2.2 (pt_mem H) (λj hj=>fm_put H hj))
 exact Zh.args hm λF w n m xs hx=>(sR_R _ _ (by repeat'(first|exact rfl|apply zy)) n m).2 xs hx
theorem pt_off(H:Fm e n b){s:Nat}(hs:s<n):Ju (ptS e n b) (b s).f0=za:=by
 unfold Ju
 cases hn:(Zg (ptS e n b)).nh (b s).f0
 ·rfl
 ·obtain⟨i,hi,q⟩:=(GX (ptS e n b) _).1 hn
  exact absurd q (ZkU H hi hs)
theorem Zp0(a:Za)(bn:Nat)(b:Nat->DT3)(hu:0<=(WY a).f13):Zh P 5 (.cons (.agg (Z7 za a)) (.cons (.rsl za 1 bn λj=>ZK za (b j)) .nil)) (.bool ze ze):=by
 have hsm:=small_cut a
 have h12:(WY a).n12<=100:=by obtain⟨h1,h2,h3,h4,h5,h6,h8,h10,h11,h12,hm⟩:=Zko a;omega
 have hsh:=Zqo a
 generalize WY a=e at hsm h12 hu hsh
 have hn:ZU 17 bn<=1000:=by have h:ZU 17 bn<=17:=(Jc (m:=17) (n:=bn)).1;omega
 obtain⟨r,ern,erk,ere⟩:∃r:DoA,r.n=dO_n e (ZaU (ZU 17 bn) b e)/\r.k=JJ e 0 (JK (ZU 17 bn) b e)/\r.e=JJ e (ZL e) (JL (ZU 17 bn) b e):=⟨⟨_,_,_⟩,rfl,rfl,rfl⟩
 have hH:ZL e=0->r.e=0->Fm e (ZU 17 bn) b:=λh1 h2=>by
  rw[ere,Zcy h1]at h2
  by_cases hc:FmGo e (ZU 17 bn) b
  ·exact⟨h1,hsm,h12,hu,hn,hc⟩
  ·exact absurd h2 (doF_no hc).1
 have hRn:ZL e=0->r.e=0->r.n=fmS e (ZU 17 bn) b/\r.k=Y9 (gaO e) (ZU 17 bn) b:=λh1 h2=>by
  have hy:=doF_go (hH h1 h2).go
  exact⟨by rw[ern,Zh2 h1,hy.2.2],by rw[erk,Zcy h1,hy.2.1]⟩
 obtain⟨r2,hm2,hsm2,hr2⟩:∃r2:DoA,((ZL e=0/\r.e=0)->Zh P 10 (doG r.n (chgP r.k)) (doV r2))/\small r2.n/\((ZL e=0/\r.e=0)->r2.e=0/\r2.n=ptS e (ZU 17 bn) b):=by
  by_cases hp:ZL e=0/\r.e=0
  ·have H:=hH hp.1 hp.2
   have h1:=hRn hp.1 hp.2
   have hy:=pt_yes H
   refine⟨⟨dO_n r.n (Vo r.k r.n),JJ r.n 0 (Zft r.k r.n),JJ r.n (ZL r.n) (Ua r.k r.n)⟩,λ_=>?_,?_,λ_=>⟨?_,?_⟩⟩
   ·rw[h1.1,h1.2]
    exact Zkx (do_treeP _ _ _ _ _ _ _) (Zit H) λ_=>doP_pre H
   ·show small (dO_n r.n (Vo r.k r.n))
    rw[h1.1,h1.2,Zh2 (ZfG H),hy.2];exact Zmf H
   ·show JJ r.n (ZL r.n) (Ua r.k r.n)=0
    rw[h1.1,h1.2,Zcy (ZfG H),hy.1]
   ·show dO_n r.n (Vo r.k r.n)=_
    rw[h1.1,h1.2,Zh2 (ZfG H),hy.2]
  ·exact⟨⟨zS,0,0⟩,λh=>absurd h hp,small_zS,λh=>absurd h hp⟩
 have h1m:Zh P 10 (doG e (chgF (ZU 17 bn) b)) (doV r):=by
  unfold doV
  rw[ern,erk,ere]
  exact Zkx (do_treeF _ _ _ _ _ _ _ _) hsm λh=>doF_pre h hsm h12 hn
 refine meets (Zw hm Go.Proofs.YthhbdbeglmkijaaGreatDoor.hn (l:=lawG ZL a e (ZU 17 bn) b r r2 (ZL e=0/\r.e=0) (G8 r2.n) (Ju r2.n) Za6) ⟨Zn9,hsh,Zhx,c_few_ok,k_DoG_ok h1m hm2,k_on_ok hsm2,Zn7,trivial⟩
  (ls:=[lg_lp r2.n (ZU 17 bn) b (G8 r2.n) (Ju r2.n)]) ⟨lg_lp_ok r2.n (ZU 17 bn) b _ _ (k_on_ok hsm2) hn,trivial⟩ ze) 400 (Has.of Go.Proofs.YthhbdbeglmkijaaGreatDoor.hn Tryz.func5 rfl) (Zp1 ZL a e bn b r r2 _ _ _ _) ?_
 refine⟨⟨rfl,trivial⟩,⟨rfl,hsm⟩,λ_=>⟨rfl,rfl⟩,λhc=>⟨⟨rfl,trivial⟩,by repeat'(first|exact rfl|apply zy),λhe=>?_,λhe=>?_⟩⟩
 ·have h1:=nz0 hc
  have hk:r.k=0:=by
   rw[erk,Zcy h1]
   by_cases hq:FmGo e (ZU 17 bn) b
   ·exfalso
    have h0:r.e=0:=by rw[ere,Zcy h1,(doF_go hq).1]
    rw[h0]at he;cases he
   ·exact(doF_no hq).2
  rw[hk];exact⟨rfl,rfl⟩
 ·have h1:=nz0 hc
  have h2:=nz0 he
  have H:=hH h1 h2
  have hq:=hr2 ⟨h1,h2⟩
  have hlw:Zp (lg_bad r2.n (ZU 17 bn) b (G8 r2.n) (Ju r2.n)) (ZU 17 bn)=za:=Qv λs hs=>by
   show(bif (bif (bif Ju r2.n (b s).f0 then ze else za)then ze else za)then ze else za)=za
   rw[hq.2,pt_off H hs];rfl
  have hsame:Za6 (gaS r2.n) (gaS e)=ze:=by
   rw[hq.2]
   exact Zrm (x:=⟨(ptG e (ZU 17 bn) b).n0,(ptG e (ZU 17 bn) b).r0⟩) (y:=gaO e) (Kw H).1 (Kw H).2
  have hck:ZL r2.n=0:=by rw[hq.2];exact pt_fine H
  refine⟨⟨by repeat'(first|exact rfl|apply zy),h1,h2⟩,λ_=>⟨⟨rfl,hsm2.2.2.2.2.1,hsm2.2.2.2.2.2.2.2.2.2.2⟩,λ_=>⟨rfl,hsm2⟩⟩,λhb=>?_,λhb=>⟨⟨rfl,trivial⟩,lg_fit _ _ _ _ _,λhb2=>?_,λ_=>⟨rfl,rfl⟩⟩⟩
  ·rw[hq.1,hsame,hck]at hb;cases hb
  ·rw[hlw]at hb2;cases hb2
end Go.Proofs.YthhbdbeglmkijaaGreatDoor
namespace Go.Proofs.YthhbdbeglmkijaaGreatDoor.liveGangs
open Go.Fw
theorem own:ownKnob Tryz.prog.godebug=zm:=by kernel_rfl
theorem laidOut:laidOutB Tryz.prog=ze:=by kernel_rfl
abbrev stateSh:Sh:=.pair (.int .i64) (.pair (.pair (.sl 2 (.pair (.int .i64) (.pair (.int .i64) .unit))) .unit) (.pair (.pair (.sl 1 (.int .u32)) .unit) (.pair (.pair (.sl 4 (.pair (.int .i64) (.pair (.int .i64) (.pair (.int .i64) (.pair (.int .i64) .unit))))) (.pair (.sl 4 (.pair (.int .i64) (.pair (.int .i64) (.pair (.pair (.int .u32) (.pair (.int .u32) .unit)) .unit)))) .unit)) (.pair (.pair (.sl 2 (.pair (.int .i64) (.pair (.sl 1 (.int .i64)) .unit))) .unit) (.pair (.sl 11 (.pair (.int .i64) (.pair (.pair (.int .i64) (.pair (.int .i64) (.pair (.int .u32) (.pair (.int .i64) .unit)))) (.pair (.pair (.pair (.int .u64) (.pair (.int .u64) .unit)) (.pair (.int .u64) .unit)) (.pair (.int .u64) (.pair (.int .i64) (.pair (.int .i64) .unit))))))) (.pair (.sl 2 (.pair (.int .i64) (.pair (.int .i64) .unit))) (.pair (.pair (.sl 5 (.pair (.int .i64) (.pair (.int .i64) (.pair (.int .i64) (.pair .bool (.pair .bool .unit)))))) .unit) (.pair (.pair (.pair (.int .i64) (.pair (.sl 2 (.pair (.int .i64) (.pair (.int .i64) .unit))) .unit)) (.pair (.sl 3 (.pair (.int .i64) (.pair (.int .i64) (.pair (.int .i64) .unit)))) .unit)) (.pair (.sl 2 (.pair (.int .i64) (.pair (.int .i64) .unit))) (.pair (.int .u64) .unit))))))))))
abbrev sh:Sh:=.pair stateSh (.pair (.sl 1 (.int .i64)) .unit)
noncomputable def stateOf(x:stateSh.den):Za:=
 ⟨x.1,
  x.2.1.1.1,λi=>let y:=x.2.1.1.2 i;⟨y.1,y.2.1⟩,
  x.2.2.1.1.1,λi=>⟨x.2.2.1.1.2 i⟩,
  x.2.2.2.1.1.1,λi=>let y:=x.2.2.2.1.1.2 i;⟨y.1,y.2.1,y.2.2.1,y.2.2.2.1⟩,
  x.2.2.2.1.2.1.1,λi=>let y:=x.2.2.2.1.2.1.2 i;⟨y.1,y.2.1,y.2.2.1.1,y.2.2.1.2.1⟩,
  x.2.2.2.2.1.1.1,λi=>let y:=x.2.2.2.2.1.1.2 i;⟨y.1,y.2.1.1,λj=>⟨y.2.1.2 j⟩⟩,
  x.2.2.2.2.2.1.1,λi=>let y:=x.2.2.2.2.2.1.2 i;⟨y.1,y.2.1.1,y.2.1.2.1,y.2.1.2.2.1,y.2.1.2.2.2.1,y.2.2.1.1.1,y.2.2.1.1.2.1,y.2.2.1.2.1,y.2.2.2.1,y.2.2.2.2.1,y.2.2.2.2.2.1⟩,
  x.2.2.2.2.2.2.1.1,λi=>let y:=x.2.2.2.2.2.2.1.2 i;⟨y.1,y.2.1⟩,
  x.2.2.2.2.2.2.2.1.1.1,λi=>let y:=x.2.2.2.2.2.2.2.1.1.2 i;⟨y.1,y.2.1,y.2.2.1,y.2.2.2.1,y.2.2.2.2.1⟩,
  x.2.2.2.2.2.2.2.2.1.1.1,
  x.2.2.2.2.2.2.2.2.1.1.2.1.1,λi=>let y:=x.2.2.2.2.2.2.2.2.1.1.2.1.2 i;⟨y.1,y.2.1⟩,
  x.2.2.2.2.2.2.2.2.1.2.1.1,λi=>let y:=x.2.2.2.2.2.2.2.2.1.2.1.2 i;⟨y.1,y.2.1,y.2.2.1⟩,
  x.2.2.2.2.2.2.2.2.2.1.1,λi=>let y:=x.2.2.2.2.2.2.2.2.2.1.2 i;⟨y.1,y.2.1⟩,
  x.2.2.2.2.2.2.2.2.2.2.1⟩
theorem u64_in{x:Int}(h:(Lit.int .u64 x).wf=ze):0<=x:=by
 have h:(decide (IntKind.min .u64<=x)&&decide (x<=IntKind.max .u64))=ze:=h
 simp only[Bool.and_eq_true,decide_eq_true_eq]at h
 exact h.1
theorem word(x:sh.den)(w:sh.wf x):Zh Tryz.prog 5 (sh.vals x) (.bool ze ze):=
 Zp0 (stateOf x.1) x.2.1.1 (λi=>⟨x.2.1.2 i⟩) (u64_in w.1.2.2.2.2.2.2.2.2.2.2.1)
theorem contract(H:Type)(enc:TypeId×Value->H)(W:World)(base:Nat)(args:Array Value)(ds gs:List (DataW H))(before:List MemPlace)(hL:laidMetH Tryz.prog Rows.liveGangsRow.laid W)
  (hval:∀(j:Nat) t v,Tryz.f5.params[j]? =zi t->args[j]? =zi v->Value.okWide Tryz.prog W .any base t v)
  (hW:DataW.Whole enc Tryz.prog Tryz.f5.params.toList Rows.liveGangsSpec.vars za W args.toList ds gs before) :
  Calls Tryz.prog 5 args W λe W'=>∃v,e=.returned v/\Rows.liveGangsSpec.post enc Tryz.prog Tryz.f5 za ze za za W args v W':=
 Zqq (P:=Tryz.prog) (f:=Tryz.f5) (k:=8) (sh:=sh) (tb:=4)
  word (by kernel_rfl) rfl laidOut (by kernel_rfl) (by kernel_rfl) (by kernel_rfl)
  (λds h=>by
   match ds,h with
   |[_,_],_=>rfl) (gok_of hL (by kernel_rfl)) hval hW
def setVar(w:World)(g:Nat)(k:IntKind)(zs:List Int):World:=
 { w with heap:=w.heap.modify g λ
   | .cells _ t frozen=>.cells (zs.map (Value.int k)).toArray t frozen
   |o=>o }
noncomputable def ZiJ(os:Os):World:=setVar (World.holding Tryz.prog os ⟨#[],#[],[]⟩) 0 .u8 tab0
theorem Zqp(os:Os)(args:Array Value):laidMetH Tryz.prog Rows.liveGangsRow.laid ((ZiJ os).forCall (λ_ _=>0) ⟨#[],args,[]⟩).memory:=by
 have h:laidMet Tryz.prog Rows.liveGangsRow.laid ((ZiJ os).forCall (λ_ _=>0) ⟨#[],args,[]⟩).memory:=laidMet_of_run' 8 (by kernel_rfl) (by kernel_rfl)
 exact h
theorem lifted(os:Os)(started:os.Started)(H:Type)(enc:TypeId×Value->H) :
  ReturnsInHanded {} Tryz.checked os 5 .any (λw args=>(Rows.liveGangsSpec.pre enc Tryz.prog Tryz.f5 [] za w args/\laidMetH Tryz.prog Rows.liveGangsRow.laid w)/\sizedMet enc Tryz.prog Tryz.f5 (OpenSpec.ofChange Rows.liveGangsSpec) za w args)
   (Rows.liveGangsSpec.post enc Tryz.prog Tryz.f5 za ze za za):=by
 refine returnsInHanded_of_change_and (C:=Tryz.checked) (X:=λw _=>laidMetH Tryz.prog Rows.liveGangsRow.laid w) (λ_ _ _ hh h=>h.of_heap hh) own started (by kernel_rfl) Tryz.func5
  (ChangeSpec.witness_at (enc:=enc) (C:=Tryz.checked) (os:=os) (X:=λw _=>laidMetH Tryz.prog Rows.liveGangsRow.laid w) za (ZiJ os) #[.agg #[.int .i64 0,.slice zm 0 0,.slice zm 0 0,.slice zm 0 0,.slice zm 0 0,.slice zm 0 0,.slice zm 0 0,.slice zm 0 0,.slice zm 0 0,.int .i64 0,.slice zm 0 0,.slice zm 0 0,.slice zm 0 0,.int .u64 0],.slice zm 0 0] 8 rfl (by kernel_rfl) (by kernel_rfl) (by kernel_rfl) (by kernel_rfl) (by kernel_rfl) (Zqp os _)) ?_
 intro W base args ds gs before hval hW _ _ hL _
 exact contract H enc W base args ds gs before hL hval hW
theorem inst:Tryz.f5.isInstance Tryz.prog Rows.liveGangsRow.origin Rows.liveGangsRow.targs:=of_decide_eq_true (by kernel_rfl)
theorem over:Rows.LiveGangsSaid:=
 OpenClaim.holds_of_wide 5 Tryz.f5 rfl rfl rfl rfl rfl rfl rfl ⟨rfl,rfl,rfl,rfl,rfl⟩ rfl rfl rfl rfl rfl (by kernel_rfl) Tryz.func5 closed
  inst (by unfold Func.isWrapper;rw[if_neg (of_decide_eq_false (by kernel_rfl))];exact⟨rfl,rfl⟩)
  (λos started H enc _=>lifted os started H enc)
open Go
theorem card_wf:Rows.liveGangsRow.wfByText (OpenSpec.ofChange Rows.liveGangsSpec)=ze:=by kernel_rfl
theorem card_main : Tryz.prog.mainIs=zi (ze, "a2370be312af6a977d0fbf92b977490a3ca17cde488074efb6cc373a8fd84295".toList):=by kernel_rfl
theorem Zoc : Tryz.prog.funcNamed "mainsheet/mainsheetlaw24.LiveGangs" =zi 5:=by kernel_rfl
theorem Zob:za=Tryz.prog.looks []:=by kernel_rfl
theorem Zkm:Tryz.prog.wantsStandIn 49=za/\Tryz.prog.wantsStandIn 59=za:=⟨by kernel_rfl,by kernel_rfl⟩
theorem card_goes:za=Rows.liveGangsRow.goesBy Tryz.prog:=by kernel_rfl
theorem proved:Rows.LiveGangsCardSaid:=
 Claim7.holds_tied_plain_at .later [] [.data] ze (ze, "a2370be312af6a977d0fbf92b977490a3ca17cde488074efb6cc373a8fd84295") za
  over (λ_ h=>by cases h) card_wf (λ_ h=>by cases h) liveGangs_row_tie rfl ⟨rfl,rfl⟩ card_main rfl
  (λf fn hf hfn=>by
   obtain rfl:f=5:=Option.some.inj (Zoc.symm.trans hf)|>.symm
   obtain rfl:fn=Tryz.f5:=(Option.some.inj (Tryz.func5.symm.trans hfn)).symm
   exact⟨Zob,λj t ht=>by
    rw[Tryz.params5]at ht
    rcases j with _|_|j
    ·have h:t=49:=by simpa using ht.symm
     subst h;exact Zkm.1
    ·have h:t=59:=by simpa using ht.symm
     subst h;exact Zkm.2
    ·simp at ht⟩)
  card_goes
end Go.Proofs.YthhbdbeglmkijaaGreatDoor.liveGangs
end
